import Derived.Test.YtioagphpiflplaaEDefs0
namespace Go.Proofs.Ytioagphpiflplaa.E
open Go Go.Proofs.Ytioagphpiflplaa.Eng Go.Proofs
set_option linter.unusedVariables false
set_option maxRecDepth 100000
/-! ### octet_Reader_Num : function 35 -/
abbrev octet_Reader_Num.R := (Int × Unit) × ((ByteArray × Int × Int × Unit) × Unit)
mutual
noncomputable def octet_Reader_Num.l0 : Nat → Int → Int → (List Int) → Int → Int → ByteArray → Int → Int → Option octet_Reader_Num.R
  | 0, _, _, _, _, _, _, _, _ => none
  | k + 1, x1, x7, x24, x25, x26, o0_0, o0_1, o0_2 =>
    bif decide ((x26 : Int) < x25) then
      (rdo x24 x26).bind fun t5 =>
      bif (x26 : Int) == 0 then
        bif (t5 : Int) == 0 then
          (octet_Reader_Fail.f k 4 o0_0 o0_1 o0_2).bind fun r6 =>
          some ((0, ()), ((r6.2.1.1, r6.2.1.2.1, r6.2.1.2.2.1, ()), ()))
        else
          (ck (!decide ((8 : Int) < 0))).bind fun _ =>
          octet_Reader_Num.l0 k x1 (IntKind.wrap .i64 ((BitVec.ofInt (IntKind.bits .i64) (IntKind.wrap .i64 (x7 * 2 ^ (min (8 : Int).toNat (IntKind.bits .i64)))) ||| BitVec.ofInt (IntKind.bits .i64) (IntKind.wrap .i64 t5)).toNat : Int)) x24 x25 (IntKind.wrap .i64 (x26 + 1)) o0_0 o0_1 o0_2
      else
        (ck (!decide ((8 : Int) < 0))).bind fun _ =>
        octet_Reader_Num.l0 k x1 (IntKind.wrap .i64 ((BitVec.ofInt (IntKind.bits .i64) (IntKind.wrap .i64 (x7 * 2 ^ (min (8 : Int).toNat (IntKind.bits .i64)))) ||| BitVec.ofInt (IntKind.bits .i64) (IntKind.wrap .i64 t5)).toNat : Int)) x24 x25 (IntKind.wrap .i64 (x26 + 1)) o0_0 o0_1 o0_2
    else
      (octet_Reader_Err.f k o0_0 o0_1 o0_2).bind fun r7 =>
      bif (r7.1.1 : Int) != 0 then
        some ((0, ()), ((o0_0, o0_1, o0_2, ()), ()))
      else
      bif decide ((x7 : Int) > x1) then
        (octet_Reader_Fail.f k 3 o0_0 o0_1 o0_2).bind fun r8 =>
        some ((0, ()), ((r8.2.1.1, r8.2.1.2.1, r8.2.1.2.2.1, ()), ()))
      else
        some ((x7, ()), ((o0_0, o0_1, o0_2, ()), ()))
noncomputable def octet_Reader_Num.f : Nat → Int → ByteArray → Int → Int → Option octet_Reader_Num.R
  | 0, _, _, _, _ => none
  | k + 1, x1, o0_0, o0_1, o0_2 =>
    (octet_Reader_Raw.f k 1 o0_0 o0_1 o0_2).bind fun r1 =>
    bif r1.1.1.toList == (⟨#[]⟩ : ByteArray).toList then
      some ((0, ()), ((r1.2.1.1, r1.2.1.2.1, r1.2.1.2.2.1, ()), ()))
    else
      (bto r1.1.1 0).bind fun t2 =>
      bif decide ((IntKind.wrap .i64 t2 : Int) > 7) then
        (octet_Reader_Fail.f k 4 r1.2.1.1 r1.2.1.2.1 r1.2.1.2.2.1).bind fun r3 =>
        some ((0, ()), ((r3.2.1.1, r3.2.1.2.1, r3.2.1.2.2.1, ()), ()))
      else
        (octet_Reader_Raw.f k (IntKind.wrap .i64 t2) r1.2.1.1 r1.2.1.2.1 r1.2.1.2.2.1).bind fun r4 =>
        octet_Reader_Num.l0 k x1 0 (bytesOf r4.1.1) ((bytesOf r4.1.1).length : Int) 0 r4.2.1.1 r4.2.1.2.1 r4.2.1.2.2.1
end
abbrev octet_Reader_Num.ini : LSh := ⟨[(0, .ptr 1000000 0), (1, .val (.int .i64))], [(1000000, 120, [.val .str, .val (.int .i64), .val (.int .i64)])]⟩
abbrev octet_Reader_Num.out : LSh := ⟨[(0, .val (.int .i64))], [(1000000, 120, [.val .str, .val (.int .i64), .val (.int .i64)])]⟩
abbrev octet_Reader_Num.l0s : LSh := ⟨[(0, .ptr 1000000 0), (1, .val (.int .i64)), (7, .val (.int .i64)), (24, .own 2000024 5 (.int .u8)), (25, .val (.int .i64)), (26, .val (.int .i64))], [(1000000, 120, [.val .str, .val (.int .i64), .val (.int .i64)])]⟩
noncomputable def octet_Reader_Num.labF : Nat → Option (LabF octet_Reader_Num.out.den)
  | 20 => some ⟨octet_Reader_Num.l0s, fun k (d : (Unit × Int × Int × List Int × Int × Int × Unit) × ((ByteArray × Int × Int × Unit) × Unit)) => (octet_Reader_Num.l0 k d.1.2.1 d.1.2.2.1 d.1.2.2.2.1 d.1.2.2.2.2.1 d.1.2.2.2.2.2.1 d.2.1.1 d.2.1.2.1 d.2.1.2.2.1 : Option octet_Reader_Num.R)⟩
  | _ => none
noncomputable def octet_Reader_Num.fd : FnD := ⟨Try.f35, octet_Reader_Num.ini, octet_Reader_Num.out, 1, [1000000], [], octet_Reader_Num.labF, fun k (d : (Unit × Int × Unit) × ((ByteArray × Int × Int × Unit) × Unit)) => (octet_Reader_Num.f k d.1.2.1 d.2.1.1 d.2.1.2.1 d.2.1.2.2.1 : Option octet_Reader_Num.R)⟩

/-! ### octet_Reader_Text : function 34 -/
abbrev octet_Reader_Text.R := (ByteArray × Unit) × ((ByteArray × Int × Int × Unit) × Unit)
noncomputable def octet_Reader_Text.f : Nat → Int → ByteArray → Int → Int → Option octet_Reader_Text.R
  | 0, _, _, _, _ => none
  | k + 1, x1, o0_0, o0_1, o0_2 =>
    (octet_Reader_Num.f k x1 o0_0 o0_1 o0_2).bind fun r1 =>
    (octet_Reader_Raw.f k r1.1.1 r1.2.1.1 r1.2.1.2.1 r1.2.1.2.2.1).bind fun r2 =>
    some ((r2.1.1, ()), ((r2.2.1.1, r2.2.1.2.1, r2.2.1.2.2.1, ()), ()))
abbrev octet_Reader_Text.ini : LSh := ⟨[(0, .ptr 1000000 0), (1, .val (.int .i64))], [(1000000, 120, [.val .str, .val (.int .i64), .val (.int .i64)])]⟩
abbrev octet_Reader_Text.out : LSh := ⟨[(0, .val .str)], [(1000000, 120, [.val .str, .val (.int .i64), .val (.int .i64)])]⟩
noncomputable def octet_Reader_Text.labF : Nat → Option (LabF octet_Reader_Text.out.den)
  | _ => none
noncomputable def octet_Reader_Text.fd : FnD := ⟨Try.f34, octet_Reader_Text.ini, octet_Reader_Text.out, 1, [1000000], [], octet_Reader_Text.labF, fun k (d : (Unit × Int × Unit) × ((ByteArray × Int × Int × Unit) × Unit)) => (octet_Reader_Text.f k d.1.2.1 d.2.1.1 d.2.1.2.1 d.2.1.2.2.1 : Option octet_Reader_Text.R)⟩

/-! ### octet_Reader_Flag : function 68 -/
abbrev octet_Reader_Flag.R := (Bool × Unit) × ((ByteArray × Int × Int × Unit) × Unit)
noncomputable def octet_Reader_Flag.f : Nat → ByteArray → Int → Int → Option octet_Reader_Flag.R
  | 0, _, _, _ => none
  | k + 1, o0_0, o0_1, o0_2 =>
    (octet_Reader_Raw.f k 1 o0_0 o0_1 o0_2).bind fun r1 =>
    bif !(Op.bytesLess r1.1.1.toList (⟨#[1]⟩ : ByteArray).toList || r1.1.1.toList == (⟨#[1]⟩ : ByteArray).toList) then
      (octet_Reader_Fail.f k 4 r1.2.1.1 r1.2.1.2.1 r1.2.1.2.2.1).bind fun r2 =>
      some ((false, ()), ((r2.2.1.1, r2.2.1.2.1, r2.2.1.2.2.1, ()), ()))
    else
      some ((r1.1.1.toList == (⟨#[1]⟩ : ByteArray).toList, ()), ((r1.2.1.1, r1.2.1.2.1, r1.2.1.2.2.1, ()), ()))
abbrev octet_Reader_Flag.ini : LSh := ⟨[(0, .ptr 1000000 0)], [(1000000, 120, [.val .str, .val (.int .i64), .val (.int .i64)])]⟩
abbrev octet_Reader_Flag.out : LSh := ⟨[(0, .val .bool)], [(1000000, 120, [.val .str, .val (.int .i64), .val (.int .i64)])]⟩
noncomputable def octet_Reader_Flag.labF : Nat → Option (LabF octet_Reader_Flag.out.den)
  | _ => none
noncomputable def octet_Reader_Flag.fd : FnD := ⟨Try.f68, octet_Reader_Flag.ini, octet_Reader_Flag.out, 1, [1000000], [], octet_Reader_Flag.labF, fun k (d : (Unit × Unit) × ((ByteArray × Int × Int × Unit) × Unit)) => (octet_Reader_Flag.f k d.2.1.1 d.2.1.2.1 d.2.1.2.2.1 : Option octet_Reader_Flag.R)⟩

/-! ### proof_readItem : function 36 -/
abbrev proof_readItem.R := ((Int × ByteArray × Bool × ByteArray × ByteArray × ByteArray × Unit) × Unit) × ((ByteArray × Int × Int × Unit) × Unit)
noncomputable def proof_readItem.f : Nat → ByteArray → Int → Int → Option proof_readItem.R
  | 0, _, _, _ => none
  | k + 1, o0_0, o0_1, o0_2 =>
    (octet_Reader_Num.f k 11 o0_0 o0_1 o0_2).bind fun r1 =>
    (octet_Reader_Text.f k 16 r1.2.1.1 r1.2.1.2.1 r1.2.1.2.2.1).bind fun r2 =>
    (octet_Reader_Flag.f k r2.2.1.1 r2.2.1.2.1 r2.2.1.2.2.1).bind fun r3 =>
    bif r3.1.1 then
      (octet_Reader_Text.f k 32 r3.2.1.1 r3.2.1.2.1 r3.2.1.2.2.1).bind fun r4 =>
      some (((r1.1.1, (r2.1.1, (r3.1.1, (ByteArray.empty, (ByteArray.empty, (r4.1.1, ())))))), ()), ((r4.2.1.1, r4.2.1.2.1, r4.2.1.2.2.1, ()), ()))
    else
      (octet_Reader_Text.f k 16 r3.2.1.1 r3.2.1.2.1 r3.2.1.2.2.1).bind fun r5 =>
      (octet_Reader_Text.f k 208 r5.2.1.1 r5.2.1.2.1 r5.2.1.2.2.1).bind fun r6 =>
      some (((r1.1.1, (r2.1.1, (r3.1.1, (r5.1.1, (r6.1.1, (ByteArray.empty, ())))))), ()), ((r6.2.1.1, r6.2.1.2.1, r6.2.1.2.2.1, ()), ()))
abbrev proof_readItem.ini : LSh := ⟨[(0, .ptr 1000000 0)], [(1000000, 120, [.val .str, .val (.int .i64), .val (.int .i64)])]⟩
abbrev proof_readItem.out : LSh := ⟨[(0, .val (.cons (.int .i64) (.cons .str (.cons .bool (.cons .str (.cons .str (.cons .str .nil)))))))], [(1000000, 120, [.val .str, .val (.int .i64), .val (.int .i64)])]⟩
noncomputable def proof_readItem.labF : Nat → Option (LabF proof_readItem.out.den)
  | _ => none
noncomputable def proof_readItem.fd : FnD := ⟨Try.f36, proof_readItem.ini, proof_readItem.out, 1, [1000000], [], proof_readItem.labF, fun k (d : (Unit × Unit) × ((ByteArray × Int × Int × Unit) × Unit)) => (proof_readItem.f k d.2.1.1 d.2.1.2.1 d.2.1.2.2.1 : Option proof_readItem.R)⟩

/-! ### octet_Reader_Texts : function 38 -/
abbrev octet_Reader_Texts.R := (List ByteArray × Unit) × ((ByteArray × Int × Int × Unit) × Unit)
mutual
noncomputable def octet_Reader_Texts.l0 : Nat → Int → (List ByteArray) → Int → Int → ByteArray → Int → Int → Option octet_Reader_Texts.R
  | 0, _, _, _, _, _, _, _ => none
  | k + 1, x2, x7, x11, x12, o0_0, o0_1, o0_2 =>
    bif decide ((x12 : Int) < x11) then
      (octet_Reader_Text.f k x2 o0_0 o0_1 o0_2).bind fun r2 =>
      (octet_Reader_Err.f k r2.2.1.1 r2.2.1.2.1 r2.2.1.2.2.1).bind fun r3 =>
      bif (r3.1.1 : Int) != 0 then
        some ((([] : List ByteArray), ()), ((r2.2.1.1, r2.2.1.2.1, r2.2.1.2.2.1, ()), ()))
      else
        (ck (decide ((x7.length + ([r2.1.1] : List ByteArray).length) * 16 ≤ 70368744177664))).bind fun _ =>
        octet_Reader_Texts.l0 k x2 (x7 ++ ([r2.1.1] : List ByteArray)) x11 (IntKind.wrap .i64 (x12 + 1)) r2.2.1.1 r2.2.1.2.1 r2.2.1.2.2.1
    else
      some ((x7, ()), ((o0_0, o0_1, o0_2, ()), ()))
noncomputable def octet_Reader_Texts.f : Nat → Int → Int → ByteArray → Int → Int → Option octet_Reader_Texts.R
  | 0, _, _, _, _, _ => none
  | k + 1, x1, x2, o0_0, o0_1, o0_2 =>
    (octet_Reader_Num.f k x1 o0_0 o0_1 o0_2).bind fun r1 =>
    octet_Reader_Texts.l0 k x2 [] r1.1.1 0 r1.2.1.1 r1.2.1.2.1 r1.2.1.2.2.1
end
abbrev octet_Reader_Texts.ini : LSh := ⟨[(0, .ptr 1000000 0), (1, .val (.int .i64)), (2, .val (.int .i64))], [(1000000, 120, [.val .str, .val (.int .i64), .val (.int .i64)])]⟩
abbrev octet_Reader_Texts.out : LSh := ⟨[(0, .val (.sl .str))], [(1000000, 120, [.val .str, .val (.int .i64), .val (.int .i64)])]⟩
abbrev octet_Reader_Texts.l0s : LSh := ⟨[(0, .ptr 1000000 0), (2, .val (.int .i64)), (7, .own 2000007 9 .str), (11, .val (.int .i64)), (12, .val (.int .i64))], [(1000000, 120, [.val .str, .val (.int .i64), .val (.int .i64)])]⟩
noncomputable def octet_Reader_Texts.labF : Nat → Option (LabF octet_Reader_Texts.out.den)
  | 6 => some ⟨octet_Reader_Texts.l0s, fun k (d : (Unit × Int × List ByteArray × Int × Int × Unit) × ((ByteArray × Int × Int × Unit) × Unit)) => (octet_Reader_Texts.l0 k d.1.2.1 d.1.2.2.1 d.1.2.2.2.1 d.1.2.2.2.2.1 d.2.1.1 d.2.1.2.1 d.2.1.2.2.1 : Option octet_Reader_Texts.R)⟩
  | _ => none
noncomputable def octet_Reader_Texts.fd : FnD := ⟨Try.f38, octet_Reader_Texts.ini, octet_Reader_Texts.out, 1, [1000000], [], octet_Reader_Texts.labF, fun k (d : (Unit × Int × Int × Unit) × ((ByteArray × Int × Int × Unit) × Unit)) => (octet_Reader_Texts.f k d.1.2.1 d.1.2.2.1 d.2.1.1 d.2.1.2.1 d.2.1.2.2.1 : Option octet_Reader_Texts.R)⟩

/-! ### octet_Reader_Left : function 69 -/
abbrev octet_Reader_Left.R := (Int × Unit) × (Unit)
noncomputable def octet_Reader_Left.f : Nat → ByteArray → Int → Int → Option octet_Reader_Left.R
  | 0, _, _, _ => none
  | k + 1, o0_0, o0_1, o0_2 =>
    (octet_Reader_Err.f k o0_0 o0_1 o0_2).bind fun r1 =>
    bif (r1.1.1 : Int) != 0 then
      some ((0, ()), (()))
    else
      some ((IntKind.wrap .i64 ((o0_0.size : Int) - o0_1), ()), (()))
abbrev octet_Reader_Left.ini : LSh := ⟨[(0, .ptr 1000000 0)], [(1000000, 120, [.val .str, .val (.int .i64), .val (.int .i64)])]⟩
abbrev octet_Reader_Left.out : LSh := ⟨[(0, .val (.int .i64))], []⟩
noncomputable def octet_Reader_Left.labF : Nat → Option (LabF octet_Reader_Left.out.den)
  | _ => none
noncomputable def octet_Reader_Left.fd : FnD := ⟨Try.f69, octet_Reader_Left.ini, octet_Reader_Left.out, 1, [1000000], [1000000], octet_Reader_Left.labF, fun k (d : (Unit × Unit) × ((ByteArray × Int × Int × Unit) × Unit)) => (octet_Reader_Left.f k d.2.1.1 d.2.1.2.1 d.2.1.2.2.1 : Option octet_Reader_Left.R)⟩

/-! ### octet_Reader_End : function 39 -/
abbrev octet_Reader_End.R := (Int × Unit) × ((ByteArray × Int × Int × Unit) × Unit)
noncomputable def octet_Reader_End.f : Nat → ByteArray → Int → Int → Option octet_Reader_End.R
  | 0, _, _, _ => none
  | k + 1, o0_0, o0_1, o0_2 =>
    (octet_Reader_Left.f k o0_0 o0_1 o0_2).bind fun r1 =>
    bif decide ((r1.1.1 : Int) > 0) then
      (octet_Reader_Fail.f k 4 o0_0 o0_1 o0_2).bind fun r2 =>
      (octet_Reader_Err.f k r2.2.1.1 r2.2.1.2.1 r2.2.1.2.2.1).bind fun r3 =>
      some ((r3.1.1, ()), ((r2.2.1.1, r2.2.1.2.1, r2.2.1.2.2.1, ()), ()))
    else
      (octet_Reader_Err.f k o0_0 o0_1 o0_2).bind fun r4 =>
      some ((r4.1.1, ()), ((o0_0, o0_1, o0_2, ()), ()))
abbrev octet_Reader_End.ini : LSh := ⟨[(0, .ptr 1000000 0)], [(1000000, 120, [.val .str, .val (.int .i64), .val (.int .i64)])]⟩
abbrev octet_Reader_End.out : LSh := ⟨[(0, .val (.int .i64))], [(1000000, 120, [.val .str, .val (.int .i64), .val (.int .i64)])]⟩
noncomputable def octet_Reader_End.labF : Nat → Option (LabF octet_Reader_End.out.den)
  | _ => none
noncomputable def octet_Reader_End.fd : FnD := ⟨Try.f39, octet_Reader_End.ini, octet_Reader_End.out, 1, [1000000], [], octet_Reader_End.labF, fun k (d : (Unit × Unit) × ((ByteArray × Int × Int × Unit) × Unit)) => (octet_Reader_End.f k d.2.1.1 d.2.1.2.1 d.2.1.2.2.1 : Option octet_Reader_End.R)⟩

/-! ### paper_sign : function 92 -/
abbrev paper_sign.R := (Bool × Unit) × (Unit)
noncomputable def paper_sign.f : Nat → Int → Option paper_sign.R
  | 0, _ => none
  | k + 1, x0 =>
    bif decide ((x0 : Int) ≥ 97) then
      bif decide ((x0 : Int) ≤ 122) then
        some ((true, ()), (()))
      else
      bif decide ((x0 : Int) ≥ 65) then
        bif decide ((x0 : Int) ≤ 90) then
          some ((true, ()), (()))
        else
        bif decide ((x0 : Int) ≥ 48) then
          bif decide ((x0 : Int) ≤ 57) then
            some ((true, ()), (()))
          else
          bif (x0 : Int) == 45 then
            some ((true, ()), (()))
          else
          bif (x0 : Int) == 95 then
            some ((true, ()), (()))
          else
            some (((x0 : Int) == 46, ()), (()))
        else
        bif (x0 : Int) == 45 then
          some ((true, ()), (()))
        else
        bif (x0 : Int) == 95 then
          some ((true, ()), (()))
        else
          some (((x0 : Int) == 46, ()), (()))
      else
      bif decide ((x0 : Int) ≥ 48) then
        bif decide ((x0 : Int) ≤ 57) then
          some ((true, ()), (()))
        else
        bif (x0 : Int) == 45 then
          some ((true, ()), (()))
        else
        bif (x0 : Int) == 95 then
          some ((true, ()), (()))
        else
          some (((x0 : Int) == 46, ()), (()))
      else
      bif (x0 : Int) == 45 then
        some ((true, ()), (()))
      else
      bif (x0 : Int) == 95 then
        some ((true, ()), (()))
      else
        some (((x0 : Int) == 46, ()), (()))
    else
    bif decide ((x0 : Int) ≥ 65) then
      bif decide ((x0 : Int) ≤ 90) then
        some ((true, ()), (()))
      else
      bif decide ((x0 : Int) ≥ 48) then
        bif decide ((x0 : Int) ≤ 57) then
          some ((true, ()), (()))
        else
        bif (x0 : Int) == 45 then
          some ((true, ()), (()))
        else
        bif (x0 : Int) == 95 then
          some ((true, ()), (()))
        else
          some (((x0 : Int) == 46, ()), (()))
      else
      bif (x0 : Int) == 45 then
        some ((true, ()), (()))
      else
      bif (x0 : Int) == 95 then
        some ((true, ()), (()))
      else
        some (((x0 : Int) == 46, ()), (()))
    else
    bif decide ((x0 : Int) ≥ 48) then
      bif decide ((x0 : Int) ≤ 57) then
        some ((true, ()), (()))
      else
      bif (x0 : Int) == 45 then
        some ((true, ()), (()))
      else
      bif (x0 : Int) == 95 then
        some ((true, ()), (()))
      else
        some (((x0 : Int) == 46, ()), (()))
    else
    bif (x0 : Int) == 45 then
      some ((true, ()), (()))
    else
    bif (x0 : Int) == 95 then
      some ((true, ()), (()))
    else
      some (((x0 : Int) == 46, ()), (()))
abbrev paper_sign.ini : LSh := ⟨[(0, .val (.int .u8))], []⟩
abbrev paper_sign.out : LSh := ⟨[(0, .val .bool)], []⟩
noncomputable def paper_sign.labF : Nat → Option (LabF paper_sign.out.den)
  | _ => none
noncomputable def paper_sign.fd : FnD := ⟨Try.f92, paper_sign.ini, paper_sign.out, 1, [], [], paper_sign.labF, fun k (d : (Int × Unit) × (Unit)) => (paper_sign.f k d.1.1 : Option paper_sign.R)⟩

/-! ### paper_word : function 85 -/
abbrev paper_word.R := (Bool × Unit) × (Unit)
mutual
noncomputable def paper_word.j0 : Nat → ByteArray → Option paper_word.R
  | 0, _ => none
  | k + 1, x0 =>
    paper_word.l0 k x0 (x0.size : Int) 0
noncomputable def paper_word.l0 : Nat → ByteArray → Int → Int → Option paper_word.R
  | 0, _, _, _ => none
  | k + 1, x0, x15, x16 =>
    bif decide ((x16 : Int) < x15) then
      (bto x0 x16).bind fun t1 =>
      (paper_sign.f k t1).bind fun r2 =>
      bif !r2.1.1 then
        some ((false, ()), (()))
      else
        paper_word.l0 k x0 x15 (IntKind.wrap .i64 (x16 + 1))
    else
      some ((true, ()), (()))
noncomputable def paper_word.f : Nat → ByteArray → Int → Option paper_word.R
  | 0, _, _ => none
  | k + 1, x0, x1 =>
    bif x0.toList == (⟨#[]⟩ : ByteArray).toList then
      some ((false, ()), (()))
    else
    bif decide (((x0.size : Int) : Int) > x1) then
      some ((false, ()), (()))
    else
      paper_word.j0 k x0
end
abbrev paper_word.ini : LSh := ⟨[(0, .val .str), (1, .val (.int .i64))], []⟩
abbrev paper_word.out : LSh := ⟨[(0, .val .bool)], []⟩
abbrev paper_word.j0s : LSh := ⟨[(0, .val .str)], []⟩
abbrev paper_word.l0s : LSh := ⟨[(0, .val .str), (15, .val (.int .i64)), (16, .val (.int .i64))], []⟩
noncomputable def paper_word.labF : Nat → Option (LabF paper_word.out.den)
  | 7 => some ⟨paper_word.j0s, fun k (d : (ByteArray × Unit) × (Unit)) => (paper_word.j0 k d.1.1 : Option paper_word.R)⟩
  | 8 => some ⟨paper_word.l0s, fun k (d : (ByteArray × Int × Int × Unit) × (Unit)) => (paper_word.l0 k d.1.1 d.1.2.1 d.1.2.2.1 : Option paper_word.R)⟩
  | _ => none
noncomputable def paper_word.fd : FnD := ⟨Try.f85, paper_word.ini, paper_word.out, 1, [], [], paper_word.labF, fun k (d : (ByteArray × Int × Unit) × (Unit)) => (paper_word.f k d.1.1 d.1.2.1 : Option paper_word.R)⟩

/-! ### paper_IsID : function 70 -/
abbrev paper_IsID.R := (Bool × Unit) × (Unit)
noncomputable def paper_IsID.f : Nat → ByteArray → Option paper_IsID.R
  | 0, _ => none
  | k + 1, x0 =>
    (paper_word.f k x0 24).bind fun r1 =>
    some ((r1.1.1, ()), (()))
abbrev paper_IsID.ini : LSh := ⟨[(0, .val .str)], []⟩
abbrev paper_IsID.out : LSh := ⟨[(0, .val .bool)], []⟩
noncomputable def paper_IsID.labF : Nat → Option (LabF paper_IsID.out.den)
  | _ => none
noncomputable def paper_IsID.fd : FnD := ⟨Try.f70, paper_IsID.ini, paper_IsID.out, 1, [], [], paper_IsID.labF, fun k (d : (ByteArray × Unit) × (Unit)) => (paper_IsID.f k d.1.1 : Option paper_IsID.R)⟩

/-! ### paper_IsName : function 86 -/
abbrev paper_IsName.R := (Bool × Unit) × (Unit)
noncomputable def paper_IsName.f : Nat → ByteArray → Option paper_IsName.R
  | 0, _ => none
  | k + 1, x0 =>
    (paper_word.f k x0 16).bind fun r1 =>
    some ((r1.1.1, ()), (()))
abbrev paper_IsName.ini : LSh := ⟨[(0, .val .str)], []⟩
abbrev paper_IsName.out : LSh := ⟨[(0, .val .bool)], []⟩
noncomputable def paper_IsName.labF : Nat → Option (LabF paper_IsName.out.den)
  | _ => none
noncomputable def paper_IsName.fd : FnD := ⟨Try.f86, paper_IsName.ini, paper_IsName.out, 1, [], [], paper_IsName.labF, fun k (d : (ByteArray × Unit) × (Unit)) => (paper_IsName.f k d.1.1 : Option paper_IsName.R)⟩

/-! ### proof_rightItem : function 71 -/
abbrev proof_rightItem.R := (Bool × Unit) × (Unit)
mutual
noncomputable def proof_rightItem.j0 : Nat → Bool → Int → ByteArray → Bool → ByteArray → ByteArray → ByteArray → Option proof_rightItem.R
  | 0, _, _, _, _, _, _, _ => none
  | k + 1, x5, o2_0, o2_1, o2_2, o2_3, o2_4, o2_5 =>
    bif x5 then
      some ((false, ()), (()))
    else
    bif o2_2 then
      bif ((o2_5.size : Int) : Int) == 32 then
        bif o2_3.toList == (⟨#[]⟩ : ByteArray).toList then
          some ((o2_4.toList == (⟨#[]⟩ : ByteArray).toList, ()), (()))
        else
          some ((false, ()), (()))
      else
        some ((false, ()), (()))
    else
    bif o2_5.toList == (⟨#[]⟩ : ByteArray).toList then
      bif ((o2_3.size : Int) : Int) == 16 then
        some ((decide (((o2_4.size : Int) : Int) ≤ 208), ()), (()))
      else
        some ((false, ()), (()))
    else
      some ((false, ()), (()))
noncomputable def proof_rightItem.f : Nat → (Int × ByteArray × Bool × ByteArray × ByteArray × ByteArray × Unit) → Int → Option proof_rightItem.R
  | 0, _, _ => none
  | k + 1, x0, x1 =>
    bif decide ((x0.1 : Int) < 0) then
      proof_rightItem.j0 k true x0.1 x0.2.1 x0.2.2.1 x0.2.2.2.1 x0.2.2.2.2.1 x0.2.2.2.2.2.1
    else
    bif decide ((x0.1 : Int) ≥ x1) then
      proof_rightItem.j0 k true x0.1 x0.2.1 x0.2.2.1 x0.2.2.2.1 x0.2.2.2.2.1 x0.2.2.2.2.2.1
    else
      (paper_IsName.f k x0.2.1).bind fun r1 =>
      proof_rightItem.j0 k (!r1.1.1) x0.1 x0.2.1 x0.2.2.1 x0.2.2.2.1 x0.2.2.2.2.1 x0.2.2.2.2.2.1
end
abbrev proof_rightItem.ini : LSh := ⟨[(0, .val (.cons (.int .i64) (.cons .str (.cons .bool (.cons .str (.cons .str (.cons .str .nil))))))), (1, .val (.int .i64))], []⟩
abbrev proof_rightItem.out : LSh := ⟨[(0, .val .bool)], []⟩
abbrev proof_rightItem.j0s : LSh := ⟨[(2, .ptr 2 0), (5, .val .bool)], [(2, 84, [.val (.int .i64), .val .str, .val .bool, .val .str, .val .str, .val .str])]⟩
noncomputable def proof_rightItem.labF : Nat → Option (LabF proof_rightItem.out.den)
  | 5 => some ⟨proof_rightItem.j0s, fun k (d : (Unit × Bool × Unit) × ((Int × ByteArray × Bool × ByteArray × ByteArray × ByteArray × Unit) × Unit)) => (proof_rightItem.j0 k d.1.2.1 d.2.1.1 d.2.1.2.1 d.2.1.2.2.1 d.2.1.2.2.2.1 d.2.1.2.2.2.2.1 d.2.1.2.2.2.2.2.1 : Option proof_rightItem.R)⟩
  | _ => none
noncomputable def proof_rightItem.fd : FnD := ⟨Try.f71, proof_rightItem.ini, proof_rightItem.out, 1, [], [], proof_rightItem.labF, fun k (d : ((Int × ByteArray × Bool × ByteArray × ByteArray × ByteArray × Unit) × Int × Unit) × (Unit)) => (proof_rightItem.f k d.1.1 d.1.2.1 : Option proof_rightItem.R)⟩

/-! ### proof_sums : function 72 -/
abbrev proof_sums.R := (Bool × Unit) × (Unit)
mutual
noncomputable def proof_sums.l0 : Nat → (List ByteArray) → Int → (List ByteArray) → Int → Int → Option proof_sums.R
  | 0, _, _, _, _, _ => none
  | k + 1, x0, x1, x7, x8, x9 =>
    bif decide ((x9 : Int) < x8) then
      (rdo x7 x9).bind fun t1 =>
      bif ((t1.size : Int) : Int) != 32 then
        some ((false, ()), (()))
      else
        proof_sums.l0 k x0 x1 x7 x8 (IntKind.wrap .i64 (x9 + 1))
    else
      some ((decide (((x0.length : Int) : Int) ≤ x1), ()), (()))
noncomputable def proof_sums.f : Nat → (List ByteArray) → Int → Option proof_sums.R
  | 0, _, _ => none
  | k + 1, x0, x1 =>
    proof_sums.l0 k x0 x1 x0 (x0.length : Int) 0
end
abbrev proof_sums.ini : LSh := ⟨[(0, .val (.sl .str)), (1, .val (.int .i64))], []⟩
abbrev proof_sums.out : LSh := ⟨[(0, .val .bool)], []⟩
abbrev proof_sums.l0s : LSh := ⟨[(0, .val (.sl .str)), (1, .val (.int .i64)), (7, .val (.sl .str)), (8, .val (.int .i64)), (9, .val (.int .i64))], []⟩
noncomputable def proof_sums.labF : Nat → Option (LabF proof_sums.out.den)
  | 4 => some ⟨proof_sums.l0s, fun k (d : (List ByteArray × Int × List ByteArray × Int × Int × Unit) × (Unit)) => (proof_sums.l0 k d.1.1 d.1.2.1 d.1.2.2.1 d.1.2.2.2.1 d.1.2.2.2.2.1 : Option proof_sums.R)⟩
  | _ => none
noncomputable def proof_sums.fd : FnD := ⟨Try.f72, proof_sums.ini, proof_sums.out, 1, [], [], proof_sums.labF, fun k (d : (List ByteArray × Int × Unit) × (Unit)) => (proof_sums.f k d.1.1 d.1.2.1 : Option proof_sums.R)⟩

/-! ### proof_Right : function 40 -/
abbrev proof_Right.R := (Bool × Unit) × (Unit)
mutual
noncomputable def proof_Right.j0 : Nat → ByteArray → Int → Int → Int → (List (Int × ByteArray × Bool × ByteArray × ByteArray × ByteArray × Unit)) → (List ByteArray) → Int → Int → (List ByteArray) → Option proof_Right.R
  | 0, _, _, _, _, _, _, _, _, _ => none
  | k + 1, o1_0, o1_1, o1_2, o1_3, o1_4, o1_5, o1_6, o1_7, o1_8 =>
    proof_Right.l0 k o1_4 (o1_4.length : Int) 0 o1_0 o1_1 o1_2 o1_3 o1_4 o1_5 o1_6 o1_7 o1_8
noncomputable def proof_Right.l0 : Nat → (List (Int × ByteArray × Bool × ByteArray × ByteArray × ByteArray × Unit)) → Int → Int → ByteArray → Int → Int → Int → (List (Int × ByteArray × Bool × ByteArray × ByteArray × ByteArray × Unit)) → (List ByteArray) → Int → Int → (List ByteArray) → Option proof_Right.R
  | 0, _, _, _, _, _, _, _, _, _, _, _, _ => none
  | k + 1, x74, x75, x76, o1_0, o1_1, o1_2, o1_3, o1_4, o1_5, o1_6, o1_7, o1_8 =>
    bif decide ((x76 : Int) < x75) then
      (rdo x74 x76).bind fun t2 =>
      (proof_rightItem.f k (t2.1, (t2.2.1, (t2.2.2.1, (t2.2.2.2.1, (t2.2.2.2.2.1, (t2.2.2.2.2.2.1, ())))))) o1_3).bind fun r3 =>
      bif !r3.1.1 then
        some ((false, ()), (()))
      else
      bif decide ((x76 : Int) > 0) then
        (rdo o1_4 (IntKind.wrap .i64 (x76 - 1))).bind fun t4 =>
        bif decide ((t4.1 : Int) ≥ t2.1) then
          some ((false, ()), (()))
        else
          (rdo o1_4 (IntKind.wrap .i64 (x76 - 1))).bind fun t5 =>
          bif !(Op.bytesLess t5.2.1.toList t2.2.1.toList) then
            some ((false, ()), (()))
          else
            proof_Right.l0 k x74 x75 (IntKind.wrap .i64 (x76 + 1)) o1_0 o1_1 o1_2 o1_3 o1_4 o1_5 o1_6 o1_7 o1_8
      else
        proof_Right.l0 k x74 x75 (IntKind.wrap .i64 (x76 + 1)) o1_0 o1_1 o1_2 o1_3 o1_4 o1_5 o1_6 o1_7 o1_8
    else
      (proof_sums.f k o1_5 12).bind fun r6 =>
      bif r6.1.1 then
        (proof_sums.f k o1_8 16).bind fun r7 =>
        some ((r7.1.1, ()), (()))
      else
        some ((false, ()), (()))
noncomputable def proof_Right.f : Nat → (ByteArray × Int × Int × Int × List (Int × ByteArray × Bool × ByteArray × ByteArray × ByteArray × Unit) × List ByteArray × Int × Int × List ByteArray × Unit) → Option proof_Right.R
  | 0, _ => none
  | k + 1, x0 =>
    (paper_IsID.f k x0.1).bind fun r1 =>
    bif !r1.1.1 then
      some ((false, ()), (()))
    else
    bif decide ((x0.2.1 : Int) < 0) then
      some ((false, ()), (()))
    else
    bif decide ((x0.2.1 : Int) ≥ 8) then
      some ((false, ()), (()))
    else
    bif decide ((x0.2.2.1 : Int) < 0) then
      some ((false, ()), (()))
    else
    bif decide ((x0.2.2.1 : Int) > 1099511627776) then
      some ((false, ()), (()))
    else
    bif decide ((x0.2.2.2.1 : Int) < 1) then
      some ((false, ()), (()))
    else
    bif decide ((x0.2.2.2.1 : Int) > 12) then
      some ((false, ()), (()))
    else
    bif decide ((x0.2.2.2.2.2.2.2.1 : Int) < 1) then
      some ((false, ()), (()))
    else
    bif decide ((x0.2.2.2.2.2.2.2.1 : Int) > 65536) then
      some ((false, ()), (()))
    else
    bif decide ((x0.2.2.2.2.2.2.1 : Int) < 0) then
      some ((false, ()), (()))
    else
    bif decide ((x0.2.2.2.2.2.2.1 : Int) ≥ x0.2.2.2.2.2.2.2.1) then
      some ((false, ()), (()))
    else
    bif decide (((x0.2.2.2.2.1.length : Int) : Int) < 1) then
      some ((false, ()), (()))
    else
    bif decide (((x0.2.2.2.2.1.length : Int) : Int) > x0.2.2.2.1) then
      some ((false, ()), (()))
    else
      proof_Right.j0 k x0.1 x0.2.1 x0.2.2.1 x0.2.2.2.1 x0.2.2.2.2.1 x0.2.2.2.2.2.1 x0.2.2.2.2.2.2.1 x0.2.2.2.2.2.2.2.1 x0.2.2.2.2.2.2.2.2.1
end
abbrev proof_Right.ini : LSh := ⟨[(0, .val (.cons .str (.cons (.int .i64) (.cons (.int .i64) (.cons (.int .i64) (.cons (.sl (.cons (.int .i64) (.cons .str (.cons .bool (.cons .str (.cons .str (.cons .str .nil))))))) (.cons (.sl .str) (.cons (.int .i64) (.cons (.int .i64) (.cons (.sl .str) .nil))))))))))], []⟩
abbrev proof_Right.out : LSh := ⟨[(0, .val .bool)], []⟩
abbrev proof_Right.j0s : LSh := ⟨[(1, .ptr 1 0)], [(1, 36, [.val .str, .val (.int .i64), .val (.int .i64), .val (.int .i64), .val (.sl (.cons (.int .i64) (.cons .str (.cons .bool (.cons .str (.cons .str (.cons .str .nil))))))), .val (.sl .str), .val (.int .i64), .val (.int .i64), .val (.sl .str)])]⟩
abbrev proof_Right.l0s : LSh := ⟨[(1, .ptr 1 0), (74, .val (.sl (.cons (.int .i64) (.cons .str (.cons .bool (.cons .str (.cons .str (.cons .str .nil)))))))), (75, .val (.int .i64)), (76, .val (.int .i64))], [(1, 36, [.val .str, .val (.int .i64), .val (.int .i64), .val (.int .i64), .val (.sl (.cons (.int .i64) (.cons .str (.cons .bool (.cons .str (.cons .str (.cons .str .nil))))))), .val (.sl .str), .val (.int .i64), .val (.int .i64), .val (.sl .str)])]⟩
noncomputable def proof_Right.labF : Nat → Option (LabF proof_Right.out.den)
  | 11 => some ⟨proof_Right.j0s, fun k (d : (Unit × Unit) × ((ByteArray × Int × Int × Int × (List (Int × ByteArray × Bool × ByteArray × ByteArray × ByteArray × Unit)) × List ByteArray × Int × Int × List ByteArray × Unit) × Unit)) => (proof_Right.j0 k d.2.1.1 d.2.1.2.1 d.2.1.2.2.1 d.2.1.2.2.2.1 d.2.1.2.2.2.2.1 d.2.1.2.2.2.2.2.1 d.2.1.2.2.2.2.2.2.1 d.2.1.2.2.2.2.2.2.2.1 d.2.1.2.2.2.2.2.2.2.2.1 : Option proof_Right.R)⟩
  | 12 => some ⟨proof_Right.l0s, fun k (d : (Unit × (List (Int × ByteArray × Bool × ByteArray × ByteArray × ByteArray × Unit)) × Int × Int × Unit) × ((ByteArray × Int × Int × Int × (List (Int × ByteArray × Bool × ByteArray × ByteArray × ByteArray × Unit)) × List ByteArray × Int × Int × List ByteArray × Unit) × Unit)) => (proof_Right.l0 k d.1.2.1 d.1.2.2.1 d.1.2.2.2.1 d.2.1.1 d.2.1.2.1 d.2.1.2.2.1 d.2.1.2.2.2.1 d.2.1.2.2.2.2.1 d.2.1.2.2.2.2.2.1 d.2.1.2.2.2.2.2.2.1 d.2.1.2.2.2.2.2.2.2.1 d.2.1.2.2.2.2.2.2.2.2.1 : Option proof_Right.R)⟩
  | _ => none
noncomputable def proof_Right.fd : FnD := ⟨Try.f40, proof_Right.ini, proof_Right.out, 1, [], [], proof_Right.labF, fun k (d : ((ByteArray × Int × Int × Int × List (Int × ByteArray × Bool × ByteArray × ByteArray × ByteArray × Unit) × List ByteArray × Int × Int × List ByteArray × Unit) × Unit) × (Unit)) => (proof_Right.f k d.1.1 : Option proof_Right.R)⟩

/-! ### proof_Read : function 10 -/
abbrev proof_Read.R := ((ByteArray × Int × Int × Int × List (Int × ByteArray × Bool × ByteArray × ByteArray × ByteArray × Unit) × List ByteArray × Int × Int × List ByteArray × Unit) × Int × Unit) × (Unit)
mutual
noncomputable def proof_Read.l0 : Nat → Int → Int → ByteArray → Int → Int → Int → (List (Int × ByteArray × Bool × ByteArray × ByteArray × ByteArray × Unit)) → (List ByteArray) → Int → Int → (List ByteArray) → ByteArray → Int → Int → ByteArray → Int → Int → Int → (List (Int × ByteArray × Bool × ByteArray × ByteArray × ByteArray × Unit)) → (List ByteArray) → Int → Int → (List ByteArray) → Option proof_Read.R
  | 0, _, _, _, _, _, _, _, _, _, _, _, _, _, _, _, _, _, _, _, _, _, _, _ => none
  | k + 1, x20, x21, o2_0, o2_1, o2_2, o2_3, o2_4, o2_5, o2_6, o2_7, o2_8, o0_0, o0_1, o0_2, o5_0, o5_1, o5_2, o5_3, o5_4, o5_5, o5_6, o5_7, o5_8 =>
    bif decide ((x21 : Int) < x20) then
      (proof_readItem.f k o0_0 o0_1 o0_2).bind fun r7 =>
      (octet_Reader_Err.f k r7.2.1.1 r7.2.1.2.1 r7.2.1.2.2.1).bind fun r8 =>
      bif (r8.1.1 : Int) != 0 then
        proof_Read.j0 k o2_0 o2_1 o2_2 o2_3 o2_4 o2_5 o2_6 o2_7 o2_8 r7.2.1.1 r7.2.1.2.1 r7.2.1.2.2.1 o5_0 o5_1 o5_2 o5_3 o5_4 o5_5 o5_6 o5_7 o5_8
      else
        (ck (decide ((o5_4.length + ([(r7.1.1.1, (r7.1.1.2.1, (r7.1.1.2.2.1, (r7.1.1.2.2.2.1, (r7.1.1.2.2.2.2.1, (r7.1.1.2.2.2.2.2.1, ()))))))] : List (Int × ByteArray × Bool × ByteArray × ByteArray × ByteArray × Unit)).length) * 80 ≤ 70368744177664))).bind fun _ =>
        proof_Read.l0 k x20 (IntKind.wrap .i64 (x21 + 1)) o2_0 o2_1 o2_2 o2_3 o2_4 o2_5 o2_6 o2_7 o2_8 r7.2.1.1 r7.2.1.2.1 r7.2.1.2.2.1 o5_0 o5_1 o5_2 o5_3 (o5_4 ++ ([(r7.1.1.1, (r7.1.1.2.1, (r7.1.1.2.2.1, (r7.1.1.2.2.2.1, (r7.1.1.2.2.2.2.1, (r7.1.1.2.2.2.2.2.1, ()))))))] : List (Int × ByteArray × Bool × ByteArray × ByteArray × ByteArray × Unit))) o5_5 o5_6 o5_7 o5_8
    else
      proof_Read.j0 k o2_0 o2_1 o2_2 o2_3 o2_4 o2_5 o2_6 o2_7 o2_8 o0_0 o0_1 o0_2 o5_0 o5_1 o5_2 o5_3 o5_4 o5_5 o5_6 o5_7 o5_8
noncomputable def proof_Read.j0 : Nat → ByteArray → Int → Int → Int → (List (Int × ByteArray × Bool × ByteArray × ByteArray × ByteArray × Unit)) → (List ByteArray) → Int → Int → (List ByteArray) → ByteArray → Int → Int → ByteArray → Int → Int → Int → (List (Int × ByteArray × Bool × ByteArray × ByteArray × ByteArray × Unit)) → (List ByteArray) → Int → Int → (List ByteArray) → Option proof_Read.R
  | 0, _, _, _, _, _, _, _, _, _, _, _, _, _, _, _, _, _, _, _, _, _ => none
  | k + 1, o2_0, o2_1, o2_2, o2_3, o2_4, o2_5, o2_6, o2_7, o2_8, o0_0, o0_1, o0_2, o5_0, o5_1, o5_2, o5_3, o5_4, o5_5, o5_6, o5_7, o5_8 =>
    (octet_Reader_Texts.f k 12 32 o0_0 o0_1 o0_2).bind fun r9 =>
    (octet_Reader_Num.f k 65536 r9.2.1.1 r9.2.1.2.1 r9.2.1.2.2.1).bind fun r10 =>
    (octet_Reader_Num.f k 65536 r10.2.1.1 r10.2.1.2.1 r10.2.1.2.2.1).bind fun r11 =>
    (octet_Reader_Texts.f k 16 32 r11.2.1.1 r11.2.1.2.1 r11.2.1.2.2.1).bind fun r12 =>
    (octet_Reader_End.f k r12.2.1.1 r12.2.1.2.1 r12.2.1.2.2.1).bind fun r13 =>
    bif (r13.1.1 : Int) != 0 then
      some (((ByteArray.empty, (0, (0, (0, (([] : List (Int × ByteArray × Bool × ByteArray × ByteArray × ByteArray × Unit)), (([] : List ByteArray), (0, (0, (([] : List ByteArray), ()))))))))), r13.1.1, ()), (()))
    else
      (proof_Right.f k (o5_0, (o5_1, (o5_2, (o5_3, (o5_4, (r9.1.1, (r10.1.1, (r11.1.1, (r12.1.1, ())))))))))).bind fun r14 =>
      bif !r14.1.1 then
        some (((ByteArray.empty, (0, (0, (0, (([] : List (Int × ByteArray × Bool × ByteArray × ByteArray × ByteArray × Unit)), (([] : List ByteArray), (0, (0, (([] : List ByteArray), ()))))))))), 4, ()), (()))
      else
        some (((o5_0, (o5_1, (o5_2, (o5_3, (o5_4, (r9.1.1, (r10.1.1, (r11.1.1, (r12.1.1, ()))))))))), 0, ()), (()))
noncomputable def proof_Read.f : Nat → ByteArray → Option proof_Read.R
  | 0, _ => none
  | k + 1, x0 =>
    (octet_Read.f k x0).bind fun r1 =>
    (octet_Reader_Text.f k 24 r1.2.1.1 r1.2.1.2.1 r1.2.1.2.2.1).bind fun r2 =>
    (octet_Reader_Num.f k 7 r2.2.1.1 r2.2.1.2.1 r2.2.1.2.2.1).bind fun r3 =>
    (octet_Reader_Num.f k 1099511627776 r3.2.1.1 r3.2.1.2.1 r3.2.1.2.2.1).bind fun r4 =>
    (octet_Reader_Num.f k 12 r4.2.1.1 r4.2.1.2.1 r4.2.1.2.2.1).bind fun r5 =>
    (octet_Reader_Num.f k 12 r5.2.1.1 r5.2.1.2.1 r5.2.1.2.2.1).bind fun r6 =>
    proof_Read.l0 k r6.1.1 0 ByteArray.empty 0 0 0 ([] : List (Int × ByteArray × Bool × ByteArray × ByteArray × ByteArray × Unit)) ([] : List ByteArray) 0 0 ([] : List ByteArray) r6.2.1.1 r6.2.1.2.1 r6.2.1.2.2.1 r2.1.1 r3.1.1 r4.1.1 r5.1.1 [] ([] : List ByteArray) 0 0 ([] : List ByteArray)
end
abbrev proof_Read.ini : LSh := ⟨[(0, .val .str)], []⟩
abbrev proof_Read.out : LSh := ⟨[(0, .val (.cons .str (.cons (.int .i64) (.cons (.int .i64) (.cons (.int .i64) (.cons (.sl (.cons (.int .i64) (.cons .str (.cons .bool (.cons .str (.cons .str (.cons .str .nil))))))) (.cons (.sl .str) (.cons (.int .i64) (.cons (.int .i64) (.cons (.sl .str) .nil)))))))))), (1, .val (.int .i64))], []⟩
abbrev proof_Read.l0s : LSh := ⟨[(2, .ptr 2 0), (4, .ptr 1004000000 0), (5, .ptr 5 0), (20, .val (.int .i64)), (21, .val (.int .i64))], [(2, 36, [.val .str, .val (.int .i64), .val (.int .i64), .val (.int .i64), .val (.sl (.cons (.int .i64) (.cons .str (.cons .bool (.cons .str (.cons .str (.cons .str .nil))))))), .val (.sl .str), .val (.int .i64), .val (.int .i64), .val (.sl .str)]), (1004000000, 120, [.val .str, .val (.int .i64), .val (.int .i64)]), (5, 36, [.val .str, .val (.int .i64), .val (.int .i64), .val (.int .i64), .own 3000504 84 (.cons (.int .i64) (.cons .str (.cons .bool (.cons .str (.cons .str (.cons .str .nil)))))), .val (.sl .str), .val (.int .i64), .val (.int .i64), .val (.sl .str)])]⟩
abbrev proof_Read.j0s : LSh := ⟨[(2, .ptr 2 0), (4, .ptr 1004000000 0), (5, .ptr 5 0)], [(2, 36, [.val .str, .val (.int .i64), .val (.int .i64), .val (.int .i64), .val (.sl (.cons (.int .i64) (.cons .str (.cons .bool (.cons .str (.cons .str (.cons .str .nil))))))), .val (.sl .str), .val (.int .i64), .val (.int .i64), .val (.sl .str)]), (1004000000, 120, [.val .str, .val (.int .i64), .val (.int .i64)]), (5, 36, [.val .str, .val (.int .i64), .val (.int .i64), .val (.int .i64), .own 3000504 84 (.cons (.int .i64) (.cons .str (.cons .bool (.cons .str (.cons .str (.cons .str .nil)))))), .val (.sl .str), .val (.int .i64), .val (.int .i64), .val (.sl .str)])]⟩
noncomputable def proof_Read.labF : Nat → Option (LabF proof_Read.out.den)
  | 8 => some ⟨proof_Read.l0s, fun k (d : (Unit × Unit × Unit × Int × Int × Unit) × ((ByteArray × Int × Int × Int × (List (Int × ByteArray × Bool × ByteArray × ByteArray × ByteArray × Unit)) × List ByteArray × Int × Int × List ByteArray × Unit) × (ByteArray × Int × Int × Unit) × (ByteArray × Int × Int × Int × (List (Int × ByteArray × Bool × ByteArray × ByteArray × ByteArray × Unit)) × List ByteArray × Int × Int × List ByteArray × Unit) × Unit)) => (proof_Read.l0 k d.1.2.2.2.1 d.1.2.2.2.2.1 d.2.1.1 d.2.1.2.1 d.2.1.2.2.1 d.2.1.2.2.2.1 d.2.1.2.2.2.2.1 d.2.1.2.2.2.2.2.1 d.2.1.2.2.2.2.2.2.1 d.2.1.2.2.2.2.2.2.2.1 d.2.1.2.2.2.2.2.2.2.2.1 d.2.2.1.1 d.2.2.1.2.1 d.2.2.1.2.2.1 d.2.2.2.1.1 d.2.2.2.1.2.1 d.2.2.2.1.2.2.1 d.2.2.2.1.2.2.2.1 d.2.2.2.1.2.2.2.2.1 d.2.2.2.1.2.2.2.2.2.1 d.2.2.2.1.2.2.2.2.2.2.1 d.2.2.2.1.2.2.2.2.2.2.2.1 d.2.2.2.1.2.2.2.2.2.2.2.2.1 : Option proof_Read.R)⟩
  | 19 => some ⟨proof_Read.j0s, fun k (d : (Unit × Unit × Unit × Unit) × ((ByteArray × Int × Int × Int × (List (Int × ByteArray × Bool × ByteArray × ByteArray × ByteArray × Unit)) × List ByteArray × Int × Int × List ByteArray × Unit) × (ByteArray × Int × Int × Unit) × (ByteArray × Int × Int × Int × (List (Int × ByteArray × Bool × ByteArray × ByteArray × ByteArray × Unit)) × List ByteArray × Int × Int × List ByteArray × Unit) × Unit)) => (proof_Read.j0 k d.2.1.1 d.2.1.2.1 d.2.1.2.2.1 d.2.1.2.2.2.1 d.2.1.2.2.2.2.1 d.2.1.2.2.2.2.2.1 d.2.1.2.2.2.2.2.2.1 d.2.1.2.2.2.2.2.2.2.1 d.2.1.2.2.2.2.2.2.2.2.1 d.2.2.1.1 d.2.2.1.2.1 d.2.2.1.2.2.1 d.2.2.2.1.1 d.2.2.2.1.2.1 d.2.2.2.1.2.2.1 d.2.2.2.1.2.2.2.1 d.2.2.2.1.2.2.2.2.1 d.2.2.2.1.2.2.2.2.2.1 d.2.2.2.1.2.2.2.2.2.2.1 d.2.2.2.1.2.2.2.2.2.2.2.1 d.2.2.2.1.2.2.2.2.2.2.2.2.1 : Option proof_Read.R)⟩
  | _ => none
noncomputable def proof_Read.fd : FnD := ⟨Try.f10, proof_Read.ini, proof_Read.out, 2, [], [], proof_Read.labF, fun k (d : (ByteArray × Unit) × (Unit)) => (proof_Read.f k d.1.1 : Option proof_Read.R)⟩

/-! ### mill_Mill_none : function 58 -/
abbrev mill_Mill_none.R := (Bool × Unit) × (Unit)
noncomputable def mill_Mill_none.f : Nat → (ByteArray × ByteArray × Unit) → Bool → Bool → Int → (List (ByteArray × ByteArray)) → (List (ByteArray × ByteArray)) → Option mill_Mill_none.R
  | 0, _, _, _, _, _, _ => none
  | k + 1, o0_2, o0_3, o0_4, o0_5, o1_0, o2_0 =>
    some ((false, ()), (()))
abbrev mill_Mill_none.ini : LSh := ⟨[(0, .ptr 1000000 0)], [(1000000, 78, [.mref 1000001, .mref 1000002, .val (.cons .str (.cons .str .nil)), .val .bool, .val .bool, .val (.int .i64)]), (1000001, 75, [.mapd]), (1000002, 75, [.mapd])]⟩
abbrev mill_Mill_none.out : LSh := ⟨[(0, .val .bool)], []⟩
noncomputable def mill_Mill_none.labF : Nat → Option (LabF mill_Mill_none.out.den)
  | _ => none
noncomputable def mill_Mill_none.fd : FnD := ⟨Try.f58, mill_Mill_none.ini, mill_Mill_none.out, 1, [1000000, 1000001, 1000002], [1000000, 1000001, 1000002], mill_Mill_none.labF, fun k (d : (Unit × Unit) × ((Unit × Unit × (ByteArray × ByteArray × Unit) × Bool × Bool × Int × Unit) × ((List (ByteArray × ByteArray)) × Unit) × ((List (ByteArray × ByteArray)) × Unit) × Unit)) => (mill_Mill_none.f k d.2.1.2.2.1 d.2.1.2.2.2.1 d.2.1.2.2.2.2.1 d.2.1.2.2.2.2.2.1 d.2.2.1.1 d.2.2.2.1.1 : Option mill_Mill_none.R)⟩

/-! ### mill_Mill_note : function 81 -/
abbrev mill_Mill_note.R := (Unit) × ((Unit × Unit × (ByteArray × ByteArray × Unit) × Bool × Bool × Int × Unit) × ((List (ByteArray × ByteArray)) × Unit) × Unit)
noncomputable def mill_Mill_note.f : Nat → ByteArray → ByteArray → (ByteArray × ByteArray × Unit) → Bool → Bool → Int → (List (ByteArray × ByteArray)) → (List (ByteArray × ByteArray)) → Option mill_Mill_note.R
  | 0, _, _, _, _, _, _, _, _ => none
  | k + 1, x1, x2, o0_2, o0_3, o0_4, o0_5, o1_0, o2_0 =>
    bif mhas x2 o2_0 then
      bif !((mgetD x2 o2_0).toList == x1.toList) then
        bif !o0_3 then
          some ((()), (((), (), (mgetD x2 o2_0, (x1, ())), true, o0_4, IntKind.wrap .i64 (o0_5 + 1), ()), (o2_0, ()), ()))
        else
        bif mhas x2 o2_0 then
          some ((()), (((), (), (o0_2.1, (o0_2.2.1, ())), o0_3, o0_4, IntKind.wrap .i64 (o0_5 + 1), ()), (o2_0, ()), ()))
        else
        bif decide (((o2_0.length : Int) : Int) ≥ 20000) then
          some ((()), (((), (), (o0_2.1, (o0_2.2.1, ())), o0_3, true, IntKind.wrap .i64 (o0_5 + 1), ()), (o2_0, ()), ()))
        else
          some ((()), (((), (), (o0_2.1, (o0_2.2.1, ())), o0_3, o0_4, IntKind.wrap .i64 (o0_5 + 1), ()), (mput x2 x1 o2_0, ()), ()))
      else
      bif mhas x2 o2_0 then
        some ((()), (((), (), (o0_2.1, (o0_2.2.1, ())), o0_3, o0_4, IntKind.wrap .i64 (o0_5 + 1), ()), (o2_0, ()), ()))
      else
      bif decide (((o2_0.length : Int) : Int) ≥ 20000) then
        some ((()), (((), (), (o0_2.1, (o0_2.2.1, ())), o0_3, true, IntKind.wrap .i64 (o0_5 + 1), ()), (o2_0, ()), ()))
      else
        some ((()), (((), (), (o0_2.1, (o0_2.2.1, ())), o0_3, o0_4, IntKind.wrap .i64 (o0_5 + 1), ()), (mput x2 x1 o2_0, ()), ()))
    else
    bif mhas x2 o2_0 then
      some ((()), (((), (), (o0_2.1, (o0_2.2.1, ())), o0_3, o0_4, IntKind.wrap .i64 (o0_5 + 1), ()), (o2_0, ()), ()))
    else
    bif decide (((o2_0.length : Int) : Int) ≥ 20000) then
      some ((()), (((), (), (o0_2.1, (o0_2.2.1, ())), o0_3, true, IntKind.wrap .i64 (o0_5 + 1), ()), (o2_0, ()), ()))
    else
      some ((()), (((), (), (o0_2.1, (o0_2.2.1, ())), o0_3, o0_4, IntKind.wrap .i64 (o0_5 + 1), ()), (mput x2 x1 o2_0, ()), ()))
abbrev mill_Mill_note.ini : LSh := ⟨[(0, .ptr 1000000 0), (1, .val .str), (2, .val .str)], [(1000000, 78, [.mref 1000001, .mref 1000002, .val (.cons .str (.cons .str .nil)), .val .bool, .val .bool, .val (.int .i64)]), (1000001, 75, [.mapd]), (1000002, 75, [.mapd])]⟩
abbrev mill_Mill_note.out : LSh := ⟨[], [(1000000, 78, [.mref 1000001, .mref 1000002, .val (.cons .str (.cons .str .nil)), .val .bool, .val .bool, .val (.int .i64)]), (1000002, 75, [.mapd])]⟩
noncomputable def mill_Mill_note.labF : Nat → Option (LabF mill_Mill_note.out.den)
  | _ => none
noncomputable def mill_Mill_note.fd : FnD := ⟨Try.f81, mill_Mill_note.ini, mill_Mill_note.out, 0, [1000000, 1000001, 1000002], [1000001], mill_Mill_note.labF, fun k (d : (Unit × ByteArray × ByteArray × Unit) × ((Unit × Unit × (ByteArray × ByteArray × Unit) × Bool × Bool × Int × Unit) × ((List (ByteArray × ByteArray)) × Unit) × ((List (ByteArray × ByteArray)) × Unit) × Unit)) => (mill_Mill_note.f k d.1.2.1 d.1.2.2.1 d.2.1.2.2.1 d.2.1.2.2.2.1 d.2.1.2.2.2.2.1 d.2.1.2.2.2.2.2.1 d.2.2.1.1 d.2.2.2.1.1 : Option mill_Mill_note.R)⟩

/-! ### mill_Mill_Sum : function 62 -/
abbrev mill_Mill_Sum.R := (ByteArray × Unit) × ((Unit × Unit × (ByteArray × ByteArray × Unit) × Bool × Bool × Int × Unit) × ((List (ByteArray × ByteArray)) × Unit) × Unit)
noncomputable def mill_Mill_Sum.f : Nat → ByteArray → (ByteArray × ByteArray × Unit) → Bool → Bool → Int → (List (ByteArray × ByteArray)) → (List (ByteArray × ByteArray)) → Option mill_Mill_Sum.R
  | 0, _, _, _, _, _, _, _ => none
  | k + 1, x1, o0_2, o0_3, o0_4, o0_5, o1_0, o2_0 =>
    (mill_Mill_none.f k (o0_2.1, (o0_2.2.1, ())) o0_3 o0_4 o0_5 o1_0 o2_0).bind fun r1 =>
    bif r1.1.1 then
      some (((⟨#[]⟩ : ByteArray), ()), (((), (), (o0_2.1, (o0_2.2.1, ())), o0_3, o0_4, o0_5, ()), (o2_0, ()), ()))
    else
      (mill_name.f k false (⟨#[]⟩ : ByteArray) x1).bind fun r2 =>
      bif !(mhas r2.1.1 o1_0) then
        (sha_Sum.f k x1).bind fun r3 =>
        (mill_Mill_note.f k x1 r3.1.1 (o0_2.1, (o0_2.2.1, ())) o0_3 o0_4 o0_5 o1_0 o2_0).bind fun r4 =>
        some ((r3.1.1, ()), (((), (), (r4.2.1.2.2.1.1, (r4.2.1.2.2.1.2.1, ())), r4.2.1.2.2.2.1, r4.2.1.2.2.2.2.1, r4.2.1.2.2.2.2.2.1, ()), (r4.2.2.1.1, ()), ()))
      else
        (mill_Mill_note.f k x1 (mgetD r2.1.1 o1_0) (o0_2.1, (o0_2.2.1, ())) o0_3 o0_4 o0_5 o1_0 o2_0).bind fun r5 =>
        some ((mgetD r2.1.1 o1_0, ()), (((), (), (r5.2.1.2.2.1.1, (r5.2.1.2.2.1.2.1, ())), r5.2.1.2.2.2.1, r5.2.1.2.2.2.2.1, r5.2.1.2.2.2.2.2.1, ()), (r5.2.2.1.1, ()), ()))
abbrev mill_Mill_Sum.ini : LSh := ⟨[(0, .ptr 1000000 0), (1, .val .str)], [(1000000, 78, [.mref 1000001, .mref 1000002, .val (.cons .str (.cons .str .nil)), .val .bool, .val .bool, .val (.int .i64)]), (1000001, 75, [.mapd]), (1000002, 75, [.mapd])]⟩
abbrev mill_Mill_Sum.out : LSh := ⟨[(0, .val .str)], [(1000000, 78, [.mref 1000001, .mref 1000002, .val (.cons .str (.cons .str .nil)), .val .bool, .val .bool, .val (.int .i64)]), (1000002, 75, [.mapd])]⟩
noncomputable def mill_Mill_Sum.labF : Nat → Option (LabF mill_Mill_Sum.out.den)
  | _ => none
noncomputable def mill_Mill_Sum.fd : FnD := ⟨Try.f62, mill_Mill_Sum.ini, mill_Mill_Sum.out, 1, [1000000, 1000001, 1000002], [1000001], mill_Mill_Sum.labF, fun k (d : (Unit × ByteArray × Unit) × ((Unit × Unit × (ByteArray × ByteArray × Unit) × Bool × Bool × Int × Unit) × ((List (ByteArray × ByteArray)) × Unit) × ((List (ByteArray × ByteArray)) × Unit) × Unit)) => (mill_Mill_Sum.f k d.1.2.1 d.2.1.2.2.1 d.2.1.2.2.2.1 d.2.1.2.2.2.2.1 d.2.1.2.2.2.2.2.1 d.2.2.1.1 d.2.2.2.1.1 : Option mill_Mill_Sum.R)⟩

/-! ### octet_Num : function 78 -/
abbrev octet_Num.R := (ByteArray × Unit) × (Unit)
mutual
noncomputable def octet_Num.l0 : Nat → Int → ByteArray → Option octet_Num.R
  | 0, _, _ => none
  | k + 1, x0, x3 =>
    bif decide ((x0 : Int) > 0) then
      (ck (decide ((strOf ([IntKind.wrap .u8 x0] : List Int)).size + x3.size ≤ 9223372036854775807))).bind fun _ =>
      (ck (!decide ((8 : Int) < 0))).bind fun _ =>
      octet_Num.l0 k (Int.fdiv x0 (2 ^ (min (8 : Int).toNat (IntKind.bits .i64)))) ((strOf ([IntKind.wrap .u8 x0] : List Int)) ++ x3)
    else
      (ck (decide ((strOf ([IntKind.wrap .u8 (x3.size : Int)] : List Int)).size + x3.size ≤ 9223372036854775807))).bind fun _ =>
      some (((strOf ([IntKind.wrap .u8 (x3.size : Int)] : List Int)) ++ x3, ()), (()))
noncomputable def octet_Num.f : Nat → Int → Option octet_Num.R
  | 0, _ => none
  | k + 1, x0 =>
    bif decide ((x0 : Int) < 0) then
      some (((⟨#[]⟩ : ByteArray), ()), (()))
    else
    bif decide ((x0 : Int) ≥ 72057594037927936) then
      some (((⟨#[]⟩ : ByteArray), ()), (()))
    else
      octet_Num.l0 k x0 (⟨#[]⟩ : ByteArray)
end
abbrev octet_Num.ini : LSh := ⟨[(0, .val (.int .i64))], []⟩
abbrev octet_Num.out : LSh := ⟨[(0, .val .str)], []⟩
abbrev octet_Num.l0s : LSh := ⟨[(0, .val (.int .i64)), (3, .val .str)], []⟩
noncomputable def octet_Num.labF : Nat → Option (LabF octet_Num.out.den)
  | 8 => some ⟨octet_Num.l0s, fun k (d : (Int × ByteArray × Unit) × (Unit)) => (octet_Num.l0 k d.1.1 d.1.2.1 : Option octet_Num.R)⟩
  | _ => none
noncomputable def octet_Num.fd : FnD := ⟨Try.f78, octet_Num.ini, octet_Num.out, 1, [], [], octet_Num.labF, fun k (d : (Int × Unit) × (Unit)) => (octet_Num.f k d.1.1 : Option octet_Num.R)⟩

/-! ### octet_Text : function 63 -/
abbrev octet_Text.R := (ByteArray × Unit) × (Unit)
noncomputable def octet_Text.f : Nat → ByteArray → Option octet_Text.R
  | 0, _ => none
  | k + 1, x0 =>
    (octet_Num.f k (x0.size : Int)).bind fun r1 =>
    (ck (decide (r1.1.1.size + x0.size ≤ 9223372036854775807))).bind fun _ =>
    some ((r1.1.1 ++ x0, ()), (()))
abbrev octet_Text.ini : LSh := ⟨[(0, .val .str)], []⟩
abbrev octet_Text.out : LSh := ⟨[(0, .val .str)], []⟩
noncomputable def octet_Text.labF : Nat → Option (LabF octet_Text.out.den)
  | _ => none
noncomputable def octet_Text.fd : FnD := ⟨Try.f63, octet_Text.ini, octet_Text.out, 1, [], [], octet_Text.labF, fun k (d : (ByteArray × Unit) × (Unit)) => (octet_Text.f k d.1.1 : Option octet_Text.R)⟩

/-! ### pledge_Of : function 26 -/
abbrev pledge_Of.R := (ByteArray × Unit) × ((Unit × Unit × (ByteArray × ByteArray × Unit) × Bool × Bool × Int × Unit) × ((List (ByteArray × ByteArray)) × Unit) × Unit)
noncomputable def pledge_Of.f : Nat → ByteArray → ByteArray → ByteArray → ByteArray → (ByteArray × ByteArray × Unit) → Bool → Bool → Int → (List (ByteArray × ByteArray)) → (List (ByteArray × ByteArray)) → Option pledge_Of.R
  | 0, _, _, _, _, _, _, _, _, _, _ => none
  | k + 1, x1, x2, x3, x4, o0_2, o0_3, o0_4, o0_5, o1_0, o2_0 =>
    (octet_Text.f k x1).bind fun r1 =>
    (ck (decide ((⟨#[2]⟩ : ByteArray).size + r1.1.1.size ≤ 9223372036854775807))).bind fun _ =>
    (octet_Text.f k x2).bind fun r2 =>
    (ck (decide (((⟨#[2]⟩ : ByteArray) ++ r1.1.1).size + r2.1.1.size ≤ 9223372036854775807))).bind fun _ =>
    (octet_Text.f k x3).bind fun r3 =>
    (ck (decide ((((⟨#[2]⟩ : ByteArray) ++ r1.1.1) ++ r2.1.1).size + r3.1.1.size ≤ 9223372036854775807))).bind fun _ =>
    (octet_Text.f k x4).bind fun r4 =>
    (ck (decide (((((⟨#[2]⟩ : ByteArray) ++ r1.1.1) ++ r2.1.1) ++ r3.1.1).size + r4.1.1.size ≤ 9223372036854775807))).bind fun _ =>
    (mill_Mill_Sum.f k (((((⟨#[2]⟩ : ByteArray) ++ r1.1.1) ++ r2.1.1) ++ r3.1.1) ++ r4.1.1) (o0_2.1, (o0_2.2.1, ())) o0_3 o0_4 o0_5 o1_0 o2_0).bind fun r5 =>
    some ((r5.1.1, ()), (((), (), (r5.2.1.2.2.1.1, (r5.2.1.2.2.1.2.1, ())), r5.2.1.2.2.2.1, r5.2.1.2.2.2.2.1, r5.2.1.2.2.2.2.2.1, ()), (r5.2.2.1.1, ()), ()))
abbrev pledge_Of.ini : LSh := ⟨[(0, .ptr 1000000 0), (1, .val .str), (2, .val .str), (3, .val .str), (4, .val .str)], [(1000000, 78, [.mref 1000001, .mref 1000002, .val (.cons .str (.cons .str .nil)), .val .bool, .val .bool, .val (.int .i64)]), (1000001, 75, [.mapd]), (1000002, 75, [.mapd])]⟩
abbrev pledge_Of.out : LSh := ⟨[(0, .val .str)], [(1000000, 78, [.mref 1000001, .mref 1000002, .val (.cons .str (.cons .str .nil)), .val .bool, .val .bool, .val (.int .i64)]), (1000002, 75, [.mapd])]⟩
noncomputable def pledge_Of.labF : Nat → Option (LabF pledge_Of.out.den)
  | _ => none
noncomputable def pledge_Of.fd : FnD := ⟨Try.f26, pledge_Of.ini, pledge_Of.out, 1, [1000000, 1000001, 1000002], [1000001], pledge_Of.labF, fun k (d : (Unit × ByteArray × ByteArray × ByteArray × ByteArray × Unit) × ((Unit × Unit × (ByteArray × ByteArray × Unit) × Bool × Bool × Int × Unit) × ((List (ByteArray × ByteArray)) × Unit) × ((List (ByteArray × ByteArray)) × Unit) × Unit)) => (pledge_Of.f k d.1.2.1 d.1.2.2.1 d.1.2.2.2.1 d.1.2.2.2.2.1 d.2.1.2.2.1 d.2.1.2.2.2.1 d.2.1.2.2.2.2.1 d.2.1.2.2.2.2.2.1 d.2.2.1.1 d.2.2.2.1.1 : Option pledge_Of.R)⟩

/-! ### octet_Writer_Text : function 47 -/
abbrev octet_Writer_Text.R := (Unit) × ((ByteArray × Bool × Unit) × Unit)
noncomputable def octet_Writer_Text.f : Nat → ByteArray → ByteArray → Bool → Option octet_Writer_Text.R
  | 0, _, _, _ => none
  | k + 1, x1, o0_0, o0_1 =>
    (octet_Text.f k x1).bind fun r1 =>
    (ck (decide (o0_0.size + r1.1.1.size ≤ 9223372036854775807))).bind fun _ =>
    some ((()), ((o0_0 ++ r1.1.1, o0_1, ()), ()))
abbrev octet_Writer_Text.ini : LSh := ⟨[(0, .ptr 1000000 0), (1, .val .str)], [(1000000, 106, [.val .str, .val .bool])]⟩
abbrev octet_Writer_Text.out : LSh := ⟨[], [(1000000, 106, [.val .str, .val .bool])]⟩
noncomputable def octet_Writer_Text.labF : Nat → Option (LabF octet_Writer_Text.out.den)
  | _ => none
noncomputable def octet_Writer_Text.fd : FnD := ⟨Try.f47, octet_Writer_Text.ini, octet_Writer_Text.out, 0, [1000000], [], octet_Writer_Text.labF, fun k (d : (Unit × ByteArray × Unit) × ((ByteArray × Bool × Unit) × Unit)) => (octet_Writer_Text.f k d.1.2.1 d.2.1.1 d.2.1.2.1 : Option octet_Writer_Text.R)⟩

/-! ### octet_Writer_Num : function 48 -/
abbrev octet_Writer_Num.R := (Unit) × ((ByteArray × Bool × Unit) × Unit)
noncomputable def octet_Writer_Num.f : Nat → Int → ByteArray → Bool → Option octet_Writer_Num.R
  | 0, _, _, _ => none
  | k + 1, x1, o0_0, o0_1 =>
    (octet_Num.f k x1).bind fun r1 =>
    bif o0_1 then
      (ck (decide (o0_0.size + r1.1.1.size ≤ 9223372036854775807))).bind fun _ =>
      some ((()), ((o0_0 ++ r1.1.1, true, ()), ()))
    else
      (ck (decide (o0_0.size + r1.1.1.size ≤ 9223372036854775807))).bind fun _ =>
      some ((()), ((o0_0 ++ r1.1.1, r1.1.1.toList == (⟨#[]⟩ : ByteArray).toList, ()), ()))
abbrev octet_Writer_Num.ini : LSh := ⟨[(0, .ptr 1000000 0), (1, .val (.int .i64))], [(1000000, 106, [.val .str, .val .bool])]⟩
abbrev octet_Writer_Num.out : LSh := ⟨[], [(1000000, 106, [.val .str, .val .bool])]⟩
noncomputable def octet_Writer_Num.labF : Nat → Option (LabF octet_Writer_Num.out.den)
  | _ => none
noncomputable def octet_Writer_Num.fd : FnD := ⟨Try.f48, octet_Writer_Num.ini, octet_Writer_Num.out, 0, [1000000], [], octet_Writer_Num.labF, fun k (d : (Unit × Int × Unit) × ((ByteArray × Bool × Unit) × Unit)) => (octet_Writer_Num.f k d.1.2.1 d.2.1.1 d.2.1.2.1 : Option octet_Writer_Num.R)⟩

/-! ### octet_Writer_All : function 51 -/
abbrev octet_Writer_All.R := (ByteArray × Bool × Unit) × (Unit)
noncomputable def octet_Writer_All.f : Nat → ByteArray → Bool → Option octet_Writer_All.R
  | 0, _, _ => none
  | k + 1, o0_0, o0_1 =>
    bif o0_1 then
      some (((⟨#[]⟩ : ByteArray), false, ()), (()))
    else
      some ((o0_0, true, ()), (()))
abbrev octet_Writer_All.ini : LSh := ⟨[(0, .ptr 1000000 0)], [(1000000, 106, [.val .str, .val .bool])]⟩
abbrev octet_Writer_All.out : LSh := ⟨[(0, .val .str), (1, .val .bool)], []⟩
noncomputable def octet_Writer_All.labF : Nat → Option (LabF octet_Writer_All.out.den)
  | _ => none
noncomputable def octet_Writer_All.fd : FnD := ⟨Try.f51, octet_Writer_All.ini, octet_Writer_All.out, 2, [1000000], [1000000], octet_Writer_All.labF, fun k (d : (Unit × Unit) × ((ByteArray × Bool × Unit) × Unit)) => (octet_Writer_All.f k d.2.1.1 d.2.1.2.1 : Option octet_Writer_All.R)⟩

/-! ### pledge_Leaf : function 64 -/
abbrev pledge_Leaf.R := (ByteArray × Unit) × ((Unit × Unit × (ByteArray × ByteArray × Unit) × Bool × Bool × Int × Unit) × ((List (ByteArray × ByteArray)) × Unit) × Unit)
noncomputable def pledge_Leaf.f : Nat → ByteArray → (ByteArray × ByteArray × Unit) → Bool → Bool → Int → (List (ByteArray × ByteArray)) → (List (ByteArray × ByteArray)) → Option pledge_Leaf.R
  | 0, _, _, _, _, _, _, _ => none
  | k + 1, x1, o0_2, o0_3, o0_4, o0_5, o1_0, o2_0 =>
    (ck (decide ((⟨#[0]⟩ : ByteArray).size + x1.size ≤ 9223372036854775807))).bind fun _ =>
    (mill_Mill_Sum.f k ((⟨#[0]⟩ : ByteArray) ++ x1) (o0_2.1, (o0_2.2.1, ())) o0_3 o0_4 o0_5 o1_0 o2_0).bind fun r1 =>
    some ((r1.1.1, ()), (((), (), (r1.2.1.2.2.1.1, (r1.2.1.2.2.1.2.1, ())), r1.2.1.2.2.2.1, r1.2.1.2.2.2.2.1, r1.2.1.2.2.2.2.2.1, ()), (r1.2.2.1.1, ()), ()))
abbrev pledge_Leaf.ini : LSh := ⟨[(0, .ptr 1000000 0), (1, .val .str)], [(1000000, 78, [.mref 1000001, .mref 1000002, .val (.cons .str (.cons .str .nil)), .val .bool, .val .bool, .val (.int .i64)]), (1000001, 75, [.mapd]), (1000002, 75, [.mapd])]⟩
abbrev pledge_Leaf.out : LSh := ⟨[(0, .val .str)], [(1000000, 78, [.mref 1000001, .mref 1000002, .val (.cons .str (.cons .str .nil)), .val .bool, .val .bool, .val (.int .i64)]), (1000002, 75, [.mapd])]⟩
noncomputable def pledge_Leaf.labF : Nat → Option (LabF pledge_Leaf.out.den)
  | _ => none
noncomputable def pledge_Leaf.fd : FnD := ⟨Try.f64, pledge_Leaf.ini, pledge_Leaf.out, 1, [1000000, 1000001, 1000002], [1000001], pledge_Leaf.labF, fun k (d : (Unit × ByteArray × Unit) × ((Unit × Unit × (ByteArray × ByteArray × Unit) × Bool × Bool × Int × Unit) × ((List (ByteArray × ByteArray)) × Unit) × ((List (ByteArray × ByteArray)) × Unit) × Unit)) => (pledge_Leaf.f k d.1.2.1 d.2.1.2.2.1 d.2.1.2.2.2.1 d.2.1.2.2.2.2.1 d.2.1.2.2.2.2.2.1 d.2.2.1.1 d.2.2.2.1.1 : Option pledge_Leaf.R)⟩

/-! ### sheet_Paper : function 27 -/
abbrev sheet_Paper.R := (ByteArray × Unit) × ((Unit × Unit × (ByteArray × ByteArray × Unit) × Bool × Bool × Int × Unit) × ((List (ByteArray × ByteArray)) × Unit) × Unit)
noncomputable def sheet_Paper.f : Nat → ByteArray → Int → Int → Int → ByteArray → (ByteArray × ByteArray × Unit) → Bool → Bool → Int → (List (ByteArray × ByteArray)) → (List (ByteArray × ByteArray)) → Option sheet_Paper.R
  | 0, _, _, _, _, _, _, _, _, _, _, _ => none
  | k + 1, x1, x2, x3, x4, x5, o0_2, o0_3, o0_4, o0_5, o1_0, o2_0 =>
    (octet_Writer_Text.f k x1 ByteArray.empty false).bind fun r1 =>
    (octet_Writer_Num.f k x2 r1.2.1.1 r1.2.1.2.1).bind fun r2 =>
    (octet_Writer_Num.f k x3 r2.2.1.1 r2.2.1.2.1).bind fun r3 =>
    (octet_Writer_Num.f k x4 r3.2.1.1 r3.2.1.2.1).bind fun r4 =>
    (octet_Writer_Text.f k x5 r4.2.1.1 r4.2.1.2.1).bind fun r5 =>
    (octet_Writer_All.f k r5.2.1.1 r5.2.1.2.1).bind fun r6 =>
    bif !r6.1.2.1 then
      some (((⟨#[]⟩ : ByteArray), ()), (((), (), (o0_2.1, (o0_2.2.1, ())), o0_3, o0_4, o0_5, ()), (o2_0, ()), ()))
    else
      (pledge_Leaf.f k r6.1.1 (o0_2.1, (o0_2.2.1, ())) o0_3 o0_4 o0_5 o1_0 o2_0).bind fun r7 =>
      some ((r7.1.1, ()), (((), (), (r7.2.1.2.2.1.1, (r7.2.1.2.2.1.2.1, ())), r7.2.1.2.2.2.1, r7.2.1.2.2.2.2.1, r7.2.1.2.2.2.2.2.1, ()), (r7.2.2.1.1, ()), ()))
abbrev sheet_Paper.ini : LSh := ⟨[(0, .ptr 1000000 0), (1, .val .str), (2, .val (.int .i64)), (3, .val (.int .i64)), (4, .val (.int .i64)), (5, .val .str)], [(1000000, 78, [.mref 1000001, .mref 1000002, .val (.cons .str (.cons .str .nil)), .val .bool, .val .bool, .val (.int .i64)]), (1000001, 75, [.mapd]), (1000002, 75, [.mapd])]⟩
abbrev sheet_Paper.out : LSh := ⟨[(0, .val .str)], [(1000000, 78, [.mref 1000001, .mref 1000002, .val (.cons .str (.cons .str .nil)), .val .bool, .val .bool, .val (.int .i64)]), (1000002, 75, [.mapd])]⟩
noncomputable def sheet_Paper.labF : Nat → Option (LabF sheet_Paper.out.den)
  | _ => none
noncomputable def sheet_Paper.fd : FnD := ⟨Try.f27, sheet_Paper.ini, sheet_Paper.out, 1, [1000000, 1000001, 1000002], [1000001], sheet_Paper.labF, fun k (d : (Unit × ByteArray × Int × Int × Int × ByteArray × Unit) × ((Unit × Unit × (ByteArray × ByteArray × Unit) × Bool × Bool × Int × Unit) × ((List (ByteArray × ByteArray)) × Unit) × ((List (ByteArray × ByteArray)) × Unit) × Unit)) => (sheet_Paper.f k d.1.2.1 d.1.2.2.1 d.1.2.2.2.1 d.1.2.2.2.2.1 d.1.2.2.2.2.2.1 d.2.1.2.2.1 d.2.1.2.2.2.1 d.2.1.2.2.2.2.1 d.2.1.2.2.2.2.2.1 d.2.2.1.1 d.2.2.2.1.1 : Option sheet_Paper.R)⟩

/-! ### sheet_Leaf : function 28 -/
abbrev sheet_Leaf.R := (ByteArray × Unit) × ((Unit × Unit × (ByteArray × ByteArray × Unit) × Bool × Bool × Int × Unit) × ((List (ByteArray × ByteArray)) × Unit) × Unit)
noncomputable def sheet_Leaf.f : Nat → ByteArray → ByteArray → (ByteArray × ByteArray × Unit) → Bool → Bool → Int → (List (ByteArray × ByteArray)) → (List (ByteArray × ByteArray)) → Option sheet_Leaf.R
  | 0, _, _, _, _, _, _, _, _ => none
  | k + 1, x1, x2, o0_2, o0_3, o0_4, o0_5, o1_0, o2_0 =>
    (octet_Text.f k x1).bind fun r1 =>
    (octet_Text.f k x2).bind fun r2 =>
    (ck (decide (r1.1.1.size + r2.1.1.size ≤ 9223372036854775807))).bind fun _ =>
    (pledge_Leaf.f k (r1.1.1 ++ r2.1.1) (o0_2.1, (o0_2.2.1, ())) o0_3 o0_4 o0_5 o1_0 o2_0).bind fun r3 =>
    some ((r3.1.1, ()), (((), (), (r3.2.1.2.2.1.1, (r3.2.1.2.2.1.2.1, ())), r3.2.1.2.2.2.1, r3.2.1.2.2.2.2.1, r3.2.1.2.2.2.2.2.1, ()), (r3.2.2.1.1, ()), ()))
abbrev sheet_Leaf.ini : LSh := ⟨[(0, .ptr 1000000 0), (1, .val .str), (2, .val .str)], [(1000000, 78, [.mref 1000001, .mref 1000002, .val (.cons .str (.cons .str .nil)), .val .bool, .val .bool, .val (.int .i64)]), (1000001, 75, [.mapd]), (1000002, 75, [.mapd])]⟩
abbrev sheet_Leaf.out : LSh := ⟨[(0, .val .str)], [(1000000, 78, [.mref 1000001, .mref 1000002, .val (.cons .str (.cons .str .nil)), .val .bool, .val .bool, .val (.int .i64)]), (1000002, 75, [.mapd])]⟩
noncomputable def sheet_Leaf.labF : Nat → Option (LabF sheet_Leaf.out.den)
  | _ => none
noncomputable def sheet_Leaf.fd : FnD := ⟨Try.f28, sheet_Leaf.ini, sheet_Leaf.out, 1, [1000000, 1000001, 1000002], [1000001], sheet_Leaf.labF, fun k (d : (Unit × ByteArray × ByteArray × Unit) × ((Unit × Unit × (ByteArray × ByteArray × Unit) × Bool × Bool × Int × Unit) × ((List (ByteArray × ByteArray)) × Unit) × ((List (ByteArray × ByteArray)) × Unit) × Unit)) => (sheet_Leaf.f k d.1.2.1 d.1.2.2.1 d.2.1.2.2.1 d.2.1.2.2.2.1 d.2.1.2.2.2.2.1 d.2.1.2.2.2.2.2.1 d.2.2.1.1 d.2.2.2.1.1 : Option sheet_Leaf.R)⟩

/-! ### value_of : function 73 -/
abbrev value_of.R := (Int × Unit) × (Unit)
mutual
noncomputable def value_of.l0 : Nat → Int → (List Int) → Int → Int → Option value_of.R
  | 0, _, _, _, _ => none
  | k + 1, x3, x7, x8, x9 =>
    bif decide ((x9 : Int) < x8) then
      (rdo x7 x9).bind fun t1 =>
      (ck (!decide ((8 : Int) < 0))).bind fun _ =>
      value_of.l0 k (IntKind.wrap .u64 ((BitVec.ofInt (IntKind.bits .u64) (IntKind.wrap .u64 (x3 * 2 ^ (min (8 : Int).toNat (IntKind.bits .u64)))) ||| BitVec.ofInt (IntKind.bits .u64) (IntKind.wrap .u64 t1)).toNat : Int)) x7 x8 (IntKind.wrap .i64 (x9 + 1))
    else
      some ((x3, ()), (()))
noncomputable def value_of.f : Nat → ByteArray → Option value_of.R
  | 0, _ => none
  | k + 1, x0 =>
    value_of.l0 k 0 (bytesOf x0) ((bytesOf x0).length : Int) 0
end
abbrev value_of.ini : LSh := ⟨[(0, .val .str)], []⟩
abbrev value_of.out : LSh := ⟨[(0, .val (.int .u64))], []⟩
abbrev value_of.l0s : LSh := ⟨[(3, .val (.int .u64)), (7, .own 2000007 5 (.int .u8)), (8, .val (.int .i64)), (9, .val (.int .i64))], []⟩
noncomputable def value_of.labF : Nat → Option (LabF value_of.out.den)
  | 6 => some ⟨value_of.l0s, fun k (d : (Int × List Int × Int × Int × Unit) × (Unit)) => (value_of.l0 k d.1.1 d.1.2.1 d.1.2.2.1 d.1.2.2.2.1 : Option value_of.R)⟩
  | _ => none
noncomputable def value_of.fd : FnD := ⟨Try.f73, value_of.ini, value_of.out, 1, [], [], value_of.labF, fun k (d : (ByteArray × Unit) × (Unit)) => (value_of.f k d.1.1 : Option value_of.R)⟩

/-! ### value_nan : function 93 -/
abbrev value_nan.R := (Bool × Unit) × (Unit)
noncomputable def value_nan.f : Nat → Int → Option value_nan.R
  | 0, _ => none
  | k + 1, x0 =>
    some ((decide ((IntKind.wrap .u64 ((BitVec.ofInt (IntKind.bits .u64) x0 &&& BitVec.ofInt (IntKind.bits .u64) 9223372036854775807).toNat : Int) : Int) > 9218868437227405312), ()), (()))
abbrev value_nan.ini : LSh := ⟨[(0, .val (.int .u64))], []⟩
abbrev value_nan.out : LSh := ⟨[(0, .val .bool)], []⟩
noncomputable def value_nan.labF : Nat → Option (LabF value_nan.out.den)
  | _ => none
noncomputable def value_nan.fd : FnD := ⟨Try.f93, value_nan.ini, value_nan.out, 1, [], [], value_nan.labF, fun k (d : (Int × Unit) × (Unit)) => (value_nan.f k d.1.1 : Option value_nan.R)⟩

/-! ### value_Clean : function 87 -/
abbrev value_Clean.R := ((Int × Bool × Int × Int × ByteArray × Unit) × Unit) × (Unit)
noncomputable def value_Clean.f : Nat → (Int × Bool × Int × Int × ByteArray × Unit) → Option value_Clean.R
  | 0, _ => none
  | k + 1, x0 =>
    bif (x0.1 : Int) == 1 then
      some (((x0.1, (x0.2.1, (0, (0, (ByteArray.empty, ()))))), ()), (()))
    else
    bif (x0.1 : Int) == 2 then
      some (((x0.1, (false, (x0.2.2.1, (0, (ByteArray.empty, ()))))), ()), (()))
    else
    bif (x0.1 : Int) == 3 then
      (value_nan.f k x0.2.2.2.1).bind fun r1 =>
      bif r1.1.1 then
        some (((x0.1, (false, (0, (9221120237041090561, (ByteArray.empty, ()))))), ()), (()))
      else
        some (((x0.1, (false, (0, (x0.2.2.2.1, (ByteArray.empty, ()))))), ()), (()))
    else
    bif (x0.1 : Int) == 4 then
      some (((x0.1, (false, (0, (0, (x0.2.2.2.2.1, ()))))), ()), (()))
    else
      some (((x0.1, (false, (0, (0, (ByteArray.empty, ()))))), ()), (()))
abbrev value_Clean.ini : LSh := ⟨[(0, .val (.cons (.int .i64) (.cons .bool (.cons (.int .i64) (.cons (.int .u64) (.cons .str .nil))))))], []⟩
abbrev value_Clean.out : LSh := ⟨[(0, .val (.cons (.int .i64) (.cons .bool (.cons (.int .i64) (.cons (.int .u64) (.cons .str .nil))))))], []⟩
noncomputable def value_Clean.labF : Nat → Option (LabF value_Clean.out.den)
  | _ => none
noncomputable def value_Clean.fd : FnD := ⟨Try.f87, value_Clean.ini, value_Clean.out, 1, [], [], value_Clean.labF, fun k (d : ((Int × Bool × Int × Int × ByteArray × Unit) × Unit) × (Unit)) => (value_Clean.f k d.1.1 : Option value_Clean.R)⟩

/-! ### value_Right : function 74 -/
abbrev value_Right.R := (Bool × Unit) × (Unit)
noncomputable def value_Right.f : Nat → (Int × Bool × Int × Int × ByteArray × Unit) → Option value_Right.R
  | 0, _ => none
  | k + 1, x0 =>
    bif decide ((x0.1 : Int) ≥ 0) then
      bif decide ((x0.1 : Int) ≤ 4) then
        bif decide (((x0.2.2.2.2.1.size : Int) : Int) ≤ 200) then
          (value_Clean.f k (x0.1, (x0.2.1, (x0.2.2.1, (x0.2.2.2.1, (x0.2.2.2.2.1, ())))))).bind fun r1 =>
          some ((((x0.1 : Int) == r1.1.1.1 && (x0.2.1 == r1.1.1.2.1 && ((x0.2.2.1 : Int) == r1.1.1.2.2.1 && ((x0.2.2.2.1 : Int) == r1.1.1.2.2.2.1 && (seqB x0.2.2.2.2.1 r1.1.1.2.2.2.2.1 && true))))), ()), (()))
        else
          some ((false, ()), (()))
      else
        some ((false, ()), (()))
    else
      some ((false, ()), (()))
abbrev value_Right.ini : LSh := ⟨[(0, .val (.cons (.int .i64) (.cons .bool (.cons (.int .i64) (.cons (.int .u64) (.cons .str .nil))))))], []⟩
abbrev value_Right.out : LSh := ⟨[(0, .val .bool)], []⟩
noncomputable def value_Right.labF : Nat → Option (LabF value_Right.out.den)
  | _ => none
noncomputable def value_Right.fd : FnD := ⟨Try.f74, value_Right.ini, value_Right.out, 1, [], [], value_Right.labF, fun k (d : ((Int × Bool × Int × Int × ByteArray × Unit) × Unit) × (Unit)) => (value_Right.f k d.1.1 : Option value_Right.R)⟩

/-! ### value_Read : function 41 -/
abbrev value_Read.R := ((Int × Bool × Int × Int × ByteArray × Unit) × Int × Unit) × (Unit)
mutual
noncomputable def value_Read.j0 : Nat → Int → Bool → Int → Int → ByteArray → ByteArray → Int → Int → Int → Bool → Int → Int → ByteArray → Option value_Read.R
  | 0, _, _, _, _, _, _, _, _, _, _, _, _, _ => none
  | k + 1, o2_0, o2_1, o2_2, o2_3, o2_4, o0_0, o0_1, o0_2, o5_0, o5_1, o5_2, o5_3, o5_4 =>
    (octet_Reader_End.f k o0_0 o0_1 o0_2).bind fun r9 =>
    bif (r9.1.1 : Int) != 0 then
      some (((0, (false, (0, (0, (ByteArray.empty, ()))))), r9.1.1, ()), (()))
    else
      (value_Right.f k (o5_0, (o5_1, (o5_2, (o5_3, (o5_4, ())))))).bind fun r10 =>
      bif !r10.1.1 then
        some (((0, (false, (0, (0, (ByteArray.empty, ()))))), 4, ()), (()))
      else
        some (((o5_0, (o5_1, (o5_2, (o5_3, (o5_4, ()))))), 0, ()), (()))
noncomputable def value_Read.f : Nat → ByteArray → Option value_Read.R
  | 0, _ => none
  | k + 1, x0 =>
    (octet_Read.f k x0).bind fun r1 =>
    (octet_Reader_Num.f k 4 r1.2.1.1 r1.2.1.2.1 r1.2.1.2.2.1).bind fun r2 =>
    bif (r2.1.1 : Int) == 1 then
      (octet_Reader_Flag.f k r2.2.1.1 r2.2.1.2.1 r2.2.1.2.2.1).bind fun r3 =>
      value_Read.j0 k 0 false 0 0 ByteArray.empty r3.2.1.1 r3.2.1.2.1 r3.2.1.2.2.1 r2.1.1 r3.1.1 0 0 ByteArray.empty
    else
    bif (r2.1.1 : Int) == 2 then
      (octet_Reader_Raw.f k 8 r2.2.1.1 r2.2.1.2.1 r2.2.1.2.2.1).bind fun r4 =>
      (value_of.f k r4.1.1).bind fun r5 =>
      value_Read.j0 k 0 false 0 0 ByteArray.empty r4.2.1.1 r4.2.1.2.1 r4.2.1.2.2.1 r2.1.1 false (IntKind.wrap .i64 r5.1.1) 0 ByteArray.empty
    else
    bif (r2.1.1 : Int) == 3 then
      (octet_Reader_Raw.f k 8 r2.2.1.1 r2.2.1.2.1 r2.2.1.2.2.1).bind fun r6 =>
      (value_of.f k r6.1.1).bind fun r7 =>
      value_Read.j0 k 0 false 0 0 ByteArray.empty r6.2.1.1 r6.2.1.2.1 r6.2.1.2.2.1 r2.1.1 false 0 r7.1.1 ByteArray.empty
    else
    bif (r2.1.1 : Int) == 4 then
      (octet_Reader_Text.f k 200 r2.2.1.1 r2.2.1.2.1 r2.2.1.2.2.1).bind fun r8 =>
      value_Read.j0 k 0 false 0 0 ByteArray.empty r8.2.1.1 r8.2.1.2.1 r8.2.1.2.2.1 r2.1.1 false 0 0 r8.1.1
    else
      value_Read.j0 k 0 false 0 0 ByteArray.empty r2.2.1.1 r2.2.1.2.1 r2.2.1.2.2.1 r2.1.1 false 0 0 ByteArray.empty
end
abbrev value_Read.ini : LSh := ⟨[(0, .val .str)], []⟩
abbrev value_Read.out : LSh := ⟨[(0, .val (.cons (.int .i64) (.cons .bool (.cons (.int .i64) (.cons (.int .u64) (.cons .str .nil)))))), (1, .val (.int .i64))], []⟩
abbrev value_Read.j0s : LSh := ⟨[(2, .ptr 2 0), (4, .ptr 904000000 0), (5, .ptr 5 0)], [(2, 92, [.val (.int .i64), .val .bool, .val (.int .i64), .val (.int .u64), .val .str]), (904000000, 120, [.val .str, .val (.int .i64), .val (.int .i64)]), (5, 92, [.val (.int .i64), .val .bool, .val (.int .i64), .val (.int .u64), .val .str])]⟩
noncomputable def value_Read.labF : Nat → Option (LabF value_Read.out.den)
  | 25 => some ⟨value_Read.j0s, fun k (d : (Unit × Unit × Unit × Unit) × ((Int × Bool × Int × Int × ByteArray × Unit) × (ByteArray × Int × Int × Unit) × (Int × Bool × Int × Int × ByteArray × Unit) × Unit)) => (value_Read.j0 k d.2.1.1 d.2.1.2.1 d.2.1.2.2.1 d.2.1.2.2.2.1 d.2.1.2.2.2.2.1 d.2.2.1.1 d.2.2.1.2.1 d.2.2.1.2.2.1 d.2.2.2.1.1 d.2.2.2.1.2.1 d.2.2.2.1.2.2.1 d.2.2.2.1.2.2.2.1 d.2.2.2.1.2.2.2.2.1 : Option value_Read.R)⟩
  | _ => none
noncomputable def value_Read.fd : FnD := ⟨Try.f41, value_Read.ini, value_Read.out, 2, [], [], value_Read.labF, fun k (d : (ByteArray × Unit) × (Unit)) => (value_Read.f k d.1.1 : Option value_Read.R)⟩

/-! ### sheet_Rising : function 75 -/
abbrev sheet_Rising.R := (Bool × Unit) × (Unit)
mutual
noncomputable def sheet_Rising.l0 : Nat → (List Int) → Int → (List Int) → Int → Int → Option sheet_Rising.R
  | 0, _, _, _, _, _ => none
  | k + 1, x0, x1, x7, x8, x9 =>
    bif decide ((x9 : Int) < x8) then
      (rdo x7 x9).bind fun t1 =>
      bif decide ((t1 : Int) < 0) then
        some ((false, ()), (()))
      else
      bif decide ((t1 : Int) ≥ x1) then
        some ((false, ()), (()))
      else
      bif decide ((x9 : Int) > 0) then
        (rdo x0 (IntKind.wrap .i64 (x9 - 1))).bind fun t2 =>
        bif decide ((t2 : Int) ≥ t1) then
          some ((false, ()), (()))
        else
          sheet_Rising.l0 k x0 x1 x7 x8 (IntKind.wrap .i64 (x9 + 1))
      else
        sheet_Rising.l0 k x0 x1 x7 x8 (IntKind.wrap .i64 (x9 + 1))
    else
      some ((true, ()), (()))
noncomputable def sheet_Rising.f : Nat → (List Int) → Int → Option sheet_Rising.R
  | 0, _, _ => none
  | k + 1, x0, x1 =>
    sheet_Rising.l0 k x0 x1 x0 (x0.length : Int) 0
end
abbrev sheet_Rising.ini : LSh := ⟨[(0, .val (.sl (.int .i64))), (1, .val (.int .i64))], []⟩
abbrev sheet_Rising.out : LSh := ⟨[(0, .val .bool)], []⟩
abbrev sheet_Rising.l0s : LSh := ⟨[(0, .val (.sl (.int .i64))), (1, .val (.int .i64)), (7, .val (.sl (.int .i64))), (8, .val (.int .i64)), (9, .val (.int .i64))], []⟩
noncomputable def sheet_Rising.labF : Nat → Option (LabF sheet_Rising.out.den)
  | 4 => some ⟨sheet_Rising.l0s, fun k (d : (List Int × Int × List Int × Int × Int × Unit) × (Unit)) => (sheet_Rising.l0 k d.1.1 d.1.2.1 d.1.2.2.1 d.1.2.2.2.1 d.1.2.2.2.2.1 : Option sheet_Rising.R)⟩
  | _ => none
noncomputable def sheet_Rising.fd : FnD := ⟨Try.f75, sheet_Rising.ini, sheet_Rising.out, 1, [], [], sheet_Rising.labF, fun k (d : (List Int × Int × Unit) × (Unit)) => (sheet_Rising.f k d.1.1 d.1.2.1 : Option sheet_Rising.R)⟩

/-! ### pledge_Node : function 57 -/
abbrev pledge_Node.R := (ByteArray × Unit) × ((Unit × Unit × (ByteArray × ByteArray × Unit) × Bool × Bool × Int × Unit) × ((List (ByteArray × ByteArray)) × Unit) × Unit)
noncomputable def pledge_Node.f : Nat → ByteArray → ByteArray → (ByteArray × ByteArray × Unit) → Bool → Bool → Int → (List (ByteArray × ByteArray)) → (List (ByteArray × ByteArray)) → Option pledge_Node.R
  | 0, _, _, _, _, _, _, _, _ => none
  | k + 1, x1, x2, o0_2, o0_3, o0_4, o0_5, o1_0, o2_0 =>
    (ck (decide ((⟨#[1]⟩ : ByteArray).size + x1.size ≤ 9223372036854775807))).bind fun _ =>
    (ck (decide (((⟨#[1]⟩ : ByteArray) ++ x1).size + x2.size ≤ 9223372036854775807))).bind fun _ =>
    (mill_Mill_Sum.f k (((⟨#[1]⟩ : ByteArray) ++ x1) ++ x2) (o0_2.1, (o0_2.2.1, ())) o0_3 o0_4 o0_5 o1_0 o2_0).bind fun r1 =>
    some ((r1.1.1, ()), (((), (), (r1.2.1.2.2.1.1, (r1.2.1.2.2.1.2.1, ())), r1.2.1.2.2.2.1, r1.2.1.2.2.2.2.1, r1.2.1.2.2.2.2.2.1, ()), (r1.2.2.1.1, ()), ()))
abbrev pledge_Node.ini : LSh := ⟨[(0, .ptr 1000000 0), (1, .val .str), (2, .val .str)], [(1000000, 78, [.mref 1000001, .mref 1000002, .val (.cons .str (.cons .str .nil)), .val .bool, .val .bool, .val (.int .i64)]), (1000001, 75, [.mapd]), (1000002, 75, [.mapd])]⟩
abbrev pledge_Node.out : LSh := ⟨[(0, .val .str)], [(1000000, 78, [.mref 1000001, .mref 1000002, .val (.cons .str (.cons .str .nil)), .val .bool, .val .bool, .val (.int .i64)]), (1000002, 75, [.mapd])]⟩
noncomputable def pledge_Node.labF : Nat → Option (LabF pledge_Node.out.den)
  | _ => none
noncomputable def pledge_Node.fd : FnD := ⟨Try.f57, pledge_Node.ini, pledge_Node.out, 1, [1000000, 1000001, 1000002], [1000001], pledge_Node.labF, fun k (d : (Unit × ByteArray × ByteArray × Unit) × ((Unit × Unit × (ByteArray × ByteArray × Unit) × Bool × Bool × Int × Unit) × ((List (ByteArray × ByteArray)) × Unit) × ((List (ByteArray × ByteArray)) × Unit) × Unit)) => (pledge_Node.f k d.1.2.1 d.1.2.2.1 d.2.1.2.2.1 d.2.1.2.2.2.1 d.2.1.2.2.2.2.1 d.2.1.2.2.2.2.2.1 d.2.2.1.1 d.2.2.2.1.1 : Option pledge_Node.R)⟩

/-! ### sheet_picked : function 88 -/
abbrev sheet_picked.R := (Bool × Unit) × (Unit)
mutual
noncomputable def sheet_picked.l0 : Nat → Int → Int → (List Int) → Int → Int → Option sheet_picked.R
  | 0, _, _, _, _, _ => none
  | k + 1, x1, x2, x9, x10, x11 =>
    bif decide ((x11 : Int) < x10) then
      (rdo x9 x11).bind fun t1 =>
      bif decide ((t1 : Int) ≥ x1) then
        bif decide ((t1 : Int) < x2) then
          some ((true, ()), (()))
        else
          sheet_picked.l0 k x1 x2 x9 x10 (IntKind.wrap .i64 (x11 + 1))
      else
        sheet_picked.l0 k x1 x2 x9 x10 (IntKind.wrap .i64 (x11 + 1))
    else
      some ((false, ()), (()))
noncomputable def sheet_picked.f : Nat → (List Int) → Int → Int → Option sheet_picked.R
  | 0, _, _, _ => none
  | k + 1, x0, x1, x2 =>
    sheet_picked.l0 k x1 x2 x0 (x0.length : Int) 0
end
abbrev sheet_picked.ini : LSh := ⟨[(0, .val (.sl (.int .i64))), (1, .val (.int .i64)), (2, .val (.int .i64))], []⟩
abbrev sheet_picked.out : LSh := ⟨[(0, .val .bool)], []⟩
abbrev sheet_picked.l0s : LSh := ⟨[(1, .val (.int .i64)), (2, .val (.int .i64)), (9, .val (.sl (.int .i64))), (10, .val (.int .i64)), (11, .val (.int .i64))], []⟩
noncomputable def sheet_picked.labF : Nat → Option (LabF sheet_picked.out.den)
  | 4 => some ⟨sheet_picked.l0s, fun k (d : (Int × Int × List Int × Int × Int × Unit) × (Unit)) => (sheet_picked.l0 k d.1.1 d.1.2.1 d.1.2.2.1 d.1.2.2.2.1 d.1.2.2.2.2.1 : Option sheet_picked.R)⟩
  | _ => none
noncomputable def sheet_picked.fd : FnD := ⟨Try.f88, sheet_picked.ini, sheet_picked.out, 1, [], [], sheet_picked.labF, fun k (d : (List Int × Int × Int × Unit) × (Unit)) => (sheet_picked.f k d.1.1 d.1.2.1 d.1.2.2.1 : Option sheet_picked.R)⟩

/-! ### sheet_next_v1 : function 89 -/
abbrev sheet_next_v1.R := (ByteArray × Unit) × ((Unit × List Int × List ByteArray × List ByteArray × Bool × Unit) × Unit)
noncomputable def sheet_next_v1.f : Nat → (List Int) → (List ByteArray) → (List ByteArray) → Bool → (ByteArray × ByteArray × Unit) → Bool → Bool → Int → (List (ByteArray × ByteArray)) → (List (ByteArray × ByteArray)) → Option sheet_next_v1.R
  | 0, _, _, _, _, _, _, _, _, _, _ => none
  | k + 1, o0_1, o0_2, o0_3, o0_4, o1_2, o1_3, o1_4, o1_5, o2_0, o3_0 =>
    bif ((o0_3.length : Int) : Int) == 0 then
      some (((⟨#[]⟩ : ByteArray), ()), (((), o0_1, o0_2, o0_3, true, ()), ()))
    else
      (rdo o0_3 0).bind fun t1 =>
      (ck (decide (0 ≤ 1) && decide (1 ≤ (o0_3.length : Int)) && decide ((o0_3.length : Int) ≤ (o0_3.length : Int)))).bind fun _ =>
      some ((t1, ()), (((), o0_1, o0_2, (o0_3.take (o0_3.length : Int).toNat).drop (1 : Int).toNat, o0_4, ()), ()))
abbrev sheet_next_v1.ini : LSh := ⟨[(0, .ptr 1000000 3), (1, .ptr 1000000 4)], [(1000000, 133, [.ptr 1000001 0, .val (.sl (.int .i64)), .val (.sl .str), .val (.sl .str), .val .bool]), (1000001, 78, [.mref 1000002, .mref 1000003, .val (.cons .str (.cons .str .nil)), .val .bool, .val .bool, .val (.int .i64)]), (1000002, 75, [.mapd]), (1000003, 75, [.mapd])]⟩
abbrev sheet_next_v1.out : LSh := ⟨[(0, .val .str)], [(1000000, 133, [.ptr 1000001 0, .val (.sl (.int .i64)), .val (.sl .str), .val (.sl .str), .val .bool])]⟩
noncomputable def sheet_next_v1.labF : Nat → Option (LabF sheet_next_v1.out.den)
  | _ => none
noncomputable def sheet_next_v1.fd : FnD := ⟨Try.f89, sheet_next_v1.ini, sheet_next_v1.out, 1, [1000000, 1000001, 1000002, 1000003], [1000001, 1000002, 1000003], sheet_next_v1.labF, fun k (d : (Unit × Unit × Unit) × ((Unit × List Int × List ByteArray × List ByteArray × Bool × Unit) × (Unit × Unit × (ByteArray × ByteArray × Unit) × Bool × Bool × Int × Unit) × ((List (ByteArray × ByteArray)) × Unit) × ((List (ByteArray × ByteArray)) × Unit) × Unit)) => (sheet_next_v1.f k d.2.1.2.1 d.2.1.2.2.1 d.2.1.2.2.2.1 d.2.1.2.2.2.2.1 d.2.2.1.2.2.1 d.2.2.1.2.2.2.1 d.2.2.1.2.2.2.2.1 d.2.2.1.2.2.2.2.2.1 d.2.2.2.1.1 d.2.2.2.2.1.1 : Option sheet_next_v1.R)⟩

/-! ### sheet_next_v2 : function 89 -/
abbrev sheet_next_v2.R := (ByteArray × Unit) × ((Unit × List Int × List ByteArray × List ByteArray × Bool × Unit) × Unit)
noncomputable def sheet_next_v2.f : Nat → (List Int) → (List ByteArray) → (List ByteArray) → Bool → (ByteArray × ByteArray × Unit) → Bool → Bool → Int → (List (ByteArray × ByteArray)) → (List (ByteArray × ByteArray)) → Option sheet_next_v2.R
  | 0, _, _, _, _, _, _, _, _, _, _ => none
  | k + 1, o0_1, o0_2, o0_3, o0_4, o1_2, o1_3, o1_4, o1_5, o2_0, o3_0 =>
    bif ((o0_2.length : Int) : Int) == 0 then
      some (((⟨#[]⟩ : ByteArray), ()), (((), o0_1, o0_2, o0_3, true, ()), ()))
    else
      (rdo o0_2 0).bind fun t1 =>
      (ck (decide (0 ≤ 1) && decide (1 ≤ (o0_2.length : Int)) && decide ((o0_2.length : Int) ≤ (o0_2.length : Int)))).bind fun _ =>
      some ((t1, ()), (((), o0_1, (o0_2.take (o0_2.length : Int).toNat).drop (1 : Int).toNat, o0_3, o0_4, ()), ()))
abbrev sheet_next_v2.ini : LSh := ⟨[(0, .ptr 1000000 2), (1, .ptr 1000000 4)], [(1000000, 133, [.ptr 1000001 0, .val (.sl (.int .i64)), .val (.sl .str), .val (.sl .str), .val .bool]), (1000001, 78, [.mref 1000002, .mref 1000003, .val (.cons .str (.cons .str .nil)), .val .bool, .val .bool, .val (.int .i64)]), (1000002, 75, [.mapd]), (1000003, 75, [.mapd])]⟩
abbrev sheet_next_v2.out : LSh := ⟨[(0, .val .str)], [(1000000, 133, [.ptr 1000001 0, .val (.sl (.int .i64)), .val (.sl .str), .val (.sl .str), .val .bool])]⟩
noncomputable def sheet_next_v2.labF : Nat → Option (LabF sheet_next_v2.out.den)
  | _ => none
noncomputable def sheet_next_v2.fd : FnD := ⟨Try.f89, sheet_next_v2.ini, sheet_next_v2.out, 1, [1000000, 1000001, 1000002, 1000003], [1000001, 1000002, 1000003], sheet_next_v2.labF, fun k (d : (Unit × Unit × Unit) × ((Unit × List Int × List ByteArray × List ByteArray × Bool × Unit) × (Unit × Unit × (ByteArray × ByteArray × Unit) × Bool × Bool × Int × Unit) × ((List (ByteArray × ByteArray)) × Unit) × ((List (ByteArray × ByteArray)) × Unit) × Unit)) => (sheet_next_v2.f k d.2.1.2.1 d.2.1.2.2.1 d.2.1.2.2.2.1 d.2.1.2.2.2.2.1 d.2.2.1.2.2.1 d.2.2.1.2.2.2.1 d.2.2.1.2.2.2.2.1 d.2.2.1.2.2.2.2.2.1 d.2.2.2.1.1 d.2.2.2.2.1.1 : Option sheet_next_v2.R)⟩

/-! ### sheet_split : function 90 -/
abbrev sheet_split.R := (Int × Unit) × (Unit)
mutual
noncomputable def sheet_split.l0 : Nat → Int → Int → Option sheet_split.R
  | 0, _, _ => none
  | k + 1, x0, x3 =>
    bif decide ((IntKind.wrap .i64 (2 * x3) : Int) < x0) then
      sheet_split.l0 k x0 (IntKind.wrap .i64 (x3 * 2))
    else
      some ((x3, ()), (()))
noncomputable def sheet_split.f : Nat → Int → Option sheet_split.R
  | 0, _ => none
  | k + 1, x0 =>
    sheet_split.l0 k x0 1
end
abbrev sheet_split.ini : LSh := ⟨[(0, .val (.int .i64))], []⟩
abbrev sheet_split.out : LSh := ⟨[(0, .val (.int .i64))], []⟩
abbrev sheet_split.l0s : LSh := ⟨[(0, .val (.int .i64)), (3, .val (.int .i64))], []⟩
noncomputable def sheet_split.labF : Nat → Option (LabF sheet_split.out.den)
  | 4 => some ⟨sheet_split.l0s, fun k (d : (Int × Int × Unit) × (Unit)) => (sheet_split.l0 k d.1.1 d.1.2.1 : Option sheet_split.R)⟩
  | _ => none
noncomputable def sheet_split.fd : FnD := ⟨Try.f90, sheet_split.ini, sheet_split.out, 1, [], [], sheet_split.labF, fun k (d : (Int × Unit) × (Unit)) => (sheet_split.f k d.1.1 : Option sheet_split.R)⟩

/-! ### sheet_walker_root : function 76 -/
abbrev sheet_walker_root.R := (ByteArray × Unit) × ((Unit × List Int × List ByteArray × List ByteArray × Bool × Unit) × (Unit × Unit × (ByteArray × ByteArray × Unit) × Bool × Bool × Int × Unit) × ((List (ByteArray × ByteArray)) × Unit) × Unit)
noncomputable def sheet_walker_root.f : Nat → Int → Int → (List Int) → (List ByteArray) → (List ByteArray) → Bool → (ByteArray × ByteArray × Unit) → Bool → Bool → Int → (List (ByteArray × ByteArray)) → (List (ByteArray × ByteArray)) → Option sheet_walker_root.R
  | 0, _, _, _, _, _, _, _, _, _, _, _, _ => none
  | k + 1, x1, x2, o0_1, o0_2, o0_3, o0_4, o1_2, o1_3, o1_4, o1_5, o2_0, o3_0 =>
    bif o0_4 then
      some (((⟨#[]⟩ : ByteArray), ()), (((), o0_1, o0_2, o0_3, o0_4, ()), ((), (), (o1_2.1, (o1_2.2.1, ())), o1_3, o1_4, o1_5, ()), (o3_0, ()), ()))
    else
      (sheet_picked.f k o0_1 x1 (IntKind.wrap .i64 (x1 + x2))).bind fun r1 =>
      bif !r1.1.1 then
        (sheet_next_v1.f k o0_1 o0_2 o0_3 o0_4 (o1_2.1, (o1_2.2.1, ())) o1_3 o1_4 o1_5 o2_0 o3_0).bind fun r2 =>
        some ((r2.1.1, ()), (((), r2.2.1.2.1, r2.2.1.2.2.1, r2.2.1.2.2.2.1, r2.2.1.2.2.2.2.1, ()), ((), (), (o1_2.1, (o1_2.2.1, ())), o1_3, o1_4, o1_5, ()), (o3_0, ()), ()))
      else
      bif (x2 : Int) == 1 then
        (sheet_next_v2.f k o0_1 o0_2 o0_3 o0_4 (o1_2.1, (o1_2.2.1, ())) o1_3 o1_4 o1_5 o2_0 o3_0).bind fun r3 =>
        some ((r3.1.1, ()), (((), r3.2.1.2.1, r3.2.1.2.2.1, r3.2.1.2.2.2.1, r3.2.1.2.2.2.2.1, ()), ((), (), (o1_2.1, (o1_2.2.1, ())), o1_3, o1_4, o1_5, ()), (o3_0, ()), ()))
      else
        (sheet_split.f k x2).bind fun r4 =>
        (sheet_walker_root.f k x1 r4.1.1 o0_1 o0_2 o0_3 o0_4 (o1_2.1, (o1_2.2.1, ())) o1_3 o1_4 o1_5 o2_0 o3_0).bind fun r5 =>
        (sheet_walker_root.f k (IntKind.wrap .i64 (x1 + r4.1.1)) (IntKind.wrap .i64 (x2 - r4.1.1)) r5.2.1.2.1 r5.2.1.2.2.1 r5.2.1.2.2.2.1 r5.2.1.2.2.2.2.1 (r5.2.2.1.2.2.1.1, (r5.2.2.1.2.2.1.2.1, ())) r5.2.2.1.2.2.2.1 r5.2.2.1.2.2.2.2.1 r5.2.2.1.2.2.2.2.2.1 o2_0 r5.2.2.2.1.1).bind fun r6 =>
        (pledge_Node.f k r5.1.1 r6.1.1 (r6.2.2.1.2.2.1.1, (r6.2.2.1.2.2.1.2.1, ())) r6.2.2.1.2.2.2.1 r6.2.2.1.2.2.2.2.1 r6.2.2.1.2.2.2.2.2.1 o2_0 r6.2.2.2.1.1).bind fun r7 =>
        some ((r7.1.1, ()), (((), r6.2.1.2.1, r6.2.1.2.2.1, r6.2.1.2.2.2.1, r6.2.1.2.2.2.2.1, ()), ((), (), (r7.2.1.2.2.1.1, (r7.2.1.2.2.1.2.1, ())), r7.2.1.2.2.2.1, r7.2.1.2.2.2.2.1, r7.2.1.2.2.2.2.2.1, ()), (r7.2.2.1.1, ()), ()))
abbrev sheet_walker_root.ini : LSh := ⟨[(0, .ptr 1000000 0), (1, .val (.int .i64)), (2, .val (.int .i64))], [(1000000, 133, [.ptr 1000001 0, .val (.sl (.int .i64)), .val (.sl .str), .val (.sl .str), .val .bool]), (1000001, 78, [.mref 1000002, .mref 1000003, .val (.cons .str (.cons .str .nil)), .val .bool, .val .bool, .val (.int .i64)]), (1000002, 75, [.mapd]), (1000003, 75, [.mapd])]⟩
abbrev sheet_walker_root.out : LSh := ⟨[(0, .val .str)], [(1000000, 133, [.ptr 1000001 0, .val (.sl (.int .i64)), .val (.sl .str), .val (.sl .str), .val .bool]), (1000001, 78, [.mref 1000002, .mref 1000003, .val (.cons .str (.cons .str .nil)), .val .bool, .val .bool, .val (.int .i64)]), (1000003, 75, [.mapd])]⟩
noncomputable def sheet_walker_root.labF : Nat → Option (LabF sheet_walker_root.out.den)
  | _ => none
noncomputable def sheet_walker_root.fd : FnD := ⟨Try.f76, sheet_walker_root.ini, sheet_walker_root.out, 1, [1000000, 1000001, 1000002, 1000003], [1000002], sheet_walker_root.labF, fun k (d : (Unit × Int × Int × Unit) × ((Unit × List Int × List ByteArray × List ByteArray × Bool × Unit) × (Unit × Unit × (ByteArray × ByteArray × Unit) × Bool × Bool × Int × Unit) × ((List (ByteArray × ByteArray)) × Unit) × ((List (ByteArray × ByteArray)) × Unit) × Unit)) => (sheet_walker_root.f k d.1.2.1 d.1.2.2.1 d.2.1.2.1 d.2.1.2.2.1 d.2.1.2.2.2.1 d.2.1.2.2.2.2.1 d.2.2.1.2.2.1 d.2.2.1.2.2.2.1 d.2.2.1.2.2.2.2.1 d.2.2.1.2.2.2.2.2.1 d.2.2.2.1.1 d.2.2.2.2.1.1 : Option sheet_walker_root.R)⟩

/-! ### sheet_Rebuild : function 42 -/
abbrev sheet_Rebuild.R := (ByteArray × Int × Unit) × ((Unit × Unit × (ByteArray × ByteArray × Unit) × Bool × Bool × Int × Unit) × ((List (ByteArray × ByteArray)) × Unit) × Unit)
mutual
noncomputable def sheet_Rebuild.j0 : Nat → Int → (List Int) → (List ByteArray) → (List ByteArray) → (ByteArray × ByteArray × Unit) → Bool → Bool → Int → (List (ByteArray × ByteArray)) → (List (ByteArray × ByteArray)) → Option sheet_Rebuild.R
  | 0, _, _, _, _, _, _, _, _, _, _ => none
  | k + 1, x1, x2, x3, x4, o0_2, o0_3, o0_4, o0_5, o1_0, o2_0 =>
    sheet_Rebuild.l0 k x1 x2 x3 x4 x4 (x4.length : Int) 0 (o0_2.1, (o0_2.2.1, ())) o0_3 o0_4 o0_5 o1_0 o2_0
noncomputable def sheet_Rebuild.l0 : Nat → Int → (List Int) → (List ByteArray) → (List ByteArray) → (List ByteArray) → Int → Int → (ByteArray × ByteArray × Unit) → Bool → Bool → Int → (List (ByteArray × ByteArray)) → (List (ByteArray × ByteArray)) → Option sheet_Rebuild.R
  | 0, _, _, _, _, _, _, _, _, _, _, _, _, _ => none
  | k + 1, x1, x2, x3, x4, x40, x41, x42, o0_2, o0_3, o0_4, o0_5, o1_0, o2_0 =>
    bif decide ((x42 : Int) < x41) then
      (rdo x40 x42).bind fun t2 =>
      bif ((t2.size : Int) : Int) != 32 then
        some (((⟨#[]⟩ : ByteArray), 20, ()), (((), (), (o0_2.1, (o0_2.2.1, ())), o0_3, o0_4, o0_5, ()), (o2_0, ()), ()))
      else
        sheet_Rebuild.l0 k x1 x2 x3 x4 x40 x41 (IntKind.wrap .i64 (x42 + 1)) (o0_2.1, (o0_2.2.1, ())) o0_3 o0_4 o0_5 o1_0 o2_0
    else
      (sheet_walker_root.f k 0 x1 x2 x3 x4 false (o0_2.1, (o0_2.2.1, ())) o0_3 o0_4 o0_5 o1_0 o2_0).bind fun r3 =>
      bif r3.2.1.2.2.2.2.1 then
        some (((⟨#[]⟩ : ByteArray), 20, ()), (((), (), (r3.2.2.1.2.2.1.1, (r3.2.2.1.2.2.1.2.1, ())), r3.2.2.1.2.2.2.1, r3.2.2.1.2.2.2.2.1, r3.2.2.1.2.2.2.2.2.1, ()), (r3.2.2.2.1.1, ()), ()))
      else
      bif decide (((r3.2.1.2.2.2.1.length : Int) : Int) > 0) then
        some (((⟨#[]⟩ : ByteArray), 20, ()), (((), (), (r3.2.2.1.2.2.1.1, (r3.2.2.1.2.2.1.2.1, ())), r3.2.2.1.2.2.2.1, r3.2.2.1.2.2.2.2.1, r3.2.2.1.2.2.2.2.2.1, ()), (r3.2.2.2.1.1, ()), ()))
      else
        some ((r3.1.1, 0, ()), (((), (), (r3.2.2.1.2.2.1.1, (r3.2.2.1.2.2.1.2.1, ())), r3.2.2.1.2.2.2.1, r3.2.2.1.2.2.2.2.1, r3.2.2.1.2.2.2.2.2.1, ()), (r3.2.2.2.1.1, ()), ()))
noncomputable def sheet_Rebuild.f : Nat → Int → (List Int) → (List ByteArray) → (List ByteArray) → (ByteArray × ByteArray × Unit) → Bool → Bool → Int → (List (ByteArray × ByteArray)) → (List (ByteArray × ByteArray)) → Option sheet_Rebuild.R
  | 0, _, _, _, _, _, _, _, _, _, _ => none
  | k + 1, x1, x2, x3, x4, o0_2, o0_3, o0_4, o0_5, o1_0, o2_0 =>
    bif decide ((x1 : Int) < 1) then
      some (((⟨#[]⟩ : ByteArray), 21, ()), (((), (), (o0_2.1, (o0_2.2.1, ())), o0_3, o0_4, o0_5, ()), (o2_0, ()), ()))
    else
    bif decide ((x1 : Int) > 12) then
      some (((⟨#[]⟩ : ByteArray), 21, ()), (((), (), (o0_2.1, (o0_2.2.1, ())), o0_3, o0_4, o0_5, ()), (o2_0, ()), ()))
    else
    bif ((x2.length : Int) : Int) == 0 then
      some (((⟨#[]⟩ : ByteArray), 21, ()), (((), (), (o0_2.1, (o0_2.2.1, ())), o0_3, o0_4, o0_5, ()), (o2_0, ()), ()))
    else
    bif ((x2.length : Int) : Int) != (x3.length : Int) then
      some (((⟨#[]⟩ : ByteArray), 21, ()), (((), (), (o0_2.1, (o0_2.2.1, ())), o0_3, o0_4, o0_5, ()), (o2_0, ()), ()))
    else
      (sheet_Rising.f k x2 x1).bind fun r1 =>
      bif !r1.1.1 then
        some (((⟨#[]⟩ : ByteArray), 21, ()), (((), (), (o0_2.1, (o0_2.2.1, ())), o0_3, o0_4, o0_5, ()), (o2_0, ()), ()))
      else
        sheet_Rebuild.j0 k x1 x2 x3 x4 (o0_2.1, (o0_2.2.1, ())) o0_3 o0_4 o0_5 o1_0 o2_0
end
abbrev sheet_Rebuild.ini : LSh := ⟨[(0, .ptr 1000000 0), (1, .val (.int .i64)), (2, .val (.sl (.int .i64))), (3, .val (.sl .str)), (4, .val (.sl .str))], [(1000000, 78, [.mref 1000001, .mref 1000002, .val (.cons .str (.cons .str .nil)), .val .bool, .val .bool, .val (.int .i64)]), (1000001, 75, [.mapd]), (1000002, 75, [.mapd])]⟩
abbrev sheet_Rebuild.out : LSh := ⟨[(0, .val .str), (1, .val (.int .i64))], [(1000000, 78, [.mref 1000001, .mref 1000002, .val (.cons .str (.cons .str .nil)), .val .bool, .val .bool, .val (.int .i64)]), (1000002, 75, [.mapd])]⟩
abbrev sheet_Rebuild.j0s : LSh := ⟨[(0, .ptr 1000000 0), (1, .val (.int .i64)), (2, .val (.sl (.int .i64))), (3, .val (.sl .str)), (4, .val (.sl .str))], [(1000000, 78, [.mref 1000001, .mref 1000002, .val (.cons .str (.cons .str .nil)), .val .bool, .val .bool, .val (.int .i64)]), (1000001, 75, [.mapd]), (1000002, 75, [.mapd])]⟩
abbrev sheet_Rebuild.l0s : LSh := ⟨[(0, .ptr 1000000 0), (1, .val (.int .i64)), (2, .val (.sl (.int .i64))), (3, .val (.sl .str)), (4, .val (.sl .str)), (40, .val (.sl .str)), (41, .val (.int .i64)), (42, .val (.int .i64))], [(1000000, 78, [.mref 1000001, .mref 1000002, .val (.cons .str (.cons .str .nil)), .val .bool, .val .bool, .val (.int .i64)]), (1000001, 75, [.mapd]), (1000002, 75, [.mapd])]⟩
noncomputable def sheet_Rebuild.labF : Nat → Option (LabF sheet_Rebuild.out.den)
  | 7 => some ⟨sheet_Rebuild.j0s, fun k (d : (Unit × Int × List Int × List ByteArray × List ByteArray × Unit) × ((Unit × Unit × (ByteArray × ByteArray × Unit) × Bool × Bool × Int × Unit) × ((List (ByteArray × ByteArray)) × Unit) × ((List (ByteArray × ByteArray)) × Unit) × Unit)) => (sheet_Rebuild.j0 k d.1.2.1 d.1.2.2.1 d.1.2.2.2.1 d.1.2.2.2.2.1 d.2.1.2.2.1 d.2.1.2.2.2.1 d.2.1.2.2.2.2.1 d.2.1.2.2.2.2.2.1 d.2.2.1.1 d.2.2.2.1.1 : Option sheet_Rebuild.R)⟩
  | 8 => some ⟨sheet_Rebuild.l0s, fun k (d : (Unit × Int × List Int × List ByteArray × List ByteArray × List ByteArray × Int × Int × Unit) × ((Unit × Unit × (ByteArray × ByteArray × Unit) × Bool × Bool × Int × Unit) × ((List (ByteArray × ByteArray)) × Unit) × ((List (ByteArray × ByteArray)) × Unit) × Unit)) => (sheet_Rebuild.l0 k d.1.2.1 d.1.2.2.1 d.1.2.2.2.1 d.1.2.2.2.2.1 d.1.2.2.2.2.2.1 d.1.2.2.2.2.2.2.1 d.1.2.2.2.2.2.2.2.1 d.2.1.2.2.1 d.2.1.2.2.2.1 d.2.1.2.2.2.2.1 d.2.1.2.2.2.2.2.1 d.2.2.1.1 d.2.2.2.1.1 : Option sheet_Rebuild.R)⟩
  | _ => none
noncomputable def sheet_Rebuild.fd : FnD := ⟨Try.f42, sheet_Rebuild.ini, sheet_Rebuild.out, 2, [1000000, 1000001, 1000002], [1000001], sheet_Rebuild.labF, fun k (d : (Unit × Int × List Int × List ByteArray × List ByteArray × Unit) × ((Unit × Unit × (ByteArray × ByteArray × Unit) × Bool × Bool × Int × Unit) × ((List (ByteArray × ByteArray)) × Unit) × ((List (ByteArray × ByteArray)) × Unit) × Unit)) => (sheet_Rebuild.f k d.1.2.1 d.1.2.2.1 d.1.2.2.2.1 d.1.2.2.2.2.1 d.2.1.2.2.1 d.2.1.2.2.2.1 d.2.1.2.2.2.2.1 d.2.1.2.2.2.2.2.1 d.2.2.1.1 d.2.2.2.1.1 : Option sheet_Rebuild.R)⟩

/-! ### merkle_sums : function 60 -/
abbrev merkle_sums.R := (Bool × Unit) × (Unit)
mutual
noncomputable def merkle_sums.l0 : Nat → (List ByteArray) → Int → Int → Option merkle_sums.R
  | 0, _, _, _ => none
  | k + 1, x5, x6, x7 =>
    bif decide ((x7 : Int) < x6) then
      (rdo x5 x7).bind fun t1 =>
      bif ((t1.size : Int) : Int) != 32 then
        some ((false, ()), (()))
      else
        merkle_sums.l0 k x5 x6 (IntKind.wrap .i64 (x7 + 1))
    else
      some ((true, ()), (()))
noncomputable def merkle_sums.f : Nat → (List ByteArray) → Option merkle_sums.R
  | 0, _ => none
  | k + 1, x0 =>
    merkle_sums.l0 k x0 (x0.length : Int) 0
end
abbrev merkle_sums.ini : LSh := ⟨[(0, .val (.sl .str))], []⟩
abbrev merkle_sums.out : LSh := ⟨[(0, .val .bool)], []⟩
abbrev merkle_sums.l0s : LSh := ⟨[(5, .val (.sl .str)), (6, .val (.int .i64)), (7, .val (.int .i64))], []⟩
noncomputable def merkle_sums.labF : Nat → Option (LabF merkle_sums.out.den)
  | 4 => some ⟨merkle_sums.l0s, fun k (d : (List ByteArray × Int × Int × Unit) × (Unit)) => (merkle_sums.l0 k d.1.1 d.1.2.1 d.1.2.2.1 : Option merkle_sums.R)⟩
  | _ => none
noncomputable def merkle_sums.fd : FnD := ⟨Try.f60, merkle_sums.ini, merkle_sums.out, 1, [], [], merkle_sums.labF, fun k (d : (List ByteArray × Unit) × (Unit)) => (merkle_sums.f k d.1.1 : Option merkle_sums.R)⟩

/-! ### merkle_split : function 56 -/
abbrev merkle_split.R := (Int × Unit) × (Unit)
mutual
noncomputable def merkle_split.l0 : Nat → Int → Int → Option merkle_split.R
  | 0, _, _ => none
  | k + 1, x0, x3 =>
    bif decide ((x3 : Int) < IntKind.wrap .i64 (x0 - x3)) then
      merkle_split.l0 k x0 (IntKind.wrap .i64 (x3 * 2))
    else
      some ((x3, ()), (()))
noncomputable def merkle_split.f : Nat → Int → Option merkle_split.R
  | 0, _ => none
  | k + 1, x0 =>
    merkle_split.l0 k x0 1
end
abbrev merkle_split.ini : LSh := ⟨[(0, .val (.int .i64))], []⟩
abbrev merkle_split.out : LSh := ⟨[(0, .val (.int .i64))], []⟩
abbrev merkle_split.l0s : LSh := ⟨[(0, .val (.int .i64)), (3, .val (.int .i64))], []⟩
noncomputable def merkle_split.labF : Nat → Option (LabF merkle_split.out.den)
  | 4 => some ⟨merkle_split.l0s, fun k (d : (Int × Int × Unit) × (Unit)) => (merkle_split.l0 k d.1.1 d.1.2.1 : Option merkle_split.R)⟩
  | _ => none
noncomputable def merkle_split.fd : FnD := ⟨Try.f56, merkle_split.ini, merkle_split.out, 1, [], [], merkle_split.labF, fun k (d : (Int × Unit) × (Unit)) => (merkle_split.f k d.1.1 : Option merkle_split.R)⟩

/-! ### merkle_climb : function 77 -/
abbrev merkle_climb.R := (ByteArray × Bool × Unit) × ((Unit × Unit × (ByteArray × ByteArray × Unit) × Bool × Bool × Int × Unit) × ((List (ByteArray × ByteArray)) × Unit) × Unit)
noncomputable def merkle_climb.f : Nat → ByteArray → Int → Int → (List ByteArray) → (ByteArray × ByteArray × Unit) → Bool → Bool → Int → (List (ByteArray × ByteArray)) → (List (ByteArray × ByteArray)) → Option merkle_climb.R
  | 0, _, _, _, _, _, _, _, _, _, _ => none
  | k + 1, x1, x2, x3, x4, o0_2, o0_3, o0_4, o0_5, o1_0, o2_0 =>
    bif (x3 : Int) == 1 then
      some ((x1, ((x4.length : Int) : Int) == 0, ()), (((), (), (o0_2.1, (o0_2.2.1, ())), o0_3, o0_4, o0_5, ()), (o2_0, ()), ()))
    else
    bif ((x4.length : Int) : Int) == 0 then
      some (((⟨#[]⟩ : ByteArray), false, ()), (((), (), (o0_2.1, (o0_2.2.1, ())), o0_3, o0_4, o0_5, ()), (o2_0, ()), ()))
    else
      (merkle_split.f k x3).bind fun r1 =>
      (rdo x4 (IntKind.wrap .i64 ((x4.length : Int) - 1))).bind fun t2 =>
      (ck (decide (0 ≤ 0) && decide (0 ≤ IntKind.wrap .i64 ((x4.length : Int) - 1)) && decide (IntKind.wrap .i64 ((x4.length : Int) - 1) ≤ (x4.length : Int)))).bind fun _ =>
      bif decide ((x2 : Int) < r1.1.1) then
        (merkle_climb.f k x1 x2 r1.1.1 ((x4.take (IntKind.wrap .i64 ((x4.length : Int) - 1) : Int).toNat).drop (0 : Int).toNat) (o0_2.1, (o0_2.2.1, ())) o0_3 o0_4 o0_5 o1_0 o2_0).bind fun r3 =>
        (pledge_Node.f k r3.1.1 t2 (r3.2.1.2.2.1.1, (r3.2.1.2.2.1.2.1, ())) r3.2.1.2.2.2.1 r3.2.1.2.2.2.2.1 r3.2.1.2.2.2.2.2.1 o1_0 r3.2.2.1.1).bind fun r4 =>
        some ((r4.1.1, r3.1.2.1, ()), (((), (), (r4.2.1.2.2.1.1, (r4.2.1.2.2.1.2.1, ())), r4.2.1.2.2.2.1, r4.2.1.2.2.2.2.1, r4.2.1.2.2.2.2.2.1, ()), (r4.2.2.1.1, ()), ()))
      else
        (merkle_climb.f k x1 (IntKind.wrap .i64 (x2 - r1.1.1)) (IntKind.wrap .i64 (x3 - r1.1.1)) ((x4.take (IntKind.wrap .i64 ((x4.length : Int) - 1) : Int).toNat).drop (0 : Int).toNat) (o0_2.1, (o0_2.2.1, ())) o0_3 o0_4 o0_5 o1_0 o2_0).bind fun r5 =>
        (pledge_Node.f k t2 r5.1.1 (r5.2.1.2.2.1.1, (r5.2.1.2.2.1.2.1, ())) r5.2.1.2.2.2.1 r5.2.1.2.2.2.2.1 r5.2.1.2.2.2.2.2.1 o1_0 r5.2.2.1.1).bind fun r6 =>
        some ((r6.1.1, r5.1.2.1, ()), (((), (), (r6.2.1.2.2.1.1, (r6.2.1.2.2.1.2.1, ())), r6.2.1.2.2.2.1, r6.2.1.2.2.2.2.1, r6.2.1.2.2.2.2.2.1, ()), (r6.2.2.1.1, ()), ()))
abbrev merkle_climb.ini : LSh := ⟨[(0, .ptr 1000000 0), (1, .val .str), (2, .val (.int .i64)), (3, .val (.int .i64)), (4, .val (.sl .str))], [(1000000, 78, [.mref 1000001, .mref 1000002, .val (.cons .str (.cons .str .nil)), .val .bool, .val .bool, .val (.int .i64)]), (1000001, 75, [.mapd]), (1000002, 75, [.mapd])]⟩
abbrev merkle_climb.out : LSh := ⟨[(0, .val .str), (1, .val .bool)], [(1000000, 78, [.mref 1000001, .mref 1000002, .val (.cons .str (.cons .str .nil)), .val .bool, .val .bool, .val (.int .i64)]), (1000002, 75, [.mapd])]⟩
noncomputable def merkle_climb.labF : Nat → Option (LabF merkle_climb.out.den)
  | _ => none
noncomputable def merkle_climb.fd : FnD := ⟨Try.f77, merkle_climb.ini, merkle_climb.out, 2, [1000000, 1000001, 1000002], [1000001], merkle_climb.labF, fun k (d : (Unit × ByteArray × Int × Int × List ByteArray × Unit) × ((Unit × Unit × (ByteArray × ByteArray × Unit) × Bool × Bool × Int × Unit) × ((List (ByteArray × ByteArray)) × Unit) × ((List (ByteArray × ByteArray)) × Unit) × Unit)) => (merkle_climb.f k d.1.2.1 d.1.2.2.1 d.1.2.2.2.1 d.1.2.2.2.2.1 d.2.1.2.2.1 d.2.1.2.2.2.1 d.2.1.2.2.2.2.1 d.2.1.2.2.2.2.2.1 d.2.2.1.1 d.2.2.2.1.1 : Option merkle_climb.R)⟩

/-! ### merkle_Climb : function 43 -/
abbrev merkle_Climb.R := (ByteArray × Int × Unit) × ((Unit × Unit × (ByteArray × ByteArray × Unit) × Bool × Bool × Int × Unit) × ((List (ByteArray × ByteArray)) × Unit) × Unit)
mutual
noncomputable def merkle_Climb.j0 : Nat → ByteArray → Int → Int → (List ByteArray) → (ByteArray × ByteArray × Unit) → Bool → Bool → Int → (List (ByteArray × ByteArray)) → (List (ByteArray × ByteArray)) → Option merkle_Climb.R
  | 0, _, _, _, _, _, _, _, _, _, _ => none
  | k + 1, x1, x2, x3, x4, o0_2, o0_3, o0_4, o0_5, o1_0, o2_0 =>
    (merkle_climb.f k x1 x2 x3 x4 (o0_2.1, (o0_2.2.1, ())) o0_3 o0_4 o0_5 o1_0 o2_0).bind fun r3 =>
    bif !r3.1.2.1 then
      some (((⟨#[]⟩ : ByteArray), 20, ()), (((), (), (r3.2.1.2.2.1.1, (r3.2.1.2.2.1.2.1, ())), r3.2.1.2.2.2.1, r3.2.1.2.2.2.2.1, r3.2.1.2.2.2.2.2.1, ()), (r3.2.2.1.1, ()), ()))
    else
      some ((r3.1.1, 0, ()), (((), (), (r3.2.1.2.2.1.1, (r3.2.1.2.2.1.2.1, ())), r3.2.1.2.2.2.1, r3.2.1.2.2.2.2.1, r3.2.1.2.2.2.2.2.1, ()), (r3.2.2.1.1, ()), ()))
noncomputable def merkle_Climb.f : Nat → ByteArray → Int → Int → (List ByteArray) → (ByteArray × ByteArray × Unit) → Bool → Bool → Int → (List (ByteArray × ByteArray)) → (List (ByteArray × ByteArray)) → Option merkle_Climb.R
  | 0, _, _, _, _, _, _, _, _, _, _ => none
  | k + 1, x1, x2, x3, x4, o0_2, o0_3, o0_4, o0_5, o1_0, o2_0 =>
    bif decide ((x3 : Int) < 1) then
      some (((⟨#[]⟩ : ByteArray), 21, ()), (((), (), (o0_2.1, (o0_2.2.1, ())), o0_3, o0_4, o0_5, ()), (o2_0, ()), ()))
    else
    bif decide ((x3 : Int) > 65536) then
      some (((⟨#[]⟩ : ByteArray), 21, ()), (((), (), (o0_2.1, (o0_2.2.1, ())), o0_3, o0_4, o0_5, ()), (o2_0, ()), ()))
    else
    bif decide ((x2 : Int) < 0) then
      some (((⟨#[]⟩ : ByteArray), 21, ()), (((), (), (o0_2.1, (o0_2.2.1, ())), o0_3, o0_4, o0_5, ()), (o2_0, ()), ()))
    else
    bif decide ((x2 : Int) ≥ x3) then
      some (((⟨#[]⟩ : ByteArray), 21, ()), (((), (), (o0_2.1, (o0_2.2.1, ())), o0_3, o0_4, o0_5, ()), (o2_0, ()), ()))
    else
    bif decide (((x4.length : Int) : Int) > 16) then
      some (((⟨#[]⟩ : ByteArray), 20, ()), (((), (), (o0_2.1, (o0_2.2.1, ())), o0_3, o0_4, o0_5, ()), (o2_0, ()), ()))
    else
      (merkle_sums.f k ([x1] : List ByteArray)).bind fun r1 =>
      bif !r1.1.1 then
        some (((⟨#[]⟩ : ByteArray), 20, ()), (((), (), (o0_2.1, (o0_2.2.1, ())), o0_3, o0_4, o0_5, ()), (o2_0, ()), ()))
      else
        (merkle_sums.f k x4).bind fun r2 =>
        bif !r2.1.1 then
          some (((⟨#[]⟩ : ByteArray), 20, ()), (((), (), (o0_2.1, (o0_2.2.1, ())), o0_3, o0_4, o0_5, ()), (o2_0, ()), ()))
        else
          merkle_Climb.j0 k x1 x2 x3 x4 (o0_2.1, (o0_2.2.1, ())) o0_3 o0_4 o0_5 o1_0 o2_0
end
abbrev merkle_Climb.ini : LSh := ⟨[(0, .ptr 1000000 0), (1, .val .str), (2, .val (.int .i64)), (3, .val (.int .i64)), (4, .val (.sl .str))], [(1000000, 78, [.mref 1000001, .mref 1000002, .val (.cons .str (.cons .str .nil)), .val .bool, .val .bool, .val (.int .i64)]), (1000001, 75, [.mapd]), (1000002, 75, [.mapd])]⟩
abbrev merkle_Climb.out : LSh := ⟨[(0, .val .str), (1, .val (.int .i64))], [(1000000, 78, [.mref 1000001, .mref 1000002, .val (.cons .str (.cons .str .nil)), .val .bool, .val .bool, .val (.int .i64)]), (1000002, 75, [.mapd])]⟩
abbrev merkle_Climb.j0s : LSh := ⟨[(0, .ptr 1000000 0), (1, .val .str), (2, .val (.int .i64)), (3, .val (.int .i64)), (4, .val (.sl .str))], [(1000000, 78, [.mref 1000001, .mref 1000002, .val (.cons .str (.cons .str .nil)), .val .bool, .val .bool, .val (.int .i64)]), (1000001, 75, [.mapd]), (1000002, 75, [.mapd])]⟩
noncomputable def merkle_Climb.labF : Nat → Option (LabF merkle_Climb.out.den)
  | 11 => some ⟨merkle_Climb.j0s, fun k (d : (Unit × ByteArray × Int × Int × List ByteArray × Unit) × ((Unit × Unit × (ByteArray × ByteArray × Unit) × Bool × Bool × Int × Unit) × ((List (ByteArray × ByteArray)) × Unit) × ((List (ByteArray × ByteArray)) × Unit) × Unit)) => (merkle_Climb.j0 k d.1.2.1 d.1.2.2.1 d.1.2.2.2.1 d.1.2.2.2.2.1 d.2.1.2.2.1 d.2.1.2.2.2.1 d.2.1.2.2.2.2.1 d.2.1.2.2.2.2.2.1 d.2.2.1.1 d.2.2.2.1.1 : Option merkle_Climb.R)⟩
  | _ => none
noncomputable def merkle_Climb.fd : FnD := ⟨Try.f43, merkle_Climb.ini, merkle_Climb.out, 2, [1000000, 1000001, 1000002], [1000001], merkle_Climb.labF, fun k (d : (Unit × ByteArray × Int × Int × List ByteArray × Unit) × ((Unit × Unit × (ByteArray × ByteArray × Unit) × Bool × Bool × Int × Unit) × ((List (ByteArray × ByteArray)) × Unit) × ((List (ByteArray × ByteArray)) × Unit) × Unit)) => (merkle_Climb.f k d.1.2.1 d.1.2.2.1 d.1.2.2.2.1 d.1.2.2.2.2.1 d.2.1.2.2.1 d.2.1.2.2.2.1 d.2.1.2.2.2.2.1 d.2.1.2.2.2.2.2.1 d.2.2.1.1 d.2.2.2.1.1 : Option merkle_Climb.R)⟩

/-! ### auditor_Check : function 11 -/
abbrev auditor_Check.R := ((List (ByteArray × Int × Int × ByteArray × Bool × (Int × Bool × Int × Int × ByteArray × Unit) × Unit)) × Int × Unit) × ((Unit × Unit × (ByteArray × ByteArray × Unit) × Bool × Bool × Int × Unit) × ((List (ByteArray × ByteArray)) × Unit) × Unit)
mutual
noncomputable def auditor_Check.l0 : Nat → (List (ByteArray × Int × Int × ByteArray × Bool × (Int × Bool × Int × Int × ByteArray × Unit) × Unit)) → (List Int) → (List ByteArray) → (List (Int × ByteArray × Bool × ByteArray × ByteArray × ByteArray × Unit)) → Int → Int → (ByteArray × ByteArray × Unit) → Bool → Bool → Int → (List (ByteArray × ByteArray)) → (List (ByteArray × ByteArray)) → Int → ByteArray → ByteArray → Int → Int → Int → (List (Int × ByteArray × Bool × ByteArray × ByteArray × ByteArray × Unit)) → (List ByteArray) → Int → Int → (List ByteArray) → Option auditor_Check.R
  | 0, _, _, _, _, _, _, _, _, _, _, _, _, _, _, _, _, _, _, _, _, _, _, _ => none
  | k + 1, x8, x9, x10, x29, x30, x31, o0_2, o0_3, o0_4, o0_5, o1_0, o2_0, o4_0, o4_1, o5_0, o5_1, o5_2, o5_3, o5_4, o5_5, o5_6, o5_7, o5_8 =>
    bif decide ((x31 : Int) < x30) then
      (rdo x29 x31).bind fun t2 =>
      bif !t2.2.2.1 then
        (value_Read.f k t2.2.2.2.2.1).bind fun r3 =>
        bif (r3.1.2.1 : Int) != 0 then
          some ((([] : List (ByteArray × Int × Int × ByteArray × Bool × (Int × Bool × Int × Int × ByteArray × Unit) × Unit)), 15, ()), (((), (), (o0_2.1, (o0_2.2.1, ())), o0_3, o0_4, o0_5, ()), (o2_0, ()), ()))
        else
          (pledge_Of.f k o5_0 t2.2.1 t2.2.2.2.1 t2.2.2.2.2.1 (o0_2.1, (o0_2.2.1, ())) o0_3 o0_4 o0_5 o1_0 o2_0).bind fun r4 =>
          (ck (decide ((x8.length + ([(o5_0, (o5_6, (t2.1, (t2.2.1, (t2.2.2.1, ((r3.1.1.1, (r3.1.1.2.1, (r3.1.1.2.2.1, (r3.1.1.2.2.2.1, (r3.1.1.2.2.2.2.1, ()))))), ()))))))] : List (ByteArray × Int × Int × ByteArray × Bool × (Int × Bool × Int × Int × ByteArray × Unit) × Unit)).length) * 104 ≤ 70368744177664))).bind fun _ =>
          (ck (decide ((x9.length + ([t2.1] : List Int).length) * 8 ≤ 70368744177664))).bind fun _ =>
          (sheet_Leaf.f k t2.2.1 r4.1.1 (r4.2.1.2.2.1.1, (r4.2.1.2.2.1.2.1, ())) r4.2.1.2.2.2.1 r4.2.1.2.2.2.2.1 r4.2.1.2.2.2.2.2.1 o1_0 r4.2.2.1.1).bind fun r5 =>
          (ck (decide ((x10.length + ([r5.1.1] : List ByteArray).length) * 16 ≤ 70368744177664))).bind fun _ =>
          auditor_Check.l0 k (x8 ++ ([(o5_0, (o5_6, (t2.1, (t2.2.1, (t2.2.2.1, ((r3.1.1.1, (r3.1.1.2.1, (r3.1.1.2.2.1, (r3.1.1.2.2.2.1, (r3.1.1.2.2.2.2.1, ()))))), ()))))))] : List (ByteArray × Int × Int × ByteArray × Bool × (Int × Bool × Int × Int × ByteArray × Unit) × Unit))) (x9 ++ ([t2.1] : List Int)) (x10 ++ ([r5.1.1] : List ByteArray)) x29 x30 (IntKind.wrap .i64 (x31 + 1)) (r5.2.1.2.2.1.1, (r5.2.1.2.2.1.2.1, ())) r5.2.1.2.2.2.1 r5.2.1.2.2.2.2.1 r5.2.1.2.2.2.2.2.1 o1_0 r5.2.2.1.1 o4_0 o4_1 o5_0 o5_1 o5_2 o5_3 o5_4 o5_5 o5_6 o5_7 o5_8
      else
        (ck (decide ((x8.length + ([(o5_0, (o5_6, (t2.1, (t2.2.1, (t2.2.2.1, ((0, (false, (0, (0, (ByteArray.empty, ()))))), ()))))))] : List (ByteArray × Int × Int × ByteArray × Bool × (Int × Bool × Int × Int × ByteArray × Unit) × Unit)).length) * 104 ≤ 70368744177664))).bind fun _ =>
        (ck (decide ((x9.length + ([t2.1] : List Int).length) * 8 ≤ 70368744177664))).bind fun _ =>
        (sheet_Leaf.f k t2.2.1 t2.2.2.2.2.2.1 (o0_2.1, (o0_2.2.1, ())) o0_3 o0_4 o0_5 o1_0 o2_0).bind fun r6 =>
        (ck (decide ((x10.length + ([r6.1.1] : List ByteArray).length) * 16 ≤ 70368744177664))).bind fun _ =>
        auditor_Check.l0 k (x8 ++ ([(o5_0, (o5_6, (t2.1, (t2.2.1, (t2.2.2.1, ((0, (false, (0, (0, (ByteArray.empty, ()))))), ()))))))] : List (ByteArray × Int × Int × ByteArray × Bool × (Int × Bool × Int × Int × ByteArray × Unit) × Unit))) (x9 ++ ([t2.1] : List Int)) (x10 ++ ([r6.1.1] : List ByteArray)) x29 x30 (IntKind.wrap .i64 (x31 + 1)) (r6.2.1.2.2.1.1, (r6.2.1.2.2.1.2.1, ())) r6.2.1.2.2.2.1 r6.2.1.2.2.2.2.1 r6.2.1.2.2.2.2.2.1 o1_0 r6.2.2.1.1 o4_0 o4_1 o5_0 o5_1 o5_2 o5_3 o5_4 o5_5 o5_6 o5_7 o5_8
    else
      (sheet_Rebuild.f k o5_3 x9 x10 o5_5 (o0_2.1, (o0_2.2.1, ())) o0_3 o0_4 o0_5 o1_0 o2_0).bind fun r7 =>
      bif (r7.1.2.1 : Int) != 0 then
        some ((([] : List (ByteArray × Int × Int × ByteArray × Bool × (Int × Bool × Int × Int × ByteArray × Unit) × Unit)), 22, ()), (((), (), (r7.2.1.2.2.1.1, (r7.2.1.2.2.1.2.1, ())), r7.2.1.2.2.2.1, r7.2.1.2.2.2.2.1, r7.2.1.2.2.2.2.2.1, ()), (r7.2.2.1.1, ()), ()))
      else
        (sheet_Paper.f k o5_0 o5_1 o5_2 o5_3 r7.1.1 (r7.2.1.2.2.1.1, (r7.2.1.2.2.1.2.1, ())) r7.2.1.2.2.2.1 r7.2.1.2.2.2.2.1 r7.2.1.2.2.2.2.2.1 o1_0 r7.2.2.1.1).bind fun r8 =>
        (merkle_Climb.f k r8.1.1 o5_6 o5_7 o5_8 (r8.2.1.2.2.1.1, (r8.2.1.2.2.1.2.1, ())) r8.2.1.2.2.2.1 r8.2.1.2.2.2.2.1 r8.2.1.2.2.2.2.2.1 o1_0 r8.2.2.1.1).bind fun r9 =>
        bif (r9.1.2.1 : Int) != 0 then
          some ((([] : List (ByteArray × Int × Int × ByteArray × Bool × (Int × Bool × Int × Int × ByteArray × Unit) × Unit)), 20, ()), (((), (), (r9.2.1.2.2.1.1, (r9.2.1.2.2.1.2.1, ())), r9.2.1.2.2.2.1, r9.2.1.2.2.2.2.1, r9.2.1.2.2.2.2.2.1, ()), (r9.2.2.1.1, ()), ()))
        else
        bif !(r9.1.1.toList == o4_1.toList) then
          some ((([] : List (ByteArray × Int × Int × ByteArray × Bool × (Int × Bool × Int × Int × ByteArray × Unit) × Unit)), 19, ()), (((), (), (r9.2.1.2.2.1.1, (r9.2.1.2.2.1.2.1, ())), r9.2.1.2.2.2.1, r9.2.1.2.2.2.2.1, r9.2.1.2.2.2.2.2.1, ()), (r9.2.2.1.1, ()), ()))
        else
          some ((x8, 0, ()), (((), (), (r9.2.1.2.2.1.1, (r9.2.1.2.2.1.2.1, ())), r9.2.1.2.2.2.1, r9.2.1.2.2.2.2.1, r9.2.1.2.2.2.2.2.1, ()), (r9.2.2.1.1, ()), ()))
noncomputable def auditor_Check.f : Nat → (Int × ByteArray × Unit) → (ByteArray × Int × Int × Int × List (Int × ByteArray × Bool × ByteArray × ByteArray × ByteArray × Unit) × List ByteArray × Int × Int × List ByteArray × Unit) → (ByteArray × ByteArray × Unit) → Bool → Bool → Int → (List (ByteArray × ByteArray)) → (List (ByteArray × ByteArray)) → Option auditor_Check.R
  | 0, _, _, _, _, _, _, _, _ => none
  | k + 1, x1, x2, o0_2, o0_3, o0_4, o0_5, o1_0, o2_0 =>
    (proof_Right.f k (x2.1, (x2.2.1, (x2.2.2.1, (x2.2.2.2.1, (x2.2.2.2.2.1, (x2.2.2.2.2.2.1, (x2.2.2.2.2.2.2.1, (x2.2.2.2.2.2.2.2.1, (x2.2.2.2.2.2.2.2.2.1, ())))))))))).bind fun r1 =>
    bif !r1.1.1 then
      some ((([] : List (ByteArray × Int × Int × ByteArray × Bool × (Int × Bool × Int × Int × ByteArray × Unit) × Unit)), 4, ()), (((), (), (o0_2.1, (o0_2.2.1, ())), o0_3, o0_4, o0_5, ()), (o2_0, ()), ()))
    else
    bif (x2.2.2.2.2.2.2.2.1 : Int) != x1.1 then
      some ((([] : List (ByteArray × Int × Int × ByteArray × Bool × (Int × Bool × Int × Int × ByteArray × Unit) × Unit)), 21, ()), (((), (), (o0_2.1, (o0_2.2.1, ())), o0_3, o0_4, o0_5, ()), (o2_0, ()), ()))
    else
      auditor_Check.l0 k [] [] [] x2.2.2.2.2.1 (x2.2.2.2.2.1.length : Int) 0 (o0_2.1, (o0_2.2.1, ())) o0_3 o0_4 o0_5 o1_0 o2_0 x1.1 x1.2.1 x2.1 x2.2.1 x2.2.2.1 x2.2.2.2.1 x2.2.2.2.2.1 x2.2.2.2.2.2.1 x2.2.2.2.2.2.2.1 x2.2.2.2.2.2.2.2.1 x2.2.2.2.2.2.2.2.2.1
end
abbrev auditor_Check.ini : LSh := ⟨[(0, .ptr 1000000 0), (1, .val (.cons (.int .i64) (.cons .str .nil))), (2, .val (.cons .str (.cons (.int .i64) (.cons (.int .i64) (.cons (.int .i64) (.cons (.sl (.cons (.int .i64) (.cons .str (.cons .bool (.cons .str (.cons .str (.cons .str .nil))))))) (.cons (.sl .str) (.cons (.int .i64) (.cons (.int .i64) (.cons (.sl .str) .nil))))))))))], [(1000000, 78, [.mref 1000001, .mref 1000002, .val (.cons .str (.cons .str .nil)), .val .bool, .val .bool, .val (.int .i64)]), (1000001, 75, [.mapd]), (1000002, 75, [.mapd])]⟩
abbrev auditor_Check.out : LSh := ⟨[(0, .val (.sl (.cons .str (.cons (.int .i64) (.cons (.int .i64) (.cons .str (.cons .bool (.cons (.cons (.int .i64) (.cons .bool (.cons (.int .i64) (.cons (.int .u64) (.cons .str .nil))))) .nil)))))))), (1, .val (.int .i64))], [(1000000, 78, [.mref 1000001, .mref 1000002, .val (.cons .str (.cons .str .nil)), .val .bool, .val .bool, .val (.int .i64)]), (1000002, 75, [.mapd])]⟩
abbrev auditor_Check.l0s : LSh := ⟨[(0, .ptr 1000000 0), (4, .ptr 4 0), (5, .ptr 5 0), (8, .own 2000008 94 (.cons .str (.cons (.int .i64) (.cons (.int .i64) (.cons .str (.cons .bool (.cons (.cons (.int .i64) (.cons .bool (.cons (.int .i64) (.cons (.int .u64) (.cons .str .nil))))) .nil))))))), (9, .own 2000009 3 (.int .i64)), (10, .own 2000010 9 .str), (29, .val (.sl (.cons (.int .i64) (.cons .str (.cons .bool (.cons .str (.cons .str (.cons .str .nil)))))))), (30, .val (.int .i64)), (31, .val (.int .i64))], [(1000000, 78, [.mref 1000001, .mref 1000002, .val (.cons .str (.cons .str .nil)), .val .bool, .val .bool, .val (.int .i64)]), (1000001, 75, [.mapd]), (1000002, 75, [.mapd]), (4, 43, [.val (.int .i64), .val .str]), (5, 36, [.val .str, .val (.int .i64), .val (.int .i64), .val (.int .i64), .val (.sl (.cons (.int .i64) (.cons .str (.cons .bool (.cons .str (.cons .str (.cons .str .nil))))))), .val (.sl .str), .val (.int .i64), .val (.int .i64), .val (.sl .str)])]⟩
noncomputable def auditor_Check.labF : Nat → Option (LabF auditor_Check.out.den)
  | 18 => some ⟨auditor_Check.l0s, fun k (d : (Unit × Unit × Unit × (List (ByteArray × Int × Int × ByteArray × Bool × (Int × Bool × Int × Int × ByteArray × Unit) × Unit)) × List Int × List ByteArray × (List (Int × ByteArray × Bool × ByteArray × ByteArray × ByteArray × Unit)) × Int × Int × Unit) × ((Unit × Unit × (ByteArray × ByteArray × Unit) × Bool × Bool × Int × Unit) × ((List (ByteArray × ByteArray)) × Unit) × ((List (ByteArray × ByteArray)) × Unit) × (Int × ByteArray × Unit) × (ByteArray × Int × Int × Int × (List (Int × ByteArray × Bool × ByteArray × ByteArray × ByteArray × Unit)) × List ByteArray × Int × Int × List ByteArray × Unit) × Unit)) => (auditor_Check.l0 k d.1.2.2.2.1 d.1.2.2.2.2.1 d.1.2.2.2.2.2.1 d.1.2.2.2.2.2.2.1 d.1.2.2.2.2.2.2.2.1 d.1.2.2.2.2.2.2.2.2.1 d.2.1.2.2.1 d.2.1.2.2.2.1 d.2.1.2.2.2.2.1 d.2.1.2.2.2.2.2.1 d.2.2.1.1 d.2.2.2.1.1 d.2.2.2.2.1.1 d.2.2.2.2.1.2.1 d.2.2.2.2.2.1.1 d.2.2.2.2.2.1.2.1 d.2.2.2.2.2.1.2.2.1 d.2.2.2.2.2.1.2.2.2.1 d.2.2.2.2.2.1.2.2.2.2.1 d.2.2.2.2.2.1.2.2.2.2.2.1 d.2.2.2.2.2.1.2.2.2.2.2.2.1 d.2.2.2.2.2.1.2.2.2.2.2.2.2.1 d.2.2.2.2.2.1.2.2.2.2.2.2.2.2.1 : Option auditor_Check.R)⟩
  | _ => none
noncomputable def auditor_Check.fd : FnD := ⟨Try.f11, auditor_Check.ini, auditor_Check.out, 2, [1000000, 1000001, 1000002], [1000001], auditor_Check.labF, fun k (d : (Unit × (Int × ByteArray × Unit) × (ByteArray × Int × Int × Int × List (Int × ByteArray × Bool × ByteArray × ByteArray × ByteArray × Unit) × List ByteArray × Int × Int × List ByteArray × Unit) × Unit) × ((Unit × Unit × (ByteArray × ByteArray × Unit) × Bool × Bool × Int × Unit) × ((List (ByteArray × ByteArray)) × Unit) × ((List (ByteArray × ByteArray)) × Unit) × Unit)) => (auditor_Check.f k d.1.2.1 d.1.2.2.1 d.2.1.2.2.1 d.2.1.2.2.2.1 d.2.1.2.2.2.2.1 d.2.1.2.2.2.2.2.1 d.2.2.1.1 d.2.2.2.1.1 : Option auditor_Check.R)⟩

/-! ### auditor_Against : function 44 -/
abbrev auditor_Against.R := (Bool × Unit) × (Unit)
noncomputable def auditor_Against.f : Nat → (ByteArray × Int × Int × ByteArray × Bool × (Int × Bool × Int × Int × ByteArray × Unit) × Unit) → (ByteArray × Int × Int × ByteArray × Bool × (Int × Bool × Int × Int × ByteArray × Unit) × Unit) → Option auditor_Against.R
  | 0, _, _ => none
  | k + 1, x0, x1 =>
    bif (x0.2.1 : Int) != x1.2.1 then
      some ((false, ()), (()))
    else
    bif (x0.2.2.1 : Int) != x1.2.2.1 then
      some ((false, ()), (()))
    else
    bif x0.2.2.2.2.1 then
      some ((false, ()), (()))
    else
    bif x1.2.2.2.2.1 then
      some ((false, ()), (()))
    else
    bif !(x0.1.toList == x1.1.toList) then
      some ((true, ()), (()))
    else
    bif !(x0.2.2.2.1.toList == x1.2.2.2.1.toList) then
      some ((true, ()), (()))
    else
      some ((!(((x0.2.2.2.2.2.1.1 : Int) == x1.2.2.2.2.2.1.1 && (x0.2.2.2.2.2.1.2.1 == x1.2.2.2.2.2.1.2.1 && ((x0.2.2.2.2.2.1.2.2.1 : Int) == x1.2.2.2.2.2.1.2.2.1 && ((x0.2.2.2.2.2.1.2.2.2.1 : Int) == x1.2.2.2.2.2.1.2.2.2.1 && (seqB x0.2.2.2.2.2.1.2.2.2.2.1 x1.2.2.2.2.2.1.2.2.2.2.1 && true)))))), ()), (()))
abbrev auditor_Against.ini : LSh := ⟨[(0, .val (.cons .str (.cons (.int .i64) (.cons (.int .i64) (.cons .str (.cons .bool (.cons (.cons (.int .i64) (.cons .bool (.cons (.int .i64) (.cons (.int .u64) (.cons .str .nil))))) .nil))))))), (1, .val (.cons .str (.cons (.int .i64) (.cons (.int .i64) (.cons .str (.cons .bool (.cons (.cons (.int .i64) (.cons .bool (.cons (.int .i64) (.cons (.int .u64) (.cons .str .nil))))) .nil)))))))], []⟩
abbrev auditor_Against.out : LSh := ⟨[(0, .val .bool)], []⟩
noncomputable def auditor_Against.labF : Nat → Option (LabF auditor_Against.out.den)
  | _ => none
noncomputable def auditor_Against.fd : FnD := ⟨Try.f44, auditor_Against.ini, auditor_Against.out, 1, [], [], auditor_Against.labF, fun k (d : ((ByteArray × Int × Int × ByteArray × Bool × (Int × Bool × Int × Int × ByteArray × Unit) × Unit) × (ByteArray × Int × Int × ByteArray × Bool × (Int × Bool × Int × Int × ByteArray × Unit) × Unit) × Unit) × (Unit)) => (auditor_Against.f k d.1.1 d.1.2.1 : Option auditor_Against.R)⟩

/-! ### extract_against : function 30 -/
abbrev extract_against.R := (Bool × Unit) × (Unit)
mutual
noncomputable def extract_against.l0 : Nat → (List (ByteArray × Int × Int × ByteArray × Bool × (Int × Bool × Int × Int × ByteArray × Unit) × Unit)) → (List (ByteArray × Int × Int × ByteArray × Bool × (Int × Bool × Int × Int × ByteArray × Unit) × Unit)) → Int → Int → Option extract_against.R
  | 0, _, _, _, _ => none
  | k + 1, x1, x9, x10, x11 =>
    bif decide ((x11 : Int) < x10) then
      (rdo x9 x11).bind fun t1 =>
      extract_against.l1 k x1 x9 x10 x11 x1 (x1.length : Int) 0 t1.1 t1.2.1 t1.2.2.1 t1.2.2.2.1 t1.2.2.2.2.1 (t1.2.2.2.2.2.1.1, (t1.2.2.2.2.2.1.2.1, (t1.2.2.2.2.2.1.2.2.1, (t1.2.2.2.2.2.1.2.2.2.1, (t1.2.2.2.2.2.1.2.2.2.2.1, ())))))
    else
      some ((false, ()), (()))
noncomputable def extract_against.l1 : Nat → (List (ByteArray × Int × Int × ByteArray × Bool × (Int × Bool × Int × Int × ByteArray × Unit) × Unit)) → (List (ByteArray × Int × Int × ByteArray × Bool × (Int × Bool × Int × Int × ByteArray × Unit) × Unit)) → Int → Int → (List (ByteArray × Int × Int × ByteArray × Bool × (Int × Bool × Int × Int × ByteArray × Unit) × Unit)) → Int → Int → ByteArray → Int → Int → ByteArray → Bool → (Int × Bool × Int × Int × ByteArray × Unit) → Option extract_against.R
  | 0, _, _, _, _, _, _, _, _, _, _, _, _, _ => none
  | k + 1, x1, x9, x10, x11, x15, x16, x17, o6_0, o6_1, o6_2, o6_3, o6_4, o6_5 =>
    bif decide ((x17 : Int) < x16) then
      (rdo x15 x17).bind fun t2 =>
      (auditor_Against.f k (o6_0, (o6_1, (o6_2, (o6_3, (o6_4, ((o6_5.1, (o6_5.2.1, (o6_5.2.2.1, (o6_5.2.2.2.1, (o6_5.2.2.2.2.1, ()))))), ())))))) (t2.1, (t2.2.1, (t2.2.2.1, (t2.2.2.2.1, (t2.2.2.2.2.1, ((t2.2.2.2.2.2.1.1, (t2.2.2.2.2.2.1.2.1, (t2.2.2.2.2.2.1.2.2.1, (t2.2.2.2.2.2.1.2.2.2.1, (t2.2.2.2.2.2.1.2.2.2.2.1, ()))))), ()))))))).bind fun r3 =>
      bif r3.1.1 then
        some ((true, ()), (()))
      else
        extract_against.l1 k x1 x9 x10 x11 x15 x16 (IntKind.wrap .i64 (x17 + 1)) o6_0 o6_1 o6_2 o6_3 o6_4 (o6_5.1, (o6_5.2.1, (o6_5.2.2.1, (o6_5.2.2.2.1, (o6_5.2.2.2.2.1, ())))))
    else
      extract_against.l0 k x1 x9 x10 (IntKind.wrap .i64 (x11 + 1))
noncomputable def extract_against.f : Nat → (List (ByteArray × Int × Int × ByteArray × Bool × (Int × Bool × Int × Int × ByteArray × Unit) × Unit)) → (List (ByteArray × Int × Int × ByteArray × Bool × (Int × Bool × Int × Int × ByteArray × Unit) × Unit)) → Option extract_against.R
  | 0, _, _ => none
  | k + 1, x0, x1 =>
    extract_against.l0 k x1 x0 (x0.length : Int) 0
end
abbrev extract_against.ini : LSh := ⟨[(0, .val (.sl (.cons .str (.cons (.int .i64) (.cons (.int .i64) (.cons .str (.cons .bool (.cons (.cons (.int .i64) (.cons .bool (.cons (.int .i64) (.cons (.int .u64) (.cons .str .nil))))) .nil)))))))), (1, .val (.sl (.cons .str (.cons (.int .i64) (.cons (.int .i64) (.cons .str (.cons .bool (.cons (.cons (.int .i64) (.cons .bool (.cons (.int .i64) (.cons (.int .u64) (.cons .str .nil))))) .nil))))))))], []⟩
abbrev extract_against.out : LSh := ⟨[(0, .val .bool)], []⟩
abbrev extract_against.l0s : LSh := ⟨[(1, .val (.sl (.cons .str (.cons (.int .i64) (.cons (.int .i64) (.cons .str (.cons .bool (.cons (.cons (.int .i64) (.cons .bool (.cons (.int .i64) (.cons (.int .u64) (.cons .str .nil))))) .nil)))))))), (9, .val (.sl (.cons .str (.cons (.int .i64) (.cons (.int .i64) (.cons .str (.cons .bool (.cons (.cons (.int .i64) (.cons .bool (.cons (.int .i64) (.cons (.int .u64) (.cons .str .nil))))) .nil)))))))), (10, .val (.int .i64)), (11, .val (.int .i64))], []⟩
abbrev extract_against.l1s : LSh := ⟨[(1, .val (.sl (.cons .str (.cons (.int .i64) (.cons (.int .i64) (.cons .str (.cons .bool (.cons (.cons (.int .i64) (.cons .bool (.cons (.int .i64) (.cons (.int .u64) (.cons .str .nil))))) .nil)))))))), (6, .ptr 6 0), (9, .val (.sl (.cons .str (.cons (.int .i64) (.cons (.int .i64) (.cons .str (.cons .bool (.cons (.cons (.int .i64) (.cons .bool (.cons (.int .i64) (.cons (.int .u64) (.cons .str .nil))))) .nil)))))))), (10, .val (.int .i64)), (11, .val (.int .i64)), (15, .val (.sl (.cons .str (.cons (.int .i64) (.cons (.int .i64) (.cons .str (.cons .bool (.cons (.cons (.int .i64) (.cons .bool (.cons (.int .i64) (.cons (.int .u64) (.cons .str .nil))))) .nil)))))))), (16, .val (.int .i64)), (17, .val (.int .i64))], [(6, 94, [.val .str, .val (.int .i64), .val (.int .i64), .val .str, .val .bool, .val (.cons (.int .i64) (.cons .bool (.cons (.int .i64) (.cons (.int .u64) (.cons .str .nil)))))])]⟩
noncomputable def extract_against.labF : Nat → Option (LabF extract_against.out.den)
  | 4 => some ⟨extract_against.l0s, fun k (d : ((List (ByteArray × Int × Int × ByteArray × Bool × (Int × Bool × Int × Int × ByteArray × Unit) × Unit)) × (List (ByteArray × Int × Int × ByteArray × Bool × (Int × Bool × Int × Int × ByteArray × Unit) × Unit)) × Int × Int × Unit) × (Unit)) => (extract_against.l0 k d.1.1 d.1.2.1 d.1.2.2.1 d.1.2.2.2.1 : Option extract_against.R)⟩
  | 10 => some ⟨extract_against.l1s, fun k (d : ((List (ByteArray × Int × Int × ByteArray × Bool × (Int × Bool × Int × Int × ByteArray × Unit) × Unit)) × Unit × (List (ByteArray × Int × Int × ByteArray × Bool × (Int × Bool × Int × Int × ByteArray × Unit) × Unit)) × Int × Int × (List (ByteArray × Int × Int × ByteArray × Bool × (Int × Bool × Int × Int × ByteArray × Unit) × Unit)) × Int × Int × Unit) × ((ByteArray × Int × Int × ByteArray × Bool × (Int × Bool × Int × Int × ByteArray × Unit) × Unit) × Unit)) => (extract_against.l1 k d.1.1 d.1.2.2.1 d.1.2.2.2.1 d.1.2.2.2.2.1 d.1.2.2.2.2.2.1 d.1.2.2.2.2.2.2.1 d.1.2.2.2.2.2.2.2.1 d.2.1.1 d.2.1.2.1 d.2.1.2.2.1 d.2.1.2.2.2.1 d.2.1.2.2.2.2.1 d.2.1.2.2.2.2.2.1 : Option extract_against.R)⟩
  | _ => none
noncomputable def extract_against.fd : FnD := ⟨Try.f30, extract_against.ini, extract_against.out, 1, [], [], extract_against.labF, fun k (d : ((List (ByteArray × Int × Int × ByteArray × Bool × (Int × Bool × Int × Int × ByteArray × Unit) × Unit)) × (List (ByteArray × Int × Int × ByteArray × Bool × (Int × Bool × Int × Int × ByteArray × Unit) × Unit)) × Unit) × (Unit)) => (extract_against.f k d.1.1 d.1.2.1 : Option extract_against.R)⟩

/-! ### mill_Mill_Twins : function 20 -/
abbrev mill_Mill_Twins.R := (ByteArray × ByteArray × Bool × Unit) × (Unit)
noncomputable def mill_Mill_Twins.f : Nat → (ByteArray × ByteArray × Unit) → Bool → Bool → Int → (List (ByteArray × ByteArray)) → (List (ByteArray × ByteArray)) → Option mill_Mill_Twins.R
  | 0, _, _, _, _, _, _ => none
  | k + 1, o0_2, o0_3, o0_4, o0_5, o1_0, o2_0 =>
    (mill_Mill_none.f k (o0_2.1, (o0_2.2.1, ())) o0_3 o0_4 o0_5 o1_0 o2_0).bind fun r1 =>
    bif r1.1.1 then
      some (((⟨#[]⟩ : ByteArray), (⟨#[]⟩ : ByteArray), false, ()), (()))
    else
      some ((o0_2.1, o0_2.2.1, o0_3, ()), (()))
abbrev mill_Mill_Twins.ini : LSh := ⟨[(0, .ptr 1000000 0)], [(1000000, 78, [.mref 1000001, .mref 1000002, .val (.cons .str (.cons .str .nil)), .val .bool, .val .bool, .val (.int .i64)]), (1000001, 75, [.mapd]), (1000002, 75, [.mapd])]⟩
abbrev mill_Mill_Twins.out : LSh := ⟨[(0, .val .str), (1, .val .str), (2, .val .bool)], []⟩
noncomputable def mill_Mill_Twins.labF : Nat → Option (LabF mill_Mill_Twins.out.den)
  | _ => none
noncomputable def mill_Mill_Twins.fd : FnD := ⟨Try.f20, mill_Mill_Twins.ini, mill_Mill_Twins.out, 3, [1000000, 1000001, 1000002], [1000000, 1000001, 1000002], mill_Mill_Twins.labF, fun k (d : (Unit × Unit) × ((Unit × Unit × (ByteArray × ByteArray × Unit) × Bool × Bool × Int × Unit) × ((List (ByteArray × ByteArray)) × Unit) × ((List (ByteArray × ByteArray)) × Unit) × Unit)) => (mill_Mill_Twins.f k d.2.1.2.2.1 d.2.1.2.2.2.1 d.2.1.2.2.2.2.1 d.2.1.2.2.2.2.2.1 d.2.2.1.1 d.2.2.2.1.1 : Option mill_Mill_Twins.R)⟩

/-! ### extract_found : function 31 -/
abbrev extract_found.R := ((ByteArray × ByteArray × Unit) × Bool × Unit) × (Unit)
noncomputable def extract_found.f : Nat → (ByteArray × ByteArray × Unit) → Bool → Bool → Int → (List (ByteArray × ByteArray)) → (List (ByteArray × ByteArray)) → Option extract_found.R
  | 0, _, _, _, _, _, _ => none
  | k + 1, o0_2, o0_3, o0_4, o0_5, o1_0, o2_0 =>
    (mill_Mill_Twins.f k (o0_2.1, (o0_2.2.1, ())) o0_3 o0_4 o0_5 o1_0 o2_0).bind fun r1 =>
    bif !r1.1.2.2.1 then
      some (((ByteArray.empty, (ByteArray.empty, ())), false, ()), (()))
    else
      some (((r1.1.1, (r1.1.2.1, ())), true, ()), (()))
abbrev extract_found.ini : LSh := ⟨[(0, .ptr 1000000 0)], [(1000000, 78, [.mref 1000001, .mref 1000002, .val (.cons .str (.cons .str .nil)), .val .bool, .val .bool, .val (.int .i64)]), (1000001, 75, [.mapd]), (1000002, 75, [.mapd])]⟩
abbrev extract_found.out : LSh := ⟨[(0, .val (.cons .str (.cons .str .nil))), (1, .val .bool)], []⟩
noncomputable def extract_found.labF : Nat → Option (LabF extract_found.out.den)
  | _ => none
noncomputable def extract_found.fd : FnD := ⟨Try.f31, extract_found.ini, extract_found.out, 2, [1000000, 1000001, 1000002], [1000000, 1000001, 1000002], extract_found.labF, fun k (d : (Unit × Unit) × ((Unit × Unit × (ByteArray × ByteArray × Unit) × Bool × Bool × Int × Unit) × ((List (ByteArray × ByteArray)) × Unit) × ((List (ByteArray × ByteArray)) × Unit) × Unit)) => (extract_found.f k d.2.1.2.2.1 d.2.1.2.2.2.1 d.2.1.2.2.2.2.1 d.2.1.2.2.2.2.2.1 d.2.2.1.1 d.2.2.2.1.1 : Option extract_found.R)⟩

/-! ### extract_Shows : function 8 -/
abbrev extract_Shows.R := ((ByteArray × ByteArray × Unit) × Bool × Unit) × (Unit)
noncomputable def extract_Shows.f : Nat → (List (Bool × ByteArray × ByteArray × ByteArray × Unit)) → ByteArray → ByteArray → ByteArray → Option extract_Shows.R
  | 0, _, _, _, _ => none
  | k + 1, x0, x1, x2, x3 =>
    orE (
      (mill_With_has.f k x0).bind fun r1 =>
      bif (r1.1.2.1 : Int) != 0 then
        some (((ByteArray.empty, (ByteArray.empty, ())), false, ()), (()))
      else
        (proof_Read.f k x2).bind fun r2 =>
        bif (r2.1.2.1 : Int) != 0 then
          some (((ByteArray.empty, (ByteArray.empty, ())), false, ()), (()))
        else
          (proof_Read.f k x3).bind fun r3 =>
          bif (r3.1.2.1 : Int) != 0 then
            some (((ByteArray.empty, (ByteArray.empty, ())), false, ()), (()))
          else
            (auditor_Check.f k (r2.1.1.2.2.2.2.2.2.2.1, (x1, ())) (r2.1.1.1, (r2.1.1.2.1, (r2.1.1.2.2.1, (r2.1.1.2.2.2.1, (r2.1.1.2.2.2.2.1, (r2.1.1.2.2.2.2.2.1, (r2.1.1.2.2.2.2.2.2.1, (r2.1.1.2.2.2.2.2.2.2.1, (r2.1.1.2.2.2.2.2.2.2.2.1, ()))))))))) (r1.2.1.2.2.1.1, (r1.2.1.2.2.1.2.1, ())) r1.2.1.2.2.2.1 r1.2.1.2.2.2.2.1 r1.2.1.2.2.2.2.2.1 r1.2.2.1.1 r1.2.2.2.1.1).bind fun r4 =>
            bif (r4.1.2.1 : Int) != 0 then
              some (((ByteArray.empty, (ByteArray.empty, ())), false, ()), (()))
            else
              (auditor_Check.f k (r2.1.1.2.2.2.2.2.2.2.1, (x1, ())) (r3.1.1.1, (r3.1.1.2.1, (r3.1.1.2.2.1, (r3.1.1.2.2.2.1, (r3.1.1.2.2.2.2.1, (r3.1.1.2.2.2.2.2.1, (r3.1.1.2.2.2.2.2.2.1, (r3.1.1.2.2.2.2.2.2.2.1, (r3.1.1.2.2.2.2.2.2.2.2.1, ()))))))))) (r4.2.1.2.2.1.1, (r4.2.1.2.2.1.2.1, ())) r4.2.1.2.2.2.1 r4.2.1.2.2.2.2.1 r4.2.1.2.2.2.2.2.1 r1.2.2.1.1 r4.2.2.1.1).bind fun r5 =>
              bif (r5.1.2.1 : Int) != 0 then
                some (((ByteArray.empty, (ByteArray.empty, ())), false, ()), (()))
              else
                (extract_against.f k r4.1.1 r5.1.1).bind fun r6 =>
                bif !r6.1.1 then
                  some (((ByteArray.empty, (ByteArray.empty, ())), false, ()), (()))
                else
                  (extract_found.f k (r5.2.1.2.2.1.1, (r5.2.1.2.2.1.2.1, ())) r5.2.1.2.2.2.1 r5.2.1.2.2.2.2.1 r5.2.1.2.2.2.2.2.1 r1.2.2.1.1 r5.2.2.1.1).bind fun r7 =>
                  some (((r7.1.1.1, (r7.1.1.2.1, ())), r7.1.2.1, ()), (()))) (
      (mill_With_nil.f k x0).bind fun r8 =>
      bif (r8.1.2.1 : Int) != 0 then
        some (((ByteArray.empty, (ByteArray.empty, ())), false, ()), (()))
      else
        (proof_Read.f k x2).bind fun r9 =>
        bif (r9.1.2.1 : Int) != 0 then
          some (((ByteArray.empty, (ByteArray.empty, ())), false, ()), (()))
        else
          (proof_Read.f k x3).bind fun r10 =>
          bif (r10.1.2.1 : Int) != 0 then
            some (((ByteArray.empty, (ByteArray.empty, ())), false, ()), (()))
          else
            none)
abbrev extract_Shows.ini : LSh := ⟨[(0, .val (.sl (.cons .bool (.cons .str (.cons .str (.cons .str .nil)))))), (1, .val .str), (2, .val .str), (3, .val .str)], []⟩
abbrev extract_Shows.out : LSh := ⟨[(0, .val (.cons .str (.cons .str .nil))), (1, .val .bool)], []⟩
noncomputable def extract_Shows.labF : Nat → Option (LabF extract_Shows.out.den)
  | _ => none
noncomputable def extract_Shows.fd : FnD := ⟨Try.f8, extract_Shows.ini, extract_Shows.out, 2, [], [], extract_Shows.labF, fun k (d : ((List (Bool × ByteArray × ByteArray × ByteArray × Unit)) × ByteArray × ByteArray × ByteArray × Unit) × (Unit)) => (extract_Shows.f k d.1.1 d.1.2.1 d.1.2.2.1 d.1.2.2.2.1 : Option extract_Shows.R)⟩

/-! ### octet_Writer_Flag : function 79 -/
abbrev octet_Writer_Flag.R := (Unit) × ((ByteArray × Bool × Unit) × Unit)
noncomputable def octet_Writer_Flag.f : Nat → Bool → ByteArray → Bool → Option octet_Writer_Flag.R
  | 0, _, _, _ => none
  | k + 1, x1, o0_0, o0_1 =>
    bif x1 then
      (ck (decide (o0_0.size + (⟨#[1]⟩ : ByteArray).size ≤ 9223372036854775807))).bind fun _ =>
      some ((()), ((o0_0 ++ (⟨#[1]⟩ : ByteArray), o0_1, ()), ()))
    else
      (ck (decide (o0_0.size + (⟨#[0]⟩ : ByteArray).size ≤ 9223372036854775807))).bind fun _ =>
      some ((()), ((o0_0 ++ (⟨#[0]⟩ : ByteArray), o0_1, ()), ()))
abbrev octet_Writer_Flag.ini : LSh := ⟨[(0, .ptr 1000000 0), (1, .val .bool)], [(1000000, 106, [.val .str, .val .bool])]⟩
abbrev octet_Writer_Flag.out : LSh := ⟨[], [(1000000, 106, [.val .str, .val .bool])]⟩
noncomputable def octet_Writer_Flag.labF : Nat → Option (LabF octet_Writer_Flag.out.den)
  | _ => none
noncomputable def octet_Writer_Flag.fd : FnD := ⟨Try.f79, octet_Writer_Flag.ini, octet_Writer_Flag.out, 0, [1000000], [], octet_Writer_Flag.labF, fun k (d : (Unit × Bool × Unit) × ((ByteArray × Bool × Unit) × Unit)) => (octet_Writer_Flag.f k d.1.2.1 d.2.1.1 d.2.1.2.1 : Option octet_Writer_Flag.R)⟩

/-! ### proof_item : function 49 -/
abbrev proof_item.R := (Unit) × ((ByteArray × Bool × Unit) × Unit)
noncomputable def proof_item.f : Nat → (Int × ByteArray × Bool × ByteArray × ByteArray × ByteArray × Unit) → ByteArray → Bool → Option proof_item.R
  | 0, _, _, _ => none
  | k + 1, x1, o0_0, o0_1 =>
    (octet_Writer_Num.f k x1.1 o0_0 o0_1).bind fun r1 =>
    (octet_Writer_Text.f k x1.2.1 r1.2.1.1 r1.2.1.2.1).bind fun r2 =>
    (octet_Writer_Flag.f k x1.2.2.1 r2.2.1.1 r2.2.1.2.1).bind fun r3 =>
    bif x1.2.2.1 then
      (octet_Writer_Text.f k x1.2.2.2.2.2.1 r3.2.1.1 r3.2.1.2.1).bind fun r4 =>
      some ((()), ((r4.2.1.1, r4.2.1.2.1, ()), ()))
    else
      (octet_Writer_Text.f k x1.2.2.2.1 r3.2.1.1 r3.2.1.2.1).bind fun r5 =>
      (octet_Writer_Text.f k x1.2.2.2.2.1 r5.2.1.1 r5.2.1.2.1).bind fun r6 =>
      some ((()), ((r6.2.1.1, r6.2.1.2.1, ()), ()))
abbrev proof_item.ini : LSh := ⟨[(0, .ptr 1000000 0), (1, .val (.cons (.int .i64) (.cons .str (.cons .bool (.cons .str (.cons .str (.cons .str .nil)))))))], [(1000000, 106, [.val .str, .val .bool])]⟩
abbrev proof_item.out : LSh := ⟨[], [(1000000, 106, [.val .str, .val .bool])]⟩
noncomputable def proof_item.labF : Nat → Option (LabF proof_item.out.den)
  | _ => none
noncomputable def proof_item.fd : FnD := ⟨Try.f49, proof_item.ini, proof_item.out, 0, [1000000], [], proof_item.labF, fun k (d : (Unit × (Int × ByteArray × Bool × ByteArray × ByteArray × ByteArray × Unit) × Unit) × ((ByteArray × Bool × Unit) × Unit)) => (proof_item.f k d.1.2.1 d.2.1.1 d.2.1.2.1 : Option proof_item.R)⟩

/-! ### octet_Writer_Texts : function 50 -/
abbrev octet_Writer_Texts.R := (Unit) × ((ByteArray × Bool × Unit) × Unit)
mutual
noncomputable def octet_Writer_Texts.l0 : Nat → (List ByteArray) → Int → Int → ByteArray → Bool → Option octet_Writer_Texts.R
  | 0, _, _, _, _, _ => none
  | k + 1, x10, x11, x12, o0_0, o0_1 =>
    bif decide ((x12 : Int) < x11) then
      (rdo x10 x12).bind fun t2 =>
      (octet_Writer_Text.f k t2 o0_0 o0_1).bind fun r3 =>
      octet_Writer_Texts.l0 k x10 x11 (IntKind.wrap .i64 (x12 + 1)) r3.2.1.1 r3.2.1.2.1
    else
      some ((()), ((o0_0, o0_1, ()), ()))
noncomputable def octet_Writer_Texts.f : Nat → (List ByteArray) → ByteArray → Bool → Option octet_Writer_Texts.R
  | 0, _, _, _ => none
  | k + 1, x1, o0_0, o0_1 =>
    (octet_Writer_Num.f k (x1.length : Int) o0_0 o0_1).bind fun r1 =>
    octet_Writer_Texts.l0 k x1 (x1.length : Int) 0 r1.2.1.1 r1.2.1.2.1
end
abbrev octet_Writer_Texts.ini : LSh := ⟨[(0, .ptr 1000000 0), (1, .val (.sl .str))], [(1000000, 106, [.val .str, .val .bool])]⟩
abbrev octet_Writer_Texts.out : LSh := ⟨[], [(1000000, 106, [.val .str, .val .bool])]⟩
abbrev octet_Writer_Texts.l0s : LSh := ⟨[(0, .ptr 1000000 0), (10, .val (.sl .str)), (11, .val (.int .i64)), (12, .val (.int .i64))], [(1000000, 106, [.val .str, .val .bool])]⟩
noncomputable def octet_Writer_Texts.labF : Nat → Option (LabF octet_Writer_Texts.out.den)
  | 4 => some ⟨octet_Writer_Texts.l0s, fun k (d : (Unit × List ByteArray × Int × Int × Unit) × ((ByteArray × Bool × Unit) × Unit)) => (octet_Writer_Texts.l0 k d.1.2.1 d.1.2.2.1 d.1.2.2.2.1 d.2.1.1 d.2.1.2.1 : Option octet_Writer_Texts.R)⟩
  | _ => none
noncomputable def octet_Writer_Texts.fd : FnD := ⟨Try.f50, octet_Writer_Texts.ini, octet_Writer_Texts.out, 0, [1000000], [], octet_Writer_Texts.labF, fun k (d : (Unit × List ByteArray × Unit) × ((ByteArray × Bool × Unit) × Unit)) => (octet_Writer_Texts.f k d.1.2.1 d.2.1.1 d.2.1.2.1 : Option octet_Writer_Texts.R)⟩

/-! ### proof_Bytes : function 15 -/
abbrev proof_Bytes.R := (ByteArray × Unit) × (Unit)
mutual
noncomputable def proof_Bytes.l0 : Nat → (Int × Int × Int × Int × Unit) → Int → ByteArray → Int → Int → Int → (List (Int × ByteArray × Bool × ByteArray × ByteArray × ByteArray × Unit)) → (List ByteArray) → Int → Int → (List ByteArray) → ByteArray → Bool → Option proof_Bytes.R
  | 0, _, _, _, _, _, _, _, _, _, _, _, _, _ => none
  | k + 1, x28, x29, o1_0, o1_1, o1_2, o1_3, o1_4, o1_5, o1_6, o1_7, o1_8, o14_0, o14_1 =>
    bif decide ((x29 : Int) < 4) then
      (rdo ([x28.1, x28.2.1, x28.2.2.1, x28.2.2.2.1] : List Int) x29).bind fun t3 =>
      (octet_Writer_Num.f k t3 o14_0 o14_1).bind fun r4 =>
      proof_Bytes.l0 k (x28.1, (x28.2.1, (x28.2.2.1, (x28.2.2.2.1, ())))) (IntKind.wrap .i64 (x29 + 1)) o1_0 o1_1 o1_2 o1_3 o1_4 o1_5 o1_6 o1_7 o1_8 r4.2.1.1 r4.2.1.2.1
    else
      proof_Bytes.l1 k o1_4 (o1_4.length : Int) 0 o1_0 o1_1 o1_2 o1_3 o1_4 o1_5 o1_6 o1_7 o1_8 o14_0 o14_1
noncomputable def proof_Bytes.l1 : Nat → (List (Int × ByteArray × Bool × ByteArray × ByteArray × ByteArray × Unit)) → Int → Int → ByteArray → Int → Int → Int → (List (Int × ByteArray × Bool × ByteArray × ByteArray × ByteArray × Unit)) → (List ByteArray) → Int → Int → (List ByteArray) → ByteArray → Bool → Option proof_Bytes.R
  | 0, _, _, _, _, _, _, _, _, _, _, _, _, _, _ => none
  | k + 1, x37, x38, x39, o1_0, o1_1, o1_2, o1_3, o1_4, o1_5, o1_6, o1_7, o1_8, o14_0, o14_1 =>
    bif decide ((x39 : Int) < x38) then
      (rdo x37 x39).bind fun t5 =>
      (proof_item.f k (t5.1, (t5.2.1, (t5.2.2.1, (t5.2.2.2.1, (t5.2.2.2.2.1, (t5.2.2.2.2.2.1, ())))))) o14_0 o14_1).bind fun r6 =>
      proof_Bytes.l1 k x37 x38 (IntKind.wrap .i64 (x39 + 1)) o1_0 o1_1 o1_2 o1_3 o1_4 o1_5 o1_6 o1_7 o1_8 r6.2.1.1 r6.2.1.2.1
    else
      (octet_Writer_Texts.f k o1_5 o14_0 o14_1).bind fun r7 =>
      (octet_Writer_Num.f k o1_6 r7.2.1.1 r7.2.1.2.1).bind fun r8 =>
      (octet_Writer_Num.f k o1_7 r8.2.1.1 r8.2.1.2.1).bind fun r9 =>
      (octet_Writer_Texts.f k o1_8 r9.2.1.1 r9.2.1.2.1).bind fun r10 =>
      (octet_Writer_All.f k r10.2.1.1 r10.2.1.2.1).bind fun r11 =>
      some ((r11.1.1, ()), (()))
noncomputable def proof_Bytes.f : Nat → (ByteArray × Int × Int × Int × List (Int × ByteArray × Bool × ByteArray × ByteArray × ByteArray × Unit) × List ByteArray × Int × Int × List ByteArray × Unit) → Option proof_Bytes.R
  | 0, _ => none
  | k + 1, x0 =>
    (proof_Right.f k (x0.1, (x0.2.1, (x0.2.2.1, (x0.2.2.2.1, (x0.2.2.2.2.1, (x0.2.2.2.2.2.1, (x0.2.2.2.2.2.2.1, (x0.2.2.2.2.2.2.2.1, (x0.2.2.2.2.2.2.2.2.1, ())))))))))).bind fun r1 =>
    bif !r1.1.1 then
      some (((⟨#[]⟩ : ByteArray), ()), (()))
    else
      (octet_Writer_Text.f k x0.1 ByteArray.empty false).bind fun r2 =>
      proof_Bytes.l0 k (x0.2.1, (x0.2.2.1, (x0.2.2.2.1, ((x0.2.2.2.2.1.length : Int), ())))) 0 x0.1 x0.2.1 x0.2.2.1 x0.2.2.2.1 x0.2.2.2.2.1 x0.2.2.2.2.2.1 x0.2.2.2.2.2.2.1 x0.2.2.2.2.2.2.2.1 x0.2.2.2.2.2.2.2.2.1 r2.2.1.1 r2.2.1.2.1
end
abbrev proof_Bytes.ini : LSh := ⟨[(0, .val (.cons .str (.cons (.int .i64) (.cons (.int .i64) (.cons (.int .i64) (.cons (.sl (.cons (.int .i64) (.cons .str (.cons .bool (.cons .str (.cons .str (.cons .str .nil))))))) (.cons (.sl .str) (.cons (.int .i64) (.cons (.int .i64) (.cons (.sl .str) .nil))))))))))], []⟩
abbrev proof_Bytes.out : LSh := ⟨[(0, .val .str)], []⟩
abbrev proof_Bytes.l0s : LSh := ⟨[(1, .ptr 1 0), (3, .ptr 14 0), (28, .val (.cons (.int .i64) (.cons (.int .i64) (.cons (.int .i64) (.cons (.int .i64) .nil))))), (29, .val (.int .i64))], [(1, 36, [.val .str, .val (.int .i64), .val (.int .i64), .val (.int .i64), .val (.sl (.cons (.int .i64) (.cons .str (.cons .bool (.cons .str (.cons .str (.cons .str .nil))))))), .val (.sl .str), .val (.int .i64), .val (.int .i64), .val (.sl .str)]), (14, 106, [.val .str, .val .bool])]⟩
abbrev proof_Bytes.l1s : LSh := ⟨[(1, .ptr 1 0), (3, .ptr 14 0), (37, .val (.sl (.cons (.int .i64) (.cons .str (.cons .bool (.cons .str (.cons .str (.cons .str .nil)))))))), (38, .val (.int .i64)), (39, .val (.int .i64))], [(1, 36, [.val .str, .val (.int .i64), .val (.int .i64), .val (.int .i64), .val (.sl (.cons (.int .i64) (.cons .str (.cons .bool (.cons .str (.cons .str (.cons .str .nil))))))), .val (.sl .str), .val (.int .i64), .val (.int .i64), .val (.sl .str)]), (14, 106, [.val .str, .val .bool])]⟩
noncomputable def proof_Bytes.labF : Nat → Option (LabF proof_Bytes.out.den)
  | 12 => some ⟨proof_Bytes.l0s, fun k (d : (Unit × Unit × (Int × Int × Int × Int × Unit) × Int × Unit) × ((ByteArray × Int × Int × Int × (List (Int × ByteArray × Bool × ByteArray × ByteArray × ByteArray × Unit)) × List ByteArray × Int × Int × List ByteArray × Unit) × (ByteArray × Bool × Unit) × Unit)) => (proof_Bytes.l0 k d.1.2.2.1 d.1.2.2.2.1 d.2.1.1 d.2.1.2.1 d.2.1.2.2.1 d.2.1.2.2.2.1 d.2.1.2.2.2.2.1 d.2.1.2.2.2.2.2.1 d.2.1.2.2.2.2.2.2.1 d.2.1.2.2.2.2.2.2.2.1 d.2.1.2.2.2.2.2.2.2.2.1 d.2.2.1.1 d.2.2.1.2.1 : Option proof_Bytes.R)⟩
  | 22 => some ⟨proof_Bytes.l1s, fun k (d : (Unit × Unit × (List (Int × ByteArray × Bool × ByteArray × ByteArray × ByteArray × Unit)) × Int × Int × Unit) × ((ByteArray × Int × Int × Int × (List (Int × ByteArray × Bool × ByteArray × ByteArray × ByteArray × Unit)) × List ByteArray × Int × Int × List ByteArray × Unit) × (ByteArray × Bool × Unit) × Unit)) => (proof_Bytes.l1 k d.1.2.2.1 d.1.2.2.2.1 d.1.2.2.2.2.1 d.2.1.1 d.2.1.2.1 d.2.1.2.2.1 d.2.1.2.2.2.1 d.2.1.2.2.2.2.1 d.2.1.2.2.2.2.2.1 d.2.1.2.2.2.2.2.2.1 d.2.1.2.2.2.2.2.2.2.1 d.2.1.2.2.2.2.2.2.2.2.1 d.2.2.1.1 d.2.2.1.2.1 : Option proof_Bytes.R)⟩
  | _ => none
noncomputable def proof_Bytes.fd : FnD := ⟨Try.f15, proof_Bytes.ini, proof_Bytes.out, 1, [], [], proof_Bytes.labF, fun k (d : ((ByteArray × Int × Int × Int × List (Int × ByteArray × Bool × ByteArray × ByteArray × ByteArray × Unit) × List ByteArray × Int × Int × List ByteArray × Unit) × Unit) × (Unit)) => (proof_Bytes.f k d.1.1 : Option proof_Bytes.R)⟩

/-! ### chartularylaw21_one : function 29 -/
abbrev chartularylaw21_one.R := (ByteArray × Unit) × (Unit)
noncomputable def chartularylaw21_one.f : Nat → ByteArray → Option chartularylaw21_one.R
  | 0, _ => none
  | k + 1, x0 =>
    (proof_Bytes.f k ((⟨#[97]⟩ : ByteArray), (0, (0, (1, (([(0, ((⟨#[120]⟩ : ByteArray), (false, ((⟨#[48, 49, 50, 51, 52, 53, 54, 55, 56, 57, 97, 98, 99, 100, 101, 102]⟩ : ByteArray), (x0, (ByteArray.empty, ()))))))] : List (Int × ByteArray × Bool × ByteArray × ByteArray × ByteArray × Unit)), (([] : List ByteArray), (0, (1, (([] : List ByteArray), ())))))))))).bind fun r1 =>
    some ((r1.1.1, ()), (()))
abbrev chartularylaw21_one.ini : LSh := ⟨[(0, .val .str)], []⟩
abbrev chartularylaw21_one.out : LSh := ⟨[(0, .val .str)], []⟩
noncomputable def chartularylaw21_one.labF : Nat → Option (LabF chartularylaw21_one.out.den)
  | _ => none
noncomputable def chartularylaw21_one.fd : FnD := ⟨Try.f29, chartularylaw21_one.ini, chartularylaw21_one.out, 1, [], [], chartularylaw21_one.labF, fun k (d : (ByteArray × Unit) × (Unit)) => (chartularylaw21_one.f k d.1.1 : Option chartularylaw21_one.R)⟩

/-! ### chartularylaw21_awake : function 7 -/
abbrev chartularylaw21_awake.R := (Bool × Unit) × (Unit)
noncomputable def chartularylaw21_awake.f : Nat → Option chartularylaw21_awake.R
  | 0 => none
  | k + 1 =>
    (ck (decide ((⟨#[2, 1, 1, 97, 1, 1, 120, 1, 16, 48, 49, 50, 51, 52, 53, 54, 55, 56, 57, 97, 98, 99, 100, 101, 102, 1, 3]⟩ : ByteArray).size + (⟨#[1, 1, 1]⟩ : ByteArray).size ≤ 9223372036854775807))).bind fun _ =>
    (mill_New.f k).bind fun r1 =>
    (pledge_Of.f k (⟨#[97]⟩ : ByteArray) (⟨#[120]⟩ : ByteArray) (⟨#[48, 49, 50, 51, 52, 53, 54, 55, 56, 57, 97, 98, 99, 100, 101, 102]⟩ : ByteArray) (⟨#[0]⟩ : ByteArray) (r1.2.1.2.2.1.1, (r1.2.1.2.2.1.2.1, ())) r1.2.1.2.2.2.1 r1.2.1.2.2.2.2.1 r1.2.1.2.2.2.2.2.1 r1.2.2.1.1 r1.2.2.2.1.1).bind fun r2 =>
    (sheet_Leaf.f k (⟨#[120]⟩ : ByteArray) r2.1.1 (r2.2.1.2.2.1.1, (r2.2.1.2.2.1.2.1, ())) r2.2.1.2.2.2.1 r2.2.1.2.2.2.2.1 r2.2.1.2.2.2.2.2.1 r1.2.2.1.1 r2.2.2.1.1).bind fun r3 =>
    (sheet_Paper.f k (⟨#[97]⟩ : ByteArray) 0 0 1 r3.1.1 (r3.2.1.2.2.1.1, (r3.2.1.2.2.1.2.1, ())) r3.2.1.2.2.2.1 r3.2.1.2.2.2.2.1 r3.2.1.2.2.2.2.2.1 r1.2.2.1.1 r3.2.2.1.1).bind fun r4 =>
    (chartularylaw21_one.f k (⟨#[0]⟩ : ByteArray)).bind fun r5 =>
    (chartularylaw21_one.f k (⟨#[1, 1, 1]⟩ : ByteArray)).bind fun r6 =>
    (extract_Shows.f k ([(false, (ByteArray.empty, ((⟨#[2, 1, 1, 97, 1, 1, 120, 1, 16, 48, 49, 50, 51, 52, 53, 54, 55, 56, 57, 97, 98, 99, 100, 101, 102, 1, 3]⟩ : ByteArray) ++ (⟨#[1, 1, 1]⟩ : ByteArray), (r2.1.1, ()))))] : List (Bool × ByteArray × ByteArray × ByteArray × Unit)) r4.1.1 r5.1.1 r6.1.1).bind fun r7 =>
    bif r7.1.2.1 then
      bif !(r7.1.1.1.toList == r7.1.1.2.1.toList) then
        some ((r7.1.1.2.1.toList == ((⟨#[2, 1, 1, 97, 1, 1, 120, 1, 16, 48, 49, 50, 51, 52, 53, 54, 55, 56, 57, 97, 98, 99, 100, 101, 102, 1, 3]⟩ : ByteArray) ++ (⟨#[1, 1, 1]⟩ : ByteArray)).toList, ()), (()))
      else
        some ((false, ()), (()))
    else
      some ((false, ()), (()))
abbrev chartularylaw21_awake.ini : LSh := ⟨[], []⟩
abbrev chartularylaw21_awake.out : LSh := ⟨[(0, .val .bool)], []⟩
noncomputable def chartularylaw21_awake.labF : Nat → Option (LabF chartularylaw21_awake.out.den)
  | _ => none
noncomputable def chartularylaw21_awake.fd : FnD := ⟨Try.f7, chartularylaw21_awake.ini, chartularylaw21_awake.out, 1, [], [], chartularylaw21_awake.labF, fun k (d : (Unit) × (Unit)) => (chartularylaw21_awake.f k : Option chartularylaw21_awake.R)⟩

/-! ### chartularylaw21_against : function 12 -/
abbrev chartularylaw21_against.R := (Bool × Unit) × (Unit)
mutual
noncomputable def chartularylaw21_against.l0 : Nat → (List (ByteArray × Int × Int × ByteArray × Bool × (Int × Bool × Int × Int × ByteArray × Unit) × Unit)) → (List (ByteArray × Int × Int × ByteArray × Bool × (Int × Bool × Int × Int × ByteArray × Unit) × Unit)) → Int → Option chartularylaw21_against.R
  | 0, _, _, _ => none
  | k + 1, x0, x1, x5 =>
    bif decide ((x5 : Int) < (x0.length : Int)) then
      chartularylaw21_against.l1 k x0 x1 x5 0
    else
      some ((false, ()), (()))
noncomputable def chartularylaw21_against.l1 : Nat → (List (ByteArray × Int × Int × ByteArray × Bool × (Int × Bool × Int × Int × ByteArray × Unit) × Unit)) → (List (ByteArray × Int × Int × ByteArray × Bool × (Int × Bool × Int × Int × ByteArray × Unit) × Unit)) → Int → Int → Option chartularylaw21_against.R
  | 0, _, _, _, _ => none
  | k + 1, x0, x1, x5, x6 =>
    bif decide ((x6 : Int) < (x1.length : Int)) then
      (rdo x0 x5).bind fun t1 =>
      (rdo x1 x6).bind fun t2 =>
      (auditor_Against.f k (t1.1, (t1.2.1, (t1.2.2.1, (t1.2.2.2.1, (t1.2.2.2.2.1, ((t1.2.2.2.2.2.1.1, (t1.2.2.2.2.2.1.2.1, (t1.2.2.2.2.2.1.2.2.1, (t1.2.2.2.2.2.1.2.2.2.1, (t1.2.2.2.2.2.1.2.2.2.2.1, ()))))), ())))))) (t2.1, (t2.2.1, (t2.2.2.1, (t2.2.2.2.1, (t2.2.2.2.2.1, ((t2.2.2.2.2.2.1.1, (t2.2.2.2.2.2.1.2.1, (t2.2.2.2.2.2.1.2.2.1, (t2.2.2.2.2.2.1.2.2.2.1, (t2.2.2.2.2.2.1.2.2.2.2.1, ()))))), ()))))))).bind fun r3 =>
      bif r3.1.1 then
        some ((true, ()), (()))
      else
        chartularylaw21_against.l1 k x0 x1 x5 (IntKind.wrap .i64 (x6 + 1))
    else
      chartularylaw21_against.l0 k x0 x1 (IntKind.wrap .i64 (x5 + 1))
noncomputable def chartularylaw21_against.f : Nat → (List (ByteArray × Int × Int × ByteArray × Bool × (Int × Bool × Int × Int × ByteArray × Unit) × Unit)) → (List (ByteArray × Int × Int × ByteArray × Bool × (Int × Bool × Int × Int × ByteArray × Unit) × Unit)) → Option chartularylaw21_against.R
  | 0, _, _ => none
  | k + 1, x0, x1 =>
    chartularylaw21_against.l0 k x0 x1 0
end
abbrev chartularylaw21_against.ini : LSh := ⟨[(0, .val (.sl (.cons .str (.cons (.int .i64) (.cons (.int .i64) (.cons .str (.cons .bool (.cons (.cons (.int .i64) (.cons .bool (.cons (.int .i64) (.cons (.int .u64) (.cons .str .nil))))) .nil)))))))), (1, .val (.sl (.cons .str (.cons (.int .i64) (.cons (.int .i64) (.cons .str (.cons .bool (.cons (.cons (.int .i64) (.cons .bool (.cons (.int .i64) (.cons (.int .u64) (.cons .str .nil))))) .nil))))))))], []⟩
abbrev chartularylaw21_against.out : LSh := ⟨[(0, .val .bool)], []⟩
abbrev chartularylaw21_against.l0s : LSh := ⟨[(0, .val (.sl (.cons .str (.cons (.int .i64) (.cons (.int .i64) (.cons .str (.cons .bool (.cons (.cons (.int .i64) (.cons .bool (.cons (.int .i64) (.cons (.int .u64) (.cons .str .nil))))) .nil)))))))), (1, .val (.sl (.cons .str (.cons (.int .i64) (.cons (.int .i64) (.cons .str (.cons .bool (.cons (.cons (.int .i64) (.cons .bool (.cons (.int .i64) (.cons (.int .u64) (.cons .str .nil))))) .nil)))))))), (5, .val (.int .i64))], []⟩
abbrev chartularylaw21_against.l1s : LSh := ⟨[(0, .val (.sl (.cons .str (.cons (.int .i64) (.cons (.int .i64) (.cons .str (.cons .bool (.cons (.cons (.int .i64) (.cons .bool (.cons (.int .i64) (.cons (.int .u64) (.cons .str .nil))))) .nil)))))))), (1, .val (.sl (.cons .str (.cons (.int .i64) (.cons (.int .i64) (.cons .str (.cons .bool (.cons (.cons (.int .i64) (.cons .bool (.cons (.int .i64) (.cons (.int .u64) (.cons .str .nil))))) .nil)))))))), (5, .val (.int .i64)), (6, .val (.int .i64))], []⟩
noncomputable def chartularylaw21_against.labF : Nat → Option (LabF chartularylaw21_against.out.den)
  | 4 => some ⟨chartularylaw21_against.l0s, fun k (d : ((List (ByteArray × Int × Int × ByteArray × Bool × (Int × Bool × Int × Int × ByteArray × Unit) × Unit)) × (List (ByteArray × Int × Int × ByteArray × Bool × (Int × Bool × Int × Int × ByteArray × Unit) × Unit)) × Int × Unit) × (Unit)) => (chartularylaw21_against.l0 k d.1.1 d.1.2.1 d.1.2.2.1 : Option chartularylaw21_against.R)⟩
  | 10 => some ⟨chartularylaw21_against.l1s, fun k (d : ((List (ByteArray × Int × Int × ByteArray × Bool × (Int × Bool × Int × Int × ByteArray × Unit) × Unit)) × (List (ByteArray × Int × Int × ByteArray × Bool × (Int × Bool × Int × Int × ByteArray × Unit) × Unit)) × Int × Int × Unit) × (Unit)) => (chartularylaw21_against.l1 k d.1.1 d.1.2.1 d.1.2.2.1 d.1.2.2.2.1 : Option chartularylaw21_against.R)⟩
  | _ => none
noncomputable def chartularylaw21_against.fd : FnD := ⟨Try.f12, chartularylaw21_against.ini, chartularylaw21_against.out, 1, [], [], chartularylaw21_against.labF, fun k (d : ((List (ByteArray × Int × Int × ByteArray × Bool × (Int × Bool × Int × Int × ByteArray × Unit) × Unit)) × (List (ByteArray × Int × Int × ByteArray × Bool × (Int × Bool × Int × Int × ByteArray × Unit) × Unit)) × Unit) × (Unit)) => (chartularylaw21_against.f k d.1.1 d.1.2.1 : Option chartularylaw21_against.R)⟩

/-! ### chartularylaw21_sum : function 45 -/
abbrev chartularylaw21_sum.R := (ByteArray × Unit) × (Unit)
noncomputable def chartularylaw21_sum.f : Nat → (List (Bool × ByteArray × ByteArray × ByteArray × Unit)) → ByteArray → Option chartularylaw21_sum.R
  | 0, _, _ => none
  | k + 1, x0, x1 =>
    orE (
      (mill_With_has.f k x0).bind fun r1 =>
      bif (r1.1.2.1 : Int) != 0 then
        some (((⟨#[]⟩ : ByteArray), ()), (()))
      else
        (mill_Mill_Sum.f k x1 (r1.2.1.2.2.1.1, (r1.2.1.2.2.1.2.1, ())) r1.2.1.2.2.2.1 r1.2.1.2.2.2.2.1 r1.2.1.2.2.2.2.2.1 r1.2.2.1.1 r1.2.2.2.1.1).bind fun r2 =>
        some ((r2.1.1, ()), (()))) (
      (mill_With_nil.f k x0).bind fun r3 =>
      bif (r3.1.2.1 : Int) != 0 then
        some (((⟨#[]⟩ : ByteArray), ()), (()))
      else
        none)
abbrev chartularylaw21_sum.ini : LSh := ⟨[(0, .val (.sl (.cons .bool (.cons .str (.cons .str (.cons .str .nil)))))), (1, .val .str)], []⟩
abbrev chartularylaw21_sum.out : LSh := ⟨[(0, .val .str)], []⟩
noncomputable def chartularylaw21_sum.labF : Nat → Option (LabF chartularylaw21_sum.out.den)
  | _ => none
noncomputable def chartularylaw21_sum.fd : FnD := ⟨Try.f45, chartularylaw21_sum.ini, chartularylaw21_sum.out, 1, [], [], chartularylaw21_sum.labF, fun k (d : ((List (Bool × ByteArray × ByteArray × ByteArray × Unit)) × ByteArray × Unit) × (Unit)) => (chartularylaw21_sum.f k d.1.1 d.1.2.1 : Option chartularylaw21_sum.R)⟩

/-! ### chartularylaw21_twins : function 13 -/
abbrev chartularylaw21_twins.R := (Bool × Unit) × (Unit)
noncomputable def chartularylaw21_twins.f : Nat → (List (Bool × ByteArray × ByteArray × ByteArray × Unit)) → (ByteArray × ByteArray × Unit) → Option chartularylaw21_twins.R
  | 0, _, _ => none
  | k + 1, x0, x1 =>
    (chartularylaw21_sum.f k x0 x1.1).bind fun r1 =>
    bif !(x1.1.toList == x1.2.1.toList) then
      bif !(r1.1.1.toList == (⟨#[]⟩ : ByteArray).toList) then
        (chartularylaw21_sum.f k x0 x1.2.1).bind fun r2 =>
        some ((r1.1.1.toList == r2.1.1.toList, ()), (()))
      else
        some ((false, ()), (()))
    else
      some ((false, ()), (()))
abbrev chartularylaw21_twins.ini : LSh := ⟨[(0, .val (.sl (.cons .bool (.cons .str (.cons .str (.cons .str .nil)))))), (1, .val (.cons .str (.cons .str .nil)))], []⟩
abbrev chartularylaw21_twins.out : LSh := ⟨[(0, .val .bool)], []⟩
noncomputable def chartularylaw21_twins.labF : Nat → Option (LabF chartularylaw21_twins.out.den)
  | _ => none
noncomputable def chartularylaw21_twins.fd : FnD := ⟨Try.f13, chartularylaw21_twins.ini, chartularylaw21_twins.out, 1, [], [], chartularylaw21_twins.labF, fun k (d : ((List (Bool × ByteArray × ByteArray × ByteArray × Unit)) × (ByteArray × ByteArray × Unit) × Unit) × (Unit)) => (chartularylaw21_twins.f k d.1.1 d.1.2.1 : Option chartularylaw21_twins.R)⟩

/-! ### chartularylaw14_cut : function 46 -/
abbrev chartularylaw14_cut.R := (ByteArray × Unit) × (Unit)
noncomputable def chartularylaw14_cut.f : Nat → ByteArray → Option chartularylaw14_cut.R
  | 0, _ => none
  | k + 1, x0 =>
    bif decide (((x0.size : Int) : Int) > 300) then
      (ck (decide (0 ≤ 0) && decide (0 ≤ 300) && decide (300 ≤ (x0.size : Int)))).bind fun _ =>
      some ((x0.extract (0 : Int).toNat (300 : Int).toNat, ()), (()))
    else
      some ((x0, ()), (()))
abbrev chartularylaw14_cut.ini : LSh := ⟨[(0, .val .str)], []⟩
abbrev chartularylaw14_cut.out : LSh := ⟨[(0, .val .str)], []⟩
noncomputable def chartularylaw14_cut.labF : Nat → Option (LabF chartularylaw14_cut.out.den)
  | _ => none
noncomputable def chartularylaw14_cut.fd : FnD := ⟨Try.f46, chartularylaw14_cut.ini, chartularylaw14_cut.out, 1, [], [], chartularylaw14_cut.labF, fun k (d : (ByteArray × Unit) × (Unit)) => (chartularylaw14_cut.f k d.1.1 : Option chartularylaw14_cut.R)⟩

/-! ### chartularylaw14_FewEntry : function 14 -/
abbrev chartularylaw14_FewEntry.R := ((ByteArray × Int × Int × Int × List (ByteArray × ByteArray × ByteArray × Bool × Unit) × Bool × List ByteArray × Unit) × Unit) × (Unit)
mutual
noncomputable def chartularylaw14_FewEntry.l0 : Nat → Int → ByteArray → Int → Int → Int → (List (ByteArray × ByteArray × ByteArray × Bool × Unit)) → Bool → (List ByteArray) → ByteArray → Int → Int → Int → (List (ByteArray × ByteArray × ByteArray × Bool × Unit)) → Bool → (List ByteArray) → ByteArray → Int → Int → Int → (List (ByteArray × ByteArray × ByteArray × Bool × Unit)) → Bool → (List ByteArray) → Option chartularylaw14_FewEntry.R
  | 0, _, _, _, _, _, _, _, _, _, _, _, _, _, _, _, _, _, _, _, _, _, _ => none
  | k + 1, x4, o1_0, o1_1, o1_2, o1_3, o1_4, o1_5, o1_6, o2_0, o2_1, o2_2, o2_3, o2_4, o2_5, o2_6, o3_0, o3_1, o3_2, o3_3, o3_4, o3_5, o3_6 =>
    bif decide ((x4 : Int) < (o1_4.length : Int)) then
      bif decide ((x4 : Int) < 20) then
        (rdo o1_4 x4).bind fun t2 =>
        (chartularylaw14_cut.f k t2.1).bind fun r3 =>
        (chartularylaw14_cut.f k t2.2.1).bind fun r4 =>
        (chartularylaw14_cut.f k t2.2.2.1).bind fun r5 =>
        (ck (decide ((o3_4.length + ([(r3.1.1, (r4.1.1, (r5.1.1, (t2.2.2.2.1, ()))))] : List (ByteArray × ByteArray × ByteArray × Bool × Unit)).length) * 56 ≤ 70368744177664))).bind fun _ =>
        chartularylaw14_FewEntry.l0 k (IntKind.wrap .i64 (x4 + 1)) o1_0 o1_1 o1_2 o1_3 o1_4 o1_5 o1_6 o2_0 o2_1 o2_2 o2_3 o2_4 o2_5 o2_6 o3_0 o3_1 o3_2 o3_3 (o3_4 ++ ([(r3.1.1, (r4.1.1, (r5.1.1, (t2.2.2.2.1, ()))))] : List (ByteArray × ByteArray × ByteArray × Bool × Unit))) o3_5 o3_6
      else
        chartularylaw14_FewEntry.l1 k 0 o1_0 o1_1 o1_2 o1_3 o1_4 o1_5 o1_6 o2_0 o2_1 o2_2 o2_3 o2_4 o2_5 o2_6 o3_0 o3_1 o3_2 o3_3 o3_4 o3_5 o3_6
    else
      chartularylaw14_FewEntry.l1 k 0 o1_0 o1_1 o1_2 o1_3 o1_4 o1_5 o1_6 o2_0 o2_1 o2_2 o2_3 o2_4 o2_5 o2_6 o3_0 o3_1 o3_2 o3_3 o3_4 o3_5 o3_6
noncomputable def chartularylaw14_FewEntry.l1 : Nat → Int → ByteArray → Int → Int → Int → (List (ByteArray × ByteArray × ByteArray × Bool × Unit)) → Bool → (List ByteArray) → ByteArray → Int → Int → Int → (List (ByteArray × ByteArray × ByteArray × Bool × Unit)) → Bool → (List ByteArray) → ByteArray → Int → Int → Int → (List (ByteArray × ByteArray × ByteArray × Bool × Unit)) → Bool → (List ByteArray) → Option chartularylaw14_FewEntry.R
  | 0, _, _, _, _, _, _, _, _, _, _, _, _, _, _, _, _, _, _, _, _, _, _ => none
  | k + 1, x6, o1_0, o1_1, o1_2, o1_3, o1_4, o1_5, o1_6, o2_0, o2_1, o2_2, o2_3, o2_4, o2_5, o2_6, o3_0, o3_1, o3_2, o3_3, o3_4, o3_5, o3_6 =>
    bif decide ((x6 : Int) < (o1_6.length : Int)) then
      bif decide ((x6 : Int) < 20) then
        (rdo o1_6 x6).bind fun t6 =>
        (chartularylaw14_cut.f k t6).bind fun r7 =>
        (ck (decide ((o3_6.length + ([r7.1.1] : List ByteArray).length) * 16 ≤ 70368744177664))).bind fun _ =>
        chartularylaw14_FewEntry.l1 k (IntKind.wrap .i64 (x6 + 1)) o1_0 o1_1 o1_2 o1_3 o1_4 o1_5 o1_6 o2_0 o2_1 o2_2 o2_3 o2_4 o2_5 o2_6 o3_0 o3_1 o3_2 o3_3 o3_4 o3_5 (o3_6 ++ ([r7.1.1] : List ByteArray))
      else
        some (((o3_0, (o3_1, (o3_2, (o3_3, (o3_4, (o3_5, (o3_6, ()))))))), ()), (()))
    else
      some (((o3_0, (o3_1, (o3_2, (o3_3, (o3_4, (o3_5, (o3_6, ()))))))), ()), (()))
noncomputable def chartularylaw14_FewEntry.f : Nat → (ByteArray × Int × Int × Int × List (ByteArray × ByteArray × ByteArray × Bool × Unit) × Bool × List ByteArray × Unit) → Option chartularylaw14_FewEntry.R
  | 0, _ => none
  | k + 1, x0 =>
    (chartularylaw14_cut.f k x0.1).bind fun r1 =>
    chartularylaw14_FewEntry.l0 k 0 x0.1 x0.2.1 x0.2.2.1 x0.2.2.2.1 x0.2.2.2.2.1 x0.2.2.2.2.2.1 x0.2.2.2.2.2.2.1 ByteArray.empty 0 0 0 ([] : List (ByteArray × ByteArray × ByteArray × Bool × Unit)) false ([] : List ByteArray) r1.1.1 x0.2.1 x0.2.2.1 x0.2.2.2.1 [] x0.2.2.2.2.2.1 []
end
abbrev chartularylaw14_FewEntry.ini : LSh := ⟨[(0, .val (.cons .str (.cons (.int .i64) (.cons (.int .i64) (.cons (.int .i64) (.cons (.sl (.cons .str (.cons .str (.cons .str (.cons .bool .nil))))) (.cons .bool (.cons (.sl .str) .nil))))))))], []⟩
abbrev chartularylaw14_FewEntry.out : LSh := ⟨[(0, .val (.cons .str (.cons (.int .i64) (.cons (.int .i64) (.cons (.int .i64) (.cons (.sl (.cons .str (.cons .str (.cons .str (.cons .bool .nil))))) (.cons .bool (.cons (.sl .str) .nil))))))))], []⟩
abbrev chartularylaw14_FewEntry.l0s : LSh := ⟨[(1, .ptr 1 0), (2, .ptr 2 0), (3, .ptr 3 0), (4, .val (.int .i64))], [(1, 50, [.val .str, .val (.int .i64), .val (.int .i64), .val (.int .i64), .val (.sl (.cons .str (.cons .str (.cons .str (.cons .bool .nil))))), .val .bool, .val (.sl .str)]), (2, 50, [.val .str, .val (.int .i64), .val (.int .i64), .val (.int .i64), .val (.sl (.cons .str (.cons .str (.cons .str (.cons .bool .nil))))), .val .bool, .val (.sl .str)]), (3, 50, [.val .str, .val (.int .i64), .val (.int .i64), .val (.int .i64), .own 3000304 103 (.cons .str (.cons .str (.cons .str (.cons .bool .nil)))), .val .bool, .own 3000306 9 .str])]⟩
abbrev chartularylaw14_FewEntry.l1s : LSh := ⟨[(1, .ptr 1 0), (2, .ptr 2 0), (3, .ptr 3 0), (6, .val (.int .i64))], [(1, 50, [.val .str, .val (.int .i64), .val (.int .i64), .val (.int .i64), .val (.sl (.cons .str (.cons .str (.cons .str (.cons .bool .nil))))), .val .bool, .val (.sl .str)]), (2, 50, [.val .str, .val (.int .i64), .val (.int .i64), .val (.int .i64), .val (.sl (.cons .str (.cons .str (.cons .str (.cons .bool .nil))))), .val .bool, .val (.sl .str)]), (3, 50, [.val .str, .val (.int .i64), .val (.int .i64), .val (.int .i64), .own 3000304 103 (.cons .str (.cons .str (.cons .str (.cons .bool .nil)))), .val .bool, .own 3000306 9 .str])]⟩
noncomputable def chartularylaw14_FewEntry.labF : Nat → Option (LabF chartularylaw14_FewEntry.out.den)
  | 6 => some ⟨chartularylaw14_FewEntry.l0s, fun k (d : (Unit × Unit × Unit × Int × Unit) × ((ByteArray × Int × Int × Int × (List (ByteArray × ByteArray × ByteArray × Bool × Unit)) × Bool × List ByteArray × Unit) × (ByteArray × Int × Int × Int × (List (ByteArray × ByteArray × ByteArray × Bool × Unit)) × Bool × List ByteArray × Unit) × (ByteArray × Int × Int × Int × (List (ByteArray × ByteArray × ByteArray × Bool × Unit)) × Bool × List ByteArray × Unit) × Unit)) => (chartularylaw14_FewEntry.l0 k d.1.2.2.2.1 d.2.1.1 d.2.1.2.1 d.2.1.2.2.1 d.2.1.2.2.2.1 d.2.1.2.2.2.2.1 d.2.1.2.2.2.2.2.1 d.2.1.2.2.2.2.2.2.1 d.2.2.1.1 d.2.2.1.2.1 d.2.2.1.2.2.1 d.2.2.1.2.2.2.1 d.2.2.1.2.2.2.2.1 d.2.2.1.2.2.2.2.2.1 d.2.2.1.2.2.2.2.2.2.1 d.2.2.2.1.1 d.2.2.2.1.2.1 d.2.2.2.1.2.2.1 d.2.2.2.1.2.2.2.1 d.2.2.2.1.2.2.2.2.1 d.2.2.2.1.2.2.2.2.2.1 d.2.2.2.1.2.2.2.2.2.2.1 : Option chartularylaw14_FewEntry.R)⟩
  | 16 => some ⟨chartularylaw14_FewEntry.l1s, fun k (d : (Unit × Unit × Unit × Int × Unit) × ((ByteArray × Int × Int × Int × (List (ByteArray × ByteArray × ByteArray × Bool × Unit)) × Bool × List ByteArray × Unit) × (ByteArray × Int × Int × Int × (List (ByteArray × ByteArray × ByteArray × Bool × Unit)) × Bool × List ByteArray × Unit) × (ByteArray × Int × Int × Int × (List (ByteArray × ByteArray × ByteArray × Bool × Unit)) × Bool × List ByteArray × Unit) × Unit)) => (chartularylaw14_FewEntry.l1 k d.1.2.2.2.1 d.2.1.1 d.2.1.2.1 d.2.1.2.2.1 d.2.1.2.2.2.1 d.2.1.2.2.2.2.1 d.2.1.2.2.2.2.2.1 d.2.1.2.2.2.2.2.2.1 d.2.2.1.1 d.2.2.1.2.1 d.2.2.1.2.2.1 d.2.2.1.2.2.2.1 d.2.2.1.2.2.2.2.1 d.2.2.1.2.2.2.2.2.1 d.2.2.1.2.2.2.2.2.2.1 d.2.2.2.1.1 d.2.2.2.1.2.1 d.2.2.2.1.2.2.1 d.2.2.2.1.2.2.2.1 d.2.2.2.1.2.2.2.2.1 d.2.2.2.1.2.2.2.2.2.1 d.2.2.2.1.2.2.2.2.2.2.1 : Option chartularylaw14_FewEntry.R)⟩
  | _ => none
noncomputable def chartularylaw14_FewEntry.fd : FnD := ⟨Try.f14, chartularylaw14_FewEntry.ini, chartularylaw14_FewEntry.out, 1, [], [], chartularylaw14_FewEntry.labF, fun k (d : ((ByteArray × Int × Int × Int × List (ByteArray × ByteArray × ByteArray × Bool × Unit) × Bool × List ByteArray × Unit) × Unit) × (Unit)) => (chartularylaw14_FewEntry.f k d.1.1 : Option chartularylaw14_FewEntry.R)⟩

/-! ### chartularylaw19_cut : function 52 -/
abbrev chartularylaw19_cut.R := (ByteArray × Unit) × (Unit)
noncomputable def chartularylaw19_cut.f : Nat → ByteArray → Option chartularylaw19_cut.R
  | 0, _ => none
  | k + 1, x0 =>
    bif decide (((x0.size : Int) : Int) > 300) then
      (ck (decide (0 ≤ 0) && decide (0 ≤ 300) && decide (300 ≤ (x0.size : Int)))).bind fun _ =>
      some ((x0.extract (0 : Int).toNat (300 : Int).toNat, ()), (()))
    else
      some ((x0, ()), (()))
abbrev chartularylaw19_cut.ini : LSh := ⟨[(0, .val .str)], []⟩
abbrev chartularylaw19_cut.out : LSh := ⟨[(0, .val .str)], []⟩
noncomputable def chartularylaw19_cut.labF : Nat → Option (LabF chartularylaw19_cut.out.den)
  | _ => none
noncomputable def chartularylaw19_cut.fd : FnD := ⟨Try.f52, chartularylaw19_cut.ini, chartularylaw19_cut.out, 1, [], [], chartularylaw19_cut.labF, fun k (d : (ByteArray × Unit) × (Unit)) => (chartularylaw19_cut.f k d.1.1 : Option chartularylaw19_cut.R)⟩

/-! ### chartularylaw19_texts : function 53 -/
abbrev chartularylaw19_texts.R := (List ByteArray × Unit) × (Unit)
mutual
noncomputable def chartularylaw19_texts.l0 : Nat → (List ByteArray) → (List ByteArray) → Int → Option chartularylaw19_texts.R
  | 0, _, _, _ => none
  | k + 1, x0, x3, x4 =>
    bif decide ((x4 : Int) < (x0.length : Int)) then
      bif decide ((x4 : Int) < 30) then
        (rdo x0 x4).bind fun t1 =>
        (chartularylaw19_cut.f k t1).bind fun r2 =>
        (ck (decide ((x3.length + ([r2.1.1] : List ByteArray).length) * 16 ≤ 70368744177664))).bind fun _ =>
        chartularylaw19_texts.l0 k x0 (x3 ++ ([r2.1.1] : List ByteArray)) (IntKind.wrap .i64 (x4 + 1))
      else
        some ((x3, ()), (()))
    else
      some ((x3, ()), (()))
noncomputable def chartularylaw19_texts.f : Nat → (List ByteArray) → Option chartularylaw19_texts.R
  | 0, _ => none
  | k + 1, x0 =>
    chartularylaw19_texts.l0 k x0 [] 0
end
abbrev chartularylaw19_texts.ini : LSh := ⟨[(0, .val (.sl .str))], []⟩
abbrev chartularylaw19_texts.out : LSh := ⟨[(0, .val (.sl .str))], []⟩
abbrev chartularylaw19_texts.l0s : LSh := ⟨[(0, .val (.sl .str)), (3, .own 2000003 9 .str), (4, .val (.int .i64))], []⟩
noncomputable def chartularylaw19_texts.labF : Nat → Option (LabF chartularylaw19_texts.out.den)
  | 6 => some ⟨chartularylaw19_texts.l0s, fun k (d : (List ByteArray × List ByteArray × Int × Unit) × (Unit)) => (chartularylaw19_texts.l0 k d.1.1 d.1.2.1 d.1.2.2.1 : Option chartularylaw19_texts.R)⟩
  | _ => none
noncomputable def chartularylaw19_texts.fd : FnD := ⟨Try.f53, chartularylaw19_texts.ini, chartularylaw19_texts.out, 1, [], [], chartularylaw19_texts.labF, fun k (d : (List ByteArray × Unit) × (Unit)) => (chartularylaw19_texts.f k d.1.1 : Option chartularylaw19_texts.R)⟩

/-! ### chartularylaw19_Few : function 16 -/
abbrev chartularylaw19_Few.R := ((ByteArray × Int × Int × Int × List (Int × ByteArray × Bool × ByteArray × ByteArray × ByteArray × Unit) × List ByteArray × Int × Int × List ByteArray × Unit) × Unit) × (Unit)
mutual
noncomputable def chartularylaw19_Few.l0 : Nat → (List (Int × ByteArray × Bool × ByteArray × ByteArray × ByteArray × Unit)) → Int → ByteArray → Int → Int → Int → (List (Int × ByteArray × Bool × ByteArray × ByteArray × ByteArray × Unit)) → (List ByteArray) → Int → Int → (List ByteArray) → ByteArray → Int → Int → Int → (List (Int × ByteArray × Bool × ByteArray × ByteArray × ByteArray × Unit)) → (List ByteArray) → Int → Int → (List ByteArray) → Option chartularylaw19_Few.R
  | 0, _, _, _, _, _, _, _, _, _, _, _, _, _, _, _, _, _, _, _, _ => none
  | k + 1, x3, x4, o1_0, o1_1, o1_2, o1_3, o1_4, o1_5, o1_6, o1_7, o1_8, o2_0, o2_1, o2_2, o2_3, o2_4, o2_5, o2_6, o2_7, o2_8 =>
    bif decide ((x4 : Int) < (o1_4.length : Int)) then
      bif decide ((x4 : Int) < 30) then
        (rdo o1_4 x4).bind fun t4 =>
        (chartularylaw19_cut.f k t4.2.1).bind fun r5 =>
        (chartularylaw19_cut.f k t4.2.2.2.1).bind fun r6 =>
        (chartularylaw19_cut.f k t4.2.2.2.2.1).bind fun r7 =>
        (chartularylaw19_cut.f k t4.2.2.2.2.2.1).bind fun r8 =>
        (ck (decide ((x3.length + ([(t4.1, (r5.1.1, (t4.2.2.1, (r6.1.1, (r7.1.1, (r8.1.1, ()))))))] : List (Int × ByteArray × Bool × ByteArray × ByteArray × ByteArray × Unit)).length) * 80 ≤ 70368744177664))).bind fun _ =>
        chartularylaw19_Few.l0 k (x3 ++ ([(t4.1, (r5.1.1, (t4.2.2.1, (r6.1.1, (r7.1.1, (r8.1.1, ()))))))] : List (Int × ByteArray × Bool × ByteArray × ByteArray × ByteArray × Unit))) (IntKind.wrap .i64 (x4 + 1)) o1_0 o1_1 o1_2 o1_3 o1_4 o1_5 o1_6 o1_7 o1_8 o2_0 o2_1 o2_2 o2_3 o2_4 o2_5 o2_6 o2_7 o2_8
      else
        some (((o1_0, (o1_1, (o1_2, (o1_3, (x3, (o1_5, (o1_6, (o1_7, (o1_8, ()))))))))), ()), (()))
    else
      some (((o1_0, (o1_1, (o1_2, (o1_3, (x3, (o1_5, (o1_6, (o1_7, (o1_8, ()))))))))), ()), (()))
noncomputable def chartularylaw19_Few.f : Nat → (ByteArray × Int × Int × Int × List (Int × ByteArray × Bool × ByteArray × ByteArray × ByteArray × Unit) × List ByteArray × Int × Int × List ByteArray × Unit) → Option chartularylaw19_Few.R
  | 0, _ => none
  | k + 1, x0 =>
    (chartularylaw19_cut.f k x0.1).bind fun r1 =>
    (chartularylaw19_texts.f k x0.2.2.2.2.2.1).bind fun r2 =>
    (chartularylaw19_texts.f k x0.2.2.2.2.2.2.2.2.1).bind fun r3 =>
    chartularylaw19_Few.l0 k [] 0 r1.1.1 x0.2.1 x0.2.2.1 x0.2.2.2.1 x0.2.2.2.2.1 r2.1.1 x0.2.2.2.2.2.2.1 x0.2.2.2.2.2.2.2.1 r3.1.1 ByteArray.empty 0 0 0 ([] : List (Int × ByteArray × Bool × ByteArray × ByteArray × ByteArray × Unit)) ([] : List ByteArray) 0 0 ([] : List ByteArray)
end
abbrev chartularylaw19_Few.ini : LSh := ⟨[(0, .val (.cons .str (.cons (.int .i64) (.cons (.int .i64) (.cons (.int .i64) (.cons (.sl (.cons (.int .i64) (.cons .str (.cons .bool (.cons .str (.cons .str (.cons .str .nil))))))) (.cons (.sl .str) (.cons (.int .i64) (.cons (.int .i64) (.cons (.sl .str) .nil))))))))))], []⟩
abbrev chartularylaw19_Few.out : LSh := ⟨[(0, .val (.cons .str (.cons (.int .i64) (.cons (.int .i64) (.cons (.int .i64) (.cons (.sl (.cons (.int .i64) (.cons .str (.cons .bool (.cons .str (.cons .str (.cons .str .nil))))))) (.cons (.sl .str) (.cons (.int .i64) (.cons (.int .i64) (.cons (.sl .str) .nil))))))))))], []⟩
abbrev chartularylaw19_Few.l0s : LSh := ⟨[(1, .ptr 1 0), (2, .ptr 2 0), (3, .own 2000003 84 (.cons (.int .i64) (.cons .str (.cons .bool (.cons .str (.cons .str (.cons .str .nil))))))), (4, .val (.int .i64))], [(1, 36, [.val .str, .val (.int .i64), .val (.int .i64), .val (.int .i64), .val (.sl (.cons (.int .i64) (.cons .str (.cons .bool (.cons .str (.cons .str (.cons .str .nil))))))), .val (.sl .str), .val (.int .i64), .val (.int .i64), .val (.sl .str)]), (2, 36, [.val .str, .val (.int .i64), .val (.int .i64), .val (.int .i64), .val (.sl (.cons (.int .i64) (.cons .str (.cons .bool (.cons .str (.cons .str (.cons .str .nil))))))), .val (.sl .str), .val (.int .i64), .val (.int .i64), .val (.sl .str)])]⟩
noncomputable def chartularylaw19_Few.labF : Nat → Option (LabF chartularylaw19_Few.out.den)
  | 12 => some ⟨chartularylaw19_Few.l0s, fun k (d : (Unit × Unit × (List (Int × ByteArray × Bool × ByteArray × ByteArray × ByteArray × Unit)) × Int × Unit) × ((ByteArray × Int × Int × Int × (List (Int × ByteArray × Bool × ByteArray × ByteArray × ByteArray × Unit)) × List ByteArray × Int × Int × List ByteArray × Unit) × (ByteArray × Int × Int × Int × (List (Int × ByteArray × Bool × ByteArray × ByteArray × ByteArray × Unit)) × List ByteArray × Int × Int × List ByteArray × Unit) × Unit)) => (chartularylaw19_Few.l0 k d.1.2.2.1 d.1.2.2.2.1 d.2.1.1 d.2.1.2.1 d.2.1.2.2.1 d.2.1.2.2.2.1 d.2.1.2.2.2.2.1 d.2.1.2.2.2.2.2.1 d.2.1.2.2.2.2.2.2.1 d.2.1.2.2.2.2.2.2.2.1 d.2.1.2.2.2.2.2.2.2.2.1 d.2.2.1.1 d.2.2.1.2.1 d.2.2.1.2.2.1 d.2.2.1.2.2.2.1 d.2.2.1.2.2.2.2.1 d.2.2.1.2.2.2.2.2.1 d.2.2.1.2.2.2.2.2.2.1 d.2.2.1.2.2.2.2.2.2.2.1 d.2.2.1.2.2.2.2.2.2.2.2.1 : Option chartularylaw19_Few.R)⟩
  | _ => none
noncomputable def chartularylaw19_Few.fd : FnD := ⟨Try.f16, chartularylaw19_Few.ini, chartularylaw19_Few.out, 1, [], [], chartularylaw19_Few.labF, fun k (d : ((ByteArray × Int × Int × Int × List (Int × ByteArray × Bool × ByteArray × ByteArray × ByteArray × Unit) × List ByteArray × Int × Int × List ByteArray × Unit) × Unit) × (Unit)) => (chartularylaw19_Few.f k d.1.1 : Option chartularylaw19_Few.R)⟩

/-! ### pledge_None : function 55 -/
abbrev pledge_None.R := (ByteArray × Unit) × ((Unit × Unit × (ByteArray × ByteArray × Unit) × Bool × Bool × Int × Unit) × ((List (ByteArray × ByteArray)) × Unit) × Unit)
noncomputable def pledge_None.f : Nat → (ByteArray × ByteArray × Unit) → Bool → Bool → Int → (List (ByteArray × ByteArray)) → (List (ByteArray × ByteArray)) → Option pledge_None.R
  | 0, _, _, _, _, _, _ => none
  | k + 1, o0_2, o0_3, o0_4, o0_5, o1_0, o2_0 =>
    (mill_Mill_Sum.f k (⟨#[]⟩ : ByteArray) (o0_2.1, (o0_2.2.1, ())) o0_3 o0_4 o0_5 o1_0 o2_0).bind fun r1 =>
    some ((r1.1.1, ()), (((), (), (r1.2.1.2.2.1.1, (r1.2.1.2.2.1.2.1, ())), r1.2.1.2.2.2.1, r1.2.1.2.2.2.2.1, r1.2.1.2.2.2.2.2.1, ()), (r1.2.2.1.1, ()), ()))
abbrev pledge_None.ini : LSh := ⟨[(0, .ptr 1000000 0)], [(1000000, 78, [.mref 1000001, .mref 1000002, .val (.cons .str (.cons .str .nil)), .val .bool, .val .bool, .val (.int .i64)]), (1000001, 75, [.mapd]), (1000002, 75, [.mapd])]⟩
abbrev pledge_None.out : LSh := ⟨[(0, .val .str)], [(1000000, 78, [.mref 1000001, .mref 1000002, .val (.cons .str (.cons .str .nil)), .val .bool, .val .bool, .val (.int .i64)]), (1000002, 75, [.mapd])]⟩
noncomputable def pledge_None.labF : Nat → Option (LabF pledge_None.out.den)
  | _ => none
noncomputable def pledge_None.fd : FnD := ⟨Try.f55, pledge_None.ini, pledge_None.out, 1, [1000000, 1000001, 1000002], [1000001], pledge_None.labF, fun k (d : (Unit × Unit) × ((Unit × Unit × (ByteArray × ByteArray × Unit) × Bool × Bool × Int × Unit) × ((List (ByteArray × ByteArray)) × Unit) × ((List (ByteArray × ByteArray)) × Unit) × Unit)) => (pledge_None.f k d.2.1.2.2.1 d.2.1.2.2.2.1 d.2.1.2.2.2.2.1 d.2.1.2.2.2.2.2.1 d.2.2.1.1 d.2.2.2.1.1 : Option pledge_None.R)⟩

/-! ### merkle_Root : function 19 -/
abbrev merkle_Root.R := (ByteArray × Unit) × ((Unit × Unit × (ByteArray × ByteArray × Unit) × Bool × Bool × Int × Unit) × ((List (ByteArray × ByteArray)) × Unit) × Unit)
noncomputable def merkle_Root.f : Nat → (List ByteArray) → (ByteArray × ByteArray × Unit) → Bool → Bool → Int → (List (ByteArray × ByteArray)) → (List (ByteArray × ByteArray)) → Option merkle_Root.R
  | 0, _, _, _, _, _, _, _ => none
  | k + 1, x1, o0_2, o0_3, o0_4, o0_5, o1_0, o2_0 =>
    bif ((x1.length : Int) : Int) == 0 then
      (pledge_None.f k (o0_2.1, (o0_2.2.1, ())) o0_3 o0_4 o0_5 o1_0 o2_0).bind fun r1 =>
      some ((r1.1.1, ()), (((), (), (r1.2.1.2.2.1.1, (r1.2.1.2.2.1.2.1, ())), r1.2.1.2.2.2.1, r1.2.1.2.2.2.2.1, r1.2.1.2.2.2.2.2.1, ()), (r1.2.2.1.1, ()), ()))
    else
    bif ((x1.length : Int) : Int) == 1 then
      (rdo x1 0).bind fun t2 =>
      some ((t2, ()), (((), (), (o0_2.1, (o0_2.2.1, ())), o0_3, o0_4, o0_5, ()), (o2_0, ()), ()))
    else
      (merkle_split.f k (x1.length : Int)).bind fun r3 =>
      (ck (decide (0 ≤ 0) && decide (0 ≤ r3.1.1) && decide (r3.1.1 ≤ r3.1.1) && decide (r3.1.1 ≤ (x1.length : Int)))).bind fun _ =>
      (merkle_Root.f k ((x1.take (r3.1.1 : Int).toNat).drop (0 : Int).toNat) (o0_2.1, (o0_2.2.1, ())) o0_3 o0_4 o0_5 o1_0 o2_0).bind fun r4 =>
      (ck (decide (0 ≤ r3.1.1) && decide (r3.1.1 ≤ (x1.length : Int)) && decide ((x1.length : Int) ≤ (x1.length : Int)))).bind fun _ =>
      (merkle_Root.f k ((x1.take (x1.length : Int).toNat).drop (r3.1.1 : Int).toNat) (r4.2.1.2.2.1.1, (r4.2.1.2.2.1.2.1, ())) r4.2.1.2.2.2.1 r4.2.1.2.2.2.2.1 r4.2.1.2.2.2.2.2.1 o1_0 r4.2.2.1.1).bind fun r5 =>
      (pledge_Node.f k r4.1.1 r5.1.1 (r5.2.1.2.2.1.1, (r5.2.1.2.2.1.2.1, ())) r5.2.1.2.2.2.1 r5.2.1.2.2.2.2.1 r5.2.1.2.2.2.2.2.1 o1_0 r5.2.2.1.1).bind fun r6 =>
      some ((r6.1.1, ()), (((), (), (r6.2.1.2.2.1.1, (r6.2.1.2.2.1.2.1, ())), r6.2.1.2.2.2.1, r6.2.1.2.2.2.2.1, r6.2.1.2.2.2.2.2.1, ()), (r6.2.2.1.1, ()), ()))
abbrev merkle_Root.ini : LSh := ⟨[(0, .ptr 1000000 0), (1, .val (.sl .str))], [(1000000, 78, [.mref 1000001, .mref 1000002, .val (.cons .str (.cons .str .nil)), .val .bool, .val .bool, .val (.int .i64)]), (1000001, 75, [.mapd]), (1000002, 75, [.mapd])]⟩
abbrev merkle_Root.out : LSh := ⟨[(0, .val .str)], [(1000000, 78, [.mref 1000001, .mref 1000002, .val (.cons .str (.cons .str .nil)), .val .bool, .val .bool, .val (.int .i64)]), (1000002, 75, [.mapd])]⟩
noncomputable def merkle_Root.labF : Nat → Option (LabF merkle_Root.out.den)
  | _ => none
noncomputable def merkle_Root.fd : FnD := ⟨Try.f19, merkle_Root.ini, merkle_Root.out, 1, [1000000, 1000001, 1000002], [1000001], merkle_Root.labF, fun k (d : (Unit × List ByteArray × Unit) × ((Unit × Unit × (ByteArray × ByteArray × Unit) × Bool × Bool × Int × Unit) × ((List (ByteArray × ByteArray)) × Unit) × ((List (ByteArray × ByteArray)) × Unit) × Unit)) => (merkle_Root.f k d.1.2.1 d.2.1.2.2.1 d.2.1.2.2.2.1 d.2.1.2.2.2.2.1 d.2.1.2.2.2.2.2.1 d.2.2.1.1 d.2.2.2.1.1 : Option merkle_Root.R)⟩

/-! ### sheet_leaves : function 80 -/
abbrev sheet_leaves.R := (List ByteArray × Unit) × ((Unit × Unit × (ByteArray × ByteArray × Unit) × Bool × Bool × Int × Unit) × ((List (ByteArray × ByteArray)) × Unit) × Unit)
mutual
noncomputable def sheet_leaves.l0 : Nat → (List ByteArray) → (List (ByteArray × ByteArray × ByteArray × Bool × Unit)) → Int → Int → (ByteArray × ByteArray × Unit) → Bool → Bool → Int → (List (ByteArray × ByteArray)) → (List (ByteArray × ByteArray)) → Option sheet_leaves.R
  | 0, _, _, _, _, _, _, _, _, _, _ => none
  | k + 1, x5, x8, x9, x10, o0_2, o0_3, o0_4, o0_5, o1_0, o2_0 =>
    bif decide ((x10 : Int) < x9) then
      (rdo x8 x10).bind fun t1 =>
      (sheet_Leaf.f k t1.1 t1.2.1 (o0_2.1, (o0_2.2.1, ())) o0_3 o0_4 o0_5 o1_0 o2_0).bind fun r2 =>
      (ck (decide ((x5.length + ([r2.1.1] : List ByteArray).length) * 16 ≤ 70368744177664))).bind fun _ =>
      sheet_leaves.l0 k (x5 ++ ([r2.1.1] : List ByteArray)) x8 x9 (IntKind.wrap .i64 (x10 + 1)) (r2.2.1.2.2.1.1, (r2.2.1.2.2.1.2.1, ())) r2.2.1.2.2.2.1 r2.2.1.2.2.2.2.1 r2.2.1.2.2.2.2.2.1 o1_0 r2.2.2.1.1
    else
      some ((x5, ()), (((), (), (o0_2.1, (o0_2.2.1, ())), o0_3, o0_4, o0_5, ()), (o2_0, ()), ()))
noncomputable def sheet_leaves.f : Nat → (List (ByteArray × ByteArray × ByteArray × Bool × Unit)) → (ByteArray × ByteArray × Unit) → Bool → Bool → Int → (List (ByteArray × ByteArray)) → (List (ByteArray × ByteArray)) → Option sheet_leaves.R
  | 0, _, _, _, _, _, _, _ => none
  | k + 1, x1, o0_2, o0_3, o0_4, o0_5, o1_0, o2_0 =>
    sheet_leaves.l0 k [] x1 (x1.length : Int) 0 (o0_2.1, (o0_2.2.1, ())) o0_3 o0_4 o0_5 o1_0 o2_0
end
abbrev sheet_leaves.ini : LSh := ⟨[(0, .ptr 1000000 0), (1, .val (.sl (.cons .str (.cons .str (.cons .str (.cons .bool .nil))))))], [(1000000, 78, [.mref 1000001, .mref 1000002, .val (.cons .str (.cons .str .nil)), .val .bool, .val .bool, .val (.int .i64)]), (1000001, 75, [.mapd]), (1000002, 75, [.mapd])]⟩
abbrev sheet_leaves.out : LSh := ⟨[(0, .val (.sl .str))], [(1000000, 78, [.mref 1000001, .mref 1000002, .val (.cons .str (.cons .str .nil)), .val .bool, .val .bool, .val (.int .i64)]), (1000002, 75, [.mapd])]⟩
abbrev sheet_leaves.l0s : LSh := ⟨[(0, .ptr 1000000 0), (5, .own 2000005 9 .str), (8, .val (.sl (.cons .str (.cons .str (.cons .str (.cons .bool .nil)))))), (9, .val (.int .i64)), (10, .val (.int .i64))], [(1000000, 78, [.mref 1000001, .mref 1000002, .val (.cons .str (.cons .str .nil)), .val .bool, .val .bool, .val (.int .i64)]), (1000001, 75, [.mapd]), (1000002, 75, [.mapd])]⟩
noncomputable def sheet_leaves.labF : Nat → Option (LabF sheet_leaves.out.den)
  | 6 => some ⟨sheet_leaves.l0s, fun k (d : (Unit × List ByteArray × (List (ByteArray × ByteArray × ByteArray × Bool × Unit)) × Int × Int × Unit) × ((Unit × Unit × (ByteArray × ByteArray × Unit) × Bool × Bool × Int × Unit) × ((List (ByteArray × ByteArray)) × Unit) × ((List (ByteArray × ByteArray)) × Unit) × Unit)) => (sheet_leaves.l0 k d.1.2.1 d.1.2.2.1 d.1.2.2.2.1 d.1.2.2.2.2.1 d.2.1.2.2.1 d.2.1.2.2.2.1 d.2.1.2.2.2.2.1 d.2.1.2.2.2.2.2.1 d.2.2.1.1 d.2.2.2.1.1 : Option sheet_leaves.R)⟩
  | _ => none
noncomputable def sheet_leaves.fd : FnD := ⟨Try.f80, sheet_leaves.ini, sheet_leaves.out, 1, [1000000, 1000001, 1000002], [1000001], sheet_leaves.labF, fun k (d : (Unit × (List (ByteArray × ByteArray × ByteArray × Bool × Unit)) × Unit) × ((Unit × Unit × (ByteArray × ByteArray × Unit) × Bool × Bool × Int × Unit) × ((List (ByteArray × ByteArray)) × Unit) × ((List (ByteArray × ByteArray)) × Unit) × Unit)) => (sheet_leaves.f k d.1.2.1 d.2.1.2.2.1 d.2.1.2.2.2.1 d.2.1.2.2.2.2.1 d.2.1.2.2.2.2.2.1 d.2.2.1.1 d.2.2.2.1.1 : Option sheet_leaves.R)⟩

/-! ### sheet_Root : function 54 -/
abbrev sheet_Root.R := (ByteArray × Unit) × ((Unit × Unit × (ByteArray × ByteArray × Unit) × Bool × Bool × Int × Unit) × ((List (ByteArray × ByteArray)) × Unit) × Unit)
noncomputable def sheet_Root.f : Nat → (List (ByteArray × ByteArray × ByteArray × Bool × Unit)) → (ByteArray × ByteArray × Unit) → Bool → Bool → Int → (List (ByteArray × ByteArray)) → (List (ByteArray × ByteArray)) → Option sheet_Root.R
  | 0, _, _, _, _, _, _, _ => none
  | k + 1, x1, o0_2, o0_3, o0_4, o0_5, o1_0, o2_0 =>
    (sheet_leaves.f k x1 (o0_2.1, (o0_2.2.1, ())) o0_3 o0_4 o0_5 o1_0 o2_0).bind fun r1 =>
    (merkle_Root.f k r1.1.1 (r1.2.1.2.2.1.1, (r1.2.1.2.2.1.2.1, ())) r1.2.1.2.2.2.1 r1.2.1.2.2.2.2.1 r1.2.1.2.2.2.2.2.1 o1_0 r1.2.2.1.1).bind fun r2 =>
    some ((r2.1.1, ()), (((), (), (r2.2.1.2.2.1.1, (r2.2.1.2.2.1.2.1, ())), r2.2.1.2.2.2.1, r2.2.1.2.2.2.2.1, r2.2.1.2.2.2.2.2.1, ()), (r2.2.2.1.1, ()), ()))
abbrev sheet_Root.ini : LSh := ⟨[(0, .ptr 1000000 0), (1, .val (.sl (.cons .str (.cons .str (.cons .str (.cons .bool .nil))))))], [(1000000, 78, [.mref 1000001, .mref 1000002, .val (.cons .str (.cons .str .nil)), .val .bool, .val .bool, .val (.int .i64)]), (1000001, 75, [.mapd]), (1000002, 75, [.mapd])]⟩
abbrev sheet_Root.out : LSh := ⟨[(0, .val .str)], [(1000000, 78, [.mref 1000001, .mref 1000002, .val (.cons .str (.cons .str .nil)), .val .bool, .val .bool, .val (.int .i64)]), (1000002, 75, [.mapd])]⟩
noncomputable def sheet_Root.labF : Nat → Option (LabF sheet_Root.out.den)
  | _ => none
noncomputable def sheet_Root.fd : FnD := ⟨Try.f54, sheet_Root.ini, sheet_Root.out, 1, [1000000, 1000001, 1000002], [1000001], sheet_Root.labF, fun k (d : (Unit × (List (ByteArray × ByteArray × ByteArray × Bool × Unit)) × Unit) × ((Unit × Unit × (ByteArray × ByteArray × Unit) × Bool × Bool × Int × Unit) × ((List (ByteArray × ByteArray)) × Unit) × ((List (ByteArray × ByteArray)) × Unit) × Unit)) => (sheet_Root.f k d.1.2.1 d.2.1.2.2.1 d.2.1.2.2.2.1 d.2.1.2.2.2.2.1 d.2.1.2.2.2.2.2.1 d.2.2.1.1 d.2.2.2.1.1 : Option sheet_Root.R)⟩

/-! ### sheet_Entry : function 18 -/
abbrev sheet_Entry.R := (ByteArray × Unit) × ((Unit × Unit × (ByteArray × ByteArray × Unit) × Bool × Bool × Int × Unit) × ((List (ByteArray × ByteArray)) × Unit) × Unit)
noncomputable def sheet_Entry.f : Nat → (ByteArray × Int × Int × Int × List (ByteArray × ByteArray × ByteArray × Bool × Unit) × Bool × List ByteArray × Unit) → (ByteArray × ByteArray × Unit) → Bool → Bool → Int → (List (ByteArray × ByteArray)) → (List (ByteArray × ByteArray)) → Option sheet_Entry.R
  | 0, _, _, _, _, _, _, _ => none
  | k + 1, x1, o0_2, o0_3, o0_4, o0_5, o1_0, o2_0 =>
    (sheet_Root.f k x1.2.2.2.2.1 (o0_2.1, (o0_2.2.1, ())) o0_3 o0_4 o0_5 o1_0 o2_0).bind fun r1 =>
    (sheet_Paper.f k x1.1 x1.2.1 x1.2.2.1 (x1.2.2.2.2.1.length : Int) r1.1.1 (r1.2.1.2.2.1.1, (r1.2.1.2.2.1.2.1, ())) r1.2.1.2.2.2.1 r1.2.1.2.2.2.2.1 r1.2.1.2.2.2.2.2.1 o1_0 r1.2.2.1.1).bind fun r2 =>
    some ((r2.1.1, ()), (((), (), (r2.2.1.2.2.1.1, (r2.2.1.2.2.1.2.1, ())), r2.2.1.2.2.2.1, r2.2.1.2.2.2.2.1, r2.2.1.2.2.2.2.2.1, ()), (r2.2.2.1.1, ()), ()))
abbrev sheet_Entry.ini : LSh := ⟨[(0, .ptr 1000000 0), (1, .val (.cons .str (.cons (.int .i64) (.cons (.int .i64) (.cons (.int .i64) (.cons (.sl (.cons .str (.cons .str (.cons .str (.cons .bool .nil))))) (.cons .bool (.cons (.sl .str) .nil))))))))], [(1000000, 78, [.mref 1000001, .mref 1000002, .val (.cons .str (.cons .str .nil)), .val .bool, .val .bool, .val (.int .i64)]), (1000001, 75, [.mapd]), (1000002, 75, [.mapd])]⟩
abbrev sheet_Entry.out : LSh := ⟨[(0, .val .str)], [(1000000, 78, [.mref 1000001, .mref 1000002, .val (.cons .str (.cons .str .nil)), .val .bool, .val .bool, .val (.int .i64)]), (1000002, 75, [.mapd])]⟩
noncomputable def sheet_Entry.labF : Nat → Option (LabF sheet_Entry.out.den)
  | _ => none
noncomputable def sheet_Entry.fd : FnD := ⟨Try.f18, sheet_Entry.ini, sheet_Entry.out, 1, [1000000, 1000001, 1000002], [1000001], sheet_Entry.labF, fun k (d : (Unit × (ByteArray × Int × Int × Int × List (ByteArray × ByteArray × ByteArray × Bool × Unit) × Bool × List ByteArray × Unit) × Unit) × ((Unit × Unit × (ByteArray × ByteArray × Unit) × Bool × Bool × Int × Unit) × ((List (ByteArray × ByteArray)) × Unit) × ((List (ByteArray × ByteArray)) × Unit) × Unit)) => (sheet_Entry.f k d.1.2.1 d.2.1.2.2.1 d.2.1.2.2.2.1 d.2.1.2.2.2.2.1 d.2.1.2.2.2.2.2.1 d.2.2.1.1 d.2.2.2.1.1 : Option sheet_Entry.R)⟩

/-! ### extract_Honest : function 17 -/
abbrev extract_Honest.R := ((ByteArray × ByteArray × Unit) × Bool × Unit) × (Unit)
mutual
noncomputable def extract_Honest.l0 : Nat → (List (ByteArray × Int × Int × ByteArray × Bool × (Int × Bool × Int × Int × ByteArray × Unit) × Unit)) → ByteArray → (List ByteArray) → (List (ByteArray × Int × Int × Int × List (ByteArray × ByteArray × ByteArray × Bool × Unit) × Bool × List ByteArray × Unit)) → Int → Int → ByteArray → ByteArray → (ByteArray × ByteArray × Unit) → Bool → Bool → Int → (List (ByteArray × ByteArray)) → (List (ByteArray × ByteArray)) → Option extract_Honest.R
  | 0, _, _, _, _, _, _, _, _, _, _, _, _, _, _ => none
  | k + 1, x2, x3, x12, x25, x26, x27, o8_0, o8_1, o0_2, o0_3, o0_4, o0_5, o1000_0, o1001_0 =>
    bif decide ((x27 : Int) < x26) then
      (rdo x25 x27).bind fun t3 =>
      (sheet_Entry.f k (t3.1, (t3.2.1, (t3.2.2.1, (t3.2.2.2.1, (t3.2.2.2.2.1, (t3.2.2.2.2.2.1, (t3.2.2.2.2.2.2.1, ()))))))) (o0_2.1, (o0_2.2.1, ())) o0_3 o0_4 o0_5 o1000_0 o1001_0).bind fun r4 =>
      (ck (decide ((x12.length + ([r4.1.1] : List ByteArray).length) * 16 ≤ 70368744177664))).bind fun _ =>
      extract_Honest.l0 k x2 x3 (x12 ++ ([r4.1.1] : List ByteArray)) x25 x26 (IntKind.wrap .i64 (x27 + 1)) o8_0 o8_1 (r4.2.1.2.2.1.1, (r4.2.1.2.2.1.2.1, ())) r4.2.1.2.2.2.1 r4.2.1.2.2.2.2.1 r4.2.1.2.2.2.2.2.1 o1000_0 r4.2.2.1.1
    else
      (proof_Read.f k x3).bind fun r5 =>
      bif (r5.1.2.1 : Int) != 0 then
        some (((ByteArray.empty, (ByteArray.empty, ())), false, ()), (()))
      else
        (merkle_Root.f k x12 (o0_2.1, (o0_2.2.1, ())) o0_3 o0_4 o0_5 o1000_0 o1001_0).bind fun r6 =>
        (auditor_Check.f k ((x12.length : Int), (r6.1.1, ())) (r5.1.1.1, (r5.1.1.2.1, (r5.1.1.2.2.1, (r5.1.1.2.2.2.1, (r5.1.1.2.2.2.2.1, (r5.1.1.2.2.2.2.2.1, (r5.1.1.2.2.2.2.2.2.1, (r5.1.1.2.2.2.2.2.2.2.1, (r5.1.1.2.2.2.2.2.2.2.2.1, ()))))))))) (r6.2.1.2.2.1.1, (r6.2.1.2.2.1.2.1, ())) r6.2.1.2.2.2.1 r6.2.1.2.2.2.2.1 r6.2.1.2.2.2.2.2.1 o1000_0 r6.2.2.1.1).bind fun r7 =>
        bif (r7.1.2.1 : Int) != 0 then
          some (((ByteArray.empty, (ByteArray.empty, ())), false, ()), (()))
        else
          (extract_against.f k r7.1.1 x2).bind fun r8 =>
          bif !r8.1.1 then
            some (((ByteArray.empty, (ByteArray.empty, ())), false, ()), (()))
          else
            (extract_found.f k (r7.2.1.2.2.1.1, (r7.2.1.2.2.1.2.1, ())) r7.2.1.2.2.2.1 r7.2.1.2.2.2.2.1 r7.2.1.2.2.2.2.2.1 o1000_0 r7.2.2.1.1).bind fun r9 =>
            some (((r9.1.1.1, (r9.1.1.2.1, ())), r9.1.2.1, ()), (()))
noncomputable def extract_Honest.f : Nat → (List (Bool × ByteArray × ByteArray × ByteArray × Unit)) → (List (ByteArray × Int × Int × Int × List (ByteArray × ByteArray × ByteArray × Bool × Unit) × Bool × List ByteArray × Unit)) → (List (ByteArray × Int × Int × ByteArray × Bool × (Int × Bool × Int × Int × ByteArray × Unit) × Unit)) → ByteArray → Option extract_Honest.R
  | 0, _, _, _, _ => none
  | k + 1, x0, x1, x2, x3 =>
    orE (
      (mill_With_has.f k x0).bind fun r1 =>
      bif (r1.1.2.1 : Int) != 0 then
        some (((ByteArray.empty, (ByteArray.empty, ())), false, ()), (()))
      else
        extract_Honest.l0 k x2 x3 [] x1 (x1.length : Int) 0 ByteArray.empty ByteArray.empty (r1.2.1.2.2.1.1, (r1.2.1.2.2.1.2.1, ())) r1.2.1.2.2.2.1 r1.2.1.2.2.2.2.1 r1.2.1.2.2.2.2.2.1 r1.2.2.1.1 r1.2.2.2.1.1) (
      (mill_With_nil.f k x0).bind fun r2 =>
      bif (r2.1.2.1 : Int) != 0 then
        some (((ByteArray.empty, (ByteArray.empty, ())), false, ()), (()))
      else
        none)
end
abbrev extract_Honest.ini : LSh := ⟨[(0, .val (.sl (.cons .bool (.cons .str (.cons .str (.cons .str .nil)))))), (1, .val (.sl (.cons .str (.cons (.int .i64) (.cons (.int .i64) (.cons (.int .i64) (.cons (.sl (.cons .str (.cons .str (.cons .str (.cons .bool .nil))))) (.cons .bool (.cons (.sl .str) .nil))))))))), (2, .val (.sl (.cons .str (.cons (.int .i64) (.cons (.int .i64) (.cons .str (.cons .bool (.cons (.cons (.int .i64) (.cons .bool (.cons (.int .i64) (.cons (.int .u64) (.cons .str .nil))))) .nil)))))))), (3, .val .str)], []⟩
abbrev extract_Honest.out : LSh := ⟨[(0, .val (.cons .str (.cons .str .nil))), (1, .val .bool)], []⟩
abbrev extract_Honest.l0s : LSh := ⟨[(2, .val (.sl (.cons .str (.cons (.int .i64) (.cons (.int .i64) (.cons .str (.cons .bool (.cons (.cons (.int .i64) (.cons .bool (.cons (.int .i64) (.cons (.int .u64) (.cons .str .nil))))) .nil)))))))), (3, .val .str), (8, .ptr 8 0), (10, .ptr 2004000000 0), (12, .own 2000012 9 .str), (25, .val (.sl (.cons .str (.cons (.int .i64) (.cons (.int .i64) (.cons (.int .i64) (.cons (.sl (.cons .str (.cons .str (.cons .str (.cons .bool .nil))))) (.cons .bool (.cons (.sl .str) .nil))))))))), (26, .val (.int .i64)), (27, .val (.int .i64))], [(8, 26, [.val .str, .val .str]), (2004000000, 78, [.mref 2004001000, .mref 2004001001, .val (.cons .str (.cons .str .nil)), .val .bool, .val .bool, .val (.int .i64)]), (2004001000, 75, [.mapd]), (2004001001, 75, [.mapd])]⟩
noncomputable def extract_Honest.labF : Nat → Option (LabF extract_Honest.out.den)
  | 12 => some ⟨extract_Honest.l0s, fun k (d : ((List (ByteArray × Int × Int × ByteArray × Bool × (Int × Bool × Int × Int × ByteArray × Unit) × Unit)) × ByteArray × Unit × Unit × List ByteArray × (List (ByteArray × Int × Int × Int × List (ByteArray × ByteArray × ByteArray × Bool × Unit) × Bool × List ByteArray × Unit)) × Int × Int × Unit) × ((ByteArray × ByteArray × Unit) × (Unit × Unit × (ByteArray × ByteArray × Unit) × Bool × Bool × Int × Unit) × ((List (ByteArray × ByteArray)) × Unit) × ((List (ByteArray × ByteArray)) × Unit) × Unit)) => (extract_Honest.l0 k d.1.1 d.1.2.1 d.1.2.2.2.2.1 d.1.2.2.2.2.2.1 d.1.2.2.2.2.2.2.1 d.1.2.2.2.2.2.2.2.1 d.2.1.1 d.2.1.2.1 d.2.2.1.2.2.1 d.2.2.1.2.2.2.1 d.2.2.1.2.2.2.2.1 d.2.2.1.2.2.2.2.2.1 d.2.2.2.1.1 d.2.2.2.2.1.1 : Option extract_Honest.R)⟩
  | _ => none
noncomputable def extract_Honest.fd : FnD := ⟨Try.f17, extract_Honest.ini, extract_Honest.out, 2, [], [], extract_Honest.labF, fun k (d : ((List (Bool × ByteArray × ByteArray × ByteArray × Unit)) × (List (ByteArray × Int × Int × Int × List (ByteArray × ByteArray × ByteArray × Bool × Unit) × Bool × List ByteArray × Unit)) × (List (ByteArray × Int × Int × ByteArray × Bool × (Int × Bool × Int × Int × ByteArray × Unit) × Unit)) × ByteArray × Unit) × (Unit)) => (extract_Honest.f k d.1.1 d.1.2.1 d.1.2.2.1 d.1.2.2.2.1 : Option extract_Honest.R)⟩

/-! ### chartularylaw21_ExtractHonest : function 4 -/
abbrev chartularylaw21_ExtractHonest.R := (Bool × Unit) × (Unit)
mutual
noncomputable def chartularylaw21_ExtractHonest.l0 : Nat → (List (Bool × ByteArray × ByteArray × ByteArray × Unit)) → (List (ByteArray × Int × Int × Int × List (ByteArray × ByteArray × ByteArray × Bool × Unit) × Bool × List ByteArray × Unit)) → (List (ByteArray × Int × Int × ByteArray × Bool × (Int × Bool × Int × Int × ByteArray × Unit) × Unit)) → (List (ByteArray × Int × Int × Int × List (ByteArray × ByteArray × ByteArray × Bool × Unit) × Bool × List ByteArray × Unit)) → Int → ByteArray → Int → Int → Int → (List (Int × ByteArray × Bool × ByteArray × ByteArray × ByteArray × Unit)) → (List ByteArray) → Int → Int → (List ByteArray) → Option chartularylaw21_ExtractHonest.R
  | 0, _, _, _, _, _, _, _, _, _, _, _, _, _, _ => none
  | k + 1, x0, x1, x2, x9, x10, o7_0, o7_1, o7_2, o7_3, o7_4, o7_5, o7_6, o7_7, o7_8 =>
    bif decide ((x10 : Int) < (x1.length : Int)) then
      bif decide ((x10 : Int) < 8) then
        (rdo x1 x10).bind fun t2 =>
        (chartularylaw14_FewEntry.f k (t2.1, (t2.2.1, (t2.2.2.1, (t2.2.2.2.1, (t2.2.2.2.2.1, (t2.2.2.2.2.2.1, (t2.2.2.2.2.2.2.1, ())))))))).bind fun r3 =>
        (ck (decide ((x9.length + ([(r3.1.1.1, (r3.1.1.2.1, (r3.1.1.2.2.1, (r3.1.1.2.2.2.1, (r3.1.1.2.2.2.2.1, (r3.1.1.2.2.2.2.2.1, (r3.1.1.2.2.2.2.2.2.1, ())))))))] : List (ByteArray × Int × Int × Int × List (ByteArray × ByteArray × ByteArray × Bool × Unit) × Bool × List ByteArray × Unit)).length) * 96 ≤ 70368744177664))).bind fun _ =>
        chartularylaw21_ExtractHonest.l0 k x0 x1 x2 (x9 ++ ([(r3.1.1.1, (r3.1.1.2.1, (r3.1.1.2.2.1, (r3.1.1.2.2.2.1, (r3.1.1.2.2.2.2.1, (r3.1.1.2.2.2.2.2.1, (r3.1.1.2.2.2.2.2.2.1, ())))))))] : List (ByteArray × Int × Int × Int × List (ByteArray × ByteArray × ByteArray × Bool × Unit) × Bool × List ByteArray × Unit))) (IntKind.wrap .i64 (x10 + 1)) o7_0 o7_1 o7_2 o7_3 o7_4 o7_5 o7_6 o7_7 o7_8
      else
      bif decide (((x2.length : Int) : Int) > 10) then
        (ck (decide (0 ≤ 0) && decide (0 ≤ 10) && decide (10 ≤ (x2.length : Int)))).bind fun _ =>
        chartularylaw21_ExtractHonest.j0 k x0 ((x2.take (10 : Int).toNat).drop (0 : Int).toNat) x9 o7_0 o7_1 o7_2 o7_3 o7_4 o7_5 o7_6 o7_7 o7_8
      else
        chartularylaw21_ExtractHonest.j0 k x0 x2 x9 o7_0 o7_1 o7_2 o7_3 o7_4 o7_5 o7_6 o7_7 o7_8
    else
    bif decide (((x2.length : Int) : Int) > 10) then
      (ck (decide (0 ≤ 0) && decide (0 ≤ 10) && decide (10 ≤ (x2.length : Int)))).bind fun _ =>
      chartularylaw21_ExtractHonest.j0 k x0 ((x2.take (10 : Int).toNat).drop (0 : Int).toNat) x9 o7_0 o7_1 o7_2 o7_3 o7_4 o7_5 o7_6 o7_7 o7_8
    else
      chartularylaw21_ExtractHonest.j0 k x0 x2 x9 o7_0 o7_1 o7_2 o7_3 o7_4 o7_5 o7_6 o7_7 o7_8
noncomputable def chartularylaw21_ExtractHonest.j0 : Nat → (List (Bool × ByteArray × ByteArray × ByteArray × Unit)) → (List (ByteArray × Int × Int × ByteArray × Bool × (Int × Bool × Int × Int × ByteArray × Unit) × Unit)) → (List (ByteArray × Int × Int × Int × List (ByteArray × ByteArray × ByteArray × Bool × Unit) × Bool × List ByteArray × Unit)) → ByteArray → Int → Int → Int → (List (Int × ByteArray × Bool × ByteArray × ByteArray × ByteArray × Unit)) → (List ByteArray) → Int → Int → (List ByteArray) → Option chartularylaw21_ExtractHonest.R
  | 0, _, _, _, _, _, _, _, _, _, _, _, _ => none
  | k + 1, x0, x2, x9, o7_0, o7_1, o7_2, o7_3, o7_4, o7_5, o7_6, o7_7, o7_8 =>
    (chartularylaw19_Few.f k (o7_0, (o7_1, (o7_2, (o7_3, (o7_4, (o7_5, (o7_6, (o7_7, (o7_8, ())))))))))).bind fun r4 =>
    (proof_Bytes.f k (r4.1.1.1, (r4.1.1.2.1, (r4.1.1.2.2.1, (r4.1.1.2.2.2.1, (r4.1.1.2.2.2.2.1, (r4.1.1.2.2.2.2.2.1, (r4.1.1.2.2.2.2.2.2.1, (r4.1.1.2.2.2.2.2.2.2.1, (r4.1.1.2.2.2.2.2.2.2.2.1, ())))))))))).bind fun r5 =>
    (extract_Honest.f k x0 x9 x2 r5.1.1).bind fun r6 =>
    bif r6.1.2.1 then
      (chartularylaw21_twins.f k x0 (r6.1.1.1, (r6.1.1.2.1, ()))).bind fun r7 =>
      bif !r7.1.1 then
        some ((false, ()), (()))
      else
      bif !r6.1.2.1 then
        bif !((seqB r6.1.1.1 ByteArray.empty && (seqB r6.1.1.2.1 ByteArray.empty && true))) then
          some ((false, ()), (()))
        else
          chartularylaw21_ExtractHonest.j1 k x0 x2 x9 r5.1.1 r6.1.2.1 r6.1.1.1 r6.1.1.2.1
      else
        chartularylaw21_ExtractHonest.j1 k x0 x2 x9 r5.1.1 r6.1.2.1 r6.1.1.1 r6.1.1.2.1
    else
    bif !r6.1.2.1 then
      bif !((seqB r6.1.1.1 ByteArray.empty && (seqB r6.1.1.2.1 ByteArray.empty && true))) then
        some ((false, ()), (()))
      else
        chartularylaw21_ExtractHonest.j1 k x0 x2 x9 r5.1.1 r6.1.2.1 r6.1.1.1 r6.1.1.2.1
    else
      chartularylaw21_ExtractHonest.j1 k x0 x2 x9 r5.1.1 r6.1.2.1 r6.1.1.1 r6.1.1.2.1
noncomputable def chartularylaw21_ExtractHonest.j1 : Nat → (List (Bool × ByteArray × ByteArray × ByteArray × Unit)) → (List (ByteArray × Int × Int × ByteArray × Bool × (Int × Bool × Int × Int × ByteArray × Unit) × Unit)) → (List (ByteArray × Int × Int × Int × List (ByteArray × ByteArray × ByteArray × Bool × Unit) × Bool × List ByteArray × Unit)) → ByteArray → Bool → ByteArray → ByteArray → Option chartularylaw21_ExtractHonest.R
  | 0, _, _, _, _, _, _, _ => none
  | k + 1, x0, x2, x9, x11, x13, o12_0, o12_1 =>
    orE (
      (mill_With_has.f k x0).bind fun r8 =>
      bif (r8.1.2.1 : Int) != 0 then
        bif !x13 then
          (chartularylaw21_awake.f k).bind fun r9 =>
          some ((r9.1.1, ()), (()))
        else
          some ((false, ()), (()))
      else
      bif x11.toList == (⟨#[]⟩ : ByteArray).toList then
        bif !x13 then
          (chartularylaw21_awake.f k).bind fun r10 =>
          some ((r10.1.1, ()), (()))
        else
          some ((false, ()), (()))
      else
        chartularylaw21_ExtractHonest.l1 k x2 x9 x11 x13 [] 0 o12_0 o12_1 (r8.2.1.2.2.1.1, (r8.2.1.2.2.1.2.1, ())) r8.2.1.2.2.2.1 r8.2.1.2.2.2.2.1 r8.2.1.2.2.2.2.2.1 r8.2.2.1.1 r8.2.2.2.1.1) (
      (mill_With_nil.f k x0).bind fun r11 =>
      bif (r11.1.2.1 : Int) != 0 then
        bif !x13 then
          (chartularylaw21_awake.f k).bind fun r12 =>
          some ((r12.1.1, ()), (()))
        else
          some ((false, ()), (()))
      else
      bif x11.toList == (⟨#[]⟩ : ByteArray).toList then
        bif !x13 then
          (chartularylaw21_awake.f k).bind fun r13 =>
          some ((r13.1.1, ()), (()))
        else
          some ((false, ()), (()))
      else
        none)
noncomputable def chartularylaw21_ExtractHonest.l1 : Nat → (List (ByteArray × Int × Int × ByteArray × Bool × (Int × Bool × Int × Int × ByteArray × Unit) × Unit)) → (List (ByteArray × Int × Int × Int × List (ByteArray × ByteArray × ByteArray × Bool × Unit) × Bool × List ByteArray × Unit)) → ByteArray → Bool → (List ByteArray) → Int → ByteArray → ByteArray → (ByteArray × ByteArray × Unit) → Bool → Bool → Int → (List (ByteArray × ByteArray)) → (List (ByteArray × ByteArray)) → Option chartularylaw21_ExtractHonest.R
  | 0, _, _, _, _, _, _, _, _, _, _, _, _, _, _ => none
  | k + 1, x2, x9, x11, x13, x16, x17, o12_0, o12_1, o0_2, o0_3, o0_4, o0_5, o1000_0, o1001_0 =>
    bif decide ((x17 : Int) < (x9.length : Int)) then
      (rdo x9 x17).bind fun t14 =>
      (sheet_Entry.f k (t14.1, (t14.2.1, (t14.2.2.1, (t14.2.2.2.1, (t14.2.2.2.2.1, (t14.2.2.2.2.2.1, (t14.2.2.2.2.2.2.1, ()))))))) (o0_2.1, (o0_2.2.1, ())) o0_3 o0_4 o0_5 o1000_0 o1001_0).bind fun r15 =>
      (ck (decide ((x16.length + ([r15.1.1] : List ByteArray).length) * 16 ≤ 70368744177664))).bind fun _ =>
      chartularylaw21_ExtractHonest.l1 k x2 x9 x11 x13 (x16 ++ ([r15.1.1] : List ByteArray)) (IntKind.wrap .i64 (x17 + 1)) o12_0 o12_1 (r15.2.1.2.2.1.1, (r15.2.1.2.2.1.2.1, ())) r15.2.1.2.2.2.1 r15.2.1.2.2.2.2.1 r15.2.1.2.2.2.2.2.1 o1000_0 r15.2.2.1.1
    else
      (proof_Read.f k x11).bind fun r16 =>
      (merkle_Root.f k x16 (o0_2.1, (o0_2.2.1, ())) o0_3 o0_4 o0_5 o1000_0 o1001_0).bind fun r17 =>
      (auditor_Check.f k ((x9.length : Int), (r17.1.1, ())) (r16.1.1.1, (r16.1.1.2.1, (r16.1.1.2.2.1, (r16.1.1.2.2.2.1, (r16.1.1.2.2.2.2.1, (r16.1.1.2.2.2.2.2.1, (r16.1.1.2.2.2.2.2.2.1, (r16.1.1.2.2.2.2.2.2.2.1, (r16.1.1.2.2.2.2.2.2.2.2.1, ()))))))))) (r17.2.1.2.2.1.1, (r17.2.1.2.2.1.2.1, ())) r17.2.1.2.2.2.1 r17.2.1.2.2.2.2.1 r17.2.1.2.2.2.2.2.1 o1000_0 r17.2.2.1.1).bind fun r18 =>
      bif (r18.1.2.1 : Int) != 0 then
        bif !x13 then
          (chartularylaw21_awake.f k).bind fun r19 =>
          some ((r19.1.1, ()), (()))
        else
          some ((false, ()), (()))
      else
        (chartularylaw21_against.f k r18.1.1 x2).bind fun r20 =>
        bif !r20.1.1 then
          bif !x13 then
            (chartularylaw21_awake.f k).bind fun r21 =>
            some ((r21.1.1, ()), (()))
          else
            some ((false, ()), (()))
        else
          chartularylaw21_ExtractHonest.j2 k x13 o12_0 o12_1 (r18.2.1.2.2.1.1, (r18.2.1.2.2.1.2.1, ())) r18.2.1.2.2.2.1 r18.2.1.2.2.2.2.1 r18.2.1.2.2.2.2.2.1 o1000_0 r18.2.2.1.1
noncomputable def chartularylaw21_ExtractHonest.j2 : Nat → Bool → ByteArray → ByteArray → (ByteArray × ByteArray × Unit) → Bool → Bool → Int → (List (ByteArray × ByteArray)) → (List (ByteArray × ByteArray)) → Option chartularylaw21_ExtractHonest.R
  | 0, _, _, _, _, _, _, _, _, _ => none
  | k + 1, x13, o12_0, o12_1, o0_2, o0_3, o0_4, o0_5, o1000_0, o1001_0 =>
    (mill_Mill_Twins.f k (o0_2.1, (o0_2.2.1, ())) o0_3 o0_4 o0_5 o1000_0 o1001_0).bind fun r22 =>
    bif x13 == r22.1.2.2.1 then
      bif o12_0.toList == r22.1.1.toList then
        bif o12_1.toList == r22.1.2.1.toList then
          (chartularylaw21_awake.f k).bind fun r23 =>
          some ((r23.1.1, ()), (()))
        else
          some ((false, ()), (()))
      else
        some ((false, ()), (()))
    else
      some ((false, ()), (()))
noncomputable def chartularylaw21_ExtractHonest.f : Nat → (List (Bool × ByteArray × ByteArray × ByteArray × Unit)) → (List (ByteArray × Int × Int × Int × List (ByteArray × ByteArray × ByteArray × Bool × Unit) × Bool × List ByteArray × Unit)) → (List (ByteArray × Int × Int × ByteArray × Bool × (Int × Bool × Int × Int × ByteArray × Unit) × Unit)) → (ByteArray × Int × Int × Int × List (Int × ByteArray × Bool × ByteArray × ByteArray × ByteArray × Unit) × List ByteArray × Int × Int × List ByteArray × Unit) → Option chartularylaw21_ExtractHonest.R
  | 0, _, _, _, _ => none
  | k + 1, x0, x1, x2, x3 =>
    (chartularylaw21_few.f k x0).bind fun r1 =>
    chartularylaw21_ExtractHonest.l0 k r1.1.1 x1 x2 [] 0 x3.1 x3.2.1 x3.2.2.1 x3.2.2.2.1 x3.2.2.2.2.1 x3.2.2.2.2.2.1 x3.2.2.2.2.2.2.1 x3.2.2.2.2.2.2.2.1 x3.2.2.2.2.2.2.2.2.1
end
abbrev chartularylaw21_ExtractHonest.ini : LSh := ⟨[(0, .val (.sl (.cons .bool (.cons .str (.cons .str (.cons .str .nil)))))), (1, .val (.sl (.cons .str (.cons (.int .i64) (.cons (.int .i64) (.cons (.int .i64) (.cons (.sl (.cons .str (.cons .str (.cons .str (.cons .bool .nil))))) (.cons .bool (.cons (.sl .str) .nil))))))))), (2, .val (.sl (.cons .str (.cons (.int .i64) (.cons (.int .i64) (.cons .str (.cons .bool (.cons (.cons (.int .i64) (.cons .bool (.cons (.int .i64) (.cons (.int .u64) (.cons .str .nil))))) .nil)))))))), (3, .val (.cons .str (.cons (.int .i64) (.cons (.int .i64) (.cons (.int .i64) (.cons (.sl (.cons (.int .i64) (.cons .str (.cons .bool (.cons .str (.cons .str (.cons .str .nil))))))) (.cons (.sl .str) (.cons (.int .i64) (.cons (.int .i64) (.cons (.sl .str) .nil))))))))))], []⟩
abbrev chartularylaw21_ExtractHonest.out : LSh := ⟨[(0, .val .bool)], []⟩
abbrev chartularylaw21_ExtractHonest.l0s : LSh := ⟨[(0, .val (.sl (.cons .bool (.cons .str (.cons .str (.cons .str .nil)))))), (1, .val (.sl (.cons .str (.cons (.int .i64) (.cons (.int .i64) (.cons (.int .i64) (.cons (.sl (.cons .str (.cons .str (.cons .str (.cons .bool .nil))))) (.cons .bool (.cons (.sl .str) .nil))))))))), (2, .val (.sl (.cons .str (.cons (.int .i64) (.cons (.int .i64) (.cons .str (.cons .bool (.cons (.cons (.int .i64) (.cons .bool (.cons (.int .i64) (.cons (.int .u64) (.cons .str .nil))))) .nil)))))))), (7, .ptr 7 0), (9, .own 2000009 50 (.cons .str (.cons (.int .i64) (.cons (.int .i64) (.cons (.int .i64) (.cons (.sl (.cons .str (.cons .str (.cons .str (.cons .bool .nil))))) (.cons .bool (.cons (.sl .str) .nil)))))))), (10, .val (.int .i64))], [(7, 36, [.val .str, .val (.int .i64), .val (.int .i64), .val (.int .i64), .val (.sl (.cons (.int .i64) (.cons .str (.cons .bool (.cons .str (.cons .str (.cons .str .nil))))))), .val (.sl .str), .val (.int .i64), .val (.int .i64), .val (.sl .str)])]⟩
abbrev chartularylaw21_ExtractHonest.j0s : LSh := ⟨[(0, .val (.sl (.cons .bool (.cons .str (.cons .str (.cons .str .nil)))))), (2, .val (.sl (.cons .str (.cons (.int .i64) (.cons (.int .i64) (.cons .str (.cons .bool (.cons (.cons (.int .i64) (.cons .bool (.cons (.int .i64) (.cons (.int .u64) (.cons .str .nil))))) .nil)))))))), (7, .ptr 7 0), (9, .own 2000009 50 (.cons .str (.cons (.int .i64) (.cons (.int .i64) (.cons (.int .i64) (.cons (.sl (.cons .str (.cons .str (.cons .str (.cons .bool .nil))))) (.cons .bool (.cons (.sl .str) .nil))))))))], [(7, 36, [.val .str, .val (.int .i64), .val (.int .i64), .val (.int .i64), .val (.sl (.cons (.int .i64) (.cons .str (.cons .bool (.cons .str (.cons .str (.cons .str .nil))))))), .val (.sl .str), .val (.int .i64), .val (.int .i64), .val (.sl .str)])]⟩
abbrev chartularylaw21_ExtractHonest.j1s : LSh := ⟨[(0, .val (.sl (.cons .bool (.cons .str (.cons .str (.cons .str .nil)))))), (2, .val (.sl (.cons .str (.cons (.int .i64) (.cons (.int .i64) (.cons .str (.cons .bool (.cons (.cons (.int .i64) (.cons .bool (.cons (.int .i64) (.cons (.int .u64) (.cons .str .nil))))) .nil)))))))), (9, .own 2000009 50 (.cons .str (.cons (.int .i64) (.cons (.int .i64) (.cons (.int .i64) (.cons (.sl (.cons .str (.cons .str (.cons .str (.cons .bool .nil))))) (.cons .bool (.cons (.sl .str) .nil)))))))), (11, .val .str), (12, .ptr 12 0), (13, .val .bool)], [(12, 26, [.val .str, .val .str])]⟩
abbrev chartularylaw21_ExtractHonest.l1s : LSh := ⟨[(2, .val (.sl (.cons .str (.cons (.int .i64) (.cons (.int .i64) (.cons .str (.cons .bool (.cons (.cons (.int .i64) (.cons .bool (.cons (.int .i64) (.cons (.int .u64) (.cons .str .nil))))) .nil)))))))), (9, .own 2000009 50 (.cons .str (.cons (.int .i64) (.cons (.int .i64) (.cons (.int .i64) (.cons (.sl (.cons .str (.cons .str (.cons .str (.cons .bool .nil))))) (.cons .bool (.cons (.sl .str) .nil)))))))), (11, .val .str), (12, .ptr 12 0), (13, .val .bool), (14, .ptr 8004000000 0), (16, .own 2000016 9 .str), (17, .val (.int .i64))], [(12, 26, [.val .str, .val .str]), (8004000000, 78, [.mref 8004001000, .mref 8004001001, .val (.cons .str (.cons .str .nil)), .val .bool, .val .bool, .val (.int .i64)]), (8004001000, 75, [.mapd]), (8004001001, 75, [.mapd])]⟩
abbrev chartularylaw21_ExtractHonest.j2s : LSh := ⟨[(12, .ptr 12 0), (13, .val .bool), (14, .ptr 8004000000 0)], [(12, 26, [.val .str, .val .str]), (8004000000, 78, [.mref 8004001000, .mref 8004001001, .val (.cons .str (.cons .str .nil)), .val .bool, .val .bool, .val (.int .i64)]), (8004001000, 75, [.mapd]), (8004001001, 75, [.mapd])]⟩
noncomputable def chartularylaw21_ExtractHonest.labF : Nat → Option (LabF chartularylaw21_ExtractHonest.out.den)
  | 8 => some ⟨chartularylaw21_ExtractHonest.l0s, fun k (d : ((List (Bool × ByteArray × ByteArray × ByteArray × Unit)) × (List (ByteArray × Int × Int × Int × List (ByteArray × ByteArray × ByteArray × Bool × Unit) × Bool × List ByteArray × Unit)) × (List (ByteArray × Int × Int × ByteArray × Bool × (Int × Bool × Int × Int × ByteArray × Unit) × Unit)) × Unit × (List (ByteArray × Int × Int × Int × List (ByteArray × ByteArray × ByteArray × Bool × Unit) × Bool × List ByteArray × Unit)) × Int × Unit) × ((ByteArray × Int × Int × Int × (List (Int × ByteArray × Bool × ByteArray × ByteArray × ByteArray × Unit)) × List ByteArray × Int × Int × List ByteArray × Unit) × Unit)) => (chartularylaw21_ExtractHonest.l0 k d.1.1 d.1.2.1 d.1.2.2.1 d.1.2.2.2.2.1 d.1.2.2.2.2.2.1 d.2.1.1 d.2.1.2.1 d.2.1.2.2.1 d.2.1.2.2.2.1 d.2.1.2.2.2.2.1 d.2.1.2.2.2.2.2.1 d.2.1.2.2.2.2.2.2.1 d.2.1.2.2.2.2.2.2.2.1 d.2.1.2.2.2.2.2.2.2.2.1 : Option chartularylaw21_ExtractHonest.R)⟩
  | 19 => some ⟨chartularylaw21_ExtractHonest.j0s, fun k (d : ((List (Bool × ByteArray × ByteArray × ByteArray × Unit)) × (List (ByteArray × Int × Int × ByteArray × Bool × (Int × Bool × Int × Int × ByteArray × Unit) × Unit)) × Unit × (List (ByteArray × Int × Int × Int × List (ByteArray × ByteArray × ByteArray × Bool × Unit) × Bool × List ByteArray × Unit)) × Unit) × ((ByteArray × Int × Int × Int × (List (Int × ByteArray × Bool × ByteArray × ByteArray × ByteArray × Unit)) × List ByteArray × Int × Int × List ByteArray × Unit) × Unit)) => (chartularylaw21_ExtractHonest.j0 k d.1.1 d.1.2.1 d.1.2.2.2.1 d.2.1.1 d.2.1.2.1 d.2.1.2.2.1 d.2.1.2.2.2.1 d.2.1.2.2.2.2.1 d.2.1.2.2.2.2.2.1 d.2.1.2.2.2.2.2.2.1 d.2.1.2.2.2.2.2.2.2.1 d.2.1.2.2.2.2.2.2.2.2.1 : Option chartularylaw21_ExtractHonest.R)⟩
  | 27 => some ⟨chartularylaw21_ExtractHonest.j1s, fun k (d : ((List (Bool × ByteArray × ByteArray × ByteArray × Unit)) × (List (ByteArray × Int × Int × ByteArray × Bool × (Int × Bool × Int × Int × ByteArray × Unit) × Unit)) × (List (ByteArray × Int × Int × Int × List (ByteArray × ByteArray × ByteArray × Bool × Unit) × Bool × List ByteArray × Unit)) × ByteArray × Unit × Bool × Unit) × ((ByteArray × ByteArray × Unit) × Unit)) => (chartularylaw21_ExtractHonest.j1 k d.1.1 d.1.2.1 d.1.2.2.1 d.1.2.2.2.1 d.1.2.2.2.2.2.1 d.2.1.1 d.2.1.2.1 : Option chartularylaw21_ExtractHonest.R)⟩
  | 36 => some ⟨chartularylaw21_ExtractHonest.l1s, fun k (d : ((List (ByteArray × Int × Int × ByteArray × Bool × (Int × Bool × Int × Int × ByteArray × Unit) × Unit)) × (List (ByteArray × Int × Int × Int × List (ByteArray × ByteArray × ByteArray × Bool × Unit) × Bool × List ByteArray × Unit)) × ByteArray × Unit × Bool × Unit × List ByteArray × Int × Unit) × ((ByteArray × ByteArray × Unit) × (Unit × Unit × (ByteArray × ByteArray × Unit) × Bool × Bool × Int × Unit) × ((List (ByteArray × ByteArray)) × Unit) × ((List (ByteArray × ByteArray)) × Unit) × Unit)) => (chartularylaw21_ExtractHonest.l1 k d.1.1 d.1.2.1 d.1.2.2.1 d.1.2.2.2.2.1 d.1.2.2.2.2.2.2.1 d.1.2.2.2.2.2.2.2.1 d.2.1.1 d.2.1.2.1 d.2.2.1.2.2.1 d.2.2.1.2.2.2.1 d.2.2.1.2.2.2.2.1 d.2.2.1.2.2.2.2.2.1 d.2.2.2.1.1 d.2.2.2.2.1.1 : Option chartularylaw21_ExtractHonest.R)⟩
  | 51 => some ⟨chartularylaw21_ExtractHonest.j2s, fun k (d : (Unit × Bool × Unit × Unit) × ((ByteArray × ByteArray × Unit) × (Unit × Unit × (ByteArray × ByteArray × Unit) × Bool × Bool × Int × Unit) × ((List (ByteArray × ByteArray)) × Unit) × ((List (ByteArray × ByteArray)) × Unit) × Unit)) => (chartularylaw21_ExtractHonest.j2 k d.1.2.1 d.2.1.1 d.2.1.2.1 d.2.2.1.2.2.1 d.2.2.1.2.2.2.1 d.2.2.1.2.2.2.2.1 d.2.2.1.2.2.2.2.2.1 d.2.2.2.1.1 d.2.2.2.2.1.1 : Option chartularylaw21_ExtractHonest.R)⟩
  | _ => none
noncomputable def chartularylaw21_ExtractHonest.fd : FnD := ⟨Try.f4, chartularylaw21_ExtractHonest.ini, chartularylaw21_ExtractHonest.out, 1, [], [], chartularylaw21_ExtractHonest.labF, fun k (d : ((List (Bool × ByteArray × ByteArray × ByteArray × Unit)) × (List (ByteArray × Int × Int × Int × List (ByteArray × ByteArray × ByteArray × Bool × Unit) × Bool × List ByteArray × Unit)) × (List (ByteArray × Int × Int × ByteArray × Bool × (Int × Bool × Int × Int × ByteArray × Unit) × Unit)) × (ByteArray × Int × Int × Int × List (Int × ByteArray × Bool × ByteArray × ByteArray × ByteArray × Unit) × List ByteArray × Int × Int × List ByteArray × Unit) × Unit) × (Unit)) => (chartularylaw21_ExtractHonest.f k d.1.1 d.1.2.1 d.1.2.2.1 d.1.2.2.2.1 : Option chartularylaw21_ExtractHonest.R)⟩

noncomputable def Γ (k : Nat) : Gam := [(6, [chartularylaw21_few.fd.sp k]), (25, [mill_New.fd.sp k]), (82, [sha_New.fd.sp k]), (97, [bits_RotateLeft32.fd.sp k]), (96, [sha_turn.fd.sp k]), (94, [sha_words.fd.sp k]), (95, [sha_rounds.fd.sp k]), (91, [sha_State_mix.fd.sp k]), (83, [sha_State_Write.fd.sp k]), (84, [sha_State_Sum.fd.sp k]), (65, [sha_Sum.fd.sp k]), (32, [mill_name.fd.sp k]), (9, [mill_With_has.fd.sp k, mill_With_nil.fd.sp k]), (9, [mill_With_has.fd.sp k, mill_With_nil.fd.sp k]), (33, [octet_Read.fd.sp k]), (37, [octet_Reader_Err.fd.sp k]), (67, [octet_Reader_Fail.fd.sp k]), (66, [octet_Reader_Raw.fd.sp k]), (35, [octet_Reader_Num.fd.sp k]), (34, [octet_Reader_Text.fd.sp k]), (68, [octet_Reader_Flag.fd.sp k]), (36, [proof_readItem.fd.sp k]), (38, [octet_Reader_Texts.fd.sp k]), (69, [octet_Reader_Left.fd.sp k]), (39, [octet_Reader_End.fd.sp k]), (92, [paper_sign.fd.sp k]), (85, [paper_word.fd.sp k]), (70, [paper_IsID.fd.sp k]), (86, [paper_IsName.fd.sp k]), (71, [proof_rightItem.fd.sp k]), (72, [proof_sums.fd.sp k]), (40, [proof_Right.fd.sp k]), (10, [proof_Read.fd.sp k]), (58, [mill_Mill_none.fd.sp k]), (81, [mill_Mill_note.fd.sp k]), (62, [mill_Mill_Sum.fd.sp k]), (78, [octet_Num.fd.sp k]), (63, [octet_Text.fd.sp k]), (26, [pledge_Of.fd.sp k]), (47, [octet_Writer_Text.fd.sp k]), (48, [octet_Writer_Num.fd.sp k]), (51, [octet_Writer_All.fd.sp k]), (64, [pledge_Leaf.fd.sp k]), (27, [sheet_Paper.fd.sp k]), (28, [sheet_Leaf.fd.sp k]), (73, [value_of.fd.sp k]), (93, [value_nan.fd.sp k]), (87, [value_Clean.fd.sp k]), (74, [value_Right.fd.sp k]), (41, [value_Read.fd.sp k]), (75, [sheet_Rising.fd.sp k]), (57, [pledge_Node.fd.sp k]), (88, [sheet_picked.fd.sp k]), (89, [sheet_next_v1.fd.sp k, sheet_next_v2.fd.sp k]), (89, [sheet_next_v1.fd.sp k, sheet_next_v2.fd.sp k]), (90, [sheet_split.fd.sp k]), (76, [sheet_walker_root.fd.sp k]), (42, [sheet_Rebuild.fd.sp k]), (60, [merkle_sums.fd.sp k]), (56, [merkle_split.fd.sp k]), (77, [merkle_climb.fd.sp k]), (43, [merkle_Climb.fd.sp k]), (11, [auditor_Check.fd.sp k]), (44, [auditor_Against.fd.sp k]), (30, [extract_against.fd.sp k]), (20, [mill_Mill_Twins.fd.sp k]), (31, [extract_found.fd.sp k]), (8, [extract_Shows.fd.sp k]), (79, [octet_Writer_Flag.fd.sp k]), (49, [proof_item.fd.sp k]), (50, [octet_Writer_Texts.fd.sp k]), (15, [proof_Bytes.fd.sp k]), (29, [chartularylaw21_one.fd.sp k]), (7, [chartularylaw21_awake.fd.sp k]), (12, [chartularylaw21_against.fd.sp k]), (45, [chartularylaw21_sum.fd.sp k]), (13, [chartularylaw21_twins.fd.sp k]), (46, [chartularylaw14_cut.fd.sp k]), (14, [chartularylaw14_FewEntry.fd.sp k]), (52, [chartularylaw19_cut.fd.sp k]), (53, [chartularylaw19_texts.fd.sp k]), (16, [chartularylaw19_Few.fd.sp k]), (55, [pledge_None.fd.sp k]), (19, [merkle_Root.fd.sp k]), (80, [sheet_leaves.fd.sp k]), (54, [sheet_Root.fd.sp k]), (18, [sheet_Entry.fd.sp k]), (17, [extract_Honest.fd.sp k]), (4, [chartularylaw21_ExtractHonest.fd.sp k])]
end Go.Proofs.Ytioagphpiflplaa.E
