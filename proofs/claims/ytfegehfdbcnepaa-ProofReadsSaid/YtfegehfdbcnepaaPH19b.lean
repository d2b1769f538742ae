-- Laid by programs of this session (myprint.py, post.py) out of the translation.
import Derived.Test.YtfegehfdbcnepaaPBase
import Derived.Test.YtfegehfdbcnepaaPH19
import Derived.Test.YtfegehfdbcnepaaPOctet
namespace Go.Proofs.Ytfegehfdbcnepaa.PAll
open Go.RowKit Go.Proofs.YtfegehfdbcnepaaW.PrintWords Go.Proofs.YtfegehfdbcnepaaW.PrintLast Go.Proofs.YtfegehfdbcnepaaW.PrintMore
attribute [local go_sem] max2_int min2_int max_two min_two max_three min_three max_four min_four   -- for this text's walks alone
set_option linter.unusedVariables false
set_option linter.unusedSimpArgs false
section
/-! ### chartularylaw19_bytes: function 24 -/
def chartularylaw19_bytes.l0 : Nat → ByteArray → Int → ByteArray → Int → Int → Int → List (S50) → List ByteArray → Int → Int → List ByteArray → Option (ByteArray)
 | 0, _, _, _, _, _, _, _, _, _, _, _ => none
 | k + 1, x3, x4, x346000, x346001, x346002, x346003, x346004, x346005, x346006, x346007, x346008 => if x4 < (x346004.length : Int) then (if 0 ≤ x4 then ((octet_Num.f k ((rd_T50 x346004 x4).f0)).bind fun t353 => (if x3.size + t353.size ≤ 9223372036854775807 then ((octet_Text.f k ((rd_T50 x346004 x4).f1)).bind fun t354 => (if (x3 ++ t353).size + t354.size ≤ 9223372036854775807 then (if (rd_T50 x346004 x4).f2 = true then (if ((x3 ++ t353) ++ t354).size + 1 ≤ 9223372036854775807 then ((octet_Text.f k ((rd_T50 x346004 x4).f5)).bind fun t355 => (if (((x3 ++ t353) ++ t354) ++ (⟨#[1]⟩ : ByteArray)).size + t355.size ≤ 9223372036854775807 then (chartularylaw19_bytes.l0 k ((((x3 ++ t353) ++ t354) ++ (⟨#[1]⟩ : ByteArray)) ++ t355) (wrap64 (x4 + 1)) x346000 x346001 x346002 x346003 x346004 x346005 x346006 x346007 x346008) else (none))) else (none)) else (if ((x3 ++ t353) ++ t354).size + 1 ≤ 9223372036854775807 then ((octet_Text.f k ((rd_T50 x346004 x4).f3)).bind fun t356 => (if (((x3 ++ t353) ++ t354) ++ (⟨#[0]⟩ : ByteArray)).size + t356.size ≤ 9223372036854775807 then ((octet_Text.f k ((rd_T50 x346004 x4).f4)).bind fun t357 => (if ((((x3 ++ t353) ++ t354) ++ (⟨#[0]⟩ : ByteArray)) ++ t356).size + t357.size ≤ 9223372036854775807 then (chartularylaw19_bytes.l0 k (((((x3 ++ t353) ++ t354) ++ (⟨#[0]⟩ : ByteArray)) ++ t356) ++ t357) (wrap64 (x4 + 1)) x346000 x346001 x346002 x346003 x346004 x346005 x346006 x346007 x346008) else (none))) else (none))) else (none))) else (none))) else (none))) else (none)) else ((chartularylaw19_list.f k x346005).bind fun t358 => (if x3.size + t358.size ≤ 9223372036854775807 then ((octet_Num.f k x346006).bind fun t359 => (if (x3 ++ t358).size + t359.size ≤ 9223372036854775807 then ((octet_Num.f k x346007).bind fun t360 => (if ((x3 ++ t358) ++ t359).size + t360.size ≤ 9223372036854775807 then ((chartularylaw19_list.f k x346008).bind fun t361 => (if (((x3 ++ t358) ++ t359) ++ t360).size + t361.size ≤ 9223372036854775807 then (some ((((x3 ++ t358) ++ t359) ++ t360) ++ t361)) else (none))) else (none))) else (none))) else (none)))
def chartularylaw19_bytes.f (k : Nat) (a0_0 : ByteArray) (a0_1 : Int) (a0_2 : Int) (a0_3 : Int) (l0_4 : List (S50)) (l0_5 : List ByteArray) (a0_6 : Int) (a0_7 : Int) (l0_8 : List ByteArray) : Option (ByteArray) := (octet_Text.f k a0_0).bind fun t346 => ((octet_Num.f k a0_1).bind fun t347 => (if t346.size + t347.size ≤ 9223372036854775807 then ((octet_Num.f k a0_2).bind fun t348 => (if (t346 ++ t347).size + t348.size ≤ 9223372036854775807 then ((octet_Num.f k a0_3).bind fun t349 => (if ((t346 ++ t347) ++ t348).size + t349.size ≤ 9223372036854775807 then ((octet_Num.f k (l0_4.length : Int)).bind fun t350 => (if (((t346 ++ t347) ++ t348) ++ t349).size + t350.size ≤ 9223372036854775807 then (chartularylaw19_bytes.l0 k ((((t346 ++ t347) ++ t348) ++ t349) ++ t350) 0 a0_0 a0_1 a0_2 a0_3 l0_4 l0_5 a0_6 a0_7 l0_8) else (none))) else (none))) else (none))) else (none)))
theorem chartularylaw19_bytes.mono_l : ∀ k, (∀ y0 y1 y2 y3 y4 y5 y6 y7 y8 y9 y10, LeO (chartularylaw19_bytes.l0 k y0 y1 y2 y3 y4 y5 y6 y7 y8 y9 y10) (chartularylaw19_bytes.l0 (k + 1) y0 y1 y2 y3 y4 y5 y6 y7 y8 y9 y10))
 | 0 => fun _ _ _ _ _ _ _ _ _ _ _ r h => by simp [chartularylaw19_bytes.l0] at h
 | k + 1 => by
  have ih0 := chartularylaw19_bytes.mono_l k
  ·intro y0 y1 y2 y3 y4 y5 y6 y7 y8 y9 y10
   unfold chartularylaw19_bytes.l0
   repeat' first
   | (with_reducible exact ih0 _ _ _ _ _ _ _ _ _ _ _)
   | (with_reducible exact chartularylaw19_list.mono _ _)
   | (with_reducible exact octet_Num.mono _ _)
   | (with_reducible exact octet_Text.mono _ _)
   | (with_reducible exact LeO.refl _)
   | (with_reducible exact LeO.none _)
   | (with_reducible refine LeO.ite ?_ ?_)
   | (with_reducible refine LeO.bind ?_ (fun _ => ?_))
   | exact ih0 _ _ _ _ _ _ _ _ _ _ _
   | exact chartularylaw19_list.mono _ _
   | exact octet_Num.mono _ _
   | exact octet_Text.mono _ _
   | exact LeO.none _
   | refine LeO.ite ?_ ?_
   | refine LeO.bind ?_ (fun _ => ?_)
theorem chartularylaw19_bytes.mono : ∀ a0 a1 a2 a3 a4 a5 a6 a7 a8 k, LeO (chartularylaw19_bytes.f k a0 a1 a2 a3 a4 a5 a6 a7 a8) (chartularylaw19_bytes.f (k + 1) a0 a1 a2 a3 a4 a5 a6 a7 a8) := by
 intro a0 a1 a2 a3 a4 a5 a6 a7 a8 k
 have ih0 := chartularylaw19_bytes.mono_l k
 unfold chartularylaw19_bytes.f
 repeat' first
   | (with_reducible exact ih0 _ _ _ _ _ _ _ _ _ _ _)
   | (with_reducible exact chartularylaw19_list.mono _ _)
   | (with_reducible exact octet_Num.mono _ _)
   | (with_reducible exact octet_Text.mono _ _)
   | (with_reducible exact LeO.refl _)
   | (with_reducible exact LeO.none _)
   | (with_reducible refine LeO.ite ?_ ?_)
   | (with_reducible refine LeO.bind ?_ (fun _ => ?_))
   | exact ih0 _ _ _ _ _ _ _ _ _ _ _
   | exact chartularylaw19_list.mono _ _
   | exact octet_Num.mono _ _
   | exact octet_Text.mono _ _
   | exact LeO.none _
   | refine LeO.ite ?_ ?_
   | refine LeO.bind ?_ (fun _ => ?_)
def chartularylaw19_bytes.T1 : Bool × List (List Nat × List Nat) := (true, [([], []), ([0], [0]), ([1], [1]), ([], []), ([3], [3]), ([4, 2], [4]), ([2, 5], [2, 5]), ([], []), ([7], [7]), ([8, 5], [8]), ([6, 9], [6, 9]), ([], []), ([11], [11]), ([12, 9], [12]), ([10, 13], [10, 13]), ([], []), ([15], [15]), ([16], [16]), ([17, 13], [17]), ([14, 18], [14, 18]), ([19, 18, 0, 1, 2, 3, 4, 5, 6, 7, 8, 9, 10, 11, 12, 13, 14, 15, 16, 17, 18, 19], [19])])
def chartularylaw19_bytes.B1 : List Nat := [0, 1, 3, 0, 8, 31, 63, 0, 128, 447, 1023, 0, 2048, 7103, 16383, 0, 32768, 98304, 244671, 524287, 1048575]
theorem chartularylaw19_bytes.tab1 : rtab .any (opsOf Try.f24 1) = chartularylaw19_bytes.T1 := by kernel_rfl
theorem chartularylaw19_bytes.bits1 : waitsOk chartularylaw19_bytes.T1.2 chartularylaw19_bytes.B1 = true := by kernel_rfl
def chartularylaw19_bytes.T6 : Bool × List (List Nat × List Nat) := (true, [([], []), ([], []), ([1], [1]), ([2], [2]), ([0, 3], [0, 3]), ([], []), ([5], [5]), ([6, 3], [6]), ([4, 7], [4, 7]), ([8, 7, 0, 1, 2, 3, 4, 5, 6, 7, 8], [0, 8])])
def chartularylaw19_bytes.B6 : List Nat := [0, 0, 2, 6, 15, 0, 32, 110, 255, 511]
theorem chartularylaw19_bytes.tab6 : rtab .any (opsOf Try.f24 6) = chartularylaw19_bytes.T6 := by kernel_rfl
theorem chartularylaw19_bytes.bits6 : waitsOk chartularylaw19_bytes.T6.2 chartularylaw19_bytes.B6 = true := by kernel_rfl
def chartularylaw19_bytes.T9 : Bool × List (List Nat × List Nat) := (true, [([], []), ([0], [0]), ([], []), ([2], [2]), ([3], [3]), ([1, 4], [1, 4]), ([], []), ([6], [6]), ([7, 4], [7]), ([5, 8], [5, 8]), ([9, 8, 0, 1, 2, 3, 4, 5, 6, 7, 8, 9], [0, 9])])
def chartularylaw19_bytes.B9 : List Nat := [0, 1, 0, 4, 12, 31, 0, 64, 220, 511, 1023]
theorem chartularylaw19_bytes.tab9 : rtab .any (opsOf Try.f24 9) = chartularylaw19_bytes.T9 := by kernel_rfl
theorem chartularylaw19_bytes.bits9 : waitsOk chartularylaw19_bytes.T9.2 chartularylaw19_bytes.B9 = true := by kernel_rfl
def chartularylaw19_bytes.T10 : Bool × List (List Nat × List Nat) := (true, [([], []), ([], []), ([1], [1]), ([2], [2]), ([0, 3], [0, 3]), ([], []), ([5], [5]), ([6, 3], [6]), ([4, 7], [4, 7]), ([], []), ([9], [9]), ([10, 7], [10]), ([8, 11], [8, 11]), ([], []), ([13], [13]), ([14, 11], [14]), ([12, 15], [12, 15]), ([16, 15, 0, 1, 2, 3, 4, 5, 6, 7, 8, 9, 10, 11, 12, 13, 14, 15, 16], [16])])
def chartularylaw19_bytes.B10 : List Nat := [0, 0, 2, 6, 15, 0, 32, 110, 255, 0, 512, 1774, 4095, 0, 8192, 28398, 65535, 131071]
theorem chartularylaw19_bytes.tab10 : rtab .any (opsOf Try.f24 10) = chartularylaw19_bytes.T10 := by kernel_rfl
theorem chartularylaw19_bytes.bits10 : waitsOk chartularylaw19_bytes.T10.2 chartularylaw19_bytes.B10 = true := by kernel_rfl
theorem Zchartularylaw19_bytes.z0 {P_ : Prop} (h_ : P_ := by (try simp only [List.map_toArray, List.map_cons, List.map_nil]); first | done | rfl | (simp only [List.length_drop, List.length_take]; rfl)) : P_ := h_
theorem Zchartularylaw19_bytes.z1 {P_ : Prop} (h_ : P_ := by first | rfl | (simp; done) | (simp [*]; done)) : P_ := h_
theorem Zchartularylaw19_bytes.z2 {P_ : Prop} (h_ : P_ := by first | (with_reducible assumption) | assumption) : P_ := h_
theorem Zchartularylaw19_bytes.z3 {P_ : Prop} (h_ : P_ := by repeat (first | (with_reducible first | exact HB.out | apply below_alloc | apply pw_below_drewN | apply below_drew1) | exact HB.out)) : P_ := h_
theorem Zchartularylaw19_bytes.z4 {P_ : Prop} (h_ : P_ := by rw [hg]; exact (below_size (by repeat (first | (with_reducible first | exact HB.out | apply below_alloc | apply pw_below_drewN | apply below_drew1) | exact HB.out)))) : P_ := h_
set_option maxHeartbeats 8000000 in
set_option maxRecDepth 100000 in
theorem chartularylaw19_bytes.calls (k : Nat) (a0_0 : ByteArray) (a0_1 : Int) (a0_2 : Int) (a0_3 : Int) (A0_4 : Option Addr) (c0_4 : Nat) (l0_4 : List (S50)) (A0_5 : Option Addr) (c0_5 : Nat) (l0_5 : List ByteArray) (a0_6 : Int) (a0_7 : Int) (A0_8 : Option Addr) (c0_8 : Nat) (l0_8 : List ByteArray) (r : ByteArray) (w : World) (hr0_4 : Kd.C k50 w A0_4 l0_4.length l0_4) (hc0_4 : l0_4.length ≤ c0_4) (hr0_5 : Kd.C Kd.string w A0_5 l0_5.length l0_5) (hc0_5 : l0_5.length ≤ c0_5) (hr0_8 : Kd.C Kd.string w A0_8 l0_8.length l0_8) (hc0_8 : l0_8.length ≤ c0_8) (h : chartularylaw19_bytes.f k a0_0 a0_1 a0_2 a0_3 l0_4 l0_5 a0_6 a0_7 l0_8 = some r) :
  Calls Try.prog 24 #[.agg #[.string a0_0, .int .i64 a0_1, .int .i64 a0_2, .int .i64 a0_3, .slice A0_4 l0_4.length c0_4, .slice A0_5 l0_5.length c0_5, .int .i64 a0_6, .int .i64 a0_7, .slice A0_8 l0_8.length c0_8]] w fun e w' => e = .returned (.string r) ∧ Below w.heap.size w w' := by
 have hu25 := Try.underlying25
 have hu50 := Try.underlying50
 have HR0_4 := Aside0.mk hr0_4
 have HC0_4 := Aside0.mk hc0_4
 clear hr0_4 hc0_4
 have HR0_5 := Aside0.mk hr0_5
 have HC0_5 := Aside0.mk hc0_5
 clear hr0_5 hc0_5
 have HR0_8 := Aside0.mk hr0_8
 have HC0_8 := Aside0.mk hc0_8
 clear hr0_8 hc0_8
 have HB := Aside0.mk (Below.refl w.heap.size w)
 have H : ((octet_Text.f k a0_0).bind fun t346 => ((octet_Num.f k a0_1).bind fun t347 => (if t346.size + t347.size ≤ 9223372036854775807 then ((octet_Num.f k a0_2).bind fun t348 => (if (t346 ++ t347).size + t348.size ≤ 9223372036854775807 then ((octet_Num.f k a0_3).bind fun t349 => (if ((t346 ++ t347) ++ t348).size + t349.size ≤ 9223372036854775807 then ((octet_Num.f k (l0_4.length : Int)).bind fun t350 => (if (((t346 ++ t347) ++ t348) ++ t349).size + t350.size ≤ 9223372036854775807 then (chartularylaw19_bytes.l0 k ((((t346 ++ t347) ++ t348) ++ t349) ++ t350) 0 a0_0 a0_1 a0_2 a0_3 l0_4 l0_5 a0_6 a0_7 l0_8) else (none))) else (none))) else (none))) else (none)))) = some r := h
 clear h
 replace H := Option.bind_eq_some_iff.mp H
 obtain ⟨t346, A20, H⟩ := H
 replace H : ((octet_Num.f k a0_1).bind fun t347 => (if t346.size + t347.size ≤ 9223372036854775807 then ((octet_Num.f k a0_2).bind fun t348 => (if (t346 ++ t347).size + t348.size ≤ 9223372036854775807 then ((octet_Num.f k a0_3).bind fun t349 => (if ((t346 ++ t347) ++ t348).size + t349.size ≤ 9223372036854775807 then ((octet_Num.f k (l0_4.length : Int)).bind fun t350 => (if (((t346 ++ t347) ++ t348) ++ t349).size + t350.size ≤ 9223372036854775807 then (chartularylaw19_bytes.l0 k ((((t346 ++ t347) ++ t348) ++ t349) ++ t350) 0 a0_0 a0_1 a0_2 a0_3 l0_4 l0_5 a0_6 a0_7 l0_8) else (none))) else (none))) else (none))) else (none))) = some r := H
 have A2 := Aside0.mk A20
 clear A20
 replace H := Option.bind_eq_some_iff.mp H
 obtain ⟨t347, A30, H⟩ := H
 replace H : (if t346.size + t347.size ≤ 9223372036854775807 then ((octet_Num.f k a0_2).bind fun t348 => (if (t346 ++ t347).size + t348.size ≤ 9223372036854775807 then ((octet_Num.f k a0_3).bind fun t349 => (if ((t346 ++ t347) ++ t348).size + t349.size ≤ 9223372036854775807 then ((octet_Num.f k (l0_4.length : Int)).bind fun t350 => (if (((t346 ++ t347) ++ t348) ++ t349).size + t350.size ≤ 9223372036854775807 then (chartularylaw19_bytes.l0 k ((((t346 ++ t347) ++ t348) ++ t349) ++ t350) 0 a0_0 a0_1 a0_2 a0_3 l0_4 l0_5 a0_6 a0_7 l0_8) else (none))) else (none))) else (none))) else (none)) = some r := H
 have A3 := Aside0.mk A30
 clear A30
 by_cases c4 : t346.size + t347.size ≤ 9223372036854775807
 ·rw [if_pos c4] at H
  have c4b0 := eq_true c4
  have c4b1 : decide (t346.size + t347.size ≤ 9223372036854775807) = true := decide_eq_true c4
  try have c4b2 : (9223372036854775807 < t346.size + t347.size) = False := eq_false (Nat.not_lt.2 c4)
  replace H := Option.bind_eq_some_iff.mp H
  obtain ⟨t348, A50, H⟩ := H
  replace H : (if (t346 ++ t347).size + t348.size ≤ 9223372036854775807 then ((octet_Num.f k a0_3).bind fun t349 => (if ((t346 ++ t347) ++ t348).size + t349.size ≤ 9223372036854775807 then ((octet_Num.f k (l0_4.length : Int)).bind fun t350 => (if (((t346 ++ t347) ++ t348) ++ t349).size + t350.size ≤ 9223372036854775807 then (chartularylaw19_bytes.l0 k ((((t346 ++ t347) ++ t348) ++ t349) ++ t350) 0 a0_0 a0_1 a0_2 a0_3 l0_4 l0_5 a0_6 a0_7 l0_8) else (none))) else (none))) else (none)) = some r := H
  have A5 := Aside0.mk A50
  clear A50
  by_cases c6 : (t346 ++ t347).size + t348.size ≤ 9223372036854775807
  ·rw [if_pos c6] at H
   have c6b0 := eq_true c6
   have c6b1 : decide ((t346 ++ t347).size + t348.size ≤ 9223372036854775807) = true := decide_eq_true c6
   try have c6b2 : (9223372036854775807 < (t346 ++ t347).size + t348.size) = False := eq_false (Nat.not_lt.2 c6)
   try have c6b3 : (9223372036854775807 < t346.size + t347.size + t348.size) = False := eq_false (Nat.not_lt.2 (by have h_ := c6; simp only [ByteArray.size_append] at h_; omega))
   replace H := Option.bind_eq_some_iff.mp H
   obtain ⟨t349, A70, H⟩ := H
   replace H : (if ((t346 ++ t347) ++ t348).size + t349.size ≤ 9223372036854775807 then ((octet_Num.f k (l0_4.length : Int)).bind fun t350 => (if (((t346 ++ t347) ++ t348) ++ t349).size + t350.size ≤ 9223372036854775807 then (chartularylaw19_bytes.l0 k ((((t346 ++ t347) ++ t348) ++ t349) ++ t350) 0 a0_0 a0_1 a0_2 a0_3 l0_4 l0_5 a0_6 a0_7 l0_8) else (none))) else (none)) = some r := H
   have A7 := Aside0.mk A70
   clear A70
   by_cases c8 : ((t346 ++ t347) ++ t348).size + t349.size ≤ 9223372036854775807
   ·rw [if_pos c8] at H
    have c8b0 := eq_true c8
    have c8b1 : decide (((t346 ++ t347) ++ t348).size + t349.size ≤ 9223372036854775807) = true := decide_eq_true c8
    try have c8b2 : (9223372036854775807 < ((t346 ++ t347) ++ t348).size + t349.size) = False := eq_false (Nat.not_lt.2 c8)
    try have c8b3 : (9223372036854775807 < t346.size + t347.size + t348.size + t349.size) = False := eq_false (Nat.not_lt.2 (by have h_ := c8; simp only [ByteArray.size_append] at h_; omega))
    replace H := Option.bind_eq_some_iff.mp H
    obtain ⟨t350, A90, H⟩ := H
    replace H : (if (((t346 ++ t347) ++ t348) ++ t349).size + t350.size ≤ 9223372036854775807 then (chartularylaw19_bytes.l0 k ((((t346 ++ t347) ++ t348) ++ t349) ++ t350) 0 a0_0 a0_1 a0_2 a0_3 l0_4 l0_5 a0_6 a0_7 l0_8) else (none)) = some r := H
    have A9 := Aside0.mk A90
    clear A90
    by_cases c10 : (((t346 ++ t347) ++ t348) ++ t349).size + t350.size ≤ 9223372036854775807
    ·rw [if_pos c10] at H
     have c10b0 := eq_true c10
     have c10b1 : decide ((((t346 ++ t347) ++ t348) ++ t349).size + t350.size ≤ 9223372036854775807) = true := decide_eq_true c10
     try have c10b2 : (9223372036854775807 < (((t346 ++ t347) ++ t348) ++ t349).size + t350.size) = False := eq_false (Nat.not_lt.2 c10)
     try have c10b3 : (9223372036854775807 < t346.size + t347.size + t348.size + t349.size + t350.size) = False := eq_false (Nat.not_lt.2 (by have h_ := c10; simp only [ByteArray.size_append] at h_; omega))
     have H' := Aside0.mk H
     clear H
     go_enter Try.func24, Try.ntmps24
     try go_wp2_with (first | ((with_reducible refine gate_dst (N := 1) rfl ?_); refine box_event ?hg (N := 1) ?hd (cs := #[.string a0_0, .int .i64 a0_1, .int .i64 a0_2, .int .i64 a0_3, .slice A0_4 l0_4.length c0_4, .slice A0_5 l0_5.length c0_5, .int .i64 a0_6, .int .i64 a0_7, .slice A0_8 l0_8.length c0_8]) (t := 25) ?hr ?_; (case hd => rfl); (case hg => rfl); (case hr => first | (go_simp; done) | (go_simp; rfl)); intro gb345 hg w11 hbox hb; have n0_ := Aside0.mk (below_step (Zchartularylaw19_bytes.z3) hb); have n1_ := Aside0.mk (hbox); have n2_ := Aside0.mk ((Zchartularylaw19_bytes.z4 : w.heap.size ≤ gb345)); have n3_ := Aside0.mk ((Zchartularylaw19_bytes.z4 : w.heap.size ≤ gb345)); clear HB; have HB := n0_; have BK345 := n1_; have GW345 := n2_; have GE345 := n3_; clear n0_ n1_ n2_ n3_; clear hb hbox hg))
     have n0_ := Aside0.mk (blk_drew BK345.out)
     have n1_ := Aside0.mk (below_drew1 HB.out)
     clear BK345
     clear HB
     have BK345 := n0_
     have HB := n1_
     clear n0_ n1_
     refine start_ (n := 21) (S := fun w' => w'.cell? ⟨gb345, 0, none⟩ = some (.string a0_0) ∧ w'.cell? ⟨gb345, 1, none⟩ = some (.int .i64 a0_1) ∧ w'.cell? ⟨gb345, 2, none⟩ = some (.int .i64 a0_2) ∧ w'.cell? ⟨gb345, 3, none⟩ = some (.int .i64 a0_3) ∧ w'.cell? ⟨gb345, 4, none⟩ = some (.slice A0_4 l0_4.length c0_4) ∧ w'.cell? ⟨gb345, 5, none⟩ = some (.slice A0_5 l0_5.length c0_5) ∧ w'.cell? ⟨gb345, 6, none⟩ = some (.int .i64 a0_6) ∧ w'.cell? ⟨gb345, 7, none⟩ = some (.int .i64 a0_7) ∧ w'.cell? ⟨gb345, 8, none⟩ = some (.slice A0_8 l0_8.length c0_8)) (ds := []) #[false, false, false, false, false, false, false, false, false, false, false, false, false, false, false, false, false, false, false, false, false] (by kernel_rfl) rfl rfl ⟨(blk_cell BK345.out 0).trans rfl, (blk_cell BK345.out 1).trans rfl, (blk_cell BK345.out 2).trans rfl, (blk_cell BK345.out 3).trans rfl, (blk_cell BK345.out 4).trans rfl, (blk_cell BK345.out 5).trans rfl, (blk_cell BK345.out 6).trans rfl, (blk_cell BK345.out 7).trans rfl, (blk_cell BK345.out 8).trans rfl⟩ (fun hHeld => ?_); refine with_tabW chartularylaw19_bytes.tab1 chartularylaw19_bytes.bits1 (fun HT_ HW_ => ?_)
     generalize w11.drew = w12 at BK345 HB hHeld ⊢
     refine pure_ (i := 0) (N := some 6) (v := ?_) (a' := ?_) #[true, false, false, false, false, false, false, false, false, false, false, false, false, false, false, false, false, false, false, false, false] rfl rfl (any_of HT_.out (by kernel_rfl)) (fun _ _ _ h => h) (Or.inl ⟨by rfl, ?_⟩) ?_ ?_
     rotate_left
     ·intro w'
      go_simp
      first | with_reducible rfl | rfl
     rotate_left
     ·simp only [Act.put, List.setIfInBounds_toArray, List.set_cons_zero, List.set_cons_succ, i64_w, i32_w]
      rfl
     refine pure_ (i := 3) (N := some 9) (v := ?_) (a' := ?_) #[true, false, false, true, false, false, false, false, false, false, false, false, false, false, false, false, false, false, false, false, false] rfl rfl (any_of HT_.out (by kernel_rfl)) (fun _ _ _ h => h) (Or.inl ⟨by rfl, ?_⟩) ?_ ?_
     rotate_left
     ·intro w'
      go_simp
      first | with_reducible rfl | rfl
     rotate_left
     ·simp only [Act.put, List.setIfInBounds_toArray, List.set_cons_zero, List.set_cons_succ, i64_w, i32_w]
      rfl
     refine pure_ (i := 7) (N := some 13) (v := ?_) (a' := ?_) #[true, false, false, true, false, false, false, true, false, false, false, false, false, false, false, false, false, false, false, false, false] rfl rfl (any_of HT_.out (by kernel_rfl)) (fun _ _ _ h => h) (Or.inl ⟨by rfl, ?_⟩) ?_ ?_
     rotate_left
     ·intro w'
      go_simp
      first | with_reducible rfl | rfl
     rotate_left
     ·simp only [Act.put, List.setIfInBounds_toArray, List.set_cons_zero, List.set_cons_succ, i64_w, i32_w]
      rfl
     refine pure_ (i := 11) (N := some 17) (v := ?_) (a' := ?_) #[true, false, false, true, false, false, false, true, false, false, false, true, false, false, false, false, false, false, false, false, false] rfl rfl (any_of HT_.out (by kernel_rfl)) (fun _ _ _ h => h) (Or.inl ⟨by rfl, ?_⟩) ?_ ?_
     rotate_left
     ·intro w'
      go_simp
      first | with_reducible rfl | rfl
     rotate_left
     ·simp only [Act.put, List.setIfInBounds_toArray, List.set_cons_zero, List.set_cons_succ, i64_w, i32_w]
      rfl
     refine pure_ (i := 15) (N := some 21) (v := ?_) (a' := ?_) #[true, false, false, true, false, false, false, true, false, false, false, true, false, false, false, true, false, false, false, false, false] rfl rfl (any_of HT_.out (by kernel_rfl)) (fun _ _ _ h => h) (Or.inl ⟨by rfl, ?_⟩) ?_ ?_
     rotate_left
     ·intro w'
      go_simp
      first | with_reducible rfl | rfl
     rotate_left
     ·simp only [Act.put, List.setIfInBounds_toArray, List.set_cons_zero, List.set_cons_succ, i64_w, i32_w]
      rfl
     refine take_ (i := 1) (N := some 7) (v := ?_) (a' := ?_) #[true, true, false, true, false, false, false, true, false, false, false, true, false, false, false, true, false, false, false, false, false] rfl rfl (take_ofW HT_.out HW_.out (by kernel_rfl)) (fun _ _ _ h => h) (Or.inl ⟨by rfl, ?_⟩) hHeld ?_ ?_
     rotate_left
     ·rintro w' ⟨s0, s1, s2, s3, s4, s5, s6, s7, s8⟩
      go_simp
      first | with_reducible rfl | rfl
     rotate_left
     ·simp only [Act.put, List.setIfInBounds_toArray, List.set_cons_zero, List.set_cons_succ, i64_w, i32_w]
      rfl
     refine take_ (i := 4) (N := some 10) (v := ?_) (a' := ?_) #[true, true, false, true, true, false, false, true, false, false, false, true, false, false, false, true, false, false, false, false, false] rfl rfl (take_ofW HT_.out HW_.out (by kernel_rfl)) (fun _ _ _ h => h) (Or.inl ⟨by rfl, ?_⟩) hHeld ?_ ?_
     rotate_left
     ·rintro w' ⟨s0, s1, s2, s3, s4, s5, s6, s7, s8⟩
      go_simp
      first | with_reducible rfl | rfl
     rotate_left
     ·simp only [Act.put, List.setIfInBounds_toArray, List.set_cons_zero, List.set_cons_succ, i64_w, i32_w]
      rfl
     refine take_ (i := 8) (N := some 14) (v := ?_) (a' := ?_) #[true, true, false, true, true, false, false, true, true, false, false, true, false, false, false, true, false, false, false, false, false] rfl rfl (take_ofW HT_.out HW_.out (by kernel_rfl)) (fun _ _ _ h => h) (Or.inl ⟨by rfl, ?_⟩) hHeld ?_ ?_
     rotate_left
     ·rintro w' ⟨s0, s1, s2, s3, s4, s5, s6, s7, s8⟩
      go_simp
      first | with_reducible rfl | rfl
     rotate_left
     ·simp only [Act.put, List.setIfInBounds_toArray, List.set_cons_zero, List.set_cons_succ, i64_w, i32_w]
      rfl
     refine take_ (i := 12) (N := some 18) (v := ?_) (a' := ?_) #[true, true, false, true, true, false, false, true, true, false, false, true, true, false, false, true, false, false, false, false, false] rfl rfl (take_ofW HT_.out HW_.out (by kernel_rfl)) (fun _ _ _ h => h) (Or.inl ⟨by rfl, ?_⟩) hHeld ?_ ?_
     rotate_left
     ·rintro w' ⟨s0, s1, s2, s3, s4, s5, s6, s7, s8⟩
      go_simp
      first | with_reducible rfl | rfl
     rotate_left
     ·simp only [Act.put, List.setIfInBounds_toArray, List.set_cons_zero, List.set_cons_succ, i64_w, i32_w]
      rfl
     refine take_ (i := 16) (N := some 22) (v := ?_) (a' := ?_) #[true, true, false, true, true, false, false, true, true, false, false, true, true, false, false, true, true, false, false, false, false] rfl rfl (take_ofW HT_.out HW_.out (by kernel_rfl)) (fun _ _ _ h => h) (Or.inl ⟨by rfl, ?_⟩) hHeld ?_ ?_
     rotate_left
     ·rintro w' ⟨s0, s1, s2, s3, s4, s5, s6, s7, s8⟩
      go_simp
      first | with_reducible rfl | rfl
     rotate_left
     ·simp only [Act.put, List.setIfInBounds_toArray, List.set_cons_zero, List.set_cons_succ, i64_w, i32_w]
      rfl
     refine pure_ (i := 17) (N := some 23) (v := ?_) (a' := ?_) #[true, true, false, true, true, false, false, true, true, false, false, true, true, false, false, true, true, true, false, false, false] rfl rfl (any_of HT_.out (by kernel_rfl)) (fun _ _ _ h => h) (Or.inl ⟨by rfl, ?_⟩) ?_ ?_
     rotate_left
     ·intro w'
      go_simp
      first | with_reducible rfl | rfl
     rotate_left
     ·simp only [Act.put, List.setIfInBounds_toArray, List.set_cons_zero, List.set_cons_succ, i64_w, i32_w]
      rfl
     refine one_ (i := 2) (N := some 8) #[true, true, true, true, true, false, false, true, true, false, false, true, true, false, false, true, true, true, false, false, false] rfl rfl (one_of HT_.out (by kernel_rfl)) (by decide) (fun K hK => ?_)
     refine goes_ Try.func20 (by kernel_rfl) rfl #[.string a0_0] (by rfl) rfl rfl (Zchartularylaw19_bytes.z0) ?_
     with_reducible refine (octet_Text.calls k a0_0 t346 _ A2.out).mono ?_
     rintro e w13 ⟨rfl, hb⟩
     refine ⟨_, rfl, ?_⟩
     have n0_ := Aside0.mk (blk_below (g := gb345) (o := .cells #[.string a0_0, .int .i64 a0_1, .int .i64 a0_2, .int .i64 a0_3, .slice A0_4 l0_4.length c0_4, .slice A0_5 l0_5.length c0_5, .int .i64 a0_6, .int .i64 a0_7, .slice A0_8 l0_8.length c0_8] 25 (0, 0)) (by (with_reducible repeat (first | refine blk_drewN ?_ _ | refine blk_drew ?_ | refine blk_alloc ?_ _)); exact BK345.out) hb)
     have n1_ := Aside0.mk (below_step (by repeat (first | (with_reducible first | exact HB.out | apply below_alloc | apply pw_below_drewN | apply below_drew1 | refine below_set ?_ GE345.out) | exact HB.out)) hb)
     clear BK345
     clear HB
     have BK345 := n0_
     have HB := n1_
     clear n0_ n1_
     (try clear hb)
     (try clear hb2)
     (try clear hk)
     (try clear hi)
     refine hK.out _ _ ⟨(blk_cell BK345.out 0).trans rfl, (blk_cell BK345.out 1).trans rfl, (blk_cell BK345.out 2).trans rfl, (blk_cell BK345.out 3).trans rfl, (blk_cell BK345.out 4).trans rfl, (blk_cell BK345.out 5).trans rfl, (blk_cell BK345.out 6).trans rfl, (blk_cell BK345.out 7).trans rfl, (blk_cell BK345.out 8).trans rfl⟩ (fun hHeld => ?_)
     clear hK K
     refine norm_ (a' := ?_) ?_ ?_
     rotate_left
     ·show Act.put _ (some 8) _ = _
      simp only [Act.put, List.setIfInBounds_toArray, List.set_cons_zero, List.set_cons_succ, i64_w, i32_w]
      rfl
     refine one_ (i := 5) (N := some 11) #[true, true, true, true, true, true, false, true, true, false, false, true, true, false, false, true, true, true, false, false, false] rfl rfl (one_of HT_.out (by kernel_rfl)) (by decide) (fun K hK => ?_)
     refine goes_ Try.func19 (by kernel_rfl) rfl #[.int .i64 a0_1] (by rfl) rfl rfl (Zchartularylaw19_bytes.z0) ?_
     with_reducible refine (octet_Num.calls k a0_1 t347 _ A3.out).mono ?_
     rintro e w14 ⟨rfl, hb⟩
     refine ⟨_, rfl, ?_⟩
     have n0_ := Aside0.mk (blk_below (g := gb345) (o := .cells #[.string a0_0, .int .i64 a0_1, .int .i64 a0_2, .int .i64 a0_3, .slice A0_4 l0_4.length c0_4, .slice A0_5 l0_5.length c0_5, .int .i64 a0_6, .int .i64 a0_7, .slice A0_8 l0_8.length c0_8] 25 (0, 0)) (by (with_reducible repeat (first | refine blk_drewN ?_ _ | refine blk_drew ?_ | refine blk_alloc ?_ _)); exact BK345.out) hb)
     have n1_ := Aside0.mk (below_step (by repeat (first | (with_reducible first | exact HB.out | apply below_alloc | apply pw_below_drewN | apply below_drew1 | refine below_set ?_ GE345.out) | exact HB.out)) hb)
     clear BK345
     clear HB
     have BK345 := n0_
     have HB := n1_
     clear n0_ n1_
     (try clear hb)
     (try clear hb2)
     (try clear hk)
     (try clear hi)
     refine hK.out _ _ ⟨(blk_cell BK345.out 0).trans rfl, (blk_cell BK345.out 1).trans rfl, (blk_cell BK345.out 2).trans rfl, (blk_cell BK345.out 3).trans rfl, (blk_cell BK345.out 4).trans rfl, (blk_cell BK345.out 5).trans rfl, (blk_cell BK345.out 6).trans rfl, (blk_cell BK345.out 7).trans rfl, (blk_cell BK345.out 8).trans rfl⟩ (fun hHeld => ?_)
     clear hK K
     refine norm_ (a' := ?_) ?_ ?_
     rotate_left
     ·show Act.put _ (some 11) _ = _
      simp only [Act.put, List.setIfInBounds_toArray, List.set_cons_zero, List.set_cons_succ, i64_w, i32_w]
      rfl
     refine pure_ (i := 6) (N := some 12) (v := ?_) (a' := ?_) #[true, true, true, true, true, true, true, true, true, false, false, true, true, false, false, true, true, true, false, false, false] rfl rfl (any_of HT_.out (by kernel_rfl)) (fun _ _ _ h => h) (Or.inl ⟨by rfl, ?_⟩) ?_ ?_
     rotate_left
     ·intro w'
      go_simp
      first | with_reducible rfl | rfl
     rotate_left
     ·simp only [Act.put, List.setIfInBounds_toArray, List.set_cons_zero, List.set_cons_succ, i64_w, i32_w]
      rfl
     refine one_ (i := 9) (N := some 15) #[true, true, true, true, true, true, true, true, true, true, false, true, true, false, false, true, true, true, false, false, false] rfl rfl (one_of HT_.out (by kernel_rfl)) (by decide) (fun K hK => ?_)
     refine goes_ Try.func19 (by kernel_rfl) rfl #[.int .i64 a0_2] (by rfl) rfl rfl (Zchartularylaw19_bytes.z0) ?_
     with_reducible refine (octet_Num.calls k a0_2 t348 _ A5.out).mono ?_
     rintro e w15 ⟨rfl, hb⟩
     refine ⟨_, rfl, ?_⟩
     have n0_ := Aside0.mk (blk_below (g := gb345) (o := .cells #[.string a0_0, .int .i64 a0_1, .int .i64 a0_2, .int .i64 a0_3, .slice A0_4 l0_4.length c0_4, .slice A0_5 l0_5.length c0_5, .int .i64 a0_6, .int .i64 a0_7, .slice A0_8 l0_8.length c0_8] 25 (0, 0)) (by (with_reducible repeat (first | refine blk_drewN ?_ _ | refine blk_drew ?_ | refine blk_alloc ?_ _)); exact BK345.out) hb)
     have n1_ := Aside0.mk (below_step (by repeat (first | (with_reducible first | exact HB.out | apply below_alloc | apply pw_below_drewN | apply below_drew1 | refine below_set ?_ GE345.out) | exact HB.out)) hb)
     clear BK345
     clear HB
     have BK345 := n0_
     have HB := n1_
     clear n0_ n1_
     (try clear hb)
     (try clear hb2)
     (try clear hk)
     (try clear hi)
     refine hK.out _ _ ⟨(blk_cell BK345.out 0).trans rfl, (blk_cell BK345.out 1).trans rfl, (blk_cell BK345.out 2).trans rfl, (blk_cell BK345.out 3).trans rfl, (blk_cell BK345.out 4).trans rfl, (blk_cell BK345.out 5).trans rfl, (blk_cell BK345.out 6).trans rfl, (blk_cell BK345.out 7).trans rfl, (blk_cell BK345.out 8).trans rfl⟩ (fun hHeld => ?_)
     clear hK K
     refine norm_ (a' := ?_) ?_ ?_
     rotate_left
     ·show Act.put _ (some 15) _ = _
      simp only [Act.put, List.setIfInBounds_toArray, List.set_cons_zero, List.set_cons_succ, i64_w, i32_w]
      rfl
     refine pure_ (i := 10) (N := some 16) (v := ?_) (a' := ?_) #[true, true, true, true, true, true, true, true, true, true, true, true, true, false, false, true, true, true, false, false, false] rfl rfl (any_of HT_.out (by kernel_rfl)) (fun _ _ _ h => h) (Or.inl ⟨by rfl, ?_⟩) ?_ ?_
     rotate_left
     ·intro w'
      go_simp
      first | with_reducible rfl | rfl
     rotate_left
     ·simp only [Act.put, List.setIfInBounds_toArray, List.set_cons_zero, List.set_cons_succ, i64_w, i32_w]
      rfl
     refine one_ (i := 13) (N := some 19) #[true, true, true, true, true, true, true, true, true, true, true, true, true, true, false, true, true, true, false, false, false] rfl rfl (one_of HT_.out (by kernel_rfl)) (by decide) (fun K hK => ?_)
     refine goes_ Try.func19 (by kernel_rfl) rfl #[.int .i64 a0_3] (by rfl) rfl rfl (Zchartularylaw19_bytes.z0) ?_
     with_reducible refine (octet_Num.calls k a0_3 t349 _ A7.out).mono ?_
     rintro e w16 ⟨rfl, hb⟩
     refine ⟨_, rfl, ?_⟩
     have n0_ := Aside0.mk (blk_below (g := gb345) (o := .cells #[.string a0_0, .int .i64 a0_1, .int .i64 a0_2, .int .i64 a0_3, .slice A0_4 l0_4.length c0_4, .slice A0_5 l0_5.length c0_5, .int .i64 a0_6, .int .i64 a0_7, .slice A0_8 l0_8.length c0_8] 25 (0, 0)) (by (with_reducible repeat (first | refine blk_drewN ?_ _ | refine blk_drew ?_ | refine blk_alloc ?_ _)); exact BK345.out) hb)
     have n1_ := Aside0.mk (below_step (by repeat (first | (with_reducible first | exact HB.out | apply below_alloc | apply pw_below_drewN | apply below_drew1 | refine below_set ?_ GE345.out) | exact HB.out)) hb)
     clear BK345
     clear HB
     have BK345 := n0_
     have HB := n1_
     clear n0_ n1_
     (try clear hb)
     (try clear hb2)
     (try clear hk)
     (try clear hi)
     refine hK.out _ _ ⟨(blk_cell BK345.out 0).trans rfl, (blk_cell BK345.out 1).trans rfl, (blk_cell BK345.out 2).trans rfl, (blk_cell BK345.out 3).trans rfl, (blk_cell BK345.out 4).trans rfl, (blk_cell BK345.out 5).trans rfl, (blk_cell BK345.out 6).trans rfl, (blk_cell BK345.out 7).trans rfl, (blk_cell BK345.out 8).trans rfl⟩ (fun hHeld => ?_)
     clear hK K
     refine norm_ (a' := ?_) ?_ ?_
     rotate_left
     ·show Act.put _ (some 19) _ = _
      simp only [Act.put, List.setIfInBounds_toArray, List.set_cons_zero, List.set_cons_succ, i64_w, i32_w]
      rfl
     refine pure_ (i := 14) (N := some 20) (v := ?_) (a' := ?_) #[true, true, true, true, true, true, true, true, true, true, true, true, true, true, true, true, true, true, false, false, false] rfl rfl (any_of HT_.out (by kernel_rfl)) (fun _ _ _ h => h) (Or.inl ⟨by rfl, ?_⟩) ?_ ?_
     rotate_left
     ·intro w'
      go_simp
      first | with_reducible rfl | rfl
     rotate_left
     ·simp only [Act.put, List.setIfInBounds_toArray, List.set_cons_zero, List.set_cons_succ, i64_w, i32_w]
      rfl
     refine one_ (i := 18) (N := some 24) #[true, true, true, true, true, true, true, true, true, true, true, true, true, true, true, true, true, true, true, false, false] rfl rfl (one_of HT_.out (by kernel_rfl)) (by decide) (fun K hK => ?_)
     refine goes_ Try.func19 (by kernel_rfl) rfl #[.int .i64 (l0_4.length : Int)] (by rfl) rfl rfl (Zchartularylaw19_bytes.z0) ?_
     with_reducible refine (octet_Num.calls k (l0_4.length : Int) t350 _ A9.out).mono ?_
     rintro e w17 ⟨rfl, hb⟩
     refine ⟨_, rfl, ?_⟩
     have n0_ := Aside0.mk (blk_below (g := gb345) (o := .cells #[.string a0_0, .int .i64 a0_1, .int .i64 a0_2, .int .i64 a0_3, .slice A0_4 l0_4.length c0_4, .slice A0_5 l0_5.length c0_5, .int .i64 a0_6, .int .i64 a0_7, .slice A0_8 l0_8.length c0_8] 25 (0, 0)) (by (with_reducible repeat (first | refine blk_drewN ?_ _ | refine blk_drew ?_ | refine blk_alloc ?_ _)); exact BK345.out) hb)
     have n1_ := Aside0.mk (below_step (by repeat (first | (with_reducible first | exact HB.out | apply below_alloc | apply pw_below_drewN | apply below_drew1 | refine below_set ?_ GE345.out) | exact HB.out)) hb)
     clear BK345
     clear HB
     have BK345 := n0_
     have HB := n1_
     clear n0_ n1_
     (try clear hb)
     (try clear hb2)
     (try clear hk)
     (try clear hi)
     refine hK.out _ _ ⟨(blk_cell BK345.out 0).trans rfl, (blk_cell BK345.out 1).trans rfl, (blk_cell BK345.out 2).trans rfl, (blk_cell BK345.out 3).trans rfl, (blk_cell BK345.out 4).trans rfl, (blk_cell BK345.out 5).trans rfl, (blk_cell BK345.out 6).trans rfl, (blk_cell BK345.out 7).trans rfl, (blk_cell BK345.out 8).trans rfl⟩ (fun hHeld => ?_)
     clear hK K
     refine norm_ (a' := ?_) ?_ ?_
     rotate_left
     ·show Act.put _ (some 24) _ = _
      simp only [Act.put, List.setIfInBounds_toArray, List.set_cons_zero, List.set_cons_succ, i64_w, i32_w]
      rfl
     refine pure_ (i := 19) (N := some 25) (v := ?_) (a' := ?_) #[true, true, true, true, true, true, true, true, true, true, true, true, true, true, true, true, true, true, true, true, false] rfl rfl (any_of HT_.out (by kernel_rfl)) (fun _ _ _ h => h) (Or.inl ⟨by rfl, ?_⟩) ?_ ?_
     rotate_left
     ·intro w'
      go_simp
      first | with_reducible rfl | rfl
     rotate_left
     ·simp only [Act.put, List.setIfInBounds_toArray, List.set_cons_zero, List.set_cons_succ, i64_w, i32_w]
      rfl
     refine pure_ (i := 20) (N := some 3) (v := ?_) (a' := ?_) #[true, true, true, true, true, true, true, true, true, true, true, true, true, true, true, true, true, true, true, true, true] rfl rfl (any_of HT_.out (by kernel_rfl)) (fun _ _ _ h => h) (Or.inl ⟨by rfl, ?_⟩) ?_ ?_
     rotate_left
     ·intro w'
      go_simp
      first | with_reducible rfl | rfl
     rotate_left
     ·simp only [Act.put, List.setIfInBounds_toArray, List.set_cons_zero, List.set_cons_succ, i64_w, i32_w]
      rfl
     refine done_ (done_of HT_.out (by kernel_rfl)) ?_
     try go_wp2
     go_loopg [3, 4] k (fun kq v3 v4 w' => ∃ (x3_1 : ByteArray) (x4_1 : Int), v3 = .string x3_1 ∧ v4 = .int .i64 x4_1 ∧ Aside0 (chartularylaw19_bytes.l0 kq x3_1 x4_1 a0_0 a0_1 a0_2 a0_3 l0_4 l0_5 a0_6 a0_7 l0_8 = some r) ∧ Aside0 (kq ≤ k) ∧ Aside0 (w'.heap[gb345]? = some (.cells #[.string a0_0, .int .i64 a0_1, .int .i64 a0_2, .int .i64 a0_3, (.slice A0_4 l0_4.length c0_4), (.slice A0_5 l0_5.length c0_5), .int .i64 a0_6, .int .i64 a0_7, (.slice A0_8 l0_8.length c0_8)] 25 (0, 0))) ∧ Aside0 (Below w.heap.size w w'))
     case atStart => exact ⟨((((t346 ++ t347) ++ t348) ++ t349) ++ t350), (0), (Zchartularylaw19_bytes.z1), (Zchartularylaw19_bytes.z1), H', ⟨Nat.le_refl _⟩, ⟨by (with_reducible repeat (first | refine blk_drewN ?_ _ | refine blk_drew ?_ | refine blk_alloc ?_ _)); exact BK345.out⟩, ⟨by repeat (first | (with_reducible first | exact HB.out | apply below_alloc | apply pw_below_drewN | apply below_drew1 | refine below_set ?_ GE345.out) | exact HB.out)⟩⟩
     case round =>
      clear H'
      try clear c1
      try clear c2
      try clear p2
      try clear c4
      try clear c4b0
      try clear c4b1
      try clear c4b2
      try clear c6
      try clear c6b0
      try clear c6b1
      try clear c6b2
      try clear c8
      try clear c8b0
      try clear c8b1
      try clear c8b2
      try clear c10
      try clear c10b0
      try clear c10b1
      try clear c10b2
      obtain ⟨x3_1, x4_1, rfl, rfl, HA, HK1, BK345, HB⟩ := hrel
      cases gk with
      | zero => exact absurd HA.out (by simp [chartularylaw19_bytes.l0])
      | succ k1 =>
       have H := HA.out
       clear HA
       simp only [chartularylaw19_bytes.l0] at H
       by_cases c18 : x4_1 < (l0_4.length : Int)
       ·rw [if_pos c18] at H
        have c18b0 : decide (x4_1 < (l0_4.length : Int)) = true := decide_eq_true c18
        clear c18
        by_cases c19 : 0 ≤ x4_1
        ·rw [if_pos c19] at H
         have c19b0 : decide (0 ≤ x4_1) = true := decide_eq_true c19
         clear c19
         replace H := Option.bind_eq_some_iff.mp H
         obtain ⟨t353, A200, H⟩ := H
         replace H : (if x3_1.size + t353.size ≤ 9223372036854775807 then ((octet_Text.f k1 ((rd_T50 l0_4 x4_1).f1)).bind fun t354 => (if (x3_1 ++ t353).size + t354.size ≤ 9223372036854775807 then (if (rd_T50 l0_4 x4_1).f2 = true then (if ((x3_1 ++ t353) ++ t354).size + 1 ≤ 9223372036854775807 then ((octet_Text.f k1 ((rd_T50 l0_4 x4_1).f5)).bind fun t355 => (if (((x3_1 ++ t353) ++ t354) ++ (⟨#[1]⟩ : ByteArray)).size + t355.size ≤ 9223372036854775807 then (chartularylaw19_bytes.l0 k1 ((((x3_1 ++ t353) ++ t354) ++ (⟨#[1]⟩ : ByteArray)) ++ t355) (wrap64 (x4_1 + 1)) a0_0 a0_1 a0_2 a0_3 l0_4 l0_5 a0_6 a0_7 l0_8) else (none))) else (none)) else (if ((x3_1 ++ t353) ++ t354).size + 1 ≤ 9223372036854775807 then ((octet_Text.f k1 ((rd_T50 l0_4 x4_1).f3)).bind fun t356 => (if (((x3_1 ++ t353) ++ t354) ++ (⟨#[0]⟩ : ByteArray)).size + t356.size ≤ 9223372036854775807 then ((octet_Text.f k1 ((rd_T50 l0_4 x4_1).f4)).bind fun t357 => (if ((((x3_1 ++ t353) ++ t354) ++ (⟨#[0]⟩ : ByteArray)) ++ t356).size + t357.size ≤ 9223372036854775807 then (chartularylaw19_bytes.l0 k1 (((((x3_1 ++ t353) ++ t354) ++ (⟨#[0]⟩ : ByteArray)) ++ t356) ++ t357) (wrap64 (x4_1 + 1)) a0_0 a0_1 a0_2 a0_3 l0_4 l0_5 a0_6 a0_7 l0_8) else (none))) else (none))) else (none))) else (none))) else (none)) = some r := H
         have A20 := Aside0.mk A200
         clear A200
         by_cases c21 : x3_1.size + t353.size ≤ 9223372036854775807
         ·rw [if_pos c21] at H
          have c21b0 := eq_true c21
          have c21b1 : decide (x3_1.size + t353.size ≤ 9223372036854775807) = true := decide_eq_true c21
          try have c21b2 : (9223372036854775807 < x3_1.size + t353.size) = False := eq_false (Nat.not_lt.2 c21)
          replace H := Option.bind_eq_some_iff.mp H
          obtain ⟨t354, A220, H⟩ := H
          replace H : (if (x3_1 ++ t353).size + t354.size ≤ 9223372036854775807 then (if (rd_T50 l0_4 x4_1).f2 = true then (if ((x3_1 ++ t353) ++ t354).size + 1 ≤ 9223372036854775807 then ((octet_Text.f k1 ((rd_T50 l0_4 x4_1).f5)).bind fun t355 => (if (((x3_1 ++ t353) ++ t354) ++ (⟨#[1]⟩ : ByteArray)).size + t355.size ≤ 9223372036854775807 then (chartularylaw19_bytes.l0 k1 ((((x3_1 ++ t353) ++ t354) ++ (⟨#[1]⟩ : ByteArray)) ++ t355) (wrap64 (x4_1 + 1)) a0_0 a0_1 a0_2 a0_3 l0_4 l0_5 a0_6 a0_7 l0_8) else (none))) else (none)) else (if ((x3_1 ++ t353) ++ t354).size + 1 ≤ 9223372036854775807 then ((octet_Text.f k1 ((rd_T50 l0_4 x4_1).f3)).bind fun t356 => (if (((x3_1 ++ t353) ++ t354) ++ (⟨#[0]⟩ : ByteArray)).size + t356.size ≤ 9223372036854775807 then ((octet_Text.f k1 ((rd_T50 l0_4 x4_1).f4)).bind fun t357 => (if ((((x3_1 ++ t353) ++ t354) ++ (⟨#[0]⟩ : ByteArray)) ++ t356).size + t357.size ≤ 9223372036854775807 then (chartularylaw19_bytes.l0 k1 (((((x3_1 ++ t353) ++ t354) ++ (⟨#[0]⟩ : ByteArray)) ++ t356) ++ t357) (wrap64 (x4_1 + 1)) a0_0 a0_1 a0_2 a0_3 l0_4 l0_5 a0_6 a0_7 l0_8) else (none))) else (none))) else (none))) else (none)) = some r := H
          have A22 := Aside0.mk A220
          clear A220
          by_cases c23 : (x3_1 ++ t353).size + t354.size ≤ 9223372036854775807
          ·rw [if_pos c23] at H
           have c23b0 := eq_true c23
           have c23b1 : decide ((x3_1 ++ t353).size + t354.size ≤ 9223372036854775807) = true := decide_eq_true c23
           try have c23b2 : (9223372036854775807 < (x3_1 ++ t353).size + t354.size) = False := eq_false (Nat.not_lt.2 c23)
           try have c23b3 : (9223372036854775807 < x3_1.size + t353.size + t354.size) = False := eq_false (Nat.not_lt.2 (by have h_ := c23; simp only [ByteArray.size_append] at h_; omega))
           obtain ⟨bq24, hbq24⟩ : ∃ b_ : Bool, b_ = ((rd_T50 l0_4 x4_1).f2) := ⟨_, rfl⟩
           replace H : (if bq24 = true then (if ((x3_1 ++ t353) ++ t354).size + 1 ≤ 9223372036854775807 then ((octet_Text.f k1 ((rd_T50 l0_4 x4_1).f5)).bind fun t355 => (if (((x3_1 ++ t353) ++ t354) ++ (⟨#[1]⟩ : ByteArray)).size + t355.size ≤ 9223372036854775807 then (chartularylaw19_bytes.l0 k1 ((((x3_1 ++ t353) ++ t354) ++ (⟨#[1]⟩ : ByteArray)) ++ t355) (wrap64 (x4_1 + 1)) a0_0 a0_1 a0_2 a0_3 l0_4 l0_5 a0_6 a0_7 l0_8) else (none))) else (none)) else (if ((x3_1 ++ t353) ++ t354).size + 1 ≤ 9223372036854775807 then ((octet_Text.f k1 ((rd_T50 l0_4 x4_1).f3)).bind fun t356 => (if (((x3_1 ++ t353) ++ t354) ++ (⟨#[0]⟩ : ByteArray)).size + t356.size ≤ 9223372036854775807 then ((octet_Text.f k1 ((rd_T50 l0_4 x4_1).f4)).bind fun t357 => (if ((((x3_1 ++ t353) ++ t354) ++ (⟨#[0]⟩ : ByteArray)) ++ t356).size + t357.size ≤ 9223372036854775807 then (chartularylaw19_bytes.l0 k1 (((((x3_1 ++ t353) ++ t354) ++ (⟨#[0]⟩ : ByteArray)) ++ t356) ++ t357) (wrap64 (x4_1 + 1)) a0_0 a0_1 a0_2 a0_3 l0_4 l0_5 a0_6 a0_7 l0_8) else (none))) else (none))) else (none))) = some r := by rw [← hbq24] at H; exact H
           have Nbq24 := Aside0.mk hbq24
           clear hbq24
           (try rw [← Nbq24.out] at A20)
           (try rw [← Nbq24.out] at A22)
           by_cases c25 : bq24 = true
           ·subst c25
            have H1 : (if ((x3_1 ++ t353) ++ t354).size + 1 ≤ 9223372036854775807 then ((octet_Text.f k1 ((rd_T50 l0_4 x4_1).f5)).bind fun t355 => (if (((x3_1 ++ t353) ++ t354) ++ (⟨#[1]⟩ : ByteArray)).size + t355.size ≤ 9223372036854775807 then (chartularylaw19_bytes.l0 k1 ((((x3_1 ++ t353) ++ t354) ++ (⟨#[1]⟩ : ByteArray)) ++ t355) (wrap64 (x4_1 + 1)) a0_0 a0_1 a0_2 a0_3 l0_4 l0_5 a0_6 a0_7 l0_8) else (none))) else (none)) = some r := by rw [if_pos rfl] at H; exact H
            clear H
            have H := H1
            clear H1
            by_cases c26 : ((x3_1 ++ t353) ++ t354).size + 1 ≤ 9223372036854775807
            ·rw [if_pos c26] at H
             have c26b0 := eq_true c26
             have c26b1 : decide (((x3_1 ++ t353) ++ t354).size + 1 ≤ 9223372036854775807) = true := decide_eq_true c26
             try have c26b2 : (9223372036854775807 < ((x3_1 ++ t353) ++ t354).size + 1) = False := eq_false (Nat.not_lt.2 c26)
             try have c26b3 : (9223372036854775807 < x3_1.size + t353.size + t354.size + 1) = False := eq_false (Nat.not_lt.2 (by have h_ := c26; simp only [ByteArray.size_append] at h_; omega))
             replace H := Option.bind_eq_some_iff.mp H
             obtain ⟨t355, A270, H⟩ := H
             replace H : (if (((x3_1 ++ t353) ++ t354) ++ (⟨#[1]⟩ : ByteArray)).size + t355.size ≤ 9223372036854775807 then (chartularylaw19_bytes.l0 k1 ((((x3_1 ++ t353) ++ t354) ++ (⟨#[1]⟩ : ByteArray)) ++ t355) (wrap64 (x4_1 + 1)) a0_0 a0_1 a0_2 a0_3 l0_4 l0_5 a0_6 a0_7 l0_8) else (none)) = some r := H
             have A27 := Aside0.mk A270
             clear A270
             by_cases c28 : (((x3_1 ++ t353) ++ t354) ++ (⟨#[1]⟩ : ByteArray)).size + t355.size ≤ 9223372036854775807
             ·rw [if_pos c28] at H
              have c28b0 := eq_true c28
              have c28b1 : decide ((((x3_1 ++ t353) ++ t354) ++ (⟨#[1]⟩ : ByteArray)).size + t355.size ≤ 9223372036854775807) = true := decide_eq_true c28
              try have c28b2 : (9223372036854775807 < (((x3_1 ++ t353) ++ t354) ++ (⟨#[1]⟩ : ByteArray)).size + t355.size) = False := eq_false (Nat.not_lt.2 c28)
              try have c28b3 : (9223372036854775807 < x3_1.size + t353.size + t354.size + 1 + t355.size) = False := eq_false (Nat.not_lt.2 (by have h_ := c28; simp only [ByteArray.size_append] at h_; have l0_ : ByteArray.size (⟨#[1]⟩ : ByteArray) = 1 := rfl; omega))
              have H' := Aside0.mk H
              clear H
              have hcz29_0 := cz_ BK345.out 0 rfl
              have hcz29_1 := cz_ BK345.out 1 rfl
              have hcz29_2 := cz_ BK345.out 2 rfl
              have hcz29_3 := cz_ BK345.out 3 rfl
              have hcz29_4 := cz_ BK345.out 4 rfl
              have hcz29_5 := cz_ BK345.out 5 rfl
              have hcz29_6 := cz_ BK345.out 6 rfl
              have hcz29_7 := cz_ BK345.out 7 rfl
              have hcz29_8 := cz_ BK345.out 8 rfl
              have hfz29_0 := blk_frozen BK345.out 0
              have hfz29_1 := blk_frozen BK345.out 1
              have hfz29_2 := blk_frozen BK345.out 2
              have hfz29_3 := blk_frozen BK345.out 3
              have hfz29_4 := blk_frozen BK345.out 4
              have hfz29_5 := blk_frozen BK345.out 5
              have hfz29_6 := blk_frozen BK345.out 6
              have hfz29_7 := blk_frozen BK345.out 7
              have hfz29_8 := blk_frozen BK345.out 8
              have p351 : 0 ≤ (x4_1 : Int) := of_decide_eq_true (Zchartularylaw19_bytes.z2)
              have q351 : x4_1 < (l0_4.length : Int) := of_decide_eq_true (Zchartularylaw19_bytes.z2)
              obtain ⟨ad351, e351, hx351_0, hx351_1, hx351_2, hx351_3, hx351_4, hx351_5⟩ := at_T50 HR0_4.out x4_1 p351 q351
              (try rw [← Nbq24.out] at hx351_2)
              cases e351
              replace hx351_0 := (HB.out.cell (World.block_lt_of_cell? w _ hx351_0)).trans hx351_0
              replace hx351_1 := (HB.out.cell (World.block_lt_of_cell? w _ hx351_1)).trans hx351_1
              replace hx351_2 := (HB.out.cell (World.block_lt_of_cell? w _ hx351_2)).trans hx351_2
              replace hx351_3 := (HB.out.cell (World.block_lt_of_cell? w _ hx351_3)).trans hx351_3
              replace hx351_4 := (HB.out.cell (World.block_lt_of_cell? w _ hx351_4)).trans hx351_4
              replace hx351_5 := (HB.out.cell (World.block_lt_of_cell? w _ hx351_5)).trans hx351_5
              replace p351 := eq_true p351
              replace q351 := eq_true q351
              try go_wp2_with (first | ((with_reducible refine gate_dst (N := 5) rfl ?_); refine box_event ?hg (N := 5) ?hd (cs := #[.int .i64 0, .string (⟨#[]⟩ : ByteArray), .bool false, .string (⟨#[]⟩ : ByteArray), .string (⟨#[]⟩ : ByteArray), .string (⟨#[]⟩ : ByteArray)]) (t := 50) ?hr ?_; (case hd => rfl); (case hg => rfl); (case hr => first | (go_simp; done) | (go_simp; rfl)); intro gb352 hg w30 hbox hb; have n0_ := Aside0.mk (blk_below (g := gb345) (o := .cells #[.string a0_0, .int .i64 a0_1, .int .i64 a0_2, .int .i64 a0_3, .slice (some ad351) l0_4.length c0_4, .slice A0_5 l0_5.length c0_5, .int .i64 a0_6, .int .i64 a0_7, .slice A0_8 l0_8.length c0_8] 25 (0, 0)) (by (with_reducible repeat (first | refine blk_drewN ?_ _ | refine blk_drew ?_ | refine blk_alloc ?_ _)); exact BK345.out) hb); have n1_ := Aside0.mk (below_step (by repeat (first | (with_reducible first | exact HB.out | apply below_alloc | apply pw_below_drewN | apply below_drew1 | refine below_set ?_ GE345.out) | exact HB.out)) hb); have n2_ := Aside0.mk (hbox); have n3_ := Aside0.mk ((by rw [hg]; exact (below_size (by repeat (first | (with_reducible first | exact HB.out | apply below_alloc | apply pw_below_drewN | apply below_drew1 | refine below_set ?_ GE345.out) | exact HB.out))) : w.heap.size ≤ gb352)); have n4_ := Aside0.mk ((by rw [hg]; exact (below_size (by repeat (first | (with_reducible first | exact HB.out | apply below_alloc | apply pw_below_drewN | apply below_drew1 | refine below_set ?_ GE345.out) | exact HB.out))) : w.heap.size ≤ gb352)); have n5_ := Aside0.mk ((by rw [hg]; exact Nat.ne_of_lt (blk_lt (g := gb345) (o := .cells #[.string a0_0, .int .i64 a0_1, .int .i64 a0_2, .int .i64 a0_3, .slice (some ad351) l0_4.length c0_4, .slice A0_5 l0_5.length c0_5, .int .i64 a0_6, .int .i64 a0_7, .slice A0_8 l0_8.length c0_8] 25 (0, 0)) (by (with_reducible repeat (first | refine blk_drewN ?_ _ | refine blk_drew ?_ | refine blk_alloc ?_ _)); exact BK345.out)) : gb345 ≠ gb352)); have n6_ := Aside0.mk ((by rw [hg]; exact Nat.ne_of_gt (blk_lt (g := gb345) (o := .cells #[.string a0_0, .int .i64 a0_1, .int .i64 a0_2, .int .i64 a0_3, .slice (some ad351) l0_4.length c0_4, .slice A0_5 l0_5.length c0_5, .int .i64 a0_6, .int .i64 a0_7, .slice A0_8 l0_8.length c0_8] 25 (0, 0)) (by (with_reducible repeat (first | refine blk_drewN ?_ _ | refine blk_drew ?_ | refine blk_alloc ?_ _)); exact BK345.out)) : gb352 ≠ gb345)); clear BK345; clear HB; have BK345 := n0_; have HB := n1_; have BK352 := n2_; have GW352 := n3_; have GE352 := n4_; have NB345_352 := n5_; have NB352_345 := n6_; clear n0_ n1_ n2_ n3_ n4_ n5_ n6_; clear hb hbox hg; have hnb31 := NB352_345.out; have hnc31 := NB345_352.out; have hcz32_0 := cz_ BK352.out 0 rfl; have hcz32_1 := cz_ BK352.out 1 rfl; have hcz32_2 := cz_ BK352.out 2 rfl; have hcz32_3 := cz_ BK352.out 3 rfl; have hcz32_4 := cz_ BK352.out 4 rfl; have hcz32_5 := cz_ BK352.out 5 rfl; have hfz32_0 := blk_frozen BK352.out 0; have hfz32_1 := blk_frozen BK352.out 1; have hfz32_2 := blk_frozen BK352.out 2; have hfz32_3 := blk_frozen BK352.out 3; have hfz32_4 := blk_frozen BK352.out 4; have hfz32_5 := blk_frozen BK352.out 5))
              have n0_ : Aside0 (((((((w30.setCell ⟨gb352, 0, none⟩ (.int .i64 ((rd_T50 l0_4 x4_1).f0))).setCell ⟨gb352, 1, none⟩ (.string ((rd_T50 l0_4 x4_1).f1))).setCell ⟨gb352, 2, none⟩ (.bool true)).setCell ⟨gb352, 3, none⟩ (.string ((rd_T50 l0_4 x4_1).f3))).setCell ⟨gb352, 4, none⟩ (.string ((rd_T50 l0_4 x4_1).f4))).setCell ⟨gb352, 5, none⟩ (.string ((rd_T50 l0_4 x4_1).f5))).heap[gb345]? = some (.cells #[.string a0_0, .int .i64 a0_1, .int .i64 a0_2, .int .i64 a0_3, .slice (some ad351) l0_4.length c0_4, .slice A0_5 l0_5.length c0_5, .int .i64 a0_6, .int .i64 a0_7, .slice A0_8 l0_8.length c0_8] 25 (0, 0))) := ⟨by (with_reducible repeat (first | refine blk_drewN ?_ _ | refine blk_drew ?_ | refine blk_alloc ?_ _)); refine blk_far ?_ NB345_352.out _; (with_reducible repeat (first | refine blk_drewN ?_ _ | refine blk_drew ?_ | refine blk_alloc ?_ _)); refine blk_far ?_ NB345_352.out _; (with_reducible repeat (first | refine blk_drewN ?_ _ | refine blk_drew ?_ | refine blk_alloc ?_ _)); refine blk_far ?_ NB345_352.out _; (with_reducible repeat (first | refine blk_drewN ?_ _ | refine blk_drew ?_ | refine blk_alloc ?_ _)); refine blk_far ?_ NB345_352.out _; (with_reducible repeat (first | refine blk_drewN ?_ _ | refine blk_drew ?_ | refine blk_alloc ?_ _)); refine blk_far ?_ NB345_352.out _; (with_reducible repeat (first | refine blk_drewN ?_ _ | refine blk_drew ?_ | refine blk_alloc ?_ _)); refine blk_far ?_ NB345_352.out _; (with_reducible repeat (first | refine blk_drewN ?_ _ | refine blk_drew ?_ | refine blk_alloc ?_ _)); exact BK345.out⟩
              have n1_ : Aside0 (((((((w30.setCell ⟨gb352, 0, none⟩ (.int .i64 ((rd_T50 l0_4 x4_1).f0))).setCell ⟨gb352, 1, none⟩ (.string ((rd_T50 l0_4 x4_1).f1))).setCell ⟨gb352, 2, none⟩ (.bool true)).setCell ⟨gb352, 3, none⟩ (.string ((rd_T50 l0_4 x4_1).f3))).setCell ⟨gb352, 4, none⟩ (.string ((rd_T50 l0_4 x4_1).f4))).setCell ⟨gb352, 5, none⟩ (.string ((rd_T50 l0_4 x4_1).f5))).heap[gb352]? = some (.cells #[.int .i64 ((rd_T50 l0_4 x4_1).f0), .string ((rd_T50 l0_4 x4_1).f1), .bool true, .string ((rd_T50 l0_4 x4_1).f3), .string ((rd_T50 l0_4 x4_1).f4), .string ((rd_T50 l0_4 x4_1).f5)] 50 (0, 0))) := ⟨by (with_reducible repeat (first | refine blk_drewN ?_ _ | refine blk_drew ?_ | refine blk_alloc ?_ _)); refine blk_put (cs := #[.int .i64 ((rd_T50 l0_4 x4_1).f0), .string ((rd_T50 l0_4 x4_1).f1), .bool true, .string ((rd_T50 l0_4 x4_1).f3), .string ((rd_T50 l0_4 x4_1).f4), .string (⟨#[]⟩ : ByteArray)]) ?_ 5 _ rfl; (with_reducible repeat (first | refine blk_drewN ?_ _ | refine blk_drew ?_ | refine blk_alloc ?_ _)); refine blk_put (cs := #[.int .i64 ((rd_T50 l0_4 x4_1).f0), .string ((rd_T50 l0_4 x4_1).f1), .bool true, .string ((rd_T50 l0_4 x4_1).f3), .string (⟨#[]⟩ : ByteArray), .string (⟨#[]⟩ : ByteArray)]) ?_ 4 _ rfl; (with_reducible repeat (first | refine blk_drewN ?_ _ | refine blk_drew ?_ | refine blk_alloc ?_ _)); refine blk_put (cs := #[.int .i64 ((rd_T50 l0_4 x4_1).f0), .string ((rd_T50 l0_4 x4_1).f1), .bool true, .string (⟨#[]⟩ : ByteArray), .string (⟨#[]⟩ : ByteArray), .string (⟨#[]⟩ : ByteArray)]) ?_ 3 _ rfl; (with_reducible repeat (first | refine blk_drewN ?_ _ | refine blk_drew ?_ | refine blk_alloc ?_ _)); refine blk_put (cs := #[.int .i64 ((rd_T50 l0_4 x4_1).f0), .string ((rd_T50 l0_4 x4_1).f1), .bool false, .string (⟨#[]⟩ : ByteArray), .string (⟨#[]⟩ : ByteArray), .string (⟨#[]⟩ : ByteArray)]) ?_ 2 _ rfl; (with_reducible repeat (first | refine blk_drewN ?_ _ | refine blk_drew ?_ | refine blk_alloc ?_ _)); refine blk_put (cs := #[.int .i64 ((rd_T50 l0_4 x4_1).f0), .string (⟨#[]⟩ : ByteArray), .bool false, .string (⟨#[]⟩ : ByteArray), .string (⟨#[]⟩ : ByteArray), .string (⟨#[]⟩ : ByteArray)]) ?_ 1 _ rfl; (with_reducible repeat (first | refine blk_drewN ?_ _ | refine blk_drew ?_ | refine blk_alloc ?_ _)); refine blk_put (cs := #[.int .i64 0, .string (⟨#[]⟩ : ByteArray), .bool false, .string (⟨#[]⟩ : ByteArray), .string (⟨#[]⟩ : ByteArray), .string (⟨#[]⟩ : ByteArray)]) ?_ 0 _ rfl; (with_reducible repeat (first | refine blk_drewN ?_ _ | refine blk_drew ?_ | refine blk_alloc ?_ _)); exact BK352.out⟩
              have n2_ : Aside0 (Below w.heap.size w ((((((w30.setCell ⟨gb352, 0, none⟩ (.int .i64 ((rd_T50 l0_4 x4_1).f0))).setCell ⟨gb352, 1, none⟩ (.string ((rd_T50 l0_4 x4_1).f1))).setCell ⟨gb352, 2, none⟩ (.bool true)).setCell ⟨gb352, 3, none⟩ (.string ((rd_T50 l0_4 x4_1).f3))).setCell ⟨gb352, 4, none⟩ (.string ((rd_T50 l0_4 x4_1).f4))).setCell ⟨gb352, 5, none⟩ (.string ((rd_T50 l0_4 x4_1).f5)))) := ⟨by repeat (first | (with_reducible first | exact HB.out | apply below_alloc | apply pw_below_drewN | apply below_drew1 | refine below_set ?_ GE345.out | refine below_set ?_ GE352.out) | exact HB.out)⟩
              (try clear BK345)
              (try clear BK352)
              (try clear HB)
              generalize ((((((w30.setCell ⟨gb352, 0, none⟩ (.int .i64 ((rd_T50 l0_4 x4_1).f0))).setCell ⟨gb352, 1, none⟩ (.string ((rd_T50 l0_4 x4_1).f1))).setCell ⟨gb352, 2, none⟩ (.bool true)).setCell ⟨gb352, 3, none⟩ (.string ((rd_T50 l0_4 x4_1).f3))).setCell ⟨gb352, 4, none⟩ (.string ((rd_T50 l0_4 x4_1).f4))).setCell ⟨gb352, 5, none⟩ (.string ((rd_T50 l0_4 x4_1).f5))) = w33 at n0_ n1_ n2_ ⊢
              have BK345 := n0_
              have BK352 := n1_
              have HB := n2_
              clear n0_ n1_ n2_
              have n0_ := Aside0.mk (blk_drew BK345.out)
              have n1_ := Aside0.mk (blk_drew BK352.out)
              have n2_ := Aside0.mk (below_drew1 HB.out)
              clear BK345
              clear BK352
              clear HB
              have BK345 := n0_
              have BK352 := n1_
              have HB := n2_
              clear n0_ n1_ n2_
              refine start_ (n := 10) (S := fun w' => w'.cell? ⟨gb352, 0, none⟩ = some (.int .i64 ((rd_T50 l0_4 x4_1).f0)) ∧ w'.cell? ⟨gb352, 1, none⟩ = some (.string ((rd_T50 l0_4 x4_1).f1)) ∧ w'.cell? ⟨gb352, 2, none⟩ = some (.bool true) ∧ w'.cell? ⟨gb352, 3, none⟩ = some (.string ((rd_T50 l0_4 x4_1).f3)) ∧ w'.cell? ⟨gb352, 4, none⟩ = some (.string ((rd_T50 l0_4 x4_1).f4)) ∧ w'.cell? ⟨gb352, 5, none⟩ = some (.string ((rd_T50 l0_4 x4_1).f5))) (ds := []) #[false, false, false, false, false, false, false, false, false, false] (by kernel_rfl) rfl rfl ⟨(blk_cell BK352.out 0).trans rfl, (blk_cell BK352.out 1).trans rfl, (blk_cell BK352.out 2).trans rfl, (blk_cell BK352.out 3).trans rfl, (blk_cell BK352.out 4).trans rfl, (blk_cell BK352.out 5).trans rfl⟩ (fun hHeld => ?_); refine with_tabW chartularylaw19_bytes.tab6 chartularylaw19_bytes.bits6 (fun HT_ HW_ => ?_)
              generalize w33.drew = w34 at BK345 BK352 HB hHeld ⊢
              refine pure_ (i := 0) (N := some 38) (v := ?_) (a' := ?_) #[true, false, false, false, false, false, false, false, false, false] rfl rfl (any_of HT_.out (by kernel_rfl)) (fun _ _ _ h => h) (Or.inl ⟨by rfl, ?_⟩) ?_ ?_
              rotate_left
              ·intro w'
               go_simp
               first | with_reducible rfl | rfl
              rotate_left
              ·simp only [Act.put, List.setIfInBounds_toArray, List.set_cons_zero, List.set_cons_succ, i64_w, i32_w]
               rfl
              refine pure_ (i := 1) (N := some 39) (v := ?_) (a' := ?_) #[true, true, false, false, false, false, false, false, false, false] rfl rfl (any_of HT_.out (by kernel_rfl)) (fun _ _ _ h => h) (Or.inl ⟨by rfl, ?_⟩) ?_ ?_
              rotate_left
              ·intro w'
               go_simp
               first | with_reducible rfl | rfl
              rotate_left
              ·simp only [Act.put, List.setIfInBounds_toArray, List.set_cons_zero, List.set_cons_succ, i64_w, i32_w]
               rfl
              refine pure_ (i := 5) (N := some 43) (v := ?_) (a' := ?_) #[true, true, false, false, false, true, false, false, false, false] rfl rfl (any_of HT_.out (by kernel_rfl)) (fun _ _ _ h => h) (Or.inl ⟨by rfl, ?_⟩) ?_ ?_
              rotate_left
              ·intro w'
               go_simp
               first | with_reducible rfl | rfl
              rotate_left
              ·simp only [Act.put, List.setIfInBounds_toArray, List.set_cons_zero, List.set_cons_succ, i64_w, i32_w]
               rfl
              refine take_ (i := 2) (N := some 40) (v := ?_) (a' := ?_) #[true, true, true, false, false, true, false, false, false, false] rfl rfl (take_ofW HT_.out HW_.out (by kernel_rfl)) (fun _ _ _ h => h) (Or.inl ⟨by rfl, ?_⟩) hHeld ?_ ?_
              rotate_left
              ·rintro w' ⟨s0, s1, s2, s3, s4, s5⟩
               go_simp
               first | with_reducible rfl | rfl
              rotate_left
              ·simp only [Act.put, List.setIfInBounds_toArray, List.set_cons_zero, List.set_cons_succ, i64_w, i32_w]
               rfl
              refine take_ (i := 6) (N := some 44) (v := ?_) (a' := ?_) #[true, true, true, false, false, true, true, false, false, false] rfl rfl (take_ofW HT_.out HW_.out (by kernel_rfl)) (fun _ _ _ h => h) (Or.inl ⟨by rfl, ?_⟩) hHeld ?_ ?_
              rotate_left
              ·rintro w' ⟨s0, s1, s2, s3, s4, s5⟩
               go_simp
               first | with_reducible rfl | rfl
              rotate_left
              ·simp only [Act.put, List.setIfInBounds_toArray, List.set_cons_zero, List.set_cons_succ, i64_w, i32_w]
               rfl
              refine one_ (i := 3) (N := some 41) #[true, true, true, true, false, true, true, false, false, false] rfl rfl (one_of HT_.out (by kernel_rfl)) (by decide) (fun K hK => ?_)
              refine goes_ Try.func19 (by kernel_rfl) rfl #[.int .i64 ((rd_T50 l0_4 x4_1).f0)] (by rfl) rfl rfl (Zchartularylaw19_bytes.z0) ?_
              with_reducible refine (octet_Num.calls k1 ((rd_T50 l0_4 x4_1).f0) t353 _ A20.out).mono ?_
              rintro e w35 ⟨rfl, hb⟩
              refine ⟨_, rfl, ?_⟩
              have n0_ := Aside0.mk (blk_below (g := gb345) (o := .cells #[.string a0_0, .int .i64 a0_1, .int .i64 a0_2, .int .i64 a0_3, .slice (some ad351) l0_4.length c0_4, .slice A0_5 l0_5.length c0_5, .int .i64 a0_6, .int .i64 a0_7, .slice A0_8 l0_8.length c0_8] 25 (0, 0)) (by (with_reducible repeat (first | refine blk_drewN ?_ _ | refine blk_drew ?_ | refine blk_alloc ?_ _)); exact BK345.out) hb)
              have n1_ := Aside0.mk (blk_below (g := gb352) (o := .cells #[.int .i64 ((rd_T50 l0_4 x4_1).f0), .string ((rd_T50 l0_4 x4_1).f1), .bool true, .string ((rd_T50 l0_4 x4_1).f3), .string ((rd_T50 l0_4 x4_1).f4), .string ((rd_T50 l0_4 x4_1).f5)] 50 (0, 0)) (by (with_reducible repeat (first | refine blk_drewN ?_ _ | refine blk_drew ?_ | refine blk_alloc ?_ _)); exact BK352.out) hb)
              have n2_ := Aside0.mk (below_step (by repeat (first | (with_reducible first | exact HB.out | apply below_alloc | apply pw_below_drewN | apply below_drew1 | refine below_set ?_ GE345.out | refine below_set ?_ GE352.out) | exact HB.out)) hb)
              clear BK345
              clear BK352
              clear HB
              have BK345 := n0_
              have BK352 := n1_
              have HB := n2_
              clear n0_ n1_ n2_
              (try clear hb)
              (try clear hb2)
              (try clear hk)
              (try clear hi)
              refine hK.out _ _ ⟨(blk_cell BK352.out 0).trans rfl, (blk_cell BK352.out 1).trans rfl, (blk_cell BK352.out 2).trans rfl, (blk_cell BK352.out 3).trans rfl, (blk_cell BK352.out 4).trans rfl, (blk_cell BK352.out 5).trans rfl⟩ (fun hHeld => ?_)
              clear hK K
              refine norm_ (a' := ?_) ?_ ?_
              rotate_left
              ·show Act.put _ (some 41) _ = _
               simp only [Act.put, List.setIfInBounds_toArray, List.set_cons_zero, List.set_cons_succ, i64_w, i32_w]
               rfl
              refine pure_ (i := 4) (N := some 42) (v := ?_) (a' := ?_) #[true, true, true, true, true, true, true, false, false, false] rfl rfl (any_of HT_.out (by kernel_rfl)) (fun _ _ _ h => h) (Or.inl ⟨by rfl, ?_⟩) ?_ ?_
              rotate_left
              ·intro w'
               go_simp
               first | with_reducible rfl | rfl
              rotate_left
              ·simp only [Act.put, List.setIfInBounds_toArray, List.set_cons_zero, List.set_cons_succ, i64_w, i32_w]
               rfl
              refine one_ (i := 7) (N := some 45) #[true, true, true, true, true, true, true, true, false, false] rfl rfl (one_of HT_.out (by kernel_rfl)) (by decide) (fun K hK => ?_)
              refine goes_ Try.func20 (by kernel_rfl) rfl #[.string ((rd_T50 l0_4 x4_1).f1)] (by rfl) rfl rfl (Zchartularylaw19_bytes.z0) ?_
              with_reducible refine (octet_Text.calls k1 ((rd_T50 l0_4 x4_1).f1) t354 _ A22.out).mono ?_
              rintro e w36 ⟨rfl, hb⟩
              refine ⟨_, rfl, ?_⟩
              have n0_ := Aside0.mk (blk_below (g := gb345) (o := .cells #[.string a0_0, .int .i64 a0_1, .int .i64 a0_2, .int .i64 a0_3, .slice (some ad351) l0_4.length c0_4, .slice A0_5 l0_5.length c0_5, .int .i64 a0_6, .int .i64 a0_7, .slice A0_8 l0_8.length c0_8] 25 (0, 0)) (by (with_reducible repeat (first | refine blk_drewN ?_ _ | refine blk_drew ?_ | refine blk_alloc ?_ _)); exact BK345.out) hb)
              have n1_ := Aside0.mk (blk_below (g := gb352) (o := .cells #[.int .i64 ((rd_T50 l0_4 x4_1).f0), .string ((rd_T50 l0_4 x4_1).f1), .bool true, .string ((rd_T50 l0_4 x4_1).f3), .string ((rd_T50 l0_4 x4_1).f4), .string ((rd_T50 l0_4 x4_1).f5)] 50 (0, 0)) (by (with_reducible repeat (first | refine blk_drewN ?_ _ | refine blk_drew ?_ | refine blk_alloc ?_ _)); exact BK352.out) hb)
              have n2_ := Aside0.mk (below_step (by repeat (first | (with_reducible first | exact HB.out | apply below_alloc | apply pw_below_drewN | apply below_drew1 | refine below_set ?_ GE345.out | refine below_set ?_ GE352.out) | exact HB.out)) hb)
              clear BK345
              clear BK352
              clear HB
              have BK345 := n0_
              have BK352 := n1_
              have HB := n2_
              clear n0_ n1_ n2_
              (try clear hb)
              (try clear hb2)
              (try clear hk)
              (try clear hi)
              refine hK.out _ _ ⟨(blk_cell BK352.out 0).trans rfl, (blk_cell BK352.out 1).trans rfl, (blk_cell BK352.out 2).trans rfl, (blk_cell BK352.out 3).trans rfl, (blk_cell BK352.out 4).trans rfl, (blk_cell BK352.out 5).trans rfl⟩ (fun hHeld => ?_)
              clear hK K
              refine norm_ (a' := ?_) ?_ ?_
              rotate_left
              ·show Act.put _ (some 45) _ = _
               simp only [Act.put, List.setIfInBounds_toArray, List.set_cons_zero, List.set_cons_succ, i64_w, i32_w]
               rfl
              refine pure_ (i := 8) (N := some 46) (v := ?_) (a' := ?_) #[true, true, true, true, true, true, true, true, true, false] rfl rfl (any_of HT_.out (by kernel_rfl)) (fun _ _ _ h => h) (Or.inl ⟨by rfl, ?_⟩) ?_ ?_
              rotate_left
              ·intro w'
               go_simp
               first | with_reducible rfl | rfl
              rotate_left
              ·simp only [Act.put, List.setIfInBounds_toArray, List.set_cons_zero, List.set_cons_succ, i64_w, i32_w]
               rfl
              refine pure_ (i := 9) (N := some 3) (v := ?_) (a' := ?_) #[true, true, true, true, true, true, true, true, true, true] rfl rfl (any_of HT_.out (by kernel_rfl)) (fun _ _ _ h => h) (Or.inl ⟨by rfl, ?_⟩) ?_ ?_
              rotate_left
              ·intro w'
               go_simp
               first | with_reducible rfl | rfl
              rotate_left
              ·simp only [Act.put, List.setIfInBounds_toArray, List.set_cons_zero, List.set_cons_succ, i64_w, i32_w]
               rfl
              refine done_ (done_of HT_.out (by kernel_rfl)) ?_
              have hcz37_0 := cz_ BK352.out 0 rfl
              have hcz37_1 := cz_ BK352.out 1 rfl
              have hcz37_2 := cz_ BK352.out 2 rfl
              have hcz37_3 := cz_ BK352.out 3 rfl
              have hcz37_4 := cz_ BK352.out 4 rfl
              have hcz37_5 := cz_ BK352.out 5 rfl
              have hfz37_0 := blk_frozen BK352.out 0
              have hfz37_1 := blk_frozen BK352.out 1
              have hfz37_2 := blk_frozen BK352.out 2
              have hfz37_3 := blk_frozen BK352.out 3
              have hfz37_4 := blk_frozen BK352.out 4
              have hfz37_5 := blk_frozen BK352.out 5
              try go_wp2_with (first | ((with_reducible refine gate_callee (f := 20) rfl ?_); refine goesL_ (some 53) rfl rfl Try.func20 (by kernel_rfl) rfl #[.string ((rd_T50 l0_4 x4_1).f5)] rfl (Zchartularylaw19_bytes.z0) ?_; (with_reducible refine (octet_Text.calls k1 ((rd_T50 l0_4 x4_1).f5) t355 _ A27.out).mono ?_); rintro e w38 ⟨rfl, hb⟩; refine ⟨_, rfl, ?_⟩; have n0_ := Aside0.mk (blk_below (g := gb345) (o := .cells #[.string a0_0, .int .i64 a0_1, .int .i64 a0_2, .int .i64 a0_3, .slice (some ad351) l0_4.length c0_4, .slice A0_5 l0_5.length c0_5, .int .i64 a0_6, .int .i64 a0_7, .slice A0_8 l0_8.length c0_8] 25 (0, 0)) (by (with_reducible repeat (first | refine blk_drewN ?_ _ | refine blk_drew ?_ | refine blk_alloc ?_ _)); exact BK345.out) hb); have n1_ := Aside0.mk (blk_below (g := gb352) (o := .cells #[.int .i64 ((rd_T50 l0_4 x4_1).f0), .string ((rd_T50 l0_4 x4_1).f1), .bool true, .string ((rd_T50 l0_4 x4_1).f3), .string ((rd_T50 l0_4 x4_1).f4), .string ((rd_T50 l0_4 x4_1).f5)] 50 (0, 0)) (by (with_reducible repeat (first | refine blk_drewN ?_ _ | refine blk_drew ?_ | refine blk_alloc ?_ _)); exact BK352.out) hb); have n2_ := Aside0.mk (below_step (by repeat (first | (with_reducible first | exact HB.out | apply below_alloc | apply pw_below_drewN | apply below_drew1 | refine below_set ?_ GE345.out | refine below_set ?_ GE352.out) | exact HB.out)) hb); clear BK345; clear BK352; clear HB; have BK345 := n0_; have BK352 := n1_; have HB := n2_; clear n0_ n1_ n2_; (try clear hb); (try clear hb2); (try clear hk); (try clear hi)))
              go_roundg k1
              case measure => have := HK1.out; omega
              case rel => exact ⟨((((x3_1 ++ t353) ++ t354) ++ (⟨#[1]⟩ : ByteArray)) ++ t355), (wrap64 (x4_1 + 1)), (Zchartularylaw19_bytes.z1), (Zchartularylaw19_bytes.z1), H', ⟨by have := HK1.out; omega⟩, ⟨by (with_reducible repeat (first | refine blk_drewN ?_ _ | refine blk_drew ?_ | refine blk_alloc ?_ _)); exact BK345.out⟩, ⟨by repeat (first | (with_reducible first | exact HB.out | apply below_alloc | apply pw_below_drewN | apply below_drew1 | refine below_set ?_ GE345.out | refine below_set ?_ GE352.out) | exact HB.out)⟩⟩
             ·rw [if_neg c28] at H
              exact absurd H (by simp)
            ·rw [if_neg c26] at H
             exact absurd H (by simp)
           ·replace c25 := Bool.eq_false_iff.mpr c25
            subst c25
            have H1 : (if ((x3_1 ++ t353) ++ t354).size + 1 ≤ 9223372036854775807 then ((octet_Text.f k1 ((rd_T50 l0_4 x4_1).f3)).bind fun t356 => (if (((x3_1 ++ t353) ++ t354) ++ (⟨#[0]⟩ : ByteArray)).size + t356.size ≤ 9223372036854775807 then ((octet_Text.f k1 ((rd_T50 l0_4 x4_1).f4)).bind fun t357 => (if ((((x3_1 ++ t353) ++ t354) ++ (⟨#[0]⟩ : ByteArray)) ++ t356).size + t357.size ≤ 9223372036854775807 then (chartularylaw19_bytes.l0 k1 (((((x3_1 ++ t353) ++ t354) ++ (⟨#[0]⟩ : ByteArray)) ++ t356) ++ t357) (wrap64 (x4_1 + 1)) a0_0 a0_1 a0_2 a0_3 l0_4 l0_5 a0_6 a0_7 l0_8) else (none))) else (none))) else (none)) = some r := by rw [if_neg (show ¬ (false = true) by decide)] at H; exact H
            clear H
            have H := H1
            clear H1
            by_cases c39 : ((x3_1 ++ t353) ++ t354).size + 1 ≤ 9223372036854775807
            ·rw [if_pos c39] at H
             have c39b0 := eq_true c39
             have c39b1 : decide (((x3_1 ++ t353) ++ t354).size + 1 ≤ 9223372036854775807) = true := decide_eq_true c39
             try have c39b2 : (9223372036854775807 < ((x3_1 ++ t353) ++ t354).size + 1) = False := eq_false (Nat.not_lt.2 c39)
             try have c39b3 : (9223372036854775807 < x3_1.size + t353.size + t354.size + 1) = False := eq_false (Nat.not_lt.2 (by have h_ := c39; simp only [ByteArray.size_append] at h_; omega))
             replace H := Option.bind_eq_some_iff.mp H
             obtain ⟨t356, A400, H⟩ := H
             replace H : (if (((x3_1 ++ t353) ++ t354) ++ (⟨#[0]⟩ : ByteArray)).size + t356.size ≤ 9223372036854775807 then ((octet_Text.f k1 ((rd_T50 l0_4 x4_1).f4)).bind fun t357 => (if ((((x3_1 ++ t353) ++ t354) ++ (⟨#[0]⟩ : ByteArray)) ++ t356).size + t357.size ≤ 9223372036854775807 then (chartularylaw19_bytes.l0 k1 (((((x3_1 ++ t353) ++ t354) ++ (⟨#[0]⟩ : ByteArray)) ++ t356) ++ t357) (wrap64 (x4_1 + 1)) a0_0 a0_1 a0_2 a0_3 l0_4 l0_5 a0_6 a0_7 l0_8) else (none))) else (none)) = some r := H
             have A40 := Aside0.mk A400
             clear A400
             by_cases c41 : (((x3_1 ++ t353) ++ t354) ++ (⟨#[0]⟩ : ByteArray)).size + t356.size ≤ 9223372036854775807
             ·rw [if_pos c41] at H
              have c41b0 := eq_true c41
              have c41b1 : decide ((((x3_1 ++ t353) ++ t354) ++ (⟨#[0]⟩ : ByteArray)).size + t356.size ≤ 9223372036854775807) = true := decide_eq_true c41
              try have c41b2 : (9223372036854775807 < (((x3_1 ++ t353) ++ t354) ++ (⟨#[0]⟩ : ByteArray)).size + t356.size) = False := eq_false (Nat.not_lt.2 c41)
              try have c41b3 : (9223372036854775807 < x3_1.size + t353.size + t354.size + 1 + t356.size) = False := eq_false (Nat.not_lt.2 (by have h_ := c41; simp only [ByteArray.size_append] at h_; have l0_ : ByteArray.size (⟨#[0]⟩ : ByteArray) = 1 := rfl; omega))
              replace H := Option.bind_eq_some_iff.mp H
              obtain ⟨t357, A420, H⟩ := H
              replace H : (if ((((x3_1 ++ t353) ++ t354) ++ (⟨#[0]⟩ : ByteArray)) ++ t356).size + t357.size ≤ 9223372036854775807 then (chartularylaw19_bytes.l0 k1 (((((x3_1 ++ t353) ++ t354) ++ (⟨#[0]⟩ : ByteArray)) ++ t356) ++ t357) (wrap64 (x4_1 + 1)) a0_0 a0_1 a0_2 a0_3 l0_4 l0_5 a0_6 a0_7 l0_8) else (none)) = some r := H
              have A42 := Aside0.mk A420
              clear A420
              by_cases c43 : ((((x3_1 ++ t353) ++ t354) ++ (⟨#[0]⟩ : ByteArray)) ++ t356).size + t357.size ≤ 9223372036854775807
              ·rw [if_pos c43] at H
               have c43b0 := eq_true c43
               have c43b1 : decide (((((x3_1 ++ t353) ++ t354) ++ (⟨#[0]⟩ : ByteArray)) ++ t356).size + t357.size ≤ 9223372036854775807) = true := decide_eq_true c43
               try have c43b2 : (9223372036854775807 < ((((x3_1 ++ t353) ++ t354) ++ (⟨#[0]⟩ : ByteArray)) ++ t356).size + t357.size) = False := eq_false (Nat.not_lt.2 c43)
               try have c43b3 : (9223372036854775807 < x3_1.size + t353.size + t354.size + 1 + t356.size + t357.size) = False := eq_false (Nat.not_lt.2 (by have h_ := c43; simp only [ByteArray.size_append] at h_; have l0_ : ByteArray.size (⟨#[0]⟩ : ByteArray) = 1 := rfl; omega))
               have H' := Aside0.mk H
               clear H
               have hcz44_0 := cz_ BK345.out 0 rfl
               have hcz44_1 := cz_ BK345.out 1 rfl
               have hcz44_2 := cz_ BK345.out 2 rfl
               have hcz44_3 := cz_ BK345.out 3 rfl
               have hcz44_4 := cz_ BK345.out 4 rfl
               have hcz44_5 := cz_ BK345.out 5 rfl
               have hcz44_6 := cz_ BK345.out 6 rfl
               have hcz44_7 := cz_ BK345.out 7 rfl
               have hcz44_8 := cz_ BK345.out 8 rfl
               have hfz44_0 := blk_frozen BK345.out 0
               have hfz44_1 := blk_frozen BK345.out 1
               have hfz44_2 := blk_frozen BK345.out 2
               have hfz44_3 := blk_frozen BK345.out 3
               have hfz44_4 := blk_frozen BK345.out 4
               have hfz44_5 := blk_frozen BK345.out 5
               have hfz44_6 := blk_frozen BK345.out 6
               have hfz44_7 := blk_frozen BK345.out 7
               have hfz44_8 := blk_frozen BK345.out 8
               have p351 : 0 ≤ (x4_1 : Int) := of_decide_eq_true (Zchartularylaw19_bytes.z2)
               have q351 : x4_1 < (l0_4.length : Int) := of_decide_eq_true (Zchartularylaw19_bytes.z2)
               obtain ⟨ad351, e351, hx351_0, hx351_1, hx351_2, hx351_3, hx351_4, hx351_5⟩ := at_T50 HR0_4.out x4_1 p351 q351
               (try rw [← Nbq24.out] at hx351_2)
               cases e351
               replace hx351_0 := (HB.out.cell (World.block_lt_of_cell? w _ hx351_0)).trans hx351_0
               replace hx351_1 := (HB.out.cell (World.block_lt_of_cell? w _ hx351_1)).trans hx351_1
               replace hx351_2 := (HB.out.cell (World.block_lt_of_cell? w _ hx351_2)).trans hx351_2
               replace hx351_3 := (HB.out.cell (World.block_lt_of_cell? w _ hx351_3)).trans hx351_3
               replace hx351_4 := (HB.out.cell (World.block_lt_of_cell? w _ hx351_4)).trans hx351_4
               replace hx351_5 := (HB.out.cell (World.block_lt_of_cell? w _ hx351_5)).trans hx351_5
               replace p351 := eq_true p351
               replace q351 := eq_true q351
               try go_wp2_with (first | ((with_reducible refine gate_dst (N := 5) rfl ?_); refine box_event ?hg (N := 5) ?hd (cs := #[.int .i64 0, .string (⟨#[]⟩ : ByteArray), .bool false, .string (⟨#[]⟩ : ByteArray), .string (⟨#[]⟩ : ByteArray), .string (⟨#[]⟩ : ByteArray)]) (t := 50) ?hr ?_; (case hd => rfl); (case hg => rfl); (case hr => first | (go_simp; done) | (go_simp; rfl)); intro gb352 hg w45 hbox hb; have n0_ := Aside0.mk (blk_below (g := gb345) (o := .cells #[.string a0_0, .int .i64 a0_1, .int .i64 a0_2, .int .i64 a0_3, .slice (some ad351) l0_4.length c0_4, .slice A0_5 l0_5.length c0_5, .int .i64 a0_6, .int .i64 a0_7, .slice A0_8 l0_8.length c0_8] 25 (0, 0)) (by (with_reducible repeat (first | refine blk_drewN ?_ _ | refine blk_drew ?_ | refine blk_alloc ?_ _)); exact BK345.out) hb); have n1_ := Aside0.mk (below_step (by repeat (first | (with_reducible first | exact HB.out | apply below_alloc | apply pw_below_drewN | apply below_drew1 | refine below_set ?_ GE345.out) | exact HB.out)) hb); have n2_ := Aside0.mk (hbox); have n3_ := Aside0.mk ((by rw [hg]; exact (below_size (by repeat (first | (with_reducible first | exact HB.out | apply below_alloc | apply pw_below_drewN | apply below_drew1 | refine below_set ?_ GE345.out) | exact HB.out))) : w.heap.size ≤ gb352)); have n4_ := Aside0.mk ((by rw [hg]; exact (below_size (by repeat (first | (with_reducible first | exact HB.out | apply below_alloc | apply pw_below_drewN | apply below_drew1 | refine below_set ?_ GE345.out) | exact HB.out))) : w.heap.size ≤ gb352)); have n5_ := Aside0.mk ((by rw [hg]; exact Nat.ne_of_lt (blk_lt (g := gb345) (o := .cells #[.string a0_0, .int .i64 a0_1, .int .i64 a0_2, .int .i64 a0_3, .slice (some ad351) l0_4.length c0_4, .slice A0_5 l0_5.length c0_5, .int .i64 a0_6, .int .i64 a0_7, .slice A0_8 l0_8.length c0_8] 25 (0, 0)) (by (with_reducible repeat (first | refine blk_drewN ?_ _ | refine blk_drew ?_ | refine blk_alloc ?_ _)); exact BK345.out)) : gb345 ≠ gb352)); have n6_ := Aside0.mk ((by rw [hg]; exact Nat.ne_of_gt (blk_lt (g := gb345) (o := .cells #[.string a0_0, .int .i64 a0_1, .int .i64 a0_2, .int .i64 a0_3, .slice (some ad351) l0_4.length c0_4, .slice A0_5 l0_5.length c0_5, .int .i64 a0_6, .int .i64 a0_7, .slice A0_8 l0_8.length c0_8] 25 (0, 0)) (by (with_reducible repeat (first | refine blk_drewN ?_ _ | refine blk_drew ?_ | refine blk_alloc ?_ _)); exact BK345.out)) : gb352 ≠ gb345)); clear BK345; clear HB; have BK345 := n0_; have HB := n1_; have BK352 := n2_; have GW352 := n3_; have GE352 := n4_; have NB345_352 := n5_; have NB352_345 := n6_; clear n0_ n1_ n2_ n3_ n4_ n5_ n6_; clear hb hbox hg; have hnb46 := NB352_345.out; have hnc46 := NB345_352.out; have hcz47_0 := cz_ BK352.out 0 rfl; have hcz47_1 := cz_ BK352.out 1 rfl; have hcz47_2 := cz_ BK352.out 2 rfl; have hcz47_3 := cz_ BK352.out 3 rfl; have hcz47_4 := cz_ BK352.out 4 rfl; have hcz47_5 := cz_ BK352.out 5 rfl; have hfz47_0 := blk_frozen BK352.out 0; have hfz47_1 := blk_frozen BK352.out 1; have hfz47_2 := blk_frozen BK352.out 2; have hfz47_3 := blk_frozen BK352.out 3; have hfz47_4 := blk_frozen BK352.out 4; have hfz47_5 := blk_frozen BK352.out 5))
               have n0_ : Aside0 (((((((w45.setCell ⟨gb352, 0, none⟩ (.int .i64 ((rd_T50 l0_4 x4_1).f0))).setCell ⟨gb352, 1, none⟩ (.string ((rd_T50 l0_4 x4_1).f1))).setCell ⟨gb352, 2, none⟩ (.bool false)).setCell ⟨gb352, 3, none⟩ (.string ((rd_T50 l0_4 x4_1).f3))).setCell ⟨gb352, 4, none⟩ (.string ((rd_T50 l0_4 x4_1).f4))).setCell ⟨gb352, 5, none⟩ (.string ((rd_T50 l0_4 x4_1).f5))).heap[gb345]? = some (.cells #[.string a0_0, .int .i64 a0_1, .int .i64 a0_2, .int .i64 a0_3, .slice (some ad351) l0_4.length c0_4, .slice A0_5 l0_5.length c0_5, .int .i64 a0_6, .int .i64 a0_7, .slice A0_8 l0_8.length c0_8] 25 (0, 0))) := ⟨by (with_reducible repeat (first | refine blk_drewN ?_ _ | refine blk_drew ?_ | refine blk_alloc ?_ _)); refine blk_far ?_ NB345_352.out _; (with_reducible repeat (first | refine blk_drewN ?_ _ | refine blk_drew ?_ | refine blk_alloc ?_ _)); refine blk_far ?_ NB345_352.out _; (with_reducible repeat (first | refine blk_drewN ?_ _ | refine blk_drew ?_ | refine blk_alloc ?_ _)); refine blk_far ?_ NB345_352.out _; (with_reducible repeat (first | refine blk_drewN ?_ _ | refine blk_drew ?_ | refine blk_alloc ?_ _)); refine blk_far ?_ NB345_352.out _; (with_reducible repeat (first | refine blk_drewN ?_ _ | refine blk_drew ?_ | refine blk_alloc ?_ _)); refine blk_far ?_ NB345_352.out _; (with_reducible repeat (first | refine blk_drewN ?_ _ | refine blk_drew ?_ | refine blk_alloc ?_ _)); refine blk_far ?_ NB345_352.out _; (with_reducible repeat (first | refine blk_drewN ?_ _ | refine blk_drew ?_ | refine blk_alloc ?_ _)); exact BK345.out⟩
               have n1_ : Aside0 (((((((w45.setCell ⟨gb352, 0, none⟩ (.int .i64 ((rd_T50 l0_4 x4_1).f0))).setCell ⟨gb352, 1, none⟩ (.string ((rd_T50 l0_4 x4_1).f1))).setCell ⟨gb352, 2, none⟩ (.bool false)).setCell ⟨gb352, 3, none⟩ (.string ((rd_T50 l0_4 x4_1).f3))).setCell ⟨gb352, 4, none⟩ (.string ((rd_T50 l0_4 x4_1).f4))).setCell ⟨gb352, 5, none⟩ (.string ((rd_T50 l0_4 x4_1).f5))).heap[gb352]? = some (.cells #[.int .i64 ((rd_T50 l0_4 x4_1).f0), .string ((rd_T50 l0_4 x4_1).f1), .bool false, .string ((rd_T50 l0_4 x4_1).f3), .string ((rd_T50 l0_4 x4_1).f4), .string ((rd_T50 l0_4 x4_1).f5)] 50 (0, 0))) := ⟨by (with_reducible repeat (first | refine blk_drewN ?_ _ | refine blk_drew ?_ | refine blk_alloc ?_ _)); refine blk_put (cs := #[.int .i64 ((rd_T50 l0_4 x4_1).f0), .string ((rd_T50 l0_4 x4_1).f1), .bool false, .string ((rd_T50 l0_4 x4_1).f3), .string ((rd_T50 l0_4 x4_1).f4), .string (⟨#[]⟩ : ByteArray)]) ?_ 5 _ rfl; (with_reducible repeat (first | refine blk_drewN ?_ _ | refine blk_drew ?_ | refine blk_alloc ?_ _)); refine blk_put (cs := #[.int .i64 ((rd_T50 l0_4 x4_1).f0), .string ((rd_T50 l0_4 x4_1).f1), .bool false, .string ((rd_T50 l0_4 x4_1).f3), .string (⟨#[]⟩ : ByteArray), .string (⟨#[]⟩ : ByteArray)]) ?_ 4 _ rfl; (with_reducible repeat (first | refine blk_drewN ?_ _ | refine blk_drew ?_ | refine blk_alloc ?_ _)); refine blk_put (cs := #[.int .i64 ((rd_T50 l0_4 x4_1).f0), .string ((rd_T50 l0_4 x4_1).f1), .bool false, .string (⟨#[]⟩ : ByteArray), .string (⟨#[]⟩ : ByteArray), .string (⟨#[]⟩ : ByteArray)]) ?_ 3 _ rfl; (with_reducible repeat (first | refine blk_drewN ?_ _ | refine blk_drew ?_ | refine blk_alloc ?_ _)); refine blk_put (cs := #[.int .i64 ((rd_T50 l0_4 x4_1).f0), .string ((rd_T50 l0_4 x4_1).f1), .bool false, .string (⟨#[]⟩ : ByteArray), .string (⟨#[]⟩ : ByteArray), .string (⟨#[]⟩ : ByteArray)]) ?_ 2 _ rfl; (with_reducible repeat (first | refine blk_drewN ?_ _ | refine blk_drew ?_ | refine blk_alloc ?_ _)); refine blk_put (cs := #[.int .i64 ((rd_T50 l0_4 x4_1).f0), .string (⟨#[]⟩ : ByteArray), .bool false, .string (⟨#[]⟩ : ByteArray), .string (⟨#[]⟩ : ByteArray), .string (⟨#[]⟩ : ByteArray)]) ?_ 1 _ rfl; (with_reducible repeat (first | refine blk_drewN ?_ _ | refine blk_drew ?_ | refine blk_alloc ?_ _)); refine blk_put (cs := #[.int .i64 0, .string (⟨#[]⟩ : ByteArray), .bool false, .string (⟨#[]⟩ : ByteArray), .string (⟨#[]⟩ : ByteArray), .string (⟨#[]⟩ : ByteArray)]) ?_ 0 _ rfl; (with_reducible repeat (first | refine blk_drewN ?_ _ | refine blk_drew ?_ | refine blk_alloc ?_ _)); exact BK352.out⟩
               have n2_ : Aside0 (Below w.heap.size w ((((((w45.setCell ⟨gb352, 0, none⟩ (.int .i64 ((rd_T50 l0_4 x4_1).f0))).setCell ⟨gb352, 1, none⟩ (.string ((rd_T50 l0_4 x4_1).f1))).setCell ⟨gb352, 2, none⟩ (.bool false)).setCell ⟨gb352, 3, none⟩ (.string ((rd_T50 l0_4 x4_1).f3))).setCell ⟨gb352, 4, none⟩ (.string ((rd_T50 l0_4 x4_1).f4))).setCell ⟨gb352, 5, none⟩ (.string ((rd_T50 l0_4 x4_1).f5)))) := ⟨by repeat (first | (with_reducible first | exact HB.out | apply below_alloc | apply pw_below_drewN | apply below_drew1 | refine below_set ?_ GE345.out | refine below_set ?_ GE352.out) | exact HB.out)⟩
               (try clear BK345)
               (try clear BK352)
               (try clear HB)
               generalize ((((((w45.setCell ⟨gb352, 0, none⟩ (.int .i64 ((rd_T50 l0_4 x4_1).f0))).setCell ⟨gb352, 1, none⟩ (.string ((rd_T50 l0_4 x4_1).f1))).setCell ⟨gb352, 2, none⟩ (.bool false)).setCell ⟨gb352, 3, none⟩ (.string ((rd_T50 l0_4 x4_1).f3))).setCell ⟨gb352, 4, none⟩ (.string ((rd_T50 l0_4 x4_1).f4))).setCell ⟨gb352, 5, none⟩ (.string ((rd_T50 l0_4 x4_1).f5))) = w48 at n0_ n1_ n2_ ⊢
               have BK345 := n0_
               have BK352 := n1_
               have HB := n2_
               clear n0_ n1_ n2_
               have n0_ := Aside0.mk (blk_drew BK345.out)
               have n1_ := Aside0.mk (blk_drew BK352.out)
               have n2_ := Aside0.mk (below_drew1 HB.out)
               clear BK345
               clear BK352
               clear HB
               have BK345 := n0_
               have BK352 := n1_
               have HB := n2_
               clear n0_ n1_ n2_
               refine start_ (n := 10) (S := fun w' => w'.cell? ⟨gb352, 0, none⟩ = some (.int .i64 ((rd_T50 l0_4 x4_1).f0)) ∧ w'.cell? ⟨gb352, 1, none⟩ = some (.string ((rd_T50 l0_4 x4_1).f1)) ∧ w'.cell? ⟨gb352, 2, none⟩ = some (.bool false) ∧ w'.cell? ⟨gb352, 3, none⟩ = some (.string ((rd_T50 l0_4 x4_1).f3)) ∧ w'.cell? ⟨gb352, 4, none⟩ = some (.string ((rd_T50 l0_4 x4_1).f4)) ∧ w'.cell? ⟨gb352, 5, none⟩ = some (.string ((rd_T50 l0_4 x4_1).f5))) (ds := []) #[false, false, false, false, false, false, false, false, false, false] (by kernel_rfl) rfl rfl ⟨(blk_cell BK352.out 0).trans rfl, (blk_cell BK352.out 1).trans rfl, (blk_cell BK352.out 2).trans rfl, (blk_cell BK352.out 3).trans rfl, (blk_cell BK352.out 4).trans rfl, (blk_cell BK352.out 5).trans rfl⟩ (fun hHeld => ?_); refine with_tabW chartularylaw19_bytes.tab6 chartularylaw19_bytes.bits6 (fun HT_ HW_ => ?_)
               generalize w48.drew = w49 at BK345 BK352 HB hHeld ⊢
               refine pure_ (i := 0) (N := some 38) (v := ?_) (a' := ?_) #[true, false, false, false, false, false, false, false, false, false] rfl rfl (any_of HT_.out (by kernel_rfl)) (fun _ _ _ h => h) (Or.inl ⟨by rfl, ?_⟩) ?_ ?_
               rotate_left
               ·intro w'
                go_simp
                first | with_reducible rfl | rfl
               rotate_left
               ·simp only [Act.put, List.setIfInBounds_toArray, List.set_cons_zero, List.set_cons_succ, i64_w, i32_w]
                rfl
               refine pure_ (i := 1) (N := some 39) (v := ?_) (a' := ?_) #[true, true, false, false, false, false, false, false, false, false] rfl rfl (any_of HT_.out (by kernel_rfl)) (fun _ _ _ h => h) (Or.inl ⟨by rfl, ?_⟩) ?_ ?_
               rotate_left
               ·intro w'
                go_simp
                first | with_reducible rfl | rfl
               rotate_left
               ·simp only [Act.put, List.setIfInBounds_toArray, List.set_cons_zero, List.set_cons_succ, i64_w, i32_w]
                rfl
               refine pure_ (i := 5) (N := some 43) (v := ?_) (a' := ?_) #[true, true, false, false, false, true, false, false, false, false] rfl rfl (any_of HT_.out (by kernel_rfl)) (fun _ _ _ h => h) (Or.inl ⟨by rfl, ?_⟩) ?_ ?_
               rotate_left
               ·intro w'
                go_simp
                first | with_reducible rfl | rfl
               rotate_left
               ·simp only [Act.put, List.setIfInBounds_toArray, List.set_cons_zero, List.set_cons_succ, i64_w, i32_w]
                rfl
               refine take_ (i := 2) (N := some 40) (v := ?_) (a' := ?_) #[true, true, true, false, false, true, false, false, false, false] rfl rfl (take_ofW HT_.out HW_.out (by kernel_rfl)) (fun _ _ _ h => h) (Or.inl ⟨by rfl, ?_⟩) hHeld ?_ ?_
               rotate_left
               ·rintro w' ⟨s0, s1, s2, s3, s4, s5⟩
                go_simp
                first | with_reducible rfl | rfl
               rotate_left
               ·simp only [Act.put, List.setIfInBounds_toArray, List.set_cons_zero, List.set_cons_succ, i64_w, i32_w]
                rfl
               refine take_ (i := 6) (N := some 44) (v := ?_) (a' := ?_) #[true, true, true, false, false, true, true, false, false, false] rfl rfl (take_ofW HT_.out HW_.out (by kernel_rfl)) (fun _ _ _ h => h) (Or.inl ⟨by rfl, ?_⟩) hHeld ?_ ?_
               rotate_left
               ·rintro w' ⟨s0, s1, s2, s3, s4, s5⟩
                go_simp
                first | with_reducible rfl | rfl
               rotate_left
               ·simp only [Act.put, List.setIfInBounds_toArray, List.set_cons_zero, List.set_cons_succ, i64_w, i32_w]
                rfl
               refine one_ (i := 3) (N := some 41) #[true, true, true, true, false, true, true, false, false, false] rfl rfl (one_of HT_.out (by kernel_rfl)) (by decide) (fun K hK => ?_)
               refine goes_ Try.func19 (by kernel_rfl) rfl #[.int .i64 ((rd_T50 l0_4 x4_1).f0)] (by rfl) rfl rfl (Zchartularylaw19_bytes.z0) ?_
               with_reducible refine (octet_Num.calls k1 ((rd_T50 l0_4 x4_1).f0) t353 _ A20.out).mono ?_
               rintro e w50 ⟨rfl, hb⟩
               refine ⟨_, rfl, ?_⟩
               have n0_ := Aside0.mk (blk_below (g := gb345) (o := .cells #[.string a0_0, .int .i64 a0_1, .int .i64 a0_2, .int .i64 a0_3, .slice (some ad351) l0_4.length c0_4, .slice A0_5 l0_5.length c0_5, .int .i64 a0_6, .int .i64 a0_7, .slice A0_8 l0_8.length c0_8] 25 (0, 0)) (by (with_reducible repeat (first | refine blk_drewN ?_ _ | refine blk_drew ?_ | refine blk_alloc ?_ _)); exact BK345.out) hb)
               have n1_ := Aside0.mk (blk_below (g := gb352) (o := .cells #[.int .i64 ((rd_T50 l0_4 x4_1).f0), .string ((rd_T50 l0_4 x4_1).f1), .bool false, .string ((rd_T50 l0_4 x4_1).f3), .string ((rd_T50 l0_4 x4_1).f4), .string ((rd_T50 l0_4 x4_1).f5)] 50 (0, 0)) (by (with_reducible repeat (first | refine blk_drewN ?_ _ | refine blk_drew ?_ | refine blk_alloc ?_ _)); exact BK352.out) hb)
               have n2_ := Aside0.mk (below_step (by repeat (first | (with_reducible first | exact HB.out | apply below_alloc | apply pw_below_drewN | apply below_drew1 | refine below_set ?_ GE345.out | refine below_set ?_ GE352.out) | exact HB.out)) hb)
               clear BK345
               clear BK352
               clear HB
               have BK345 := n0_
               have BK352 := n1_
               have HB := n2_
               clear n0_ n1_ n2_
               (try clear hb)
               (try clear hb2)
               (try clear hk)
               (try clear hi)
               refine hK.out _ _ ⟨(blk_cell BK352.out 0).trans rfl, (blk_cell BK352.out 1).trans rfl, (blk_cell BK352.out 2).trans rfl, (blk_cell BK352.out 3).trans rfl, (blk_cell BK352.out 4).trans rfl, (blk_cell BK352.out 5).trans rfl⟩ (fun hHeld => ?_)
               clear hK K
               refine norm_ (a' := ?_) ?_ ?_
               rotate_left
               ·show Act.put _ (some 41) _ = _
                simp only [Act.put, List.setIfInBounds_toArray, List.set_cons_zero, List.set_cons_succ, i64_w, i32_w]
                rfl
               refine pure_ (i := 4) (N := some 42) (v := ?_) (a' := ?_) #[true, true, true, true, true, true, true, false, false, false] rfl rfl (any_of HT_.out (by kernel_rfl)) (fun _ _ _ h => h) (Or.inl ⟨by rfl, ?_⟩) ?_ ?_
               rotate_left
               ·intro w'
                go_simp
                first | with_reducible rfl | rfl
               rotate_left
               ·simp only [Act.put, List.setIfInBounds_toArray, List.set_cons_zero, List.set_cons_succ, i64_w, i32_w]
                rfl
               refine one_ (i := 7) (N := some 45) #[true, true, true, true, true, true, true, true, false, false] rfl rfl (one_of HT_.out (by kernel_rfl)) (by decide) (fun K hK => ?_)
               refine goes_ Try.func20 (by kernel_rfl) rfl #[.string ((rd_T50 l0_4 x4_1).f1)] (by rfl) rfl rfl (Zchartularylaw19_bytes.z0) ?_
               with_reducible refine (octet_Text.calls k1 ((rd_T50 l0_4 x4_1).f1) t354 _ A22.out).mono ?_
               rintro e w51 ⟨rfl, hb⟩
               refine ⟨_, rfl, ?_⟩
               have n0_ := Aside0.mk (blk_below (g := gb345) (o := .cells #[.string a0_0, .int .i64 a0_1, .int .i64 a0_2, .int .i64 a0_3, .slice (some ad351) l0_4.length c0_4, .slice A0_5 l0_5.length c0_5, .int .i64 a0_6, .int .i64 a0_7, .slice A0_8 l0_8.length c0_8] 25 (0, 0)) (by (with_reducible repeat (first | refine blk_drewN ?_ _ | refine blk_drew ?_ | refine blk_alloc ?_ _)); exact BK345.out) hb)
               have n1_ := Aside0.mk (blk_below (g := gb352) (o := .cells #[.int .i64 ((rd_T50 l0_4 x4_1).f0), .string ((rd_T50 l0_4 x4_1).f1), .bool false, .string ((rd_T50 l0_4 x4_1).f3), .string ((rd_T50 l0_4 x4_1).f4), .string ((rd_T50 l0_4 x4_1).f5)] 50 (0, 0)) (by (with_reducible repeat (first | refine blk_drewN ?_ _ | refine blk_drew ?_ | refine blk_alloc ?_ _)); exact BK352.out) hb)
               have n2_ := Aside0.mk (below_step (by repeat (first | (with_reducible first | exact HB.out | apply below_alloc | apply pw_below_drewN | apply below_drew1 | refine below_set ?_ GE345.out | refine below_set ?_ GE352.out) | exact HB.out)) hb)
               clear BK345
               clear BK352
               clear HB
               have BK345 := n0_
               have BK352 := n1_
               have HB := n2_
               clear n0_ n1_ n2_
               (try clear hb)
               (try clear hb2)
               (try clear hk)
               (try clear hi)
               refine hK.out _ _ ⟨(blk_cell BK352.out 0).trans rfl, (blk_cell BK352.out 1).trans rfl, (blk_cell BK352.out 2).trans rfl, (blk_cell BK352.out 3).trans rfl, (blk_cell BK352.out 4).trans rfl, (blk_cell BK352.out 5).trans rfl⟩ (fun hHeld => ?_)
               clear hK K
               refine norm_ (a' := ?_) ?_ ?_
               rotate_left
               ·show Act.put _ (some 45) _ = _
                simp only [Act.put, List.setIfInBounds_toArray, List.set_cons_zero, List.set_cons_succ, i64_w, i32_w]
                rfl
               refine pure_ (i := 8) (N := some 46) (v := ?_) (a' := ?_) #[true, true, true, true, true, true, true, true, true, false] rfl rfl (any_of HT_.out (by kernel_rfl)) (fun _ _ _ h => h) (Or.inl ⟨by rfl, ?_⟩) ?_ ?_
               rotate_left
               ·intro w'
                go_simp
                first | with_reducible rfl | rfl
               rotate_left
               ·simp only [Act.put, List.setIfInBounds_toArray, List.set_cons_zero, List.set_cons_succ, i64_w, i32_w]
                rfl
               refine pure_ (i := 9) (N := some 3) (v := ?_) (a' := ?_) #[true, true, true, true, true, true, true, true, true, true] rfl rfl (any_of HT_.out (by kernel_rfl)) (fun _ _ _ h => h) (Or.inl ⟨by rfl, ?_⟩) ?_ ?_
               rotate_left
               ·intro w'
                go_simp
                first | with_reducible rfl | rfl
               rotate_left
               ·simp only [Act.put, List.setIfInBounds_toArray, List.set_cons_zero, List.set_cons_succ, i64_w, i32_w]
                rfl
               refine done_ (done_of HT_.out (by kernel_rfl)) ?_
               have hcz52_0 := cz_ BK352.out 0 rfl
               have hcz52_1 := cz_ BK352.out 1 rfl
               have hcz52_2 := cz_ BK352.out 2 rfl
               have hcz52_3 := cz_ BK352.out 3 rfl
               have hcz52_4 := cz_ BK352.out 4 rfl
               have hcz52_5 := cz_ BK352.out 5 rfl
               have hfz52_0 := blk_frozen BK352.out 0
               have hfz52_1 := blk_frozen BK352.out 1
               have hfz52_2 := blk_frozen BK352.out 2
               have hfz52_3 := blk_frozen BK352.out 3
               have hfz52_4 := blk_frozen BK352.out 4
               have hfz52_5 := blk_frozen BK352.out 5
               try go_wp2
               have n0_ := Aside0.mk (blk_drew BK345.out)
               have n1_ := Aside0.mk (blk_drew BK352.out)
               have n2_ := Aside0.mk (below_drew1 HB.out)
               clear BK345
               clear BK352
               clear HB
               have BK345 := n0_
               have BK352 := n1_
               have HB := n2_
               clear n0_ n1_ n2_
               refine start_ (n := 11) (S := fun w' => w'.cell? ⟨gb352, 0, none⟩ = some (.int .i64 ((rd_T50 l0_4 x4_1).f0)) ∧ w'.cell? ⟨gb352, 1, none⟩ = some (.string ((rd_T50 l0_4 x4_1).f1)) ∧ w'.cell? ⟨gb352, 2, none⟩ = some (.bool false) ∧ w'.cell? ⟨gb352, 3, none⟩ = some (.string ((rd_T50 l0_4 x4_1).f3)) ∧ w'.cell? ⟨gb352, 4, none⟩ = some (.string ((rd_T50 l0_4 x4_1).f4)) ∧ w'.cell? ⟨gb352, 5, none⟩ = some (.string ((rd_T50 l0_4 x4_1).f5))) (ds := []) #[false, false, false, false, false, false, false, false, false, false, false] (by kernel_rfl) rfl rfl ⟨(blk_cell BK352.out 0).trans rfl, (blk_cell BK352.out 1).trans rfl, (blk_cell BK352.out 2).trans rfl, (blk_cell BK352.out 3).trans rfl, (blk_cell BK352.out 4).trans rfl, (blk_cell BK352.out 5).trans rfl⟩ (fun hHeld => ?_); refine with_tabW chartularylaw19_bytes.tab9 chartularylaw19_bytes.bits9 (fun HT_ HW_ => ?_)
               generalize w51.drew = w53 at BK345 BK352 HB hHeld ⊢
               refine pure_ (i := 0) (N := some 55) (v := ?_) (a' := ?_) #[true, false, false, false, false, false, false, false, false, false, false] rfl rfl (any_of HT_.out (by kernel_rfl)) (fun _ _ _ h => h) (Or.inl ⟨by rfl, ?_⟩) ?_ ?_
               rotate_left
               ·intro w'
                go_simp
                first | with_reducible rfl | rfl
               rotate_left
               ·simp only [Act.put, List.setIfInBounds_toArray, List.set_cons_zero, List.set_cons_succ, i64_w, i32_w]
                rfl
               refine pure_ (i := 1) (N := some 56) (v := ?_) (a' := ?_) #[true, true, false, false, false, false, false, false, false, false, false] rfl rfl (any_of HT_.out (by kernel_rfl)) (fun _ _ _ h => h) (Or.inl ⟨by rfl, ?_⟩) ?_ ?_
               rotate_left
               ·intro w'
                go_simp
                first | with_reducible rfl | rfl
               rotate_left
               ·simp only [Act.put, List.setIfInBounds_toArray, List.set_cons_zero, List.set_cons_succ, i64_w, i32_w]
                rfl
               refine pure_ (i := 2) (N := some 57) (v := ?_) (a' := ?_) #[true, true, true, false, false, false, false, false, false, false, false] rfl rfl (any_of HT_.out (by kernel_rfl)) (fun _ _ _ h => h) (Or.inl ⟨by rfl, ?_⟩) ?_ ?_
               rotate_left
               ·intro w'
                go_simp
                first | with_reducible rfl | rfl
               rotate_left
               ·simp only [Act.put, List.setIfInBounds_toArray, List.set_cons_zero, List.set_cons_succ, i64_w, i32_w]
                rfl
               refine pure_ (i := 6) (N := some 61) (v := ?_) (a' := ?_) #[true, true, true, false, false, false, true, false, false, false, false] rfl rfl (any_of HT_.out (by kernel_rfl)) (fun _ _ _ h => h) (Or.inl ⟨by rfl, ?_⟩) ?_ ?_
               rotate_left
               ·intro w'
                go_simp
                first | with_reducible rfl | rfl
               rotate_left
               ·simp only [Act.put, List.setIfInBounds_toArray, List.set_cons_zero, List.set_cons_succ, i64_w, i32_w]
                rfl
               refine take_ (i := 3) (N := some 58) (v := ?_) (a' := ?_) #[true, true, true, true, false, false, true, false, false, false, false] rfl rfl (take_ofW HT_.out HW_.out (by kernel_rfl)) (fun _ _ _ h => h) (Or.inl ⟨by rfl, ?_⟩) hHeld ?_ ?_
               rotate_left
               ·rintro w' ⟨s0, s1, s2, s3, s4, s5⟩
                go_simp
                first | with_reducible rfl | rfl
               rotate_left
               ·simp only [Act.put, List.setIfInBounds_toArray, List.set_cons_zero, List.set_cons_succ, i64_w, i32_w]
                rfl
               refine take_ (i := 7) (N := some 62) (v := ?_) (a' := ?_) #[true, true, true, true, false, false, true, true, false, false, false] rfl rfl (take_ofW HT_.out HW_.out (by kernel_rfl)) (fun _ _ _ h => h) (Or.inl ⟨by rfl, ?_⟩) hHeld ?_ ?_
               rotate_left
               ·rintro w' ⟨s0, s1, s2, s3, s4, s5⟩
                go_simp
                first | with_reducible rfl | rfl
               rotate_left
               ·simp only [Act.put, List.setIfInBounds_toArray, List.set_cons_zero, List.set_cons_succ, i64_w, i32_w]
                rfl
               refine one_ (i := 4) (N := some 59) #[true, true, true, true, true, false, true, true, false, false, false] rfl rfl (one_of HT_.out (by kernel_rfl)) (by decide) (fun K hK => ?_)
               refine goes_ Try.func20 (by kernel_rfl) rfl #[.string ((rd_T50 l0_4 x4_1).f3)] (by rfl) rfl rfl (Zchartularylaw19_bytes.z0) ?_
               with_reducible refine (octet_Text.calls k1 ((rd_T50 l0_4 x4_1).f3) t356 _ A40.out).mono ?_
               rintro e w54 ⟨rfl, hb⟩
               refine ⟨_, rfl, ?_⟩
               have n0_ := Aside0.mk (blk_below (g := gb345) (o := .cells #[.string a0_0, .int .i64 a0_1, .int .i64 a0_2, .int .i64 a0_3, .slice (some ad351) l0_4.length c0_4, .slice A0_5 l0_5.length c0_5, .int .i64 a0_6, .int .i64 a0_7, .slice A0_8 l0_8.length c0_8] 25 (0, 0)) (by (with_reducible repeat (first | refine blk_drewN ?_ _ | refine blk_drew ?_ | refine blk_alloc ?_ _)); exact BK345.out) hb)
               have n1_ := Aside0.mk (blk_below (g := gb352) (o := .cells #[.int .i64 ((rd_T50 l0_4 x4_1).f0), .string ((rd_T50 l0_4 x4_1).f1), .bool false, .string ((rd_T50 l0_4 x4_1).f3), .string ((rd_T50 l0_4 x4_1).f4), .string ((rd_T50 l0_4 x4_1).f5)] 50 (0, 0)) (by (with_reducible repeat (first | refine blk_drewN ?_ _ | refine blk_drew ?_ | refine blk_alloc ?_ _)); exact BK352.out) hb)
               have n2_ := Aside0.mk (below_step (by repeat (first | (with_reducible first | exact HB.out | apply below_alloc | apply pw_below_drewN | apply below_drew1 | refine below_set ?_ GE345.out | refine below_set ?_ GE352.out) | exact HB.out)) hb)
               clear BK345
               clear BK352
               clear HB
               have BK345 := n0_
               have BK352 := n1_
               have HB := n2_
               clear n0_ n1_ n2_
               (try clear hb)
               (try clear hb2)
               (try clear hk)
               (try clear hi)
               refine hK.out _ _ ⟨(blk_cell BK352.out 0).trans rfl, (blk_cell BK352.out 1).trans rfl, (blk_cell BK352.out 2).trans rfl, (blk_cell BK352.out 3).trans rfl, (blk_cell BK352.out 4).trans rfl, (blk_cell BK352.out 5).trans rfl⟩ (fun hHeld => ?_)
               clear hK K
               refine norm_ (a' := ?_) ?_ ?_
               rotate_left
               ·show Act.put _ (some 59) _ = _
                simp only [Act.put, List.setIfInBounds_toArray, List.set_cons_zero, List.set_cons_succ, i64_w, i32_w]
                rfl
               refine pure_ (i := 5) (N := some 60) (v := ?_) (a' := ?_) #[true, true, true, true, true, true, true, true, false, false, false] rfl rfl (any_of HT_.out (by kernel_rfl)) (fun _ _ _ h => h) (Or.inl ⟨by rfl, ?_⟩) ?_ ?_
               rotate_left
               ·intro w'
                go_simp
                first | with_reducible rfl | rfl
               rotate_left
               ·simp only [Act.put, List.setIfInBounds_toArray, List.set_cons_zero, List.set_cons_succ, i64_w, i32_w]
                rfl
               refine one_ (i := 8) (N := some 63) #[true, true, true, true, true, true, true, true, true, false, false] rfl rfl (one_of HT_.out (by kernel_rfl)) (by decide) (fun K hK => ?_)
               refine goes_ Try.func20 (by kernel_rfl) rfl #[.string ((rd_T50 l0_4 x4_1).f4)] (by rfl) rfl rfl (Zchartularylaw19_bytes.z0) ?_
               with_reducible refine (octet_Text.calls k1 ((rd_T50 l0_4 x4_1).f4) t357 _ A42.out).mono ?_
               rintro e w55 ⟨rfl, hb⟩
               refine ⟨_, rfl, ?_⟩
               have n0_ := Aside0.mk (blk_below (g := gb345) (o := .cells #[.string a0_0, .int .i64 a0_1, .int .i64 a0_2, .int .i64 a0_3, .slice (some ad351) l0_4.length c0_4, .slice A0_5 l0_5.length c0_5, .int .i64 a0_6, .int .i64 a0_7, .slice A0_8 l0_8.length c0_8] 25 (0, 0)) (by (with_reducible repeat (first | refine blk_drewN ?_ _ | refine blk_drew ?_ | refine blk_alloc ?_ _)); exact BK345.out) hb)
               have n1_ := Aside0.mk (blk_below (g := gb352) (o := .cells #[.int .i64 ((rd_T50 l0_4 x4_1).f0), .string ((rd_T50 l0_4 x4_1).f1), .bool false, .string ((rd_T50 l0_4 x4_1).f3), .string ((rd_T50 l0_4 x4_1).f4), .string ((rd_T50 l0_4 x4_1).f5)] 50 (0, 0)) (by (with_reducible repeat (first | refine blk_drewN ?_ _ | refine blk_drew ?_ | refine blk_alloc ?_ _)); exact BK352.out) hb)
               have n2_ := Aside0.mk (below_step (by repeat (first | (with_reducible first | exact HB.out | apply below_alloc | apply pw_below_drewN | apply below_drew1 | refine below_set ?_ GE345.out | refine below_set ?_ GE352.out) | exact HB.out)) hb)
               clear BK345
               clear BK352
               clear HB
               have BK345 := n0_
               have BK352 := n1_
               have HB := n2_
               clear n0_ n1_ n2_
               (try clear hb)
               (try clear hb2)
               (try clear hk)
               (try clear hi)
               refine hK.out _ _ ⟨(blk_cell BK352.out 0).trans rfl, (blk_cell BK352.out 1).trans rfl, (blk_cell BK352.out 2).trans rfl, (blk_cell BK352.out 3).trans rfl, (blk_cell BK352.out 4).trans rfl, (blk_cell BK352.out 5).trans rfl⟩ (fun hHeld => ?_)
               clear hK K
               refine norm_ (a' := ?_) ?_ ?_
               rotate_left
               ·show Act.put _ (some 63) _ = _
                simp only [Act.put, List.setIfInBounds_toArray, List.set_cons_zero, List.set_cons_succ, i64_w, i32_w]
                rfl
               refine pure_ (i := 9) (N := some 64) (v := ?_) (a' := ?_) #[true, true, true, true, true, true, true, true, true, true, false] rfl rfl (any_of HT_.out (by kernel_rfl)) (fun _ _ _ h => h) (Or.inl ⟨by rfl, ?_⟩) ?_ ?_
               rotate_left
               ·intro w'
                go_simp
                first | with_reducible rfl | rfl
               rotate_left
               ·simp only [Act.put, List.setIfInBounds_toArray, List.set_cons_zero, List.set_cons_succ, i64_w, i32_w]
                rfl
               refine pure_ (i := 10) (N := some 3) (v := ?_) (a' := ?_) #[true, true, true, true, true, true, true, true, true, true, true] rfl rfl (any_of HT_.out (by kernel_rfl)) (fun _ _ _ h => h) (Or.inl ⟨by rfl, ?_⟩) ?_ ?_
               rotate_left
               ·intro w'
                go_simp
                first | with_reducible rfl | rfl
               rotate_left
               ·simp only [Act.put, List.setIfInBounds_toArray, List.set_cons_zero, List.set_cons_succ, i64_w, i32_w]
                rfl
               refine done_ (done_of HT_.out (by kernel_rfl)) ?_
               try go_wp2
               go_roundg k1
               case measure => have := HK1.out; omega
               case rel => exact ⟨(((((x3_1 ++ t353) ++ t354) ++ (⟨#[0]⟩ : ByteArray)) ++ t356) ++ t357), (wrap64 (x4_1 + 1)), (Zchartularylaw19_bytes.z1), (Zchartularylaw19_bytes.z1), H', ⟨by have := HK1.out; omega⟩, ⟨by (with_reducible repeat (first | refine blk_drewN ?_ _ | refine blk_drew ?_ | refine blk_alloc ?_ _)); exact BK345.out⟩, ⟨by repeat (first | (with_reducible first | exact HB.out | apply below_alloc | apply pw_below_drewN | apply below_drew1 | refine below_set ?_ GE345.out | refine below_set ?_ GE352.out) | exact HB.out)⟩⟩
              ·rw [if_neg c43] at H
               exact absurd H (by simp)
             ·rw [if_neg c41] at H
              exact absurd H (by simp)
            ·rw [if_neg c39] at H
             exact absurd H (by simp)
          ·rw [if_neg c23] at H
           exact absurd H (by simp)
         ·rw [if_neg c21] at H
          exact absurd H (by simp)
        ·rw [if_neg c19] at H
         exact absurd H (by simp)
       ·rw [if_neg c18] at H
        have c18b0 : decide (x4_1 < (l0_4.length : Int)) = false := decide_eq_false c18
        clear c18
        replace H := Option.bind_eq_some_iff.mp H
        obtain ⟨t358, A560, H⟩ := H
        replace H : (if x3_1.size + t358.size ≤ 9223372036854775807 then ((octet_Num.f k1 a0_6).bind fun t359 => (if (x3_1 ++ t358).size + t359.size ≤ 9223372036854775807 then ((octet_Num.f k1 a0_7).bind fun t360 => (if ((x3_1 ++ t358) ++ t359).size + t360.size ≤ 9223372036854775807 then ((chartularylaw19_list.f k1 l0_8).bind fun t361 => (if (((x3_1 ++ t358) ++ t359) ++ t360).size + t361.size ≤ 9223372036854775807 then (some ((((x3_1 ++ t358) ++ t359) ++ t360) ++ t361)) else (none))) else (none))) else (none))) else (none)) = some r := H
        have A56 := Aside0.mk A560
        clear A560
        by_cases c57 : x3_1.size + t358.size ≤ 9223372036854775807
        ·rw [if_pos c57] at H
         have c57b0 := eq_true c57
         have c57b1 : decide (x3_1.size + t358.size ≤ 9223372036854775807) = true := decide_eq_true c57
         try have c57b2 : (9223372036854775807 < x3_1.size + t358.size) = False := eq_false (Nat.not_lt.2 c57)
         replace H := Option.bind_eq_some_iff.mp H
         obtain ⟨t359, A580, H⟩ := H
         replace H : (if (x3_1 ++ t358).size + t359.size ≤ 9223372036854775807 then ((octet_Num.f k1 a0_7).bind fun t360 => (if ((x3_1 ++ t358) ++ t359).size + t360.size ≤ 9223372036854775807 then ((chartularylaw19_list.f k1 l0_8).bind fun t361 => (if (((x3_1 ++ t358) ++ t359) ++ t360).size + t361.size ≤ 9223372036854775807 then (some ((((x3_1 ++ t358) ++ t359) ++ t360) ++ t361)) else (none))) else (none))) else (none)) = some r := H
         have A58 := Aside0.mk A580
         clear A580
         by_cases c59 : (x3_1 ++ t358).size + t359.size ≤ 9223372036854775807
         ·rw [if_pos c59] at H
          have c59b0 := eq_true c59
          have c59b1 : decide ((x3_1 ++ t358).size + t359.size ≤ 9223372036854775807) = true := decide_eq_true c59
          try have c59b2 : (9223372036854775807 < (x3_1 ++ t358).size + t359.size) = False := eq_false (Nat.not_lt.2 c59)
          try have c59b3 : (9223372036854775807 < x3_1.size + t358.size + t359.size) = False := eq_false (Nat.not_lt.2 (by have h_ := c59; simp only [ByteArray.size_append] at h_; omega))
          replace H := Option.bind_eq_some_iff.mp H
          obtain ⟨t360, A600, H⟩ := H
          replace H : (if ((x3_1 ++ t358) ++ t359).size + t360.size ≤ 9223372036854775807 then ((chartularylaw19_list.f k1 l0_8).bind fun t361 => (if (((x3_1 ++ t358) ++ t359) ++ t360).size + t361.size ≤ 9223372036854775807 then (some ((((x3_1 ++ t358) ++ t359) ++ t360) ++ t361)) else (none))) else (none)) = some r := H
          have A60 := Aside0.mk A600
          clear A600
          by_cases c61 : ((x3_1 ++ t358) ++ t359).size + t360.size ≤ 9223372036854775807
          ·rw [if_pos c61] at H
           have c61b0 := eq_true c61
           have c61b1 : decide (((x3_1 ++ t358) ++ t359).size + t360.size ≤ 9223372036854775807) = true := decide_eq_true c61
           try have c61b2 : (9223372036854775807 < ((x3_1 ++ t358) ++ t359).size + t360.size) = False := eq_false (Nat.not_lt.2 c61)
           try have c61b3 : (9223372036854775807 < x3_1.size + t358.size + t359.size + t360.size) = False := eq_false (Nat.not_lt.2 (by have h_ := c61; simp only [ByteArray.size_append] at h_; omega))
           replace H := Option.bind_eq_some_iff.mp H
           obtain ⟨t361, A620, H⟩ := H
           replace H : (if (((x3_1 ++ t358) ++ t359) ++ t360).size + t361.size ≤ 9223372036854775807 then (some ((((x3_1 ++ t358) ++ t359) ++ t360) ++ t361)) else (none)) = some r := H
           have A62 := Aside0.mk A620
           clear A620
           by_cases c63 : (((x3_1 ++ t358) ++ t359) ++ t360).size + t361.size ≤ 9223372036854775807
           ·rw [if_pos c63] at H
            have c63b0 := eq_true c63
            have c63b1 : decide ((((x3_1 ++ t358) ++ t359) ++ t360).size + t361.size ≤ 9223372036854775807) = true := decide_eq_true c63
            try have c63b2 : (9223372036854775807 < (((x3_1 ++ t358) ++ t359) ++ t360).size + t361.size) = False := eq_false (Nat.not_lt.2 c63)
            try have c63b3 : (9223372036854775807 < x3_1.size + t358.size + t359.size + t360.size + t361.size) = False := eq_false (Nat.not_lt.2 (by have h_ := c63; simp only [ByteArray.size_append] at h_; omega))
            obtain rfl := Option.some.inj H
            have hcz64_0 := cz_ BK345.out 0 rfl
            have hcz64_1 := cz_ BK345.out 1 rfl
            have hcz64_2 := cz_ BK345.out 2 rfl
            have hcz64_3 := cz_ BK345.out 3 rfl
            have hcz64_4 := cz_ BK345.out 4 rfl
            have hcz64_5 := cz_ BK345.out 5 rfl
            have hcz64_6 := cz_ BK345.out 6 rfl
            have hcz64_7 := cz_ BK345.out 7 rfl
            have hcz64_8 := cz_ BK345.out 8 rfl
            have hfz64_0 := blk_frozen BK345.out 0
            have hfz64_1 := blk_frozen BK345.out 1
            have hfz64_2 := blk_frozen BK345.out 2
            have hfz64_3 := blk_frozen BK345.out 3
            have hfz64_4 := blk_frozen BK345.out 4
            have hfz64_5 := blk_frozen BK345.out 5
            have hfz64_6 := blk_frozen BK345.out 6
            have hfz64_7 := blk_frozen BK345.out 7
            have hfz64_8 := blk_frozen BK345.out 8
            try go_wp2
            have n0_ := Aside0.mk (blk_drew BK345.out)
            have n1_ := Aside0.mk (below_drew1 HB.out)
            clear BK345
            clear HB
            have BK345 := n0_
            have HB := n1_
            clear n0_ n1_
            refine start_ (n := 18) (S := fun w' => w'.cell? ⟨gb345, 0, none⟩ = some (.string a0_0) ∧ w'.cell? ⟨gb345, 1, none⟩ = some (.int .i64 a0_1) ∧ w'.cell? ⟨gb345, 2, none⟩ = some (.int .i64 a0_2) ∧ w'.cell? ⟨gb345, 3, none⟩ = some (.int .i64 a0_3) ∧ w'.cell? ⟨gb345, 4, none⟩ = some (.slice A0_4 l0_4.length c0_4) ∧ w'.cell? ⟨gb345, 5, none⟩ = some (.slice A0_5 l0_5.length c0_5) ∧ w'.cell? ⟨gb345, 6, none⟩ = some (.int .i64 a0_6) ∧ w'.cell? ⟨gb345, 7, none⟩ = some (.int .i64 a0_7) ∧ w'.cell? ⟨gb345, 8, none⟩ = some (.slice A0_8 l0_8.length c0_8)) (ds := []) #[false, false, false, false, false, false, false, false, false, false, false, false, false, false, false, false, false, false] (by kernel_rfl) rfl rfl ⟨(blk_cell BK345.out 0).trans rfl, (blk_cell BK345.out 1).trans rfl, (blk_cell BK345.out 2).trans rfl, (blk_cell BK345.out 3).trans rfl, (blk_cell BK345.out 4).trans rfl, (blk_cell BK345.out 5).trans rfl, (blk_cell BK345.out 6).trans rfl, (blk_cell BK345.out 7).trans rfl, (blk_cell BK345.out 8).trans rfl⟩ (fun hHeld => ?_); refine with_tabW chartularylaw19_bytes.tab10 chartularylaw19_bytes.bits10 (fun HT_ HW_ => ?_)
            generalize wr.drew = w65 at BK345 HB hHeld ⊢
            refine pure_ (i := 0) (N := some 65) (v := ?_) (a' := ?_) #[true, false, false, false, false, false, false, false, false, false, false, false, false, false, false, false, false, false] rfl rfl (any_of HT_.out (by kernel_rfl)) (fun _ _ _ h => h) (Or.inl ⟨by rfl, ?_⟩) ?_ ?_
            rotate_left
            ·intro w'
             go_simp
             first | with_reducible rfl | rfl
            rotate_left
            ·simp only [Act.put, List.setIfInBounds_toArray, List.set_cons_zero, List.set_cons_succ, i64_w, i32_w]
             rfl
            refine pure_ (i := 1) (N := some 66) (v := ?_) (a' := ?_) #[true, true, false, false, false, false, false, false, false, false, false, false, false, false, false, false, false, false] rfl rfl (any_of HT_.out (by kernel_rfl)) (fun _ _ _ h => h) (Or.inl ⟨by rfl, ?_⟩) ?_ ?_
            rotate_left
            ·intro w'
             go_simp
             first | with_reducible rfl | rfl
            rotate_left
            ·simp only [Act.put, List.setIfInBounds_toArray, List.set_cons_zero, List.set_cons_succ, i64_w, i32_w]
             rfl
            refine pure_ (i := 5) (N := some 70) (v := ?_) (a' := ?_) #[true, true, false, false, false, true, false, false, false, false, false, false, false, false, false, false, false, false] rfl rfl (any_of HT_.out (by kernel_rfl)) (fun _ _ _ h => h) (Or.inl ⟨by rfl, ?_⟩) ?_ ?_
            rotate_left
            ·intro w'
             go_simp
             first | with_reducible rfl | rfl
            rotate_left
            ·simp only [Act.put, List.setIfInBounds_toArray, List.set_cons_zero, List.set_cons_succ, i64_w, i32_w]
             rfl
            refine pure_ (i := 9) (N := some 74) (v := ?_) (a' := ?_) #[true, true, false, false, false, true, false, false, false, true, false, false, false, false, false, false, false, false] rfl rfl (any_of HT_.out (by kernel_rfl)) (fun _ _ _ h => h) (Or.inl ⟨by rfl, ?_⟩) ?_ ?_
            rotate_left
            ·intro w'
             go_simp
             first | with_reducible rfl | rfl
            rotate_left
            ·simp only [Act.put, List.setIfInBounds_toArray, List.set_cons_zero, List.set_cons_succ, i64_w, i32_w]
             rfl
            refine pure_ (i := 13) (N := some 78) (v := ?_) (a' := ?_) #[true, true, false, false, false, true, false, false, false, true, false, false, false, true, false, false, false, false] rfl rfl (any_of HT_.out (by kernel_rfl)) (fun _ _ _ h => h) (Or.inl ⟨by rfl, ?_⟩) ?_ ?_
            rotate_left
            ·intro w'
             go_simp
             first | with_reducible rfl | rfl
            rotate_left
            ·simp only [Act.put, List.setIfInBounds_toArray, List.set_cons_zero, List.set_cons_succ, i64_w, i32_w]
             rfl
            refine take_ (i := 2) (N := some 67) (v := ?_) (a' := ?_) #[true, true, true, false, false, true, false, false, false, true, false, false, false, true, false, false, false, false] rfl rfl (take_ofW HT_.out HW_.out (by kernel_rfl)) (fun _ _ _ h => h) (Or.inl ⟨by rfl, ?_⟩) hHeld ?_ ?_
            rotate_left
            ·rintro w' ⟨s0, s1, s2, s3, s4, s5, s6, s7, s8⟩
             go_simp
             first | with_reducible rfl | rfl
            rotate_left
            ·simp only [Act.put, List.setIfInBounds_toArray, List.set_cons_zero, List.set_cons_succ, i64_w, i32_w]
             rfl
            refine take_ (i := 6) (N := some 71) (v := ?_) (a' := ?_) #[true, true, true, false, false, true, true, false, false, true, false, false, false, true, false, false, false, false] rfl rfl (take_ofW HT_.out HW_.out (by kernel_rfl)) (fun _ _ _ h => h) (Or.inl ⟨by rfl, ?_⟩) hHeld ?_ ?_
            rotate_left
            ·rintro w' ⟨s0, s1, s2, s3, s4, s5, s6, s7, s8⟩
             go_simp
             first | with_reducible rfl | rfl
            rotate_left
            ·simp only [Act.put, List.setIfInBounds_toArray, List.set_cons_zero, List.set_cons_succ, i64_w, i32_w]
             rfl
            refine take_ (i := 10) (N := some 75) (v := ?_) (a' := ?_) #[true, true, true, false, false, true, true, false, false, true, true, false, false, true, false, false, false, false] rfl rfl (take_ofW HT_.out HW_.out (by kernel_rfl)) (fun _ _ _ h => h) (Or.inl ⟨by rfl, ?_⟩) hHeld ?_ ?_
            rotate_left
            ·rintro w' ⟨s0, s1, s2, s3, s4, s5, s6, s7, s8⟩
             go_simp
             first | with_reducible rfl | rfl
            rotate_left
            ·simp only [Act.put, List.setIfInBounds_toArray, List.set_cons_zero, List.set_cons_succ, i64_w, i32_w]
             rfl
            refine take_ (i := 14) (N := some 79) (v := ?_) (a' := ?_) #[true, true, true, false, false, true, true, false, false, true, true, false, false, true, true, false, false, false] rfl rfl (take_ofW HT_.out HW_.out (by kernel_rfl)) (fun _ _ _ h => h) (Or.inl ⟨by rfl, ?_⟩) hHeld ?_ ?_
            rotate_left
            ·rintro w' ⟨s0, s1, s2, s3, s4, s5, s6, s7, s8⟩
             go_simp
             first | with_reducible rfl | rfl
            rotate_left
            ·simp only [Act.put, List.setIfInBounds_toArray, List.set_cons_zero, List.set_cons_succ, i64_w, i32_w]
             rfl
            refine one_ (i := 3) (N := some 68) #[true, true, true, true, false, true, true, false, false, true, true, false, false, true, true, false, false, false] rfl rfl (one_of HT_.out (by kernel_rfl)) (by decide) (fun K hK => ?_)
            refine goes_ Try.func21 (by kernel_rfl) rfl #[.slice A0_5 l0_5.length c0_5] (by rfl) rfl rfl (Zchartularylaw19_bytes.z0) ?_
            with_reducible refine (chartularylaw19_list.calls k1 _ _ l0_5 t358 _ ?side1 ?side2 A56.out).mono ?_
            (case side1 => repeat (first | exact (Kd.C_below HR0_5.out HB.out) | (with_reducible refine Kd.C_alloc ?_ _) | (with_reducible refine Kd.C_drewN ?_ _) | (with_reducible refine Kd.C_drew ?_)))
            (case side2 => exact HC0_5.out)
            rintro e w66 ⟨rfl, hb⟩
            refine ⟨_, rfl, ?_⟩
            have n0_ := Aside0.mk (blk_below (g := gb345) (o := .cells #[.string a0_0, .int .i64 a0_1, .int .i64 a0_2, .int .i64 a0_3, .slice A0_4 l0_4.length c0_4, .slice A0_5 l0_5.length c0_5, .int .i64 a0_6, .int .i64 a0_7, .slice A0_8 l0_8.length c0_8] 25 (0, 0)) (by (with_reducible repeat (first | refine blk_drewN ?_ _ | refine blk_drew ?_ | refine blk_alloc ?_ _)); exact BK345.out) hb)
            have n1_ := Aside0.mk (below_step (by repeat (first | (with_reducible first | exact HB.out | apply below_alloc | apply pw_below_drewN | apply below_drew1 | refine below_set ?_ GE345.out) | exact HB.out)) hb)
            clear BK345
            clear HB
            have BK345 := n0_
            have HB := n1_
            clear n0_ n1_
            (try clear hb)
            (try clear hb2)
            (try clear hk)
            (try clear hi)
            refine hK.out _ _ ⟨(blk_cell BK345.out 0).trans rfl, (blk_cell BK345.out 1).trans rfl, (blk_cell BK345.out 2).trans rfl, (blk_cell BK345.out 3).trans rfl, (blk_cell BK345.out 4).trans rfl, (blk_cell BK345.out 5).trans rfl, (blk_cell BK345.out 6).trans rfl, (blk_cell BK345.out 7).trans rfl, (blk_cell BK345.out 8).trans rfl⟩ (fun hHeld => ?_)
            clear hK K
            refine norm_ (a' := ?_) ?_ ?_
            rotate_left
            ·show Act.put _ (some 68) _ = _
             simp only [Act.put, List.setIfInBounds_toArray, List.set_cons_zero, List.set_cons_succ, i64_w, i32_w]
             rfl
            refine pure_ (i := 4) (N := some 69) (v := ?_) (a' := ?_) #[true, true, true, true, true, true, true, false, false, true, true, false, false, true, true, false, false, false] rfl rfl (any_of HT_.out (by kernel_rfl)) (fun _ _ _ h => h) (Or.inl ⟨by rfl, ?_⟩) ?_ ?_
            rotate_left
            ·intro w'
             go_simp
             first | with_reducible rfl | rfl
            rotate_left
            ·simp only [Act.put, List.setIfInBounds_toArray, List.set_cons_zero, List.set_cons_succ, i64_w, i32_w]
             rfl
            refine one_ (i := 7) (N := some 72) #[true, true, true, true, true, true, true, true, false, true, true, false, false, true, true, false, false, false] rfl rfl (one_of HT_.out (by kernel_rfl)) (by decide) (fun K hK => ?_)
            refine goes_ Try.func19 (by kernel_rfl) rfl #[.int .i64 a0_6] (by rfl) rfl rfl (Zchartularylaw19_bytes.z0) ?_
            with_reducible refine (octet_Num.calls k1 a0_6 t359 _ A58.out).mono ?_
            rintro e w67 ⟨rfl, hb⟩
            refine ⟨_, rfl, ?_⟩
            have n0_ := Aside0.mk (blk_below (g := gb345) (o := .cells #[.string a0_0, .int .i64 a0_1, .int .i64 a0_2, .int .i64 a0_3, .slice A0_4 l0_4.length c0_4, .slice A0_5 l0_5.length c0_5, .int .i64 a0_6, .int .i64 a0_7, .slice A0_8 l0_8.length c0_8] 25 (0, 0)) (by (with_reducible repeat (first | refine blk_drewN ?_ _ | refine blk_drew ?_ | refine blk_alloc ?_ _)); exact BK345.out) hb)
            have n1_ := Aside0.mk (below_step (by repeat (first | (with_reducible first | exact HB.out | apply below_alloc | apply pw_below_drewN | apply below_drew1 | refine below_set ?_ GE345.out) | exact HB.out)) hb)
            clear BK345
            clear HB
            have BK345 := n0_
            have HB := n1_
            clear n0_ n1_
            (try clear hb)
            (try clear hb2)
            (try clear hk)
            (try clear hi)
            refine hK.out _ _ ⟨(blk_cell BK345.out 0).trans rfl, (blk_cell BK345.out 1).trans rfl, (blk_cell BK345.out 2).trans rfl, (blk_cell BK345.out 3).trans rfl, (blk_cell BK345.out 4).trans rfl, (blk_cell BK345.out 5).trans rfl, (blk_cell BK345.out 6).trans rfl, (blk_cell BK345.out 7).trans rfl, (blk_cell BK345.out 8).trans rfl⟩ (fun hHeld => ?_)
            clear hK K
            refine norm_ (a' := ?_) ?_ ?_
            rotate_left
            ·show Act.put _ (some 72) _ = _
             simp only [Act.put, List.setIfInBounds_toArray, List.set_cons_zero, List.set_cons_succ, i64_w, i32_w]
             rfl
            refine pure_ (i := 8) (N := some 73) (v := ?_) (a' := ?_) #[true, true, true, true, true, true, true, true, true, true, true, false, false, true, true, false, false, false] rfl rfl (any_of HT_.out (by kernel_rfl)) (fun _ _ _ h => h) (Or.inl ⟨by rfl, ?_⟩) ?_ ?_
            rotate_left
            ·intro w'
             go_simp
             first | with_reducible rfl | rfl
            rotate_left
            ·simp only [Act.put, List.setIfInBounds_toArray, List.set_cons_zero, List.set_cons_succ, i64_w, i32_w]
             rfl
            refine one_ (i := 11) (N := some 76) #[true, true, true, true, true, true, true, true, true, true, true, true, false, true, true, false, false, false] rfl rfl (one_of HT_.out (by kernel_rfl)) (by decide) (fun K hK => ?_)
            refine goes_ Try.func19 (by kernel_rfl) rfl #[.int .i64 a0_7] (by rfl) rfl rfl (Zchartularylaw19_bytes.z0) ?_
            with_reducible refine (octet_Num.calls k1 a0_7 t360 _ A60.out).mono ?_
            rintro e w68 ⟨rfl, hb⟩
            refine ⟨_, rfl, ?_⟩
            have n0_ := Aside0.mk (blk_below (g := gb345) (o := .cells #[.string a0_0, .int .i64 a0_1, .int .i64 a0_2, .int .i64 a0_3, .slice A0_4 l0_4.length c0_4, .slice A0_5 l0_5.length c0_5, .int .i64 a0_6, .int .i64 a0_7, .slice A0_8 l0_8.length c0_8] 25 (0, 0)) (by (with_reducible repeat (first | refine blk_drewN ?_ _ | refine blk_drew ?_ | refine blk_alloc ?_ _)); exact BK345.out) hb)
            have n1_ := Aside0.mk (below_step (by repeat (first | (with_reducible first | exact HB.out | apply below_alloc | apply pw_below_drewN | apply below_drew1 | refine below_set ?_ GE345.out) | exact HB.out)) hb)
            clear BK345
            clear HB
            have BK345 := n0_
            have HB := n1_
            clear n0_ n1_
            (try clear hb)
            (try clear hb2)
            (try clear hk)
            (try clear hi)
            refine hK.out _ _ ⟨(blk_cell BK345.out 0).trans rfl, (blk_cell BK345.out 1).trans rfl, (blk_cell BK345.out 2).trans rfl, (blk_cell BK345.out 3).trans rfl, (blk_cell BK345.out 4).trans rfl, (blk_cell BK345.out 5).trans rfl, (blk_cell BK345.out 6).trans rfl, (blk_cell BK345.out 7).trans rfl, (blk_cell BK345.out 8).trans rfl⟩ (fun hHeld => ?_)
            clear hK K
            refine norm_ (a' := ?_) ?_ ?_
            rotate_left
            ·show Act.put _ (some 76) _ = _
             simp only [Act.put, List.setIfInBounds_toArray, List.set_cons_zero, List.set_cons_succ, i64_w, i32_w]
             rfl
            refine pure_ (i := 12) (N := some 77) (v := ?_) (a' := ?_) #[true, true, true, true, true, true, true, true, true, true, true, true, true, true, true, false, false, false] rfl rfl (any_of HT_.out (by kernel_rfl)) (fun _ _ _ h => h) (Or.inl ⟨by rfl, ?_⟩) ?_ ?_
            rotate_left
            ·intro w'
             go_simp
             first | with_reducible rfl | rfl
            rotate_left
            ·simp only [Act.put, List.setIfInBounds_toArray, List.set_cons_zero, List.set_cons_succ, i64_w, i32_w]
             rfl
            refine one_ (i := 15) (N := some 80) #[true, true, true, true, true, true, true, true, true, true, true, true, true, true, true, true, false, false] rfl rfl (one_of HT_.out (by kernel_rfl)) (by decide) (fun K hK => ?_)
            refine goes_ Try.func21 (by kernel_rfl) rfl #[.slice A0_8 l0_8.length c0_8] (by rfl) rfl rfl (Zchartularylaw19_bytes.z0) ?_
            with_reducible refine (chartularylaw19_list.calls k1 _ _ l0_8 t361 _ ?side1 ?side2 A62.out).mono ?_
            (case side1 => repeat (first | exact (Kd.C_below HR0_8.out HB.out) | (with_reducible refine Kd.C_alloc ?_ _) | (with_reducible refine Kd.C_drewN ?_ _) | (with_reducible refine Kd.C_drew ?_)))
            (case side2 => exact HC0_8.out)
            rintro e w69 ⟨rfl, hb⟩
            refine ⟨_, rfl, ?_⟩
            have n0_ := Aside0.mk (blk_below (g := gb345) (o := .cells #[.string a0_0, .int .i64 a0_1, .int .i64 a0_2, .int .i64 a0_3, .slice A0_4 l0_4.length c0_4, .slice A0_5 l0_5.length c0_5, .int .i64 a0_6, .int .i64 a0_7, .slice A0_8 l0_8.length c0_8] 25 (0, 0)) (by (with_reducible repeat (first | refine blk_drewN ?_ _ | refine blk_drew ?_ | refine blk_alloc ?_ _)); exact BK345.out) hb)
            have n1_ := Aside0.mk (below_step (by repeat (first | (with_reducible first | exact HB.out | apply below_alloc | apply pw_below_drewN | apply below_drew1 | refine below_set ?_ GE345.out) | exact HB.out)) hb)
            clear BK345
            clear HB
            have BK345 := n0_
            have HB := n1_
            clear n0_ n1_
            (try clear hb)
            (try clear hb2)
            (try clear hk)
            (try clear hi)
            refine hK.out _ _ ⟨(blk_cell BK345.out 0).trans rfl, (blk_cell BK345.out 1).trans rfl, (blk_cell BK345.out 2).trans rfl, (blk_cell BK345.out 3).trans rfl, (blk_cell BK345.out 4).trans rfl, (blk_cell BK345.out 5).trans rfl, (blk_cell BK345.out 6).trans rfl, (blk_cell BK345.out 7).trans rfl, (blk_cell BK345.out 8).trans rfl⟩ (fun hHeld => ?_)
            clear hK K
            refine norm_ (a' := ?_) ?_ ?_
            rotate_left
            ·show Act.put _ (some 80) _ = _
             simp only [Act.put, List.setIfInBounds_toArray, List.set_cons_zero, List.set_cons_succ, i64_w, i32_w]
             rfl
            refine pure_ (i := 16) (N := some 81) (v := ?_) (a' := ?_) #[true, true, true, true, true, true, true, true, true, true, true, true, true, true, true, true, true, false] rfl rfl (any_of HT_.out (by kernel_rfl)) (fun _ _ _ h => h) (Or.inl ⟨by rfl, ?_⟩) ?_ ?_
            rotate_left
            ·intro w'
             go_simp
             first | with_reducible rfl | rfl
            rotate_left
            ·simp only [Act.put, List.setIfInBounds_toArray, List.set_cons_zero, List.set_cons_succ, i64_w, i32_w]
             rfl
            refine pure_ (i := 17) (N := some 2) (v := ?_) (a' := ?_) #[true, true, true, true, true, true, true, true, true, true, true, true, true, true, true, true, true, true] rfl rfl (any_of HT_.out (by kernel_rfl)) (fun _ _ _ h => h) (Or.inl ⟨by rfl, ?_⟩) ?_ ?_
            rotate_left
            ·intro w'
             go_simp
             first | with_reducible rfl | rfl
            rotate_left
            ·simp only [Act.put, List.setIfInBounds_toArray, List.set_cons_zero, List.set_cons_succ, i64_w, i32_w]
             rfl
            refine done_ (done_of HT_.out (by kernel_rfl)) ?_
            try go_wp2
            go_ret
            exact ⟨by first | rfl | (simp [errW_none, errW_some] <;> rfl) | (simp [*, errW_none, errW_some] <;> rfl), by repeat (first | (with_reducible first | exact HB.out | apply below_alloc | apply pw_below_drewN | apply below_drew1 | refine below_set ?_ GE345.out) | exact HB.out)⟩
           ·rw [if_neg c63] at H
            exact absurd H (by simp)
          ·rw [if_neg c61] at H
           exact absurd H (by simp)
         ·rw [if_neg c59] at H
          exact absurd H (by simp)
        ·rw [if_neg c57] at H
         exact absurd H (by simp)
    ·rw [if_neg c10] at H
     exact absurd H (by simp)
   ·rw [if_neg c8] at H
    exact absurd H (by simp)
  ·rw [if_neg c6] at H
   exact absurd H (by simp)
 ·rw [if_neg c4] at H
  exact absurd H (by simp)


end

end Go.Proofs.Ytfegehfdbcnepaa.PAll
