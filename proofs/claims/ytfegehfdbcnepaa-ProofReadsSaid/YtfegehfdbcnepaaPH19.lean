-- Laid by programs of this session (myprint.py, post.py) out of the translation.
import Derived.Test.YtfegehfdbcnepaaPBase
import Derived.Test.YtfegehfdbcnepaaPEq
import Derived.Test.YtfegehfdbcnepaaPOctet
import Derived.Test.YtfegehfdbcnepaaPPaper
import Derived.Test.YtfegehfdbcnepaaPProof
namespace Go.Proofs.Ytfegehfdbcnepaa.PAll
open Go.RowKit Go.Proofs.YtfegehfdbcnepaaW.PrintWords Go.Proofs.YtfegehfdbcnepaaW.PrintLast Go.Proofs.YtfegehfdbcnepaaW.PrintMore
attribute [local go_sem] max2_int min2_int max_two min_two max_three min_three max_four min_four   -- for this text's walks alone
set_option linter.unusedVariables false
set_option linter.unusedSimpArgs false
section
/-! ### chartularylaw19_sums: function 16 -/
def chartularylaw19_sums.l0 : Nat → List ByteArray → Int → Int → Option (Bool)
  | 0, _, _, _ => none
  | k + 1, x0, x1, x5 => if x5 < (x0.length : Int) then (if 0 ≤ x5 then (if ((rdOf ByteArray.empty x0 x5).size : Int) = 32 then (chartularylaw19_sums.l0 k x0 x1 (wrap64 (x5 + 1))) else (some false)) else (none)) else (some (decide ((x0.length : Int) ≤ x1)))
def chartularylaw19_sums.f (k : Nat) (l0 : List ByteArray) (a1 : Int) : Option (Bool) := chartularylaw19_sums.l0 k l0 a1 0
theorem chartularylaw19_sums.mono_l : ∀ k, (∀ y0 y1 y2, LeO (chartularylaw19_sums.l0 k y0 y1 y2) (chartularylaw19_sums.l0 (k + 1) y0 y1 y2))
  | 0 => fun _ _ _ r h => by simp [chartularylaw19_sums.l0] at h
  | k + 1 => by
    have ih0 := chartularylaw19_sums.mono_l k
    · intro y0 y1 y2
      unfold chartularylaw19_sums.l0
      repeat' first
      | (with_reducible exact ih0 _ _ _)
      | (with_reducible exact LeO.refl _)
      | (with_reducible exact LeO.none _)
      | (with_reducible refine LeO.ite ?_ ?_)
      | (with_reducible refine LeO.bind ?_ (fun _ => ?_))
      | exact ih0 _ _ _
      | exact LeO.none _
      | refine LeO.ite ?_ ?_
      | refine LeO.bind ?_ (fun _ => ?_)
theorem chartularylaw19_sums.mono : ∀ a0 a1 k, LeO (chartularylaw19_sums.f k a0 a1) (chartularylaw19_sums.f (k + 1) a0 a1) := by
  intro a0 a1 k
  have ih0 := chartularylaw19_sums.mono_l k
  unfold chartularylaw19_sums.f
  repeat' first
      | (with_reducible exact ih0 _ _ _)
      | (with_reducible exact LeO.refl _)
      | (with_reducible exact LeO.none _)
      | (with_reducible refine LeO.ite ?_ ?_)
      | (with_reducible refine LeO.bind ?_ (fun _ => ?_))
      | exact ih0 _ _ _
      | exact LeO.none _
      | refine LeO.ite ?_ ?_
      | refine LeO.bind ?_ (fun _ => ?_)
theorem Zchartularylaw19_sums.z0 {P_ : Prop} (h_ : P_ := by first | rfl | (simp; done) | (simp [*]; done)) : P_ := h_
theorem Zchartularylaw19_sums.z1 {P_ : Prop} (h_ : P_ := by repeat (first | exact Drawn0.refl _ | apply Drawn0.step)) : P_ := h_
theorem Zchartularylaw19_sums.z2 {P_ : Prop} (h_ : P_ := by first | (with_reducible assumption) | assumption) : P_ := h_
set_option maxHeartbeats 8000000 in
set_option maxRecDepth 100000 in
theorem chartularylaw19_sums.calls (k : Nat) (A0 : Option Addr) (c0 : Nat) (l0 : List ByteArray) (a1 : Int) (r : Bool) (w : World) (hr0 : Kd.C Kd.string w A0 l0.length l0) (hc0 : l0.length ≤ c0) (h : chartularylaw19_sums.f k l0 a1 = some r) :
    Calls Try.prog 16 #[.slice A0 l0.length c0, .int .i64 a1] w fun e w' => e = .returned (.bool r) ∧ Drawn0 w w' := by
  have HR0 := Aside0.mk hr0
  have HC0 := Aside0.mk hc0
  clear hr0 hc0
  have H : (chartularylaw19_sums.l0 k l0 a1 0) = some r := h
  clear h
  have H' := Aside0.mk H
  clear H
  go_enter Try.func16, Try.ntmps16
  go_wp2
  go_loopg [5] k (fun kq v5 w' => ∃ (x5_1 : Int), v5 = .int .i64 x5_1 ∧ Aside0 (chartularylaw19_sums.l0 kq l0 a1 x5_1 = some r) ∧ Aside0 (kq ≤ k) ∧ Drawn0 w w')
  case atStart => exact ⟨(0), (Zchartularylaw19_sums.z0), H', ⟨Nat.le_refl _⟩, Zchartularylaw19_sums.z1⟩
  case round =>
    clear H'
    try clear c1
    try clear p2
    obtain ⟨x5_1, rfl, HA, HK1, ⟨m1, rfl⟩⟩ := hrel
    cases gk with
    | zero => exact absurd HA.out (by simp [chartularylaw19_sums.l0])
    | succ k1 =>
      have H := HA.out
      clear HA
      simp only [chartularylaw19_sums.l0] at H
      by_cases c3 : x5_1 < (l0.length : Int)
      · rw [if_pos c3] at H
        have c3b0 : decide (x5_1 < (l0.length : Int)) = true := decide_eq_true c3
        clear c3
        by_cases c4 : 0 ≤ x5_1
        · rw [if_pos c4] at H
          have c4b0 : decide (0 ≤ x5_1) = true := decide_eq_true c4
          clear c4
          by_cases c5 : ((rdOf ByteArray.empty l0 x5_1).size : Int) = 32
          · rw [if_pos c5] at H
            have c5b0 : (((rdOf ByteArray.empty l0 x5_1).size : Int) == 32) = true := beq_iff_eq.mpr c5
            have c5b1 : (((rdOf ByteArray.empty l0 x5_1).size : Int) != 32) = false := bne_eq_false_iff_eq.mpr c5
            clear c5
            have H' := Aside0.mk H
            clear H
            have p101 : 0 ≤ (x5_1 : Int) := of_decide_eq_true (Zchartularylaw19_sums.z2)
            have q101 : x5_1 < (l0.length : Int) := of_decide_eq_true (Zchartularylaw19_sums.z2)
            obtain ⟨ad101, e101, hx101_0⟩ := Kd.at_string HR0.out x5_1 p101 q101
            cases e101
            replace p101 := eq_true p101
            replace q101 := eq_true q101
            go_wp2
            go_roundg k1
            case measure => have := HK1.out; omega
            case rel => exact ⟨(wrap64 (x5_1 + 1)), (Zchartularylaw19_sums.z0), H', ⟨by have := HK1.out; omega⟩, Zchartularylaw19_sums.z1⟩
          · rw [if_neg c5] at H
            have c5b0 : (((rdOf ByteArray.empty l0 x5_1).size : Int) == 32) = false := beq_eq_false_iff_ne.mpr c5
            have c5b1 : (((rdOf ByteArray.empty l0 x5_1).size : Int) != 32) = true := bne_iff_ne.mpr c5
            obtain rfl := Option.some.inj H
            have p101 : 0 ≤ (x5_1 : Int) := of_decide_eq_true (Zchartularylaw19_sums.z2)
            have q101 : x5_1 < (l0.length : Int) := of_decide_eq_true (Zchartularylaw19_sums.z2)
            obtain ⟨ad101, e101, hx101_0⟩ := Kd.at_string HR0.out x5_1 p101 q101
            cases e101
            replace p101 := eq_true p101
            replace q101 := eq_true q101
            go_wp2
            go_ret
            exact ⟨Zchartularylaw19_sums.z0, Zchartularylaw19_sums.z1⟩
        · rw [if_neg c4] at H
          exact absurd H (by simp)
      · rw [if_neg c3] at H
        have c3b0 : decide (x5_1 < (l0.length : Int)) = false := decide_eq_false c3
        clear c3
        obtain rfl := Option.some.inj H
        go_wp2
        go_ret
        exact ⟨Zchartularylaw19_sums.z0, Zchartularylaw19_sums.z1⟩


end

section
/-! ### chartularylaw19_right: function 9 -/
mutual
def chartularylaw19_right.j0 : Nat → Bool → ByteArray → Int → Int → Int → List (S50) → List ByteArray → Int → Int → List ByteArray → Option (Bool)
 | 0, _, _, _, _, _, _, _, _, _, _ => none
 | k + 1, x3, x106000, x106001, x106002, x106003, x106004, x106005, x106006, x106007, x106008 => if x3 = true then (if x106007 ≥ 1 then (if x106007 ≤ 65536 then (if x106006 ≥ 0 then (if x106006 < x106007 then (if (x106004.length : Int) ≥ 1 then (chartularylaw19_right.j1 k (decide ((x106004.length : Int) ≤ x106003)) x106000 x106001 x106002 x106003 x106004 x106005 x106006 x106007 x106008) else (chartularylaw19_right.j1 k false x106000 x106001 x106002 x106003 x106004 x106005 x106006 x106007 x106008)) else (chartularylaw19_right.j1 k false x106000 x106001 x106002 x106003 x106004 x106005 x106006 x106007 x106008)) else (chartularylaw19_right.j1 k false x106000 x106001 x106002 x106003 x106004 x106005 x106006 x106007 x106008)) else (chartularylaw19_right.j1 k false x106000 x106001 x106002 x106003 x106004 x106005 x106006 x106007 x106008)) else (chartularylaw19_right.j1 k false x106000 x106001 x106002 x106003 x106004 x106005 x106006 x106007 x106008)) else (chartularylaw19_right.j1 k false x106000 x106001 x106002 x106003 x106004 x106005 x106006 x106007 x106008)
def chartularylaw19_right.j1 : Nat → Bool → ByteArray → Int → Int → Int → List (S50) → List ByteArray → Int → Int → List ByteArray → Option (Bool)
 | 0, _, _, _, _, _, _, _, _, _, _ => none
 | k + 1, x3, x106000, x106001, x106002, x106003, x106004, x106005, x106006, x106007, x106008 => chartularylaw19_right.l0 k x3 0 x106000 x106001 x106002 x106003 x106004 x106005 x106006 x106007 x106008
def chartularylaw19_right.l0 : Nat → Bool → Int → ByteArray → Int → Int → Int → List (S50) → List ByteArray → Int → Int → List ByteArray → Option (Bool)
 | 0, _, _, _, _, _, _, _, _, _, _, _ => none
 | k + 1, x3, x4, x106000, x106001, x106002, x106003, x106004, x106005, x106006, x106007, x106008 => if x4 < (x106004.length : Int) then (if 0 ≤ x4 then (if x3 = true then (if ((rd_T50 x106004 x4).f0) ≥ 0 then (if ((rd_T50 x106004 x4).f0) < x106003 then ((paper_IsName.f k ((rd_T50 x106004 x4).f1)).bind fun t109 => (chartularylaw19_right.j3 k t109 x4 x106000 x106001 x106002 x106003 x106004 x106005 x106006 x106007 x106008 ((rd_T50 x106004 x4).f0) ((rd_T50 x106004 x4).f1) ((rd_T50 x106004 x4).f2) ((rd_T50 x106004 x4).f3) ((rd_T50 x106004 x4).f4) ((rd_T50 x106004 x4).f5))) else (chartularylaw19_right.j3 k false x4 x106000 x106001 x106002 x106003 x106004 x106005 x106006 x106007 x106008 ((rd_T50 x106004 x4).f0) ((rd_T50 x106004 x4).f1) ((rd_T50 x106004 x4).f2) ((rd_T50 x106004 x4).f3) ((rd_T50 x106004 x4).f4) ((rd_T50 x106004 x4).f5))) else (chartularylaw19_right.j3 k false x4 x106000 x106001 x106002 x106003 x106004 x106005 x106006 x106007 x106008 ((rd_T50 x106004 x4).f0) ((rd_T50 x106004 x4).f1) ((rd_T50 x106004 x4).f2) ((rd_T50 x106004 x4).f3) ((rd_T50 x106004 x4).f4) ((rd_T50 x106004 x4).f5))) else (chartularylaw19_right.j3 k false x4 x106000 x106001 x106002 x106003 x106004 x106005 x106006 x106007 x106008 ((rd_T50 x106004 x4).f0) ((rd_T50 x106004 x4).f1) ((rd_T50 x106004 x4).f2) ((rd_T50 x106004 x4).f3) ((rd_T50 x106004 x4).f4) ((rd_T50 x106004 x4).f5))) else (none)) else (if x3 = true then ((chartularylaw19_sums.f k x106005 12).bind fun t112 => (if t112 = true then ((chartularylaw19_sums.f k x106008 16).bind fun t113 => (some t113)) else (some false))) else (some false))
def chartularylaw19_right.j3 : Nat → Bool → Int → ByteArray → Int → Int → Int → List (S50) → List ByteArray → Int → Int → List ByteArray → Int → ByteArray → Bool → ByteArray → ByteArray → ByteArray → Option (Bool)
 | 0, _, _, _, _, _, _, _, _, _, _, _, _, _, _, _, _, _ => none
 | k + 1, x3, x4, x106000, x106001, x106002, x106003, x106004, x106005, x106006, x106007, x106008, x109000, x109001, x109002, x109003, x109004, x109005 => if x109002 = true then (if x3 = true then (if (x109005.size : Int) = 32 then (if x109003.toList = ([] : List UInt8) then (chartularylaw19_right.j4 k x109004.toList.isEmpty x4 x106000 x106001 x106002 x106003 x106004 x106005 x106006 x106007 x106008 x109000 x109001 x109002 x109003 x109004 x109005) else (chartularylaw19_right.j4 k false x4 x106000 x106001 x106002 x106003 x106004 x106005 x106006 x106007 x106008 x109000 x109001 x109002 x109003 x109004 x109005)) else (chartularylaw19_right.j4 k false x4 x106000 x106001 x106002 x106003 x106004 x106005 x106006 x106007 x106008 x109000 x109001 x109002 x109003 x109004 x109005)) else (chartularylaw19_right.j4 k false x4 x106000 x106001 x106002 x106003 x106004 x106005 x106006 x106007 x106008 x109000 x109001 x109002 x109003 x109004 x109005)) else (if x3 = true then (if x109005.toList = ([] : List UInt8) then (if (x109003.size : Int) = 16 then (chartularylaw19_right.j4 k (decide ((x109004.size : Int) ≤ 208)) x4 x106000 x106001 x106002 x106003 x106004 x106005 x106006 x106007 x106008 x109000 x109001 x109002 x109003 x109004 x109005) else (chartularylaw19_right.j4 k false x4 x106000 x106001 x106002 x106003 x106004 x106005 x106006 x106007 x106008 x109000 x109001 x109002 x109003 x109004 x109005)) else (chartularylaw19_right.j4 k false x4 x106000 x106001 x106002 x106003 x106004 x106005 x106006 x106007 x106008 x109000 x109001 x109002 x109003 x109004 x109005)) else (chartularylaw19_right.j4 k false x4 x106000 x106001 x106002 x106003 x106004 x106005 x106006 x106007 x106008 x109000 x109001 x109002 x109003 x109004 x109005))
def chartularylaw19_right.j4 : Nat → Bool → Int → ByteArray → Int → Int → Int → List (S50) → List ByteArray → Int → Int → List ByteArray → Int → ByteArray → Bool → ByteArray → ByteArray → ByteArray → Option (Bool)
 | 0, _, _, _, _, _, _, _, _, _, _, _, _, _, _, _, _, _ => none
 | k + 1, x3, x4, x106000, x106001, x106002, x106003, x106004, x106005, x106006, x106007, x106008, x109000, x109001, x109002, x109003, x109004, x109005 => if x4 > 0 then (if x3 = true then (if 0 ≤ (wrap64 (x4 - 1)) then (if (wrap64 (x4 - 1)) < (x106004.length : Int) then (if ((rd_T50 x106004 (wrap64 (x4 - 1))).f0) < x109000 then (chartularylaw19_right.l0 k (Op.bytesLess (((rd_T50 x106004 (wrap64 (x4 - 1))).f1).toList) x109001.toList) (wrap64 (x4 + 1)) x106000 x106001 x106002 x106003 x106004 x106005 x106006 x106007 x106008) else (chartularylaw19_right.l0 k false (wrap64 (x4 + 1)) x106000 x106001 x106002 x106003 x106004 x106005 x106006 x106007 x106008)) else (none)) else (none)) else (chartularylaw19_right.l0 k false (wrap64 (x4 + 1)) x106000 x106001 x106002 x106003 x106004 x106005 x106006 x106007 x106008)) else (chartularylaw19_right.l0 k x3 (wrap64 (x4 + 1)) x106000 x106001 x106002 x106003 x106004 x106005 x106006 x106007 x106008)
end
def chartularylaw19_right.f (k : Nat) (a0_0 : ByteArray) (a0_1 : Int) (a0_2 : Int) (a0_3 : Int) (l0_4 : List (S50)) (l0_5 : List ByteArray) (a0_6 : Int) (a0_7 : Int) (l0_8 : List ByteArray) : Option (Bool) := (paper_IsID.f k a0_0).bind fun t106 => (if t106 = true then (if a0_1 ≥ 0 then (if a0_1 ≤ 7 then (if a0_2 ≥ 0 then (if a0_2 ≤ 1099511627776 then (if a0_3 ≥ 1 then (chartularylaw19_right.j0 k (decide (a0_3 ≤ 12)) a0_0 a0_1 a0_2 a0_3 l0_4 l0_5 a0_6 a0_7 l0_8) else (chartularylaw19_right.j0 k false a0_0 a0_1 a0_2 a0_3 l0_4 l0_5 a0_6 a0_7 l0_8)) else (chartularylaw19_right.j0 k false a0_0 a0_1 a0_2 a0_3 l0_4 l0_5 a0_6 a0_7 l0_8)) else (chartularylaw19_right.j0 k false a0_0 a0_1 a0_2 a0_3 l0_4 l0_5 a0_6 a0_7 l0_8)) else (chartularylaw19_right.j0 k false a0_0 a0_1 a0_2 a0_3 l0_4 l0_5 a0_6 a0_7 l0_8)) else (chartularylaw19_right.j0 k false a0_0 a0_1 a0_2 a0_3 l0_4 l0_5 a0_6 a0_7 l0_8)) else (chartularylaw19_right.j0 k false a0_0 a0_1 a0_2 a0_3 l0_4 l0_5 a0_6 a0_7 l0_8))
theorem chartularylaw19_right.mono_l : ∀ k, (∀ y0 y1 y2 y3 y4 y5 y6 y7 y8 y9, LeO (chartularylaw19_right.j0 k y0 y1 y2 y3 y4 y5 y6 y7 y8 y9) (chartularylaw19_right.j0 (k + 1) y0 y1 y2 y3 y4 y5 y6 y7 y8 y9)) ∧ (∀ y0 y1 y2 y3 y4 y5 y6 y7 y8 y9, LeO (chartularylaw19_right.j1 k y0 y1 y2 y3 y4 y5 y6 y7 y8 y9) (chartularylaw19_right.j1 (k + 1) y0 y1 y2 y3 y4 y5 y6 y7 y8 y9)) ∧ (∀ y0 y1 y2 y3 y4 y5 y6 y7 y8 y9 y10, LeO (chartularylaw19_right.l0 k y0 y1 y2 y3 y4 y5 y6 y7 y8 y9 y10) (chartularylaw19_right.l0 (k + 1) y0 y1 y2 y3 y4 y5 y6 y7 y8 y9 y10)) ∧ (∀ y0 y1 y2 y3 y4 y5 y6 y7 y8 y9 y10 y11 y12 y13 y14 y15 y16, LeO (chartularylaw19_right.j3 k y0 y1 y2 y3 y4 y5 y6 y7 y8 y9 y10 y11 y12 y13 y14 y15 y16) (chartularylaw19_right.j3 (k + 1) y0 y1 y2 y3 y4 y5 y6 y7 y8 y9 y10 y11 y12 y13 y14 y15 y16)) ∧ (∀ y0 y1 y2 y3 y4 y5 y6 y7 y8 y9 y10 y11 y12 y13 y14 y15 y16, LeO (chartularylaw19_right.j4 k y0 y1 y2 y3 y4 y5 y6 y7 y8 y9 y10 y11 y12 y13 y14 y15 y16) (chartularylaw19_right.j4 (k + 1) y0 y1 y2 y3 y4 y5 y6 y7 y8 y9 y10 y11 y12 y13 y14 y15 y16))
 | 0 => ⟨fun _ _ _ _ _ _ _ _ _ _ r h => by simp [chartularylaw19_right.j0] at h, fun _ _ _ _ _ _ _ _ _ _ r h => by simp [chartularylaw19_right.j1] at h, fun _ _ _ _ _ _ _ _ _ _ _ r h => by simp [chartularylaw19_right.l0] at h, fun _ _ _ _ _ _ _ _ _ _ _ _ _ _ _ _ _ r h => by simp [chartularylaw19_right.j3] at h, fun _ _ _ _ _ _ _ _ _ _ _ _ _ _ _ _ _ r h => by simp [chartularylaw19_right.j4] at h⟩
 | k + 1 => by
  obtain ⟨ih0, ih1, ih2, ih3, ih4⟩ := chartularylaw19_right.mono_l k
  refine ⟨?_, ?_, ?_, ?_, ?_⟩
  ·intro y0 y1 y2 y3 y4 y5 y6 y7 y8 y9
   unfold chartularylaw19_right.j0
   repeat' first
   | (with_reducible exact ih0 _ _ _ _ _ _ _ _ _ _)
   | (with_reducible exact ih1 _ _ _ _ _ _ _ _ _ _)
   | (with_reducible exact ih2 _ _ _ _ _ _ _ _ _ _ _)
   | (with_reducible exact ih3 _ _ _ _ _ _ _ _ _ _ _ _ _ _ _ _ _)
   | (with_reducible exact ih4 _ _ _ _ _ _ _ _ _ _ _ _ _ _ _ _ _)
   | (with_reducible exact chartularylaw19_sums.mono _ _ _)
   | (with_reducible exact paper_IsID.mono _ _)
   | (with_reducible exact paper_IsName.mono _ _)
   | (with_reducible exact LeO.refl _)
   | (with_reducible exact LeO.none _)
   | (with_reducible refine LeO.ite ?_ ?_)
   | (with_reducible refine LeO.bind ?_ (fun _ => ?_))
   | exact ih0 _ _ _ _ _ _ _ _ _ _
   | exact ih1 _ _ _ _ _ _ _ _ _ _
   | exact ih2 _ _ _ _ _ _ _ _ _ _ _
   | exact ih3 _ _ _ _ _ _ _ _ _ _ _ _ _ _ _ _ _
   | exact ih4 _ _ _ _ _ _ _ _ _ _ _ _ _ _ _ _ _
   | exact chartularylaw19_sums.mono _ _ _
   | exact paper_IsID.mono _ _
   | exact paper_IsName.mono _ _
   | exact LeO.none _
   | refine LeO.ite ?_ ?_
   | refine LeO.bind ?_ (fun _ => ?_)
  ·intro y0 y1 y2 y3 y4 y5 y6 y7 y8 y9
   unfold chartularylaw19_right.j1
   repeat' first
   | (with_reducible exact ih0 _ _ _ _ _ _ _ _ _ _)
   | (with_reducible exact ih1 _ _ _ _ _ _ _ _ _ _)
   | (with_reducible exact ih2 _ _ _ _ _ _ _ _ _ _ _)
   | (with_reducible exact ih3 _ _ _ _ _ _ _ _ _ _ _ _ _ _ _ _ _)
   | (with_reducible exact ih4 _ _ _ _ _ _ _ _ _ _ _ _ _ _ _ _ _)
   | (with_reducible exact chartularylaw19_sums.mono _ _ _)
   | (with_reducible exact paper_IsID.mono _ _)
   | (with_reducible exact paper_IsName.mono _ _)
   | (with_reducible exact LeO.refl _)
   | (with_reducible exact LeO.none _)
   | (with_reducible refine LeO.ite ?_ ?_)
   | (with_reducible refine LeO.bind ?_ (fun _ => ?_))
   | exact ih0 _ _ _ _ _ _ _ _ _ _
   | exact ih1 _ _ _ _ _ _ _ _ _ _
   | exact ih2 _ _ _ _ _ _ _ _ _ _ _
   | exact ih3 _ _ _ _ _ _ _ _ _ _ _ _ _ _ _ _ _
   | exact ih4 _ _ _ _ _ _ _ _ _ _ _ _ _ _ _ _ _
   | exact chartularylaw19_sums.mono _ _ _
   | exact paper_IsID.mono _ _
   | exact paper_IsName.mono _ _
   | exact LeO.none _
   | refine LeO.ite ?_ ?_
   | refine LeO.bind ?_ (fun _ => ?_)
  ·intro y0 y1 y2 y3 y4 y5 y6 y7 y8 y9 y10
   unfold chartularylaw19_right.l0
   repeat' first
   | (with_reducible exact ih0 _ _ _ _ _ _ _ _ _ _)
   | (with_reducible exact ih1 _ _ _ _ _ _ _ _ _ _)
   | (with_reducible exact ih2 _ _ _ _ _ _ _ _ _ _ _)
   | (with_reducible exact ih3 _ _ _ _ _ _ _ _ _ _ _ _ _ _ _ _ _)
   | (with_reducible exact ih4 _ _ _ _ _ _ _ _ _ _ _ _ _ _ _ _ _)
   | (with_reducible exact chartularylaw19_sums.mono _ _ _)
   | (with_reducible exact paper_IsID.mono _ _)
   | (with_reducible exact paper_IsName.mono _ _)
   | (with_reducible exact LeO.refl _)
   | (with_reducible exact LeO.none _)
   | (with_reducible refine LeO.ite ?_ ?_)
   | (with_reducible refine LeO.bind ?_ (fun _ => ?_))
   | exact ih0 _ _ _ _ _ _ _ _ _ _
   | exact ih1 _ _ _ _ _ _ _ _ _ _
   | exact ih2 _ _ _ _ _ _ _ _ _ _ _
   | exact ih3 _ _ _ _ _ _ _ _ _ _ _ _ _ _ _ _ _
   | exact ih4 _ _ _ _ _ _ _ _ _ _ _ _ _ _ _ _ _
   | exact chartularylaw19_sums.mono _ _ _
   | exact paper_IsID.mono _ _
   | exact paper_IsName.mono _ _
   | exact LeO.none _
   | refine LeO.ite ?_ ?_
   | refine LeO.bind ?_ (fun _ => ?_)
  ·intro y0 y1 y2 y3 y4 y5 y6 y7 y8 y9 y10 y11 y12 y13 y14 y15 y16
   unfold chartularylaw19_right.j3
   repeat' first
   | (with_reducible exact ih0 _ _ _ _ _ _ _ _ _ _)
   | (with_reducible exact ih1 _ _ _ _ _ _ _ _ _ _)
   | (with_reducible exact ih2 _ _ _ _ _ _ _ _ _ _ _)
   | (with_reducible exact ih3 _ _ _ _ _ _ _ _ _ _ _ _ _ _ _ _ _)
   | (with_reducible exact ih4 _ _ _ _ _ _ _ _ _ _ _ _ _ _ _ _ _)
   | (with_reducible exact chartularylaw19_sums.mono _ _ _)
   | (with_reducible exact paper_IsID.mono _ _)
   | (with_reducible exact paper_IsName.mono _ _)
   | (with_reducible exact LeO.refl _)
   | (with_reducible exact LeO.none _)
   | (with_reducible refine LeO.ite ?_ ?_)
   | (with_reducible refine LeO.bind ?_ (fun _ => ?_))
   | exact ih0 _ _ _ _ _ _ _ _ _ _
   | exact ih1 _ _ _ _ _ _ _ _ _ _
   | exact ih2 _ _ _ _ _ _ _ _ _ _ _
   | exact ih3 _ _ _ _ _ _ _ _ _ _ _ _ _ _ _ _ _
   | exact ih4 _ _ _ _ _ _ _ _ _ _ _ _ _ _ _ _ _
   | exact chartularylaw19_sums.mono _ _ _
   | exact paper_IsID.mono _ _
   | exact paper_IsName.mono _ _
   | exact LeO.none _
   | refine LeO.ite ?_ ?_
   | refine LeO.bind ?_ (fun _ => ?_)
  ·intro y0 y1 y2 y3 y4 y5 y6 y7 y8 y9 y10 y11 y12 y13 y14 y15 y16
   unfold chartularylaw19_right.j4
   repeat' first
   | (with_reducible exact ih0 _ _ _ _ _ _ _ _ _ _)
   | (with_reducible exact ih1 _ _ _ _ _ _ _ _ _ _)
   | (with_reducible exact ih2 _ _ _ _ _ _ _ _ _ _ _)
   | (with_reducible exact ih3 _ _ _ _ _ _ _ _ _ _ _ _ _ _ _ _ _)
   | (with_reducible exact ih4 _ _ _ _ _ _ _ _ _ _ _ _ _ _ _ _ _)
   | (with_reducible exact chartularylaw19_sums.mono _ _ _)
   | (with_reducible exact paper_IsID.mono _ _)
   | (with_reducible exact paper_IsName.mono _ _)
   | (with_reducible exact LeO.refl _)
   | (with_reducible exact LeO.none _)
   | (with_reducible refine LeO.ite ?_ ?_)
   | (with_reducible refine LeO.bind ?_ (fun _ => ?_))
   | exact ih0 _ _ _ _ _ _ _ _ _ _
   | exact ih1 _ _ _ _ _ _ _ _ _ _
   | exact ih2 _ _ _ _ _ _ _ _ _ _ _
   | exact ih3 _ _ _ _ _ _ _ _ _ _ _ _ _ _ _ _ _
   | exact ih4 _ _ _ _ _ _ _ _ _ _ _ _ _ _ _ _ _
   | exact chartularylaw19_sums.mono _ _ _
   | exact paper_IsID.mono _ _
   | exact paper_IsName.mono _ _
   | exact LeO.none _
   | refine LeO.ite ?_ ?_
   | refine LeO.bind ?_ (fun _ => ?_)
theorem chartularylaw19_right.mono : ∀ a0 a1 a2 a3 a4 a5 a6 a7 a8 k, LeO (chartularylaw19_right.f k a0 a1 a2 a3 a4 a5 a6 a7 a8) (chartularylaw19_right.f (k + 1) a0 a1 a2 a3 a4 a5 a6 a7 a8) := by
 intro a0 a1 a2 a3 a4 a5 a6 a7 a8 k
 obtain ⟨ih0, ih1, ih2, ih3, ih4⟩ := chartularylaw19_right.mono_l k
 unfold chartularylaw19_right.f
 repeat' first
   | (with_reducible exact ih0 _ _ _ _ _ _ _ _ _ _)
   | (with_reducible exact ih1 _ _ _ _ _ _ _ _ _ _)
   | (with_reducible exact ih2 _ _ _ _ _ _ _ _ _ _ _)
   | (with_reducible exact ih3 _ _ _ _ _ _ _ _ _ _ _ _ _ _ _ _ _)
   | (with_reducible exact ih4 _ _ _ _ _ _ _ _ _ _ _ _ _ _ _ _ _)
   | (with_reducible exact chartularylaw19_sums.mono _ _ _)
   | (with_reducible exact paper_IsID.mono _ _)
   | (with_reducible exact paper_IsName.mono _ _)
   | (with_reducible exact LeO.refl _)
   | (with_reducible exact LeO.none _)
   | (with_reducible refine LeO.ite ?_ ?_)
   | (with_reducible refine LeO.bind ?_ (fun _ => ?_))
   | exact ih0 _ _ _ _ _ _ _ _ _ _
   | exact ih1 _ _ _ _ _ _ _ _ _ _
   | exact ih2 _ _ _ _ _ _ _ _ _ _ _
   | exact ih3 _ _ _ _ _ _ _ _ _ _ _ _ _ _ _ _ _
   | exact ih4 _ _ _ _ _ _ _ _ _ _ _ _ _ _ _ _ _
   | exact chartularylaw19_sums.mono _ _ _
   | exact paper_IsID.mono _ _
   | exact paper_IsName.mono _ _
   | exact LeO.none _
   | refine LeO.ite ?_ ?_
   | refine LeO.bind ?_ (fun _ => ?_)
theorem Zchartularylaw19_right.z0 {P_ : Prop} (h_ : P_ := by first | rfl | (simp; done) | (simp [*]; done)) : P_ := h_
theorem Zchartularylaw19_right.z1 {P_ : Prop} (h_ : P_ := by repeat (first | (with_reducible first | exact HB.out | apply below_alloc | apply pw_below_drewN | apply below_drew1) | exact HB.out)) : P_ := h_
theorem Zchartularylaw19_right.z2 {P_ : Prop} (h_ : P_ := by first | (with_reducible assumption) | assumption) : P_ := h_
theorem Zchartularylaw19_right.z3 {P_ : Prop} (h_ : P_ := by have := HJ1.out; have := HJ17.out; have := HK3.out; have := HJ32.out; first | omega | exact Nat.le_refl _) : P_ := h_
theorem Zchartularylaw19_right.z4 {P_ : Prop} (h_ : P_ := by first | omega | exact Nat.le_refl _) : P_ := h_
theorem Zchartularylaw19_right.z5 {P_ : Prop} (h_ : P_ := by have := HJ1.out; first | omega | exact Nat.le_refl _) : P_ := h_
theorem Zchartularylaw19_right.z6 {P_ : Prop} (h_ : P_ := by rw [hg]; exact (below_size (by repeat (first | (with_reducible first | exact HB.out | apply below_alloc | apply pw_below_drewN | apply below_drew1) | exact HB.out)))) : P_ := h_
theorem Zchartularylaw19_right.z7 {P_ : Prop} (h_ : P_ := by have := HJ1.out; have := HJ17.out; have := HK3.out; first | omega | exact Nat.le_refl _) : P_ := h_
theorem Zchartularylaw19_right.z8 {P_ : Prop} (h_ : P_ := by have := HJ1.out; have := HJ17.out; have := HK3.out; have := HJ32.out; have := HJ49.out; omega) : P_ := h_
theorem Zchartularylaw19_right.z9 {P_ : Prop} (h_ : P_ := by first | rfl | (simp [errW_none, errW_some] <;> rfl) | (simp [*, errW_none, errW_some] <;> rfl)) : P_ := h_
set_option maxHeartbeats 8000000 in
set_option maxRecDepth 100000 in
theorem chartularylaw19_right.calls (k : Nat) (a0_0 : ByteArray) (a0_1 : Int) (a0_2 : Int) (a0_3 : Int) (A0_4 : Option Addr) (c0_4 : Nat) (l0_4 : List (S50)) (A0_5 : Option Addr) (c0_5 : Nat) (l0_5 : List ByteArray) (a0_6 : Int) (a0_7 : Int) (A0_8 : Option Addr) (c0_8 : Nat) (l0_8 : List ByteArray) (r : Bool) (w : World) (hr0_4 : Kd.C k50 w A0_4 l0_4.length l0_4) (hc0_4 : l0_4.length ≤ c0_4) (hr0_5 : Kd.C Kd.string w A0_5 l0_5.length l0_5) (hc0_5 : l0_5.length ≤ c0_5) (hr0_8 : Kd.C Kd.string w A0_8 l0_8.length l0_8) (hc0_8 : l0_8.length ≤ c0_8) (h : chartularylaw19_right.f k a0_0 a0_1 a0_2 a0_3 l0_4 l0_5 a0_6 a0_7 l0_8 = some r) :
  Calls Try.prog 9 #[.agg #[.string a0_0, .int .i64 a0_1, .int .i64 a0_2, .int .i64 a0_3, .slice A0_4 l0_4.length c0_4, .slice A0_5 l0_5.length c0_5, .int .i64 a0_6, .int .i64 a0_7, .slice A0_8 l0_8.length c0_8]] w fun e w' => e = .returned (.bool r) ∧ Below w.heap.size w w' := by
 have hu25 := Try.underlying25
 have hu50 := Try.underlying50
 have HR0_4 := Aside0.mk hr0_4
 have HC0_4 := Aside0.mk hc0_4
 clear hr0_4 hc0_4
 have HR0_5 := Aside0.mk hr0_5
 have HC0_5 := Aside0.mk hc0_5
 clear hr0_5 hc0_5
 have HR0_8 := Aside0.mk hr0_8
 have HC0_8 := Aside0.mk hc0_8
 clear hr0_8 hc0_8
 have HB := Aside0.mk (Below.refl w.heap.size w)
 have H : ((paper_IsID.f k a0_0).bind fun t106 => (if t106 = true then (if a0_1 ≥ 0 then (if a0_1 ≤ 7 then (if a0_2 ≥ 0 then (if a0_2 ≤ 1099511627776 then (if a0_3 ≥ 1 then (chartularylaw19_right.j0 k (decide (a0_3 ≤ 12)) a0_0 a0_1 a0_2 a0_3 l0_4 l0_5 a0_6 a0_7 l0_8) else (chartularylaw19_right.j0 k false a0_0 a0_1 a0_2 a0_3 l0_4 l0_5 a0_6 a0_7 l0_8)) else (chartularylaw19_right.j0 k false a0_0 a0_1 a0_2 a0_3 l0_4 l0_5 a0_6 a0_7 l0_8)) else (chartularylaw19_right.j0 k false a0_0 a0_1 a0_2 a0_3 l0_4 l0_5 a0_6 a0_7 l0_8)) else (chartularylaw19_right.j0 k false a0_0 a0_1 a0_2 a0_3 l0_4 l0_5 a0_6 a0_7 l0_8)) else (chartularylaw19_right.j0 k false a0_0 a0_1 a0_2 a0_3 l0_4 l0_5 a0_6 a0_7 l0_8)) else (chartularylaw19_right.j0 k false a0_0 a0_1 a0_2 a0_3 l0_4 l0_5 a0_6 a0_7 l0_8))) = some r := h
 clear h
 have HC2 := Aside0.mk H
 clear H
 go_enter Try.func9, Try.ntmps9
 go_upto_region 1 with (first | ((with_reducible refine gate_dst (N := 1) rfl ?_); (try (refine gate_guard (by rfl) ?_; dsimp only)); refine box_event ?hg (N := 1) ?hd (cs := #[.string a0_0, .int .i64 a0_1, .int .i64 a0_2, .int .i64 a0_3, .slice A0_4 l0_4.length c0_4, .slice A0_5 l0_5.length c0_5, .int .i64 a0_6, .int .i64 a0_7, .slice A0_8 l0_8.length c0_8]) (t := 25) ?hr ?_; (case hd => rfl); (case hg => rfl); (case hr => first | (go_simp; done) | (go_simp; rfl)); intro gb105 hg w3 hbox hb; have n0_ := Aside0.mk (below_step (Zchartularylaw19_right.z1) hb); have n1_ := Aside0.mk (hbox); have n2_ := Aside0.mk ((Zchartularylaw19_right.z6 : w.heap.size ≤ gb105)); have n3_ := Aside0.mk ((Zchartularylaw19_right.z6 : w.heap.size ≤ gb105)); clear HB; have HB := n0_; have BK105 := n1_; have GW105 := n2_; have GE105 := n3_; clear n0_ n1_ n2_ n3_; clear hb hbox hg))
 repeat (go_quiet (first | ((with_reducible refine gate_dst (N := 1) rfl ?_); (try (refine gate_guard (by rfl) ?_; dsimp only)); refine box_event ?hg (N := 1) ?hd (cs := #[.string a0_0, .int .i64 a0_1, .int .i64 a0_2, .int .i64 a0_3, .slice A0_4 l0_4.length c0_4, .slice A0_5 l0_5.length c0_5, .int .i64 a0_6, .int .i64 a0_7, .slice A0_8 l0_8.length c0_8]) (t := 25) ?hr ?_; (case hd => rfl); (case hg => rfl); (case hr => first | (go_simp; done) | (go_simp; rfl)); intro gb105 hg w3 hbox hb; have n0_ := Aside0.mk (below_step (Zchartularylaw19_right.z1) hb); have n1_ := Aside0.mk (hbox); have n2_ := Aside0.mk ((Zchartularylaw19_right.z6 : w.heap.size ≤ gb105)); have n3_ := Aside0.mk ((Zchartularylaw19_right.z6 : w.heap.size ≤ gb105)); clear HB; have HB := n0_; have BK105 := n1_; have GW105 := n2_; have GE105 := n3_; clear n0_ n1_ n2_ n3_; clear hb hbox hg)); go_upto_region 1 with (first | ((with_reducible refine gate_dst (N := 1) rfl ?_); (try (refine gate_guard (by rfl) ?_; dsimp only)); refine box_event ?hg (N := 1) ?hd (cs := #[.string a0_0, .int .i64 a0_1, .int .i64 a0_2, .int .i64 a0_3, .slice A0_4 l0_4.length c0_4, .slice A0_5 l0_5.length c0_5, .int .i64 a0_6, .int .i64 a0_7, .slice A0_8 l0_8.length c0_8]) (t := 25) ?hr ?_; (case hd => rfl); (case hg => rfl); (case hr => first | (go_simp; done) | (go_simp; rfl)); intro gb105 hg w3 hbox hb; have n0_ := Aside0.mk (below_step (Zchartularylaw19_right.z1) hb); have n1_ := Aside0.mk (hbox); have n2_ := Aside0.mk ((Zchartularylaw19_right.z6 : w.heap.size ≤ gb105)); have n3_ := Aside0.mk ((Zchartularylaw19_right.z6 : w.heap.size ≤ gb105)); clear HB; have HB := n0_; have BK105 := n1_; have GW105 := n2_; have GE105 := n3_; clear n0_ n1_ n2_ n3_; clear hb hbox hg)))
 (try simp only [Act.put, List.setIfInBounds_toArray, List.set_cons_zero, List.set_cons_succ])
 go_cut [3] (fun v3 wc => ∃ (kq : Nat) (x3_1 : Bool), v3 = .bool x3_1 ∧ Aside0 (chartularylaw19_right.j0 kq x3_1 a0_0 a0_1 a0_2 a0_3 l0_4 l0_5 a0_6 a0_7 l0_8 = some r) ∧ Aside0 (kq ≤ k) ∧ Aside0 (wc.heap[gb105]? = some (.cells #[.string a0_0, .int .i64 a0_1, .int .i64 a0_2, .int .i64 a0_3, (.slice A0_4 l0_4.length c0_4), (.slice A0_5 l0_5.length c0_5), .int .i64 a0_6, .int .i64 a0_7, (.slice A0_8 l0_8.length c0_8)] 25 (0, 0))) ∧ Aside0 (Below w.heap.size w wc))
 case first =>
  have H := HC2.out
  clear HC2
  replace H := Option.bind_eq_some_iff.mp H
  obtain ⟨t106, A40, H⟩ := H
  replace H : (if t106 = true then (if a0_1 ≥ 0 then (if a0_1 ≤ 7 then (if a0_2 ≥ 0 then (if a0_2 ≤ 1099511627776 then (if a0_3 ≥ 1 then (chartularylaw19_right.j0 k (decide (a0_3 ≤ 12)) a0_0 a0_1 a0_2 a0_3 l0_4 l0_5 a0_6 a0_7 l0_8) else (chartularylaw19_right.j0 k false a0_0 a0_1 a0_2 a0_3 l0_4 l0_5 a0_6 a0_7 l0_8)) else (chartularylaw19_right.j0 k false a0_0 a0_1 a0_2 a0_3 l0_4 l0_5 a0_6 a0_7 l0_8)) else (chartularylaw19_right.j0 k false a0_0 a0_1 a0_2 a0_3 l0_4 l0_5 a0_6 a0_7 l0_8)) else (chartularylaw19_right.j0 k false a0_0 a0_1 a0_2 a0_3 l0_4 l0_5 a0_6 a0_7 l0_8)) else (chartularylaw19_right.j0 k false a0_0 a0_1 a0_2 a0_3 l0_4 l0_5 a0_6 a0_7 l0_8)) else (chartularylaw19_right.j0 k false a0_0 a0_1 a0_2 a0_3 l0_4 l0_5 a0_6 a0_7 l0_8)) = some r := H
  have A4 := Aside0.mk A40
  clear A40
  by_cases c5 : t106 = true
  ·subst c5
   have H1 : (if a0_1 ≥ 0 then (if a0_1 ≤ 7 then (if a0_2 ≥ 0 then (if a0_2 ≤ 1099511627776 then (if a0_3 ≥ 1 then (chartularylaw19_right.j0 k (decide (a0_3 ≤ 12)) a0_0 a0_1 a0_2 a0_3 l0_4 l0_5 a0_6 a0_7 l0_8) else (chartularylaw19_right.j0 k false a0_0 a0_1 a0_2 a0_3 l0_4 l0_5 a0_6 a0_7 l0_8)) else (chartularylaw19_right.j0 k false a0_0 a0_1 a0_2 a0_3 l0_4 l0_5 a0_6 a0_7 l0_8)) else (chartularylaw19_right.j0 k false a0_0 a0_1 a0_2 a0_3 l0_4 l0_5 a0_6 a0_7 l0_8)) else (chartularylaw19_right.j0 k false a0_0 a0_1 a0_2 a0_3 l0_4 l0_5 a0_6 a0_7 l0_8)) else (chartularylaw19_right.j0 k false a0_0 a0_1 a0_2 a0_3 l0_4 l0_5 a0_6 a0_7 l0_8)) = some r := by rw [if_pos rfl] at H; exact H
   clear H
   have H := H1
   clear H1
   by_cases c6 : a0_1 ≥ 0
   ·rw [if_pos c6] at H
    have c6b0 : decide (0 ≤ a0_1) = true := decide_eq_true c6
    clear c6
    (first | rw [c6b0] | (simp only [i64_w, i32_w]; rw [c6b0]) | skip)
    by_cases c7 : a0_1 ≤ 7
    ·rw [if_pos c7] at H
     have c7b0 : decide (a0_1 ≤ 7) = true := decide_eq_true c7
     clear c7
     by_cases c8 : a0_2 ≥ 0
     ·rw [if_pos c8] at H
      have c8b0 : decide (0 ≤ a0_2) = true := decide_eq_true c8
      clear c8
      by_cases c9 : a0_2 ≤ 1099511627776
      ·rw [if_pos c9] at H
       have c9b0 : decide (a0_2 ≤ 1099511627776) = true := decide_eq_true c9
       clear c9
       by_cases c10 : a0_3 ≥ 1
       ·rw [if_pos c10] at H
        have c10b0 : decide (1 ≤ a0_3) = true := decide_eq_true c10
        clear c10
        have H' := Aside0.mk H
        clear H
        have hcz11_0 := cz_ BK105.out 0 rfl
        have hcz11_1 := cz_ BK105.out 1 rfl
        have hcz11_2 := cz_ BK105.out 2 rfl
        have hcz11_3 := cz_ BK105.out 3 rfl
        have hcz11_4 := cz_ BK105.out 4 rfl
        have hcz11_5 := cz_ BK105.out 5 rfl
        have hcz11_6 := cz_ BK105.out 6 rfl
        have hcz11_7 := cz_ BK105.out 7 rfl
        have hcz11_8 := cz_ BK105.out 8 rfl
        have hfz11_0 := blk_frozen BK105.out 0
        have hfz11_1 := blk_frozen BK105.out 1
        have hfz11_2 := blk_frozen BK105.out 2
        have hfz11_3 := blk_frozen BK105.out 3
        have hfz11_4 := blk_frozen BK105.out 4
        have hfz11_5 := blk_frozen BK105.out 5
        have hfz11_6 := blk_frozen BK105.out 6
        have hfz11_7 := blk_frozen BK105.out 7
        have hfz11_8 := blk_frozen BK105.out 8
        go_wp2_with (first | (go_at_call 26; (with_reducible refine (paper_IsID.calls k a0_0 true _ A4.out).mono ?_); rintro e w' ⟨rfl, ⟨nd, rfl⟩⟩; (try first | exact ⟨rfl, _, World.drewN_drewN _ _ _⟩ | exact ⟨rfl, _, Eq.trans (World.drewN_drewN _ _ _) (congrArg (World.drewN _) (Nat.add_assoc _ _ _))⟩)))
        repeat (go_quiet (first | (go_at_call 26; (with_reducible refine (paper_IsID.calls k a0_0 true _ A4.out).mono ?_); rintro e w' ⟨rfl, ⟨nd, rfl⟩⟩; (try first | exact ⟨rfl, _, World.drewN_drewN _ _ _⟩ | exact ⟨rfl, _, Eq.trans (World.drewN_drewN _ _ _) (congrArg (World.drewN _) (Nat.add_assoc _ _ _))⟩))); try go_wp2_with (first | (go_at_call 26; (with_reducible refine (paper_IsID.calls k a0_0 true _ A4.out).mono ?_); rintro e w' ⟨rfl, ⟨nd, rfl⟩⟩; (try first | exact ⟨rfl, _, World.drewN_drewN _ _ _⟩ | exact ⟨rfl, _, Eq.trans (World.drewN_drewN _ _ _) (congrArg (World.drewN _) (Nat.add_assoc _ _ _))⟩))))
        go_meet
        case rel => exact ⟨_, (decide (a0_3 ≤ 12)), (Zchartularylaw19_right.z0), H', ⟨Zchartularylaw19_right.z4⟩, ⟨by (with_reducible repeat (first | refine blk_drewN ?_ _ | refine blk_drew ?_ | refine blk_alloc ?_ _)); exact BK105.out⟩, ⟨by repeat (first | (with_reducible first | exact HB.out | apply below_alloc | apply pw_below_drewN | apply below_drew1 | refine below_set ?_ GE105.out) | exact HB.out)⟩⟩
       ·rw [if_neg c10] at H
        have c10b0 : decide (1 ≤ a0_3) = false := decide_eq_false c10
        clear c10
        have H' := Aside0.mk H
        clear H
        have hcz12_0 := cz_ BK105.out 0 rfl
        have hcz12_1 := cz_ BK105.out 1 rfl
        have hcz12_2 := cz_ BK105.out 2 rfl
        have hcz12_3 := cz_ BK105.out 3 rfl
        have hcz12_4 := cz_ BK105.out 4 rfl
        have hcz12_5 := cz_ BK105.out 5 rfl
        have hcz12_6 := cz_ BK105.out 6 rfl
        have hcz12_7 := cz_ BK105.out 7 rfl
        have hcz12_8 := cz_ BK105.out 8 rfl
        have hfz12_0 := blk_frozen BK105.out 0
        have hfz12_1 := blk_frozen BK105.out 1
        have hfz12_2 := blk_frozen BK105.out 2
        have hfz12_3 := blk_frozen BK105.out 3
        have hfz12_4 := blk_frozen BK105.out 4
        have hfz12_5 := blk_frozen BK105.out 5
        have hfz12_6 := blk_frozen BK105.out 6
        have hfz12_7 := blk_frozen BK105.out 7
        have hfz12_8 := blk_frozen BK105.out 8
        go_wp2_with (first | (go_at_call 26; (with_reducible refine (paper_IsID.calls k a0_0 true _ A4.out).mono ?_); rintro e w' ⟨rfl, ⟨nd, rfl⟩⟩; (try first | exact ⟨rfl, _, World.drewN_drewN _ _ _⟩ | exact ⟨rfl, _, Eq.trans (World.drewN_drewN _ _ _) (congrArg (World.drewN _) (Nat.add_assoc _ _ _))⟩)))
        repeat (go_quiet (first | (go_at_call 26; (with_reducible refine (paper_IsID.calls k a0_0 true _ A4.out).mono ?_); rintro e w' ⟨rfl, ⟨nd, rfl⟩⟩; (try first | exact ⟨rfl, _, World.drewN_drewN _ _ _⟩ | exact ⟨rfl, _, Eq.trans (World.drewN_drewN _ _ _) (congrArg (World.drewN _) (Nat.add_assoc _ _ _))⟩))); try go_wp2_with (first | (go_at_call 26; (with_reducible refine (paper_IsID.calls k a0_0 true _ A4.out).mono ?_); rintro e w' ⟨rfl, ⟨nd, rfl⟩⟩; (try first | exact ⟨rfl, _, World.drewN_drewN _ _ _⟩ | exact ⟨rfl, _, Eq.trans (World.drewN_drewN _ _ _) (congrArg (World.drewN _) (Nat.add_assoc _ _ _))⟩))))
        go_meet
        case rel => exact ⟨_, (false), (Zchartularylaw19_right.z0), H', ⟨Zchartularylaw19_right.z4⟩, ⟨by (with_reducible repeat (first | refine blk_drewN ?_ _ | refine blk_drew ?_ | refine blk_alloc ?_ _)); exact BK105.out⟩, ⟨by repeat (first | (with_reducible first | exact HB.out | apply below_alloc | apply pw_below_drewN | apply below_drew1 | refine below_set ?_ GE105.out) | exact HB.out)⟩⟩
      ·rw [if_neg c9] at H
       have c9b0 : decide (a0_2 ≤ 1099511627776) = false := decide_eq_false c9
       clear c9
       have H' := Aside0.mk H
       clear H
       have hcz13_0 := cz_ BK105.out 0 rfl
       have hcz13_1 := cz_ BK105.out 1 rfl
       have hcz13_2 := cz_ BK105.out 2 rfl
       have hcz13_3 := cz_ BK105.out 3 rfl
       have hcz13_4 := cz_ BK105.out 4 rfl
       have hcz13_5 := cz_ BK105.out 5 rfl
       have hcz13_6 := cz_ BK105.out 6 rfl
       have hcz13_7 := cz_ BK105.out 7 rfl
       have hcz13_8 := cz_ BK105.out 8 rfl
       have hfz13_0 := blk_frozen BK105.out 0
       have hfz13_1 := blk_frozen BK105.out 1
       have hfz13_2 := blk_frozen BK105.out 2
       have hfz13_3 := blk_frozen BK105.out 3
       have hfz13_4 := blk_frozen BK105.out 4
       have hfz13_5 := blk_frozen BK105.out 5
       have hfz13_6 := blk_frozen BK105.out 6
       have hfz13_7 := blk_frozen BK105.out 7
       have hfz13_8 := blk_frozen BK105.out 8
       go_wp2_with (first | (go_at_call 26; (with_reducible refine (paper_IsID.calls k a0_0 true _ A4.out).mono ?_); rintro e w' ⟨rfl, ⟨nd, rfl⟩⟩; (try first | exact ⟨rfl, _, World.drewN_drewN _ _ _⟩ | exact ⟨rfl, _, Eq.trans (World.drewN_drewN _ _ _) (congrArg (World.drewN _) (Nat.add_assoc _ _ _))⟩)))
       repeat (go_quiet (first | (go_at_call 26; (with_reducible refine (paper_IsID.calls k a0_0 true _ A4.out).mono ?_); rintro e w' ⟨rfl, ⟨nd, rfl⟩⟩; (try first | exact ⟨rfl, _, World.drewN_drewN _ _ _⟩ | exact ⟨rfl, _, Eq.trans (World.drewN_drewN _ _ _) (congrArg (World.drewN _) (Nat.add_assoc _ _ _))⟩))); try go_wp2_with (first | (go_at_call 26; (with_reducible refine (paper_IsID.calls k a0_0 true _ A4.out).mono ?_); rintro e w' ⟨rfl, ⟨nd, rfl⟩⟩; (try first | exact ⟨rfl, _, World.drewN_drewN _ _ _⟩ | exact ⟨rfl, _, Eq.trans (World.drewN_drewN _ _ _) (congrArg (World.drewN _) (Nat.add_assoc _ _ _))⟩))))
       go_meet
       case rel => exact ⟨_, (false), (Zchartularylaw19_right.z0), H', ⟨Zchartularylaw19_right.z4⟩, ⟨by (with_reducible repeat (first | refine blk_drewN ?_ _ | refine blk_drew ?_ | refine blk_alloc ?_ _)); exact BK105.out⟩, ⟨by repeat (first | (with_reducible first | exact HB.out | apply below_alloc | apply pw_below_drewN | apply below_drew1 | refine below_set ?_ GE105.out) | exact HB.out)⟩⟩
     ·rw [if_neg c8] at H
      have c8b0 : decide (0 ≤ a0_2) = false := decide_eq_false c8
      clear c8
      have H' := Aside0.mk H
      clear H
      have hcz14_0 := cz_ BK105.out 0 rfl
      have hcz14_1 := cz_ BK105.out 1 rfl
      have hcz14_2 := cz_ BK105.out 2 rfl
      have hcz14_3 := cz_ BK105.out 3 rfl
      have hcz14_4 := cz_ BK105.out 4 rfl
      have hcz14_5 := cz_ BK105.out 5 rfl
      have hcz14_6 := cz_ BK105.out 6 rfl
      have hcz14_7 := cz_ BK105.out 7 rfl
      have hcz14_8 := cz_ BK105.out 8 rfl
      have hfz14_0 := blk_frozen BK105.out 0
      have hfz14_1 := blk_frozen BK105.out 1
      have hfz14_2 := blk_frozen BK105.out 2
      have hfz14_3 := blk_frozen BK105.out 3
      have hfz14_4 := blk_frozen BK105.out 4
      have hfz14_5 := blk_frozen BK105.out 5
      have hfz14_6 := blk_frozen BK105.out 6
      have hfz14_7 := blk_frozen BK105.out 7
      have hfz14_8 := blk_frozen BK105.out 8
      go_wp2_with (first | (go_at_call 26; (with_reducible refine (paper_IsID.calls k a0_0 true _ A4.out).mono ?_); rintro e w' ⟨rfl, ⟨nd, rfl⟩⟩; (try first | exact ⟨rfl, _, World.drewN_drewN _ _ _⟩ | exact ⟨rfl, _, Eq.trans (World.drewN_drewN _ _ _) (congrArg (World.drewN _) (Nat.add_assoc _ _ _))⟩)))
      repeat (go_quiet (first | (go_at_call 26; (with_reducible refine (paper_IsID.calls k a0_0 true _ A4.out).mono ?_); rintro e w' ⟨rfl, ⟨nd, rfl⟩⟩; (try first | exact ⟨rfl, _, World.drewN_drewN _ _ _⟩ | exact ⟨rfl, _, Eq.trans (World.drewN_drewN _ _ _) (congrArg (World.drewN _) (Nat.add_assoc _ _ _))⟩))); try go_wp2_with (first | (go_at_call 26; (with_reducible refine (paper_IsID.calls k a0_0 true _ A4.out).mono ?_); rintro e w' ⟨rfl, ⟨nd, rfl⟩⟩; (try first | exact ⟨rfl, _, World.drewN_drewN _ _ _⟩ | exact ⟨rfl, _, Eq.trans (World.drewN_drewN _ _ _) (congrArg (World.drewN _) (Nat.add_assoc _ _ _))⟩))))
      go_meet
      case rel => exact ⟨_, (false), (Zchartularylaw19_right.z0), H', ⟨Zchartularylaw19_right.z4⟩, ⟨by (with_reducible repeat (first | refine blk_drewN ?_ _ | refine blk_drew ?_ | refine blk_alloc ?_ _)); exact BK105.out⟩, ⟨by repeat (first | (with_reducible first | exact HB.out | apply below_alloc | apply pw_below_drewN | apply below_drew1 | refine below_set ?_ GE105.out) | exact HB.out)⟩⟩
    ·rw [if_neg c7] at H
     have c7b0 : decide (a0_1 ≤ 7) = false := decide_eq_false c7
     clear c7
     have H' := Aside0.mk H
     clear H
     have hcz15_0 := cz_ BK105.out 0 rfl
     have hcz15_1 := cz_ BK105.out 1 rfl
     have hcz15_2 := cz_ BK105.out 2 rfl
     have hcz15_3 := cz_ BK105.out 3 rfl
     have hcz15_4 := cz_ BK105.out 4 rfl
     have hcz15_5 := cz_ BK105.out 5 rfl
     have hcz15_6 := cz_ BK105.out 6 rfl
     have hcz15_7 := cz_ BK105.out 7 rfl
     have hcz15_8 := cz_ BK105.out 8 rfl
     have hfz15_0 := blk_frozen BK105.out 0
     have hfz15_1 := blk_frozen BK105.out 1
     have hfz15_2 := blk_frozen BK105.out 2
     have hfz15_3 := blk_frozen BK105.out 3
     have hfz15_4 := blk_frozen BK105.out 4
     have hfz15_5 := blk_frozen BK105.out 5
     have hfz15_6 := blk_frozen BK105.out 6
     have hfz15_7 := blk_frozen BK105.out 7
     have hfz15_8 := blk_frozen BK105.out 8
     go_wp2_with (first | (go_at_call 26; (with_reducible refine (paper_IsID.calls k a0_0 true _ A4.out).mono ?_); rintro e w' ⟨rfl, ⟨nd, rfl⟩⟩; (try first | exact ⟨rfl, _, World.drewN_drewN _ _ _⟩ | exact ⟨rfl, _, Eq.trans (World.drewN_drewN _ _ _) (congrArg (World.drewN _) (Nat.add_assoc _ _ _))⟩)))
     repeat (go_quiet (first | (go_at_call 26; (with_reducible refine (paper_IsID.calls k a0_0 true _ A4.out).mono ?_); rintro e w' ⟨rfl, ⟨nd, rfl⟩⟩; (try first | exact ⟨rfl, _, World.drewN_drewN _ _ _⟩ | exact ⟨rfl, _, Eq.trans (World.drewN_drewN _ _ _) (congrArg (World.drewN _) (Nat.add_assoc _ _ _))⟩))); try go_wp2_with (first | (go_at_call 26; (with_reducible refine (paper_IsID.calls k a0_0 true _ A4.out).mono ?_); rintro e w' ⟨rfl, ⟨nd, rfl⟩⟩; (try first | exact ⟨rfl, _, World.drewN_drewN _ _ _⟩ | exact ⟨rfl, _, Eq.trans (World.drewN_drewN _ _ _) (congrArg (World.drewN _) (Nat.add_assoc _ _ _))⟩))))
     go_meet
     case rel => exact ⟨_, (false), (Zchartularylaw19_right.z0), H', ⟨Zchartularylaw19_right.z4⟩, ⟨by (with_reducible repeat (first | refine blk_drewN ?_ _ | refine blk_drew ?_ | refine blk_alloc ?_ _)); exact BK105.out⟩, ⟨by repeat (first | (with_reducible first | exact HB.out | apply below_alloc | apply pw_below_drewN | apply below_drew1 | refine below_set ?_ GE105.out) | exact HB.out)⟩⟩
   ·rw [if_neg c6] at H
    have c6b0 : decide (0 ≤ a0_1) = false := decide_eq_false c6
    clear c6
    (first | rw [c6b0] | (simp only [i64_w, i32_w]; rw [c6b0]) | skip)
    have H' := Aside0.mk H
    clear H
    have hcz16_0 := cz_ BK105.out 0 rfl
    have hcz16_1 := cz_ BK105.out 1 rfl
    have hcz16_2 := cz_ BK105.out 2 rfl
    have hcz16_3 := cz_ BK105.out 3 rfl
    have hcz16_4 := cz_ BK105.out 4 rfl
    have hcz16_5 := cz_ BK105.out 5 rfl
    have hcz16_6 := cz_ BK105.out 6 rfl
    have hcz16_7 := cz_ BK105.out 7 rfl
    have hcz16_8 := cz_ BK105.out 8 rfl
    have hfz16_0 := blk_frozen BK105.out 0
    have hfz16_1 := blk_frozen BK105.out 1
    have hfz16_2 := blk_frozen BK105.out 2
    have hfz16_3 := blk_frozen BK105.out 3
    have hfz16_4 := blk_frozen BK105.out 4
    have hfz16_5 := blk_frozen BK105.out 5
    have hfz16_6 := blk_frozen BK105.out 6
    have hfz16_7 := blk_frozen BK105.out 7
    have hfz16_8 := blk_frozen BK105.out 8
    go_wp2_with (first | (go_at_call 26; (with_reducible refine (paper_IsID.calls k a0_0 true _ A4.out).mono ?_); rintro e w' ⟨rfl, ⟨nd, rfl⟩⟩; (try first | exact ⟨rfl, _, World.drewN_drewN _ _ _⟩ | exact ⟨rfl, _, Eq.trans (World.drewN_drewN _ _ _) (congrArg (World.drewN _) (Nat.add_assoc _ _ _))⟩)))
    repeat (go_quiet (first | (go_at_call 26; (with_reducible refine (paper_IsID.calls k a0_0 true _ A4.out).mono ?_); rintro e w' ⟨rfl, ⟨nd, rfl⟩⟩; (try first | exact ⟨rfl, _, World.drewN_drewN _ _ _⟩ | exact ⟨rfl, _, Eq.trans (World.drewN_drewN _ _ _) (congrArg (World.drewN _) (Nat.add_assoc _ _ _))⟩))); try go_wp2_with (first | (go_at_call 26; (with_reducible refine (paper_IsID.calls k a0_0 true _ A4.out).mono ?_); rintro e w' ⟨rfl, ⟨nd, rfl⟩⟩; (try first | exact ⟨rfl, _, World.drewN_drewN _ _ _⟩ | exact ⟨rfl, _, Eq.trans (World.drewN_drewN _ _ _) (congrArg (World.drewN _) (Nat.add_assoc _ _ _))⟩))))
    go_meet
    case rel => exact ⟨_, (false), (Zchartularylaw19_right.z0), H', ⟨Zchartularylaw19_right.z4⟩, ⟨by (with_reducible repeat (first | refine blk_drewN ?_ _ | refine blk_drew ?_ | refine blk_alloc ?_ _)); exact BK105.out⟩, ⟨by repeat (first | (with_reducible first | exact HB.out | apply below_alloc | apply pw_below_drewN | apply below_drew1 | refine below_set ?_ GE105.out) | exact HB.out)⟩⟩
  ·replace c5 := Bool.eq_false_iff.mpr c5
   subst c5
   have H1 : (chartularylaw19_right.j0 k false a0_0 a0_1 a0_2 a0_3 l0_4 l0_5 a0_6 a0_7 l0_8) = some r := by rw [if_neg (show ¬ (false = true) by decide)] at H; exact H
   clear H
   have H := H1
   clear H1
   have H' := Aside0.mk H
   clear H
   have hcz17_0 := cz_ BK105.out 0 rfl
   have hcz17_1 := cz_ BK105.out 1 rfl
   have hcz17_2 := cz_ BK105.out 2 rfl
   have hcz17_3 := cz_ BK105.out 3 rfl
   have hcz17_4 := cz_ BK105.out 4 rfl
   have hcz17_5 := cz_ BK105.out 5 rfl
   have hcz17_6 := cz_ BK105.out 6 rfl
   have hcz17_7 := cz_ BK105.out 7 rfl
   have hcz17_8 := cz_ BK105.out 8 rfl
   have hfz17_0 := blk_frozen BK105.out 0
   have hfz17_1 := blk_frozen BK105.out 1
   have hfz17_2 := blk_frozen BK105.out 2
   have hfz17_3 := blk_frozen BK105.out 3
   have hfz17_4 := blk_frozen BK105.out 4
   have hfz17_5 := blk_frozen BK105.out 5
   have hfz17_6 := blk_frozen BK105.out 6
   have hfz17_7 := blk_frozen BK105.out 7
   have hfz17_8 := blk_frozen BK105.out 8
   go_wp2_with (first | (go_at_call 26; (with_reducible refine (paper_IsID.calls k a0_0 false _ A4.out).mono ?_); rintro e w' ⟨rfl, ⟨nd, rfl⟩⟩; (try first | exact ⟨rfl, _, World.drewN_drewN _ _ _⟩ | exact ⟨rfl, _, Eq.trans (World.drewN_drewN _ _ _) (congrArg (World.drewN _) (Nat.add_assoc _ _ _))⟩)))
   repeat (go_quiet (first | (go_at_call 26; (with_reducible refine (paper_IsID.calls k a0_0 false _ A4.out).mono ?_); rintro e w' ⟨rfl, ⟨nd, rfl⟩⟩; (try first | exact ⟨rfl, _, World.drewN_drewN _ _ _⟩ | exact ⟨rfl, _, Eq.trans (World.drewN_drewN _ _ _) (congrArg (World.drewN _) (Nat.add_assoc _ _ _))⟩))); try go_wp2_with (first | (go_at_call 26; (with_reducible refine (paper_IsID.calls k a0_0 false _ A4.out).mono ?_); rintro e w' ⟨rfl, ⟨nd, rfl⟩⟩; (try first | exact ⟨rfl, _, World.drewN_drewN _ _ _⟩ | exact ⟨rfl, _, Eq.trans (World.drewN_drewN _ _ _) (congrArg (World.drewN _) (Nat.add_assoc _ _ _))⟩))))
   go_meet
   case rel => exact ⟨_, (false), (Zchartularylaw19_right.z0), H', ⟨Zchartularylaw19_right.z4⟩, ⟨by (with_reducible repeat (first | refine blk_drewN ?_ _ | refine blk_drew ?_ | refine blk_alloc ?_ _)); exact BK105.out⟩, ⟨by repeat (first | (with_reducible first | exact HB.out | apply below_alloc | apply pw_below_drewN | apply below_drew1 | refine below_set ?_ GE105.out) | exact HB.out)⟩⟩
 case rest =>
  clear HC2
  try clear c1
  try clear p2
  try clear c5
  try clear c6
  try clear c6b0
  try clear c7
  try clear c7b0
  try clear c8
  try clear c8b0
  try clear c9
  try clear c9b0
  try clear c10
  try clear c10b0
  try clear hcz11_0
  try clear hcz11_1
  try clear hcz11_2
  try clear hcz11_3
  try clear hcz11_4
  try clear hcz11_5
  try clear hcz11_6
  try clear hcz11_7
  try clear hcz11_8
  try clear hcz12_0
  try clear hcz12_1
  try clear hcz12_2
  try clear hcz12_3
  try clear hcz12_4
  try clear hcz12_5
  try clear hcz12_6
  try clear hcz12_7
  try clear hcz12_8
  try clear hcz13_0
  try clear hcz13_1
  try clear hcz13_2
  try clear hcz13_3
  try clear hcz13_4
  try clear hcz13_5
  try clear hcz13_6
  try clear hcz13_7
  try clear hcz13_8
  try clear hcz14_0
  try clear hcz14_1
  try clear hcz14_2
  try clear hcz14_3
  try clear hcz14_4
  try clear hcz14_5
  try clear hcz14_6
  try clear hcz14_7
  try clear hcz14_8
  try clear hcz15_0
  try clear hcz15_1
  try clear hcz15_2
  try clear hcz15_3
  try clear hcz15_4
  try clear hcz15_5
  try clear hcz15_6
  try clear hcz15_7
  try clear hcz15_8
  try clear hcz16_0
  try clear hcz16_1
  try clear hcz16_2
  try clear hcz16_3
  try clear hcz16_4
  try clear hcz16_5
  try clear hcz16_6
  try clear hcz16_7
  try clear hcz16_8
  try clear hcz17_0
  try clear hcz17_1
  try clear hcz17_2
  try clear hcz17_3
  try clear hcz17_4
  try clear hcz17_5
  try clear hcz17_6
  try clear hcz17_7
  try clear hcz17_8
  try clear hfz11_0
  try clear hfz11_1
  try clear hfz11_2
  try clear hfz11_3
  try clear hfz11_4
  try clear hfz11_5
  try clear hfz11_6
  try clear hfz11_7
  try clear hfz11_8
  try clear hfz12_0
  try clear hfz12_1
  try clear hfz12_2
  try clear hfz12_3
  try clear hfz12_4
  try clear hfz12_5
  try clear hfz12_6
  try clear hfz12_7
  try clear hfz12_8
  try clear hfz13_0
  try clear hfz13_1
  try clear hfz13_2
  try clear hfz13_3
  try clear hfz13_4
  try clear hfz13_5
  try clear hfz13_6
  try clear hfz13_7
  try clear hfz13_8
  try clear hfz14_0
  try clear hfz14_1
  try clear hfz14_2
  try clear hfz14_3
  try clear hfz14_4
  try clear hfz14_5
  try clear hfz14_6
  try clear hfz14_7
  try clear hfz14_8
  try clear hfz15_0
  try clear hfz15_1
  try clear hfz15_2
  try clear hfz15_3
  try clear hfz15_4
  try clear hfz15_5
  try clear hfz15_6
  try clear hfz15_7
  try clear hfz15_8
  try clear hfz16_0
  try clear hfz16_1
  try clear hfz16_2
  try clear hfz16_3
  try clear hfz16_4
  try clear hfz16_5
  try clear hfz16_6
  try clear hfz16_7
  try clear hfz16_8
  try clear hfz17_0
  try clear hfz17_1
  try clear hfz17_2
  try clear hfz17_3
  try clear hfz17_4
  try clear hfz17_5
  try clear hfz17_6
  try clear hfz17_7
  try clear hfz17_8
  obtain ⟨kq, x3_1, rfl, HA, HJ1, BK105, HB⟩ := hcut
  cases kq with
  | zero => exact absurd HA.out (by simp [chartularylaw19_right.j0])
  | succ kj1 =>
   have H := HA.out
   clear HA
   simp only [chartularylaw19_right.j0] at H
   have HC18 := Aside0.mk H
   clear H
   go_upto_region 2 with (fail)
   repeat (go_quiet (fail); go_upto_region 2 with (fail))
   go_cut [3] (fun v3 wc => ∃ (kq : Nat) (x3_17 : Bool), v3 = .bool x3_17 ∧ Aside0 (chartularylaw19_right.j1 kq x3_17 a0_0 a0_1 a0_2 a0_3 l0_4 l0_5 a0_6 a0_7 l0_8 = some r) ∧ Aside0 (kq ≤ kj1) ∧ Aside0 (wc.heap[gb105]? = some (.cells #[.string a0_0, .int .i64 a0_1, .int .i64 a0_2, .int .i64 a0_3, (.slice A0_4 l0_4.length c0_4), (.slice A0_5 l0_5.length c0_5), .int .i64 a0_6, .int .i64 a0_7, (.slice A0_8 l0_8.length c0_8)] 25 (0, 0))) ∧ Aside0 (Below w.heap.size w wc))
   case first =>
    have H := HC18.out
    clear HC18
    by_cases c19 : x3_1 = true
    ·subst c19
     have H1 : (if a0_7 ≥ 1 then (if a0_7 ≤ 65536 then (if a0_6 ≥ 0 then (if a0_6 < a0_7 then (if (l0_4.length : Int) ≥ 1 then (chartularylaw19_right.j1 kj1 (decide ((l0_4.length : Int) ≤ a0_3)) a0_0 a0_1 a0_2 a0_3 l0_4 l0_5 a0_6 a0_7 l0_8) else (chartularylaw19_right.j1 kj1 false a0_0 a0_1 a0_2 a0_3 l0_4 l0_5 a0_6 a0_7 l0_8)) else (chartularylaw19_right.j1 kj1 false a0_0 a0_1 a0_2 a0_3 l0_4 l0_5 a0_6 a0_7 l0_8)) else (chartularylaw19_right.j1 kj1 false a0_0 a0_1 a0_2 a0_3 l0_4 l0_5 a0_6 a0_7 l0_8)) else (chartularylaw19_right.j1 kj1 false a0_0 a0_1 a0_2 a0_3 l0_4 l0_5 a0_6 a0_7 l0_8)) else (chartularylaw19_right.j1 kj1 false a0_0 a0_1 a0_2 a0_3 l0_4 l0_5 a0_6 a0_7 l0_8)) = some r := by rw [if_pos rfl] at H; exact H
     clear H
     have H := H1
     clear H1
     by_cases c20 : a0_7 ≥ 1
     ·rw [if_pos c20] at H
      have c20b0 : decide (1 ≤ a0_7) = true := decide_eq_true c20
      clear c20
      (first | rw [c20b0] | (simp only [i64_w, i32_w]; rw [c20b0]) | skip)
      by_cases c21 : a0_7 ≤ 65536
      ·rw [if_pos c21] at H
       have c21b0 : decide (a0_7 ≤ 65536) = true := decide_eq_true c21
       clear c21
       by_cases c22 : a0_6 ≥ 0
       ·rw [if_pos c22] at H
        have c22b0 : decide (0 ≤ a0_6) = true := decide_eq_true c22
        clear c22
        by_cases c23 : a0_6 < a0_7
        ·rw [if_pos c23] at H
         have c23b0 : decide (a0_6 < a0_7) = true := decide_eq_true c23
         clear c23
         by_cases c24 : (l0_4.length : Int) ≥ 1
         ·rw [if_pos c24] at H
          have c24b0 : decide (1 ≤ (l0_4.length : Int)) = true := decide_eq_true c24
          have c24b1 : decide (1 ≤ l0_4.length) = true := decide_eq_true (by omega)
          clear c24
          have H' := Aside0.mk H
          clear H
          have hcz25_0 := cz_ BK105.out 0 rfl
          have hcz25_1 := cz_ BK105.out 1 rfl
          have hcz25_2 := cz_ BK105.out 2 rfl
          have hcz25_3 := cz_ BK105.out 3 rfl
          have hcz25_4 := cz_ BK105.out 4 rfl
          have hcz25_5 := cz_ BK105.out 5 rfl
          have hcz25_6 := cz_ BK105.out 6 rfl
          have hcz25_7 := cz_ BK105.out 7 rfl
          have hcz25_8 := cz_ BK105.out 8 rfl
          have hfz25_0 := blk_frozen BK105.out 0
          have hfz25_1 := blk_frozen BK105.out 1
          have hfz25_2 := blk_frozen BK105.out 2
          have hfz25_3 := blk_frozen BK105.out 3
          have hfz25_4 := blk_frozen BK105.out 4
          have hfz25_5 := blk_frozen BK105.out 5
          have hfz25_6 := blk_frozen BK105.out 6
          have hfz25_7 := blk_frozen BK105.out 7
          have hfz25_8 := blk_frozen BK105.out 8
          go_wp2
          repeat (go_quiet (fail); try go_wp2)
          go_meet
          case rel => exact ⟨_, (decide ((l0_4.length : Int) ≤ a0_3)), (Zchartularylaw19_right.z0), H', ⟨Zchartularylaw19_right.z5⟩, ⟨by (with_reducible repeat (first | refine blk_drewN ?_ _ | refine blk_drew ?_ | refine blk_alloc ?_ _)); exact BK105.out⟩, ⟨by repeat (first | (with_reducible first | exact HB.out | apply below_alloc | apply pw_below_drewN | apply below_drew1 | refine below_set ?_ GE105.out) | exact HB.out)⟩⟩
         ·rw [if_neg c24] at H
          have c24b0 : decide (1 ≤ (l0_4.length : Int)) = false := decide_eq_false c24
          have c24b1 : decide (1 ≤ l0_4.length) = false := decide_eq_false (by omega)
          clear c24
          have H' := Aside0.mk H
          clear H
          have hcz26_0 := cz_ BK105.out 0 rfl
          have hcz26_1 := cz_ BK105.out 1 rfl
          have hcz26_2 := cz_ BK105.out 2 rfl
          have hcz26_3 := cz_ BK105.out 3 rfl
          have hcz26_4 := cz_ BK105.out 4 rfl
          have hcz26_5 := cz_ BK105.out 5 rfl
          have hcz26_6 := cz_ BK105.out 6 rfl
          have hcz26_7 := cz_ BK105.out 7 rfl
          have hcz26_8 := cz_ BK105.out 8 rfl
          have hfz26_0 := blk_frozen BK105.out 0
          have hfz26_1 := blk_frozen BK105.out 1
          have hfz26_2 := blk_frozen BK105.out 2
          have hfz26_3 := blk_frozen BK105.out 3
          have hfz26_4 := blk_frozen BK105.out 4
          have hfz26_5 := blk_frozen BK105.out 5
          have hfz26_6 := blk_frozen BK105.out 6
          have hfz26_7 := blk_frozen BK105.out 7
          have hfz26_8 := blk_frozen BK105.out 8
          go_wp2
          repeat (go_quiet (fail); try go_wp2)
          go_meet
          case rel => exact ⟨_, (false), (Zchartularylaw19_right.z0), H', ⟨Zchartularylaw19_right.z5⟩, ⟨by (with_reducible repeat (first | refine blk_drewN ?_ _ | refine blk_drew ?_ | refine blk_alloc ?_ _)); exact BK105.out⟩, ⟨by repeat (first | (with_reducible first | exact HB.out | apply below_alloc | apply pw_below_drewN | apply below_drew1 | refine below_set ?_ GE105.out) | exact HB.out)⟩⟩
        ·rw [if_neg c23] at H
         have c23b0 : decide (a0_6 < a0_7) = false := decide_eq_false c23
         clear c23
         have H' := Aside0.mk H
         clear H
         have hcz27_0 := cz_ BK105.out 0 rfl
         have hcz27_1 := cz_ BK105.out 1 rfl
         have hcz27_2 := cz_ BK105.out 2 rfl
         have hcz27_3 := cz_ BK105.out 3 rfl
         have hcz27_4 := cz_ BK105.out 4 rfl
         have hcz27_5 := cz_ BK105.out 5 rfl
         have hcz27_6 := cz_ BK105.out 6 rfl
         have hcz27_7 := cz_ BK105.out 7 rfl
         have hcz27_8 := cz_ BK105.out 8 rfl
         have hfz27_0 := blk_frozen BK105.out 0
         have hfz27_1 := blk_frozen BK105.out 1
         have hfz27_2 := blk_frozen BK105.out 2
         have hfz27_3 := blk_frozen BK105.out 3
         have hfz27_4 := blk_frozen BK105.out 4
         have hfz27_5 := blk_frozen BK105.out 5
         have hfz27_6 := blk_frozen BK105.out 6
         have hfz27_7 := blk_frozen BK105.out 7
         have hfz27_8 := blk_frozen BK105.out 8
         go_wp2
         repeat (go_quiet (fail); try go_wp2)
         go_meet
         case rel => exact ⟨_, (false), (Zchartularylaw19_right.z0), H', ⟨Zchartularylaw19_right.z5⟩, ⟨by (with_reducible repeat (first | refine blk_drewN ?_ _ | refine blk_drew ?_ | refine blk_alloc ?_ _)); exact BK105.out⟩, ⟨by repeat (first | (with_reducible first | exact HB.out | apply below_alloc | apply pw_below_drewN | apply below_drew1 | refine below_set ?_ GE105.out) | exact HB.out)⟩⟩
       ·rw [if_neg c22] at H
        have c22b0 : decide (0 ≤ a0_6) = false := decide_eq_false c22
        clear c22
        have H' := Aside0.mk H
        clear H
        have hcz28_0 := cz_ BK105.out 0 rfl
        have hcz28_1 := cz_ BK105.out 1 rfl
        have hcz28_2 := cz_ BK105.out 2 rfl
        have hcz28_3 := cz_ BK105.out 3 rfl
        have hcz28_4 := cz_ BK105.out 4 rfl
        have hcz28_5 := cz_ BK105.out 5 rfl
        have hcz28_6 := cz_ BK105.out 6 rfl
        have hcz28_7 := cz_ BK105.out 7 rfl
        have hcz28_8 := cz_ BK105.out 8 rfl
        have hfz28_0 := blk_frozen BK105.out 0
        have hfz28_1 := blk_frozen BK105.out 1
        have hfz28_2 := blk_frozen BK105.out 2
        have hfz28_3 := blk_frozen BK105.out 3
        have hfz28_4 := blk_frozen BK105.out 4
        have hfz28_5 := blk_frozen BK105.out 5
        have hfz28_6 := blk_frozen BK105.out 6
        have hfz28_7 := blk_frozen BK105.out 7
        have hfz28_8 := blk_frozen BK105.out 8
        go_wp2
        repeat (go_quiet (fail); try go_wp2)
        go_meet
        case rel => exact ⟨_, (false), (Zchartularylaw19_right.z0), H', ⟨Zchartularylaw19_right.z5⟩, ⟨by (with_reducible repeat (first | refine blk_drewN ?_ _ | refine blk_drew ?_ | refine blk_alloc ?_ _)); exact BK105.out⟩, ⟨by repeat (first | (with_reducible first | exact HB.out | apply below_alloc | apply pw_below_drewN | apply below_drew1 | refine below_set ?_ GE105.out) | exact HB.out)⟩⟩
      ·rw [if_neg c21] at H
       have c21b0 : decide (a0_7 ≤ 65536) = false := decide_eq_false c21
       clear c21
       have H' := Aside0.mk H
       clear H
       have hcz29_0 := cz_ BK105.out 0 rfl
       have hcz29_1 := cz_ BK105.out 1 rfl
       have hcz29_2 := cz_ BK105.out 2 rfl
       have hcz29_3 := cz_ BK105.out 3 rfl
       have hcz29_4 := cz_ BK105.out 4 rfl
       have hcz29_5 := cz_ BK105.out 5 rfl
       have hcz29_6 := cz_ BK105.out 6 rfl
       have hcz29_7 := cz_ BK105.out 7 rfl
       have hcz29_8 := cz_ BK105.out 8 rfl
       have hfz29_0 := blk_frozen BK105.out 0
       have hfz29_1 := blk_frozen BK105.out 1
       have hfz29_2 := blk_frozen BK105.out 2
       have hfz29_3 := blk_frozen BK105.out 3
       have hfz29_4 := blk_frozen BK105.out 4
       have hfz29_5 := blk_frozen BK105.out 5
       have hfz29_6 := blk_frozen BK105.out 6
       have hfz29_7 := blk_frozen BK105.out 7
       have hfz29_8 := blk_frozen BK105.out 8
       go_wp2
       repeat (go_quiet (fail); try go_wp2)
       go_meet
       case rel => exact ⟨_, (false), (Zchartularylaw19_right.z0), H', ⟨Zchartularylaw19_right.z5⟩, ⟨by (with_reducible repeat (first | refine blk_drewN ?_ _ | refine blk_drew ?_ | refine blk_alloc ?_ _)); exact BK105.out⟩, ⟨by repeat (first | (with_reducible first | exact HB.out | apply below_alloc | apply pw_below_drewN | apply below_drew1 | refine below_set ?_ GE105.out) | exact HB.out)⟩⟩
     ·rw [if_neg c20] at H
      have c20b0 : decide (1 ≤ a0_7) = false := decide_eq_false c20
      clear c20
      (first | rw [c20b0] | (simp only [i64_w, i32_w]; rw [c20b0]) | skip)
      have H' := Aside0.mk H
      clear H
      have hcz30_0 := cz_ BK105.out 0 rfl
      have hcz30_1 := cz_ BK105.out 1 rfl
      have hcz30_2 := cz_ BK105.out 2 rfl
      have hcz30_3 := cz_ BK105.out 3 rfl
      have hcz30_4 := cz_ BK105.out 4 rfl
      have hcz30_5 := cz_ BK105.out 5 rfl
      have hcz30_6 := cz_ BK105.out 6 rfl
      have hcz30_7 := cz_ BK105.out 7 rfl
      have hcz30_8 := cz_ BK105.out 8 rfl
      have hfz30_0 := blk_frozen BK105.out 0
      have hfz30_1 := blk_frozen BK105.out 1
      have hfz30_2 := blk_frozen BK105.out 2
      have hfz30_3 := blk_frozen BK105.out 3
      have hfz30_4 := blk_frozen BK105.out 4
      have hfz30_5 := blk_frozen BK105.out 5
      have hfz30_6 := blk_frozen BK105.out 6
      have hfz30_7 := blk_frozen BK105.out 7
      have hfz30_8 := blk_frozen BK105.out 8
      go_wp2
      repeat (go_quiet (fail); try go_wp2)
      go_meet
      case rel => exact ⟨_, (false), (Zchartularylaw19_right.z0), H', ⟨Zchartularylaw19_right.z5⟩, ⟨by (with_reducible repeat (first | refine blk_drewN ?_ _ | refine blk_drew ?_ | refine blk_alloc ?_ _)); exact BK105.out⟩, ⟨by repeat (first | (with_reducible first | exact HB.out | apply below_alloc | apply pw_below_drewN | apply below_drew1 | refine below_set ?_ GE105.out) | exact HB.out)⟩⟩
    ·replace c19 := Bool.eq_false_iff.mpr c19
     subst c19
     have H1 : (chartularylaw19_right.j1 kj1 false a0_0 a0_1 a0_2 a0_3 l0_4 l0_5 a0_6 a0_7 l0_8) = some r := by rw [if_neg (show ¬ (false = true) by decide)] at H; exact H
     clear H
     have H := H1
     clear H1
     have H' := Aside0.mk H
     clear H
     go_wp2
     repeat (go_quiet (fail); try go_wp2)
     go_meet
     case rel => exact ⟨_, (false), (Zchartularylaw19_right.z0), H', ⟨Zchartularylaw19_right.z5⟩, ⟨by (with_reducible repeat (first | refine blk_drewN ?_ _ | refine blk_drew ?_ | refine blk_alloc ?_ _)); exact BK105.out⟩, ⟨by repeat (first | (with_reducible first | exact HB.out | apply below_alloc | apply pw_below_drewN | apply below_drew1 | refine below_set ?_ GE105.out) | exact HB.out)⟩⟩
   case rest =>
    clear HC18
    try clear c1
    try clear c2
    try clear p2
    try clear c5
    try clear c6
    try clear c6b0
    try clear c7
    try clear c7b0
    try clear c8
    try clear c8b0
    try clear c9
    try clear c9b0
    try clear c10
    try clear c10b0
    try clear c19
    try clear c20
    try clear c20b0
    try clear c21
    try clear c21b0
    try clear c22
    try clear c22b0
    try clear c23
    try clear c23b0
    try clear c24
    try clear c24b0
    try clear c24b1
    try clear hcz11_0
    try clear hcz11_1
    try clear hcz11_2
    try clear hcz11_3
    try clear hcz11_4
    try clear hcz11_5
    try clear hcz11_6
    try clear hcz11_7
    try clear hcz11_8
    try clear hcz12_0
    try clear hcz12_1
    try clear hcz12_2
    try clear hcz12_3
    try clear hcz12_4
    try clear hcz12_5
    try clear hcz12_6
    try clear hcz12_7
    try clear hcz12_8
    try clear hcz13_0
    try clear hcz13_1
    try clear hcz13_2
    try clear hcz13_3
    try clear hcz13_4
    try clear hcz13_5
    try clear hcz13_6
    try clear hcz13_7
    try clear hcz13_8
    try clear hcz14_0
    try clear hcz14_1
    try clear hcz14_2
    try clear hcz14_3
    try clear hcz14_4
    try clear hcz14_5
    try clear hcz14_6
    try clear hcz14_7
    try clear hcz14_8
    try clear hcz15_0
    try clear hcz15_1
    try clear hcz15_2
    try clear hcz15_3
    try clear hcz15_4
    try clear hcz15_5
    try clear hcz15_6
    try clear hcz15_7
    try clear hcz15_8
    try clear hcz16_0
    try clear hcz16_1
    try clear hcz16_2
    try clear hcz16_3
    try clear hcz16_4
    try clear hcz16_5
    try clear hcz16_6
    try clear hcz16_7
    try clear hcz16_8
    try clear hcz17_0
    try clear hcz17_1
    try clear hcz17_2
    try clear hcz17_3
    try clear hcz17_4
    try clear hcz17_5
    try clear hcz17_6
    try clear hcz17_7
    try clear hcz17_8
    try clear hcz25_0
    try clear hcz25_1
    try clear hcz25_2
    try clear hcz25_3
    try clear hcz25_4
    try clear hcz25_5
    try clear hcz25_6
    try clear hcz25_7
    try clear hcz25_8
    try clear hcz26_0
    try clear hcz26_1
    try clear hcz26_2
    try clear hcz26_3
    try clear hcz26_4
    try clear hcz26_5
    try clear hcz26_6
    try clear hcz26_7
    try clear hcz26_8
    try clear hcz27_0
    try clear hcz27_1
    try clear hcz27_2
    try clear hcz27_3
    try clear hcz27_4
    try clear hcz27_5
    try clear hcz27_6
    try clear hcz27_7
    try clear hcz27_8
    try clear hcz28_0
    try clear hcz28_1
    try clear hcz28_2
    try clear hcz28_3
    try clear hcz28_4
    try clear hcz28_5
    try clear hcz28_6
    try clear hcz28_7
    try clear hcz28_8
    try clear hcz29_0
    try clear hcz29_1
    try clear hcz29_2
    try clear hcz29_3
    try clear hcz29_4
    try clear hcz29_5
    try clear hcz29_6
    try clear hcz29_7
    try clear hcz29_8
    try clear hcz30_0
    try clear hcz30_1
    try clear hcz30_2
    try clear hcz30_3
    try clear hcz30_4
    try clear hcz30_5
    try clear hcz30_6
    try clear hcz30_7
    try clear hcz30_8
    try clear hfz11_0
    try clear hfz11_1
    try clear hfz11_2
    try clear hfz11_3
    try clear hfz11_4
    try clear hfz11_5
    try clear hfz11_6
    try clear hfz11_7
    try clear hfz11_8
    try clear hfz12_0
    try clear hfz12_1
    try clear hfz12_2
    try clear hfz12_3
    try clear hfz12_4
    try clear hfz12_5
    try clear hfz12_6
    try clear hfz12_7
    try clear hfz12_8
    try clear hfz13_0
    try clear hfz13_1
    try clear hfz13_2
    try clear hfz13_3
    try clear hfz13_4
    try clear hfz13_5
    try clear hfz13_6
    try clear hfz13_7
    try clear hfz13_8
    try clear hfz14_0
    try clear hfz14_1
    try clear hfz14_2
    try clear hfz14_3
    try clear hfz14_4
    try clear hfz14_5
    try clear hfz14_6
    try clear hfz14_7
    try clear hfz14_8
    try clear hfz15_0
    try clear hfz15_1
    try clear hfz15_2
    try clear hfz15_3
    try clear hfz15_4
    try clear hfz15_5
    try clear hfz15_6
    try clear hfz15_7
    try clear hfz15_8
    try clear hfz16_0
    try clear hfz16_1
    try clear hfz16_2
    try clear hfz16_3
    try clear hfz16_4
    try clear hfz16_5
    try clear hfz16_6
    try clear hfz16_7
    try clear hfz16_8
    try clear hfz17_0
    try clear hfz17_1
    try clear hfz17_2
    try clear hfz17_3
    try clear hfz17_4
    try clear hfz17_5
    try clear hfz17_6
    try clear hfz17_7
    try clear hfz17_8
    try clear hfz25_0
    try clear hfz25_1
    try clear hfz25_2
    try clear hfz25_3
    try clear hfz25_4
    try clear hfz25_5
    try clear hfz25_6
    try clear hfz25_7
    try clear hfz25_8
    try clear hfz26_0
    try clear hfz26_1
    try clear hfz26_2
    try clear hfz26_3
    try clear hfz26_4
    try clear hfz26_5
    try clear hfz26_6
    try clear hfz26_7
    try clear hfz26_8
    try clear hfz27_0
    try clear hfz27_1
    try clear hfz27_2
    try clear hfz27_3
    try clear hfz27_4
    try clear hfz27_5
    try clear hfz27_6
    try clear hfz27_7
    try clear hfz27_8
    try clear hfz28_0
    try clear hfz28_1
    try clear hfz28_2
    try clear hfz28_3
    try clear hfz28_4
    try clear hfz28_5
    try clear hfz28_6
    try clear hfz28_7
    try clear hfz28_8
    try clear hfz29_0
    try clear hfz29_1
    try clear hfz29_2
    try clear hfz29_3
    try clear hfz29_4
    try clear hfz29_5
    try clear hfz29_6
    try clear hfz29_7
    try clear hfz29_8
    try clear hfz30_0
    try clear hfz30_1
    try clear hfz30_2
    try clear hfz30_3
    try clear hfz30_4
    try clear hfz30_5
    try clear hfz30_6
    try clear hfz30_7
    try clear hfz30_8
    try clear p2
    obtain ⟨kq, x3_17, rfl, HA, HJ17, BK105, HB⟩ := hcut
    cases kq with
    | zero => exact absurd HA.out (by simp [chartularylaw19_right.j1])
    | succ kj17 =>
     have H := HA.out
     clear HA
     simp only [chartularylaw19_right.j1] at H
     have H' := Aside0.mk H
     clear H
     go_wp2
     repeat (go_quiet (fail); try go_wp2)
     go_loopg [3, 4] kj17 (fun kq v3 v4 w' => ∃ (x3_3 : Bool) (x4_3 : Int), v3 = .bool x3_3 ∧ v4 = .int .i64 x4_3 ∧ Aside0 (chartularylaw19_right.l0 kq x3_3 x4_3 a0_0 a0_1 a0_2 a0_3 l0_4 l0_5 a0_6 a0_7 l0_8 = some r) ∧ Aside0 (kq ≤ kj17) ∧ Aside0 (w'.heap[gb105]? = some (.cells #[.string a0_0, .int .i64 a0_1, .int .i64 a0_2, .int .i64 a0_3, (.slice A0_4 l0_4.length c0_4), (.slice A0_5 l0_5.length c0_5), .int .i64 a0_6, .int .i64 a0_7, (.slice A0_8 l0_8.length c0_8)] 25 (0, 0))) ∧ Aside0 (Below w.heap.size w w'))
     case atStart => exact ⟨(x3_17), (0), (Zchartularylaw19_right.z0), (Zchartularylaw19_right.z0), H', ⟨Nat.le_refl _⟩, ⟨by (with_reducible repeat (first | refine blk_drewN ?_ _ | refine blk_drew ?_ | refine blk_alloc ?_ _)); exact BK105.out⟩, ⟨by repeat (first | (with_reducible first | exact HB.out | apply below_alloc | apply pw_below_drewN | apply below_drew1 | refine below_set ?_ GE105.out) | exact HB.out)⟩⟩
     case round =>
      clear H'
      try clear c1
      try clear c2
      try clear p2
      try clear c5
      try clear c6
      try clear c6b0
      try clear c7
      try clear c7b0
      try clear c8
      try clear c8b0
      try clear c9
      try clear c9b0
      try clear c10
      try clear c10b0
      try clear c19
      try clear c20
      try clear c20b0
      try clear c21
      try clear c21b0
      try clear c22
      try clear c22b0
      try clear c23
      try clear c23b0
      try clear c24
      try clear c24b0
      try clear c24b1
      try clear hcz11_0
      try clear hcz11_1
      try clear hcz11_2
      try clear hcz11_3
      try clear hcz11_4
      try clear hcz11_5
      try clear hcz11_6
      try clear hcz11_7
      try clear hcz11_8
      try clear hcz12_0
      try clear hcz12_1
      try clear hcz12_2
      try clear hcz12_3
      try clear hcz12_4
      try clear hcz12_5
      try clear hcz12_6
      try clear hcz12_7
      try clear hcz12_8
      try clear hcz13_0
      try clear hcz13_1
      try clear hcz13_2
      try clear hcz13_3
      try clear hcz13_4
      try clear hcz13_5
      try clear hcz13_6
      try clear hcz13_7
      try clear hcz13_8
      try clear hcz14_0
      try clear hcz14_1
      try clear hcz14_2
      try clear hcz14_3
      try clear hcz14_4
      try clear hcz14_5
      try clear hcz14_6
      try clear hcz14_7
      try clear hcz14_8
      try clear hcz15_0
      try clear hcz15_1
      try clear hcz15_2
      try clear hcz15_3
      try clear hcz15_4
      try clear hcz15_5
      try clear hcz15_6
      try clear hcz15_7
      try clear hcz15_8
      try clear hcz16_0
      try clear hcz16_1
      try clear hcz16_2
      try clear hcz16_3
      try clear hcz16_4
      try clear hcz16_5
      try clear hcz16_6
      try clear hcz16_7
      try clear hcz16_8
      try clear hcz17_0
      try clear hcz17_1
      try clear hcz17_2
      try clear hcz17_3
      try clear hcz17_4
      try clear hcz17_5
      try clear hcz17_6
      try clear hcz17_7
      try clear hcz17_8
      try clear hcz25_0
      try clear hcz25_1
      try clear hcz25_2
      try clear hcz25_3
      try clear hcz25_4
      try clear hcz25_5
      try clear hcz25_6
      try clear hcz25_7
      try clear hcz25_8
      try clear hcz26_0
      try clear hcz26_1
      try clear hcz26_2
      try clear hcz26_3
      try clear hcz26_4
      try clear hcz26_5
      try clear hcz26_6
      try clear hcz26_7
      try clear hcz26_8
      try clear hcz27_0
      try clear hcz27_1
      try clear hcz27_2
      try clear hcz27_3
      try clear hcz27_4
      try clear hcz27_5
      try clear hcz27_6
      try clear hcz27_7
      try clear hcz27_8
      try clear hcz28_0
      try clear hcz28_1
      try clear hcz28_2
      try clear hcz28_3
      try clear hcz28_4
      try clear hcz28_5
      try clear hcz28_6
      try clear hcz28_7
      try clear hcz28_8
      try clear hcz29_0
      try clear hcz29_1
      try clear hcz29_2
      try clear hcz29_3
      try clear hcz29_4
      try clear hcz29_5
      try clear hcz29_6
      try clear hcz29_7
      try clear hcz29_8
      try clear hcz30_0
      try clear hcz30_1
      try clear hcz30_2
      try clear hcz30_3
      try clear hcz30_4
      try clear hcz30_5
      try clear hcz30_6
      try clear hcz30_7
      try clear hcz30_8
      try clear hfz11_0
      try clear hfz11_1
      try clear hfz11_2
      try clear hfz11_3
      try clear hfz11_4
      try clear hfz11_5
      try clear hfz11_6
      try clear hfz11_7
      try clear hfz11_8
      try clear hfz12_0
      try clear hfz12_1
      try clear hfz12_2
      try clear hfz12_3
      try clear hfz12_4
      try clear hfz12_5
      try clear hfz12_6
      try clear hfz12_7
      try clear hfz12_8
      try clear hfz13_0
      try clear hfz13_1
      try clear hfz13_2
      try clear hfz13_3
      try clear hfz13_4
      try clear hfz13_5
      try clear hfz13_6
      try clear hfz13_7
      try clear hfz13_8
      try clear hfz14_0
      try clear hfz14_1
      try clear hfz14_2
      try clear hfz14_3
      try clear hfz14_4
      try clear hfz14_5
      try clear hfz14_6
      try clear hfz14_7
      try clear hfz14_8
      try clear hfz15_0
      try clear hfz15_1
      try clear hfz15_2
      try clear hfz15_3
      try clear hfz15_4
      try clear hfz15_5
      try clear hfz15_6
      try clear hfz15_7
      try clear hfz15_8
      try clear hfz16_0
      try clear hfz16_1
      try clear hfz16_2
      try clear hfz16_3
      try clear hfz16_4
      try clear hfz16_5
      try clear hfz16_6
      try clear hfz16_7
      try clear hfz16_8
      try clear hfz17_0
      try clear hfz17_1
      try clear hfz17_2
      try clear hfz17_3
      try clear hfz17_4
      try clear hfz17_5
      try clear hfz17_6
      try clear hfz17_7
      try clear hfz17_8
      try clear hfz25_0
      try clear hfz25_1
      try clear hfz25_2
      try clear hfz25_3
      try clear hfz25_4
      try clear hfz25_5
      try clear hfz25_6
      try clear hfz25_7
      try clear hfz25_8
      try clear hfz26_0
      try clear hfz26_1
      try clear hfz26_2
      try clear hfz26_3
      try clear hfz26_4
      try clear hfz26_5
      try clear hfz26_6
      try clear hfz26_7
      try clear hfz26_8
      try clear hfz27_0
      try clear hfz27_1
      try clear hfz27_2
      try clear hfz27_3
      try clear hfz27_4
      try clear hfz27_5
      try clear hfz27_6
      try clear hfz27_7
      try clear hfz27_8
      try clear hfz28_0
      try clear hfz28_1
      try clear hfz28_2
      try clear hfz28_3
      try clear hfz28_4
      try clear hfz28_5
      try clear hfz28_6
      try clear hfz28_7
      try clear hfz28_8
      try clear hfz29_0
      try clear hfz29_1
      try clear hfz29_2
      try clear hfz29_3
      try clear hfz29_4
      try clear hfz29_5
      try clear hfz29_6
      try clear hfz29_7
      try clear hfz29_8
      try clear hfz30_0
      try clear hfz30_1
      try clear hfz30_2
      try clear hfz30_3
      try clear hfz30_4
      try clear hfz30_5
      try clear hfz30_6
      try clear hfz30_7
      try clear hfz30_8
      try clear p2
      obtain ⟨x3_3, x4_3, rfl, rfl, HA, HK3, BK105, HB⟩ := hrel
      cases gk with
      | zero => exact absurd HA.out (by simp [chartularylaw19_right.l0])
      | succ k3 =>
       have H := HA.out
       clear HA
       simp only [chartularylaw19_right.l0] at H
       by_cases c31 : x4_3 < (l0_4.length : Int)
       ·rw [if_pos c31] at H
        have c31b0 : decide (x4_3 < (l0_4.length : Int)) = true := decide_eq_true c31
        clear c31
        by_cases c32 : 0 ≤ x4_3
        ·rw [if_pos c32] at H
         have c32b0 : decide (0 ≤ x4_3) = true := decide_eq_true c32
         clear c32
         have HC33 := Aside0.mk H
         clear H
         have hcz34_0 := cz_ BK105.out 0 rfl
         have hcz34_1 := cz_ BK105.out 1 rfl
         have hcz34_2 := cz_ BK105.out 2 rfl
         have hcz34_3 := cz_ BK105.out 3 rfl
         have hcz34_4 := cz_ BK105.out 4 rfl
         have hcz34_5 := cz_ BK105.out 5 rfl
         have hcz34_6 := cz_ BK105.out 6 rfl
         have hcz34_7 := cz_ BK105.out 7 rfl
         have hcz34_8 := cz_ BK105.out 8 rfl
         have hfz34_0 := blk_frozen BK105.out 0
         have hfz34_1 := blk_frozen BK105.out 1
         have hfz34_2 := blk_frozen BK105.out 2
         have hfz34_3 := blk_frozen BK105.out 3
         have hfz34_4 := blk_frozen BK105.out 4
         have hfz34_5 := blk_frozen BK105.out 5
         have hfz34_6 := blk_frozen BK105.out 6
         have hfz34_7 := blk_frozen BK105.out 7
         have hfz34_8 := blk_frozen BK105.out 8
         have p107 : 0 ≤ (x4_3 : Int) := of_decide_eq_true (Zchartularylaw19_right.z2)
         have q107 : x4_3 < (l0_4.length : Int) := of_decide_eq_true (Zchartularylaw19_right.z2)
         obtain ⟨ad107, e107, hx107_0, hx107_1, hx107_2, hx107_3, hx107_4, hx107_5⟩ := at_T50 HR0_4.out x4_3 p107 q107
         cases e107
         replace hx107_0 := (HB.out.cell (World.block_lt_of_cell? w _ hx107_0)).trans hx107_0
         replace hx107_1 := (HB.out.cell (World.block_lt_of_cell? w _ hx107_1)).trans hx107_1
         replace hx107_2 := (HB.out.cell (World.block_lt_of_cell? w _ hx107_2)).trans hx107_2
         replace hx107_3 := (HB.out.cell (World.block_lt_of_cell? w _ hx107_3)).trans hx107_3
         replace hx107_4 := (HB.out.cell (World.block_lt_of_cell? w _ hx107_4)).trans hx107_4
         replace hx107_5 := (HB.out.cell (World.block_lt_of_cell? w _ hx107_5)).trans hx107_5
         replace p107 := eq_true p107
         replace q107 := eq_true q107
         go_upto_region 7 with (first | ((with_reducible refine gate_dst (N := 5) rfl ?_); (try (refine gate_guard (by rfl) ?_; dsimp only)); refine box_event ?hg (N := 5) ?hd (cs := #[.int .i64 0, .string (⟨#[]⟩ : ByteArray), .bool false, .string (⟨#[]⟩ : ByteArray), .string (⟨#[]⟩ : ByteArray), .string (⟨#[]⟩ : ByteArray)]) (t := 50) ?hr ?_; (case hd => rfl); (case hg => rfl); (case hr => first | (go_simp; done) | (go_simp; rfl)); intro gb108 hg w35 hbox hb; have n0_ := Aside0.mk (blk_below (g := gb105) (o := .cells #[.string a0_0, .int .i64 a0_1, .int .i64 a0_2, .int .i64 a0_3, .slice (some ad107) l0_4.length c0_4, .slice A0_5 l0_5.length c0_5, .int .i64 a0_6, .int .i64 a0_7, .slice A0_8 l0_8.length c0_8] 25 (0, 0)) (by (with_reducible repeat (first | refine blk_drewN ?_ _ | refine blk_drew ?_ | refine blk_alloc ?_ _)); exact BK105.out) hb); have n1_ := Aside0.mk (below_step (by repeat (first | (with_reducible first | exact HB.out | apply below_alloc | apply pw_below_drewN | apply below_drew1 | refine below_set ?_ GE105.out) | exact HB.out)) hb); have n2_ := Aside0.mk (hbox); have n3_ := Aside0.mk ((by rw [hg]; exact (below_size (by repeat (first | (with_reducible first | exact HB.out | apply below_alloc | apply pw_below_drewN | apply below_drew1 | refine below_set ?_ GE105.out) | exact HB.out))) : w.heap.size ≤ gb108)); have n4_ := Aside0.mk ((by rw [hg]; exact (below_size (by repeat (first | (with_reducible first | exact HB.out | apply below_alloc | apply pw_below_drewN | apply below_drew1 | refine below_set ?_ GE105.out) | exact HB.out))) : w.heap.size ≤ gb108)); have n5_ := Aside0.mk ((by rw [hg]; exact Nat.ne_of_lt (blk_lt (g := gb105) (o := .cells #[.string a0_0, .int .i64 a0_1, .int .i64 a0_2, .int .i64 a0_3, .slice (some ad107) l0_4.length c0_4, .slice A0_5 l0_5.length c0_5, .int .i64 a0_6, .int .i64 a0_7, .slice A0_8 l0_8.length c0_8] 25 (0, 0)) (by (with_reducible repeat (first | refine blk_drewN ?_ _ | refine blk_drew ?_ | refine blk_alloc ?_ _)); exact BK105.out)) : gb105 ≠ gb108)); have n6_ := Aside0.mk ((by rw [hg]; exact Nat.ne_of_gt (blk_lt (g := gb105) (o := .cells #[.string a0_0, .int .i64 a0_1, .int .i64 a0_2, .int .i64 a0_3, .slice (some ad107) l0_4.length c0_4, .slice A0_5 l0_5.length c0_5, .int .i64 a0_6, .int .i64 a0_7, .slice A0_8 l0_8.length c0_8] 25 (0, 0)) (by (with_reducible repeat (first | refine blk_drewN ?_ _ | refine blk_drew ?_ | refine blk_alloc ?_ _)); exact BK105.out)) : gb108 ≠ gb105)); clear BK105; clear HB; have BK105 := n0_; have HB := n1_; have BK108 := n2_; have GW108 := n3_; have GE108 := n4_; have NB105_108 := n5_; have NB108_105 := n6_; clear n0_ n1_ n2_ n3_ n4_ n5_ n6_; clear hb hbox hg; have hnb36 := NB108_105.out; have hnc36 := NB105_108.out; have hcz37_0 := cz_ BK108.out 0 rfl; have hcz37_1 := cz_ BK108.out 1 rfl; have hcz37_2 := cz_ BK108.out 2 rfl; have hcz37_3 := cz_ BK108.out 3 rfl; have hcz37_4 := cz_ BK108.out 4 rfl; have hcz37_5 := cz_ BK108.out 5 rfl; have hfz37_0 := blk_frozen BK108.out 0; have hfz37_1 := blk_frozen BK108.out 1; have hfz37_2 := blk_frozen BK108.out 2; have hfz37_3 := blk_frozen BK108.out 3; have hfz37_4 := blk_frozen BK108.out 4; have hfz37_5 := blk_frozen BK108.out 5))
         repeat (go_quiet (first | ((with_reducible refine gate_dst (N := 5) rfl ?_); (try (refine gate_guard (by rfl) ?_; dsimp only)); refine box_event ?hg (N := 5) ?hd (cs := #[.int .i64 0, .string (⟨#[]⟩ : ByteArray), .bool false, .string (⟨#[]⟩ : ByteArray), .string (⟨#[]⟩ : ByteArray), .string (⟨#[]⟩ : ByteArray)]) (t := 50) ?hr ?_; (case hd => rfl); (case hg => rfl); (case hr => first | (go_simp; done) | (go_simp; rfl)); intro gb108 hg w35 hbox hb; have n0_ := Aside0.mk (blk_below (g := gb105) (o := .cells #[.string a0_0, .int .i64 a0_1, .int .i64 a0_2, .int .i64 a0_3, .slice (some ad107) l0_4.length c0_4, .slice A0_5 l0_5.length c0_5, .int .i64 a0_6, .int .i64 a0_7, .slice A0_8 l0_8.length c0_8] 25 (0, 0)) (by (with_reducible repeat (first | refine blk_drewN ?_ _ | refine blk_drew ?_ | refine blk_alloc ?_ _)); exact BK105.out) hb); have n1_ := Aside0.mk (below_step (by repeat (first | (with_reducible first | exact HB.out | apply below_alloc | apply pw_below_drewN | apply below_drew1 | refine below_set ?_ GE105.out) | exact HB.out)) hb); have n2_ := Aside0.mk (hbox); have n3_ := Aside0.mk ((by rw [hg]; exact (below_size (by repeat (first | (with_reducible first | exact HB.out | apply below_alloc | apply pw_below_drewN | apply below_drew1 | refine below_set ?_ GE105.out) | exact HB.out))) : w.heap.size ≤ gb108)); have n4_ := Aside0.mk ((by rw [hg]; exact (below_size (by repeat (first | (with_reducible first | exact HB.out | apply below_alloc | apply pw_below_drewN | apply below_drew1 | refine below_set ?_ GE105.out) | exact HB.out))) : w.heap.size ≤ gb108)); have n5_ := Aside0.mk ((by rw [hg]; exact Nat.ne_of_lt (blk_lt (g := gb105) (o := .cells #[.string a0_0, .int .i64 a0_1, .int .i64 a0_2, .int .i64 a0_3, .slice (some ad107) l0_4.length c0_4, .slice A0_5 l0_5.length c0_5, .int .i64 a0_6, .int .i64 a0_7, .slice A0_8 l0_8.length c0_8] 25 (0, 0)) (by (with_reducible repeat (first | refine blk_drewN ?_ _ | refine blk_drew ?_ | refine blk_alloc ?_ _)); exact BK105.out)) : gb105 ≠ gb108)); have n6_ := Aside0.mk ((by rw [hg]; exact Nat.ne_of_gt (blk_lt (g := gb105) (o := .cells #[.string a0_0, .int .i64 a0_1, .int .i64 a0_2, .int .i64 a0_3, .slice (some ad107) l0_4.length c0_4, .slice A0_5 l0_5.length c0_5, .int .i64 a0_6, .int .i64 a0_7, .slice A0_8 l0_8.length c0_8] 25 (0, 0)) (by (with_reducible repeat (first | refine blk_drewN ?_ _ | refine blk_drew ?_ | refine blk_alloc ?_ _)); exact BK105.out)) : gb108 ≠ gb105)); clear BK105; clear HB; have BK105 := n0_; have HB := n1_; have BK108 := n2_; have GW108 := n3_; have GE108 := n4_; have NB105_108 := n5_; have NB108_105 := n6_; clear n0_ n1_ n2_ n3_ n4_ n5_ n6_; clear hb hbox hg; have hnb36 := NB108_105.out; have hnc36 := NB105_108.out; have hcz37_0 := cz_ BK108.out 0 rfl; have hcz37_1 := cz_ BK108.out 1 rfl; have hcz37_2 := cz_ BK108.out 2 rfl; have hcz37_3 := cz_ BK108.out 3 rfl; have hcz37_4 := cz_ BK108.out 4 rfl; have hcz37_5 := cz_ BK108.out 5 rfl; have hfz37_0 := blk_frozen BK108.out 0; have hfz37_1 := blk_frozen BK108.out 1; have hfz37_2 := blk_frozen BK108.out 2; have hfz37_3 := blk_frozen BK108.out 3; have hfz37_4 := blk_frozen BK108.out 4; have hfz37_5 := blk_frozen BK108.out 5)); go_upto_region 7 with (first | ((with_reducible refine gate_dst (N := 5) rfl ?_); (try (refine gate_guard (by rfl) ?_; dsimp only)); refine box_event ?hg (N := 5) ?hd (cs := #[.int .i64 0, .string (⟨#[]⟩ : ByteArray), .bool false, .string (⟨#[]⟩ : ByteArray), .string (⟨#[]⟩ : ByteArray), .string (⟨#[]⟩ : ByteArray)]) (t := 50) ?hr ?_; (case hd => rfl); (case hg => rfl); (case hr => first | (go_simp; done) | (go_simp; rfl)); intro gb108 hg w35 hbox hb; have n0_ := Aside0.mk (blk_below (g := gb105) (o := .cells #[.string a0_0, .int .i64 a0_1, .int .i64 a0_2, .int .i64 a0_3, .slice (some ad107) l0_4.length c0_4, .slice A0_5 l0_5.length c0_5, .int .i64 a0_6, .int .i64 a0_7, .slice A0_8 l0_8.length c0_8] 25 (0, 0)) (by (with_reducible repeat (first | refine blk_drewN ?_ _ | refine blk_drew ?_ | refine blk_alloc ?_ _)); exact BK105.out) hb); have n1_ := Aside0.mk (below_step (by repeat (first | (with_reducible first | exact HB.out | apply below_alloc | apply pw_below_drewN | apply below_drew1 | refine below_set ?_ GE105.out) | exact HB.out)) hb); have n2_ := Aside0.mk (hbox); have n3_ := Aside0.mk ((by rw [hg]; exact (below_size (by repeat (first | (with_reducible first | exact HB.out | apply below_alloc | apply pw_below_drewN | apply below_drew1 | refine below_set ?_ GE105.out) | exact HB.out))) : w.heap.size ≤ gb108)); have n4_ := Aside0.mk ((by rw [hg]; exact (below_size (by repeat (first | (with_reducible first | exact HB.out | apply below_alloc | apply pw_below_drewN | apply below_drew1 | refine below_set ?_ GE105.out) | exact HB.out))) : w.heap.size ≤ gb108)); have n5_ := Aside0.mk ((by rw [hg]; exact Nat.ne_of_lt (blk_lt (g := gb105) (o := .cells #[.string a0_0, .int .i64 a0_1, .int .i64 a0_2, .int .i64 a0_3, .slice (some ad107) l0_4.length c0_4, .slice A0_5 l0_5.length c0_5, .int .i64 a0_6, .int .i64 a0_7, .slice A0_8 l0_8.length c0_8] 25 (0, 0)) (by (with_reducible repeat (first | refine blk_drewN ?_ _ | refine blk_drew ?_ | refine blk_alloc ?_ _)); exact BK105.out)) : gb105 ≠ gb108)); have n6_ := Aside0.mk ((by rw [hg]; exact Nat.ne_of_gt (blk_lt (g := gb105) (o := .cells #[.string a0_0, .int .i64 a0_1, .int .i64 a0_2, .int .i64 a0_3, .slice (some ad107) l0_4.length c0_4, .slice A0_5 l0_5.length c0_5, .int .i64 a0_6, .int .i64 a0_7, .slice A0_8 l0_8.length c0_8] 25 (0, 0)) (by (with_reducible repeat (first | refine blk_drewN ?_ _ | refine blk_drew ?_ | refine blk_alloc ?_ _)); exact BK105.out)) : gb108 ≠ gb105)); clear BK105; clear HB; have BK105 := n0_; have HB := n1_; have BK108 := n2_; have GW108 := n3_; have GE108 := n4_; have NB105_108 := n5_; have NB108_105 := n6_; clear n0_ n1_ n2_ n3_ n4_ n5_ n6_; clear hb hbox hg; have hnb36 := NB108_105.out; have hnc36 := NB105_108.out; have hcz37_0 := cz_ BK108.out 0 rfl; have hcz37_1 := cz_ BK108.out 1 rfl; have hcz37_2 := cz_ BK108.out 2 rfl; have hcz37_3 := cz_ BK108.out 3 rfl; have hcz37_4 := cz_ BK108.out 4 rfl; have hcz37_5 := cz_ BK108.out 5 rfl; have hfz37_0 := blk_frozen BK108.out 0; have hfz37_1 := blk_frozen BK108.out 1; have hfz37_2 := blk_frozen BK108.out 2; have hfz37_3 := blk_frozen BK108.out 3; have hfz37_4 := blk_frozen BK108.out 4; have hfz37_5 := blk_frozen BK108.out 5)))
         (try simp only [Act.put, List.setIfInBounds_toArray, List.set_cons_zero, List.set_cons_succ])
         go_cut [3] (fun v3 wc => ∃ (kq : Nat) (x3_32 : Bool), v3 = .bool x3_32 ∧ Aside0 (chartularylaw19_right.j3 kq x3_32 x4_3 a0_0 a0_1 a0_2 a0_3 l0_4 l0_5 a0_6 a0_7 l0_8 ((rd_T50 l0_4 x4_3).f0) ((rd_T50 l0_4 x4_3).f1) ((rd_T50 l0_4 x4_3).f2) ((rd_T50 l0_4 x4_3).f3) ((rd_T50 l0_4 x4_3).f4) ((rd_T50 l0_4 x4_3).f5) = some r) ∧ Aside0 (kq ≤ k3) ∧ Aside0 (wc.heap[gb105]? = some (.cells #[.string a0_0, .int .i64 a0_1, .int .i64 a0_2, .int .i64 a0_3, (.slice (some ad107) l0_4.length c0_4), (.slice A0_5 l0_5.length c0_5), .int .i64 a0_6, .int .i64 a0_7, (.slice A0_8 l0_8.length c0_8)] 25 (0, 0))) ∧ Aside0 (wc.heap[gb108]? = some (.cells #[.int .i64 ((rd_T50 l0_4 x4_3).f0), .string ((rd_T50 l0_4 x4_3).f1), .bool ((rd_T50 l0_4 x4_3).f2), .string ((rd_T50 l0_4 x4_3).f3), .string ((rd_T50 l0_4 x4_3).f4), .string ((rd_T50 l0_4 x4_3).f5)] 50 (0, 0))) ∧ Aside0 (Below w.heap.size w wc))
         case first =>
          have H := HC33.out
          clear HC33
          by_cases c38 : x3_3 = true
          ·subst c38
           have H1 : (if ((rd_T50 l0_4 x4_3).f0) ≥ 0 then (if ((rd_T50 l0_4 x4_3).f0) < a0_3 then ((paper_IsName.f k3 ((rd_T50 l0_4 x4_3).f1)).bind fun t109 => (chartularylaw19_right.j3 k3 t109 x4_3 a0_0 a0_1 a0_2 a0_3 l0_4 l0_5 a0_6 a0_7 l0_8 ((rd_T50 l0_4 x4_3).f0) ((rd_T50 l0_4 x4_3).f1) ((rd_T50 l0_4 x4_3).f2) ((rd_T50 l0_4 x4_3).f3) ((rd_T50 l0_4 x4_3).f4) ((rd_T50 l0_4 x4_3).f5))) else (chartularylaw19_right.j3 k3 false x4_3 a0_0 a0_1 a0_2 a0_3 l0_4 l0_5 a0_6 a0_7 l0_8 ((rd_T50 l0_4 x4_3).f0) ((rd_T50 l0_4 x4_3).f1) ((rd_T50 l0_4 x4_3).f2) ((rd_T50 l0_4 x4_3).f3) ((rd_T50 l0_4 x4_3).f4) ((rd_T50 l0_4 x4_3).f5))) else (chartularylaw19_right.j3 k3 false x4_3 a0_0 a0_1 a0_2 a0_3 l0_4 l0_5 a0_6 a0_7 l0_8 ((rd_T50 l0_4 x4_3).f0) ((rd_T50 l0_4 x4_3).f1) ((rd_T50 l0_4 x4_3).f2) ((rd_T50 l0_4 x4_3).f3) ((rd_T50 l0_4 x4_3).f4) ((rd_T50 l0_4 x4_3).f5))) = some r := by rw [if_pos rfl] at H; exact H
           clear H
           have H := H1
           clear H1
           by_cases c39 : ((rd_T50 l0_4 x4_3).f0) ≥ 0
           ·rw [if_pos c39] at H
            have c39b0 : decide (0 ≤ ((rd_T50 l0_4 x4_3).f0)) = true := decide_eq_true c39
            clear c39
            (first | rw [c39b0] | (simp only [i64_w, i32_w]; rw [c39b0]) | skip)
            by_cases c40 : ((rd_T50 l0_4 x4_3).f0) < a0_3
            ·rw [if_pos c40] at H
             have c40b0 : decide (((rd_T50 l0_4 x4_3).f0) < a0_3) = true := decide_eq_true c40
             clear c40
             replace H := Option.bind_eq_some_iff.mp H
             obtain ⟨t109, A410, H⟩ := H
             replace H : (chartularylaw19_right.j3 k3 t109 x4_3 a0_0 a0_1 a0_2 a0_3 l0_4 l0_5 a0_6 a0_7 l0_8 ((rd_T50 l0_4 x4_3).f0) ((rd_T50 l0_4 x4_3).f1) ((rd_T50 l0_4 x4_3).f2) ((rd_T50 l0_4 x4_3).f3) ((rd_T50 l0_4 x4_3).f4) ((rd_T50 l0_4 x4_3).f5)) = some r := H
             have A41 := Aside0.mk A410
             clear A410
             have H' := Aside0.mk H
             clear H
             have hnb42 := NB108_105.out
             have hnc42 := NB105_108.out
             have hcz43_0 := cz_ BK108.out 0 rfl
             have hcz43_1 := cz_ BK108.out 1 rfl
             have hcz43_2 := cz_ BK108.out 2 rfl
             have hcz43_3 := cz_ BK108.out 3 rfl
             have hcz43_4 := cz_ BK108.out 4 rfl
             have hcz43_5 := cz_ BK108.out 5 rfl
             have hfz43_0 := blk_frozen BK108.out 0
             have hfz43_1 := blk_frozen BK108.out 1
             have hfz43_2 := blk_frozen BK108.out 2
             have hfz43_3 := blk_frozen BK108.out 3
             have hfz43_4 := blk_frozen BK108.out 4
             have hfz43_5 := blk_frozen BK108.out 5
             have hcz44_0 := cz_ BK105.out 0 rfl
             have hcz44_1 := cz_ BK105.out 1 rfl
             have hcz44_2 := cz_ BK105.out 2 rfl
             have hcz44_3 := cz_ BK105.out 3 rfl
             have hcz44_4 := cz_ BK105.out 4 rfl
             have hcz44_5 := cz_ BK105.out 5 rfl
             have hcz44_6 := cz_ BK105.out 6 rfl
             have hcz44_7 := cz_ BK105.out 7 rfl
             have hcz44_8 := cz_ BK105.out 8 rfl
             have hfz44_0 := blk_frozen BK105.out 0
             have hfz44_1 := blk_frozen BK105.out 1
             have hfz44_2 := blk_frozen BK105.out 2
             have hfz44_3 := blk_frozen BK105.out 3
             have hfz44_4 := blk_frozen BK105.out 4
             have hfz44_5 := blk_frozen BK105.out 5
             have hfz44_6 := blk_frozen BK105.out 6
             have hfz44_7 := blk_frozen BK105.out 7
             have hfz44_8 := blk_frozen BK105.out 8
             go_wp2_with (first | (go_at_call 27; (with_reducible refine (paper_IsName.calls k3 ((rd_T50 l0_4 x4_3).f1) t109 _ A41.out).mono ?_); rintro e w' ⟨rfl, ⟨nd, rfl⟩⟩; (try first | exact ⟨rfl, _, World.drewN_drewN _ _ _⟩ | exact ⟨rfl, _, Eq.trans (World.drewN_drewN _ _ _) (congrArg (World.drewN _) (Nat.add_assoc _ _ _))⟩)))
             repeat (go_quiet (first | (go_at_call 27; (with_reducible refine (paper_IsName.calls k3 ((rd_T50 l0_4 x4_3).f1) t109 _ A41.out).mono ?_); rintro e w' ⟨rfl, ⟨nd, rfl⟩⟩; (try first | exact ⟨rfl, _, World.drewN_drewN _ _ _⟩ | exact ⟨rfl, _, Eq.trans (World.drewN_drewN _ _ _) (congrArg (World.drewN _) (Nat.add_assoc _ _ _))⟩))); try go_wp2_with (first | (go_at_call 27; (with_reducible refine (paper_IsName.calls k3 ((rd_T50 l0_4 x4_3).f1) t109 _ A41.out).mono ?_); rintro e w' ⟨rfl, ⟨nd, rfl⟩⟩; (try first | exact ⟨rfl, _, World.drewN_drewN _ _ _⟩ | exact ⟨rfl, _, Eq.trans (World.drewN_drewN _ _ _) (congrArg (World.drewN _) (Nat.add_assoc _ _ _))⟩))))
             go_meet
             case rel => exact ⟨_, (t109), (Zchartularylaw19_right.z0), H', ⟨Zchartularylaw19_right.z7⟩, ⟨by (with_reducible repeat (first | refine blk_drewN ?_ _ | refine blk_drew ?_ | refine blk_alloc ?_ _)); refine blk_far ?_ NB105_108.out _; (with_reducible repeat (first | refine blk_drewN ?_ _ | refine blk_drew ?_ | refine blk_alloc ?_ _)); refine blk_far ?_ NB105_108.out _; (with_reducible repeat (first | refine blk_drewN ?_ _ | refine blk_drew ?_ | refine blk_alloc ?_ _)); refine blk_far ?_ NB105_108.out _; (with_reducible repeat (first | refine blk_drewN ?_ _ | refine blk_drew ?_ | refine blk_alloc ?_ _)); refine blk_far ?_ NB105_108.out _; (with_reducible repeat (first | refine blk_drewN ?_ _ | refine blk_drew ?_ | refine blk_alloc ?_ _)); refine blk_far ?_ NB105_108.out _; (with_reducible repeat (first | refine blk_drewN ?_ _ | refine blk_drew ?_ | refine blk_alloc ?_ _)); refine blk_far ?_ NB105_108.out _; (with_reducible repeat (first | refine blk_drewN ?_ _ | refine blk_drew ?_ | refine blk_alloc ?_ _)); exact BK105.out⟩, ⟨by (with_reducible repeat (first | refine blk_drewN ?_ _ | refine blk_drew ?_ | refine blk_alloc ?_ _)); refine blk_put (cs := #[.int .i64 ((rd_T50 l0_4 x4_3).f0), .string ((rd_T50 l0_4 x4_3).f1), .bool ((rd_T50 l0_4 x4_3).f2), .string ((rd_T50 l0_4 x4_3).f3), .string ((rd_T50 l0_4 x4_3).f4), .string (⟨#[]⟩ : ByteArray)]) ?_ 5 _ rfl; (with_reducible repeat (first | refine blk_drewN ?_ _ | refine blk_drew ?_ | refine blk_alloc ?_ _)); refine blk_put (cs := #[.int .i64 ((rd_T50 l0_4 x4_3).f0), .string ((rd_T50 l0_4 x4_3).f1), .bool ((rd_T50 l0_4 x4_3).f2), .string ((rd_T50 l0_4 x4_3).f3), .string (⟨#[]⟩ : ByteArray), .string (⟨#[]⟩ : ByteArray)]) ?_ 4 _ rfl; (with_reducible repeat (first | refine blk_drewN ?_ _ | refine blk_drew ?_ | refine blk_alloc ?_ _)); refine blk_put (cs := #[.int .i64 ((rd_T50 l0_4 x4_3).f0), .string ((rd_T50 l0_4 x4_3).f1), .bool ((rd_T50 l0_4 x4_3).f2), .string (⟨#[]⟩ : ByteArray), .string (⟨#[]⟩ : ByteArray), .string (⟨#[]⟩ : ByteArray)]) ?_ 3 _ rfl; (with_reducible repeat (first | refine blk_drewN ?_ _ | refine blk_drew ?_ | refine blk_alloc ?_ _)); refine blk_put (cs := #[.int .i64 ((rd_T50 l0_4 x4_3).f0), .string ((rd_T50 l0_4 x4_3).f1), .bool false, .string (⟨#[]⟩ : ByteArray), .string (⟨#[]⟩ : ByteArray), .string (⟨#[]⟩ : ByteArray)]) ?_ 2 _ rfl; (with_reducible repeat (first | refine blk_drewN ?_ _ | refine blk_drew ?_ | refine blk_alloc ?_ _)); refine blk_put (cs := #[.int .i64 ((rd_T50 l0_4 x4_3).f0), .string (⟨#[]⟩ : ByteArray), .bool false, .string (⟨#[]⟩ : ByteArray), .string (⟨#[]⟩ : ByteArray), .string (⟨#[]⟩ : ByteArray)]) ?_ 1 _ rfl; (with_reducible repeat (first | refine blk_drewN ?_ _ | refine blk_drew ?_ | refine blk_alloc ?_ _)); refine blk_put (cs := #[.int .i64 0, .string (⟨#[]⟩ : ByteArray), .bool false, .string (⟨#[]⟩ : ByteArray), .string (⟨#[]⟩ : ByteArray), .string (⟨#[]⟩ : ByteArray)]) ?_ 0 _ rfl; (with_reducible repeat (first | refine blk_drewN ?_ _ | refine blk_drew ?_ | refine blk_alloc ?_ _)); exact BK108.out⟩, ⟨by repeat (first | (with_reducible first | exact HB.out | apply below_alloc | apply pw_below_drewN | apply below_drew1 | refine below_set ?_ GE105.out | refine below_set ?_ GE108.out) | exact HB.out)⟩⟩
            ·rw [if_neg c40] at H
             have c40b0 : decide (((rd_T50 l0_4 x4_3).f0) < a0_3) = false := decide_eq_false c40
             clear c40
             have H' := Aside0.mk H
             clear H
             have hnb45 := NB108_105.out
             have hnc45 := NB105_108.out
             have hcz46_0 := cz_ BK108.out 0 rfl
             have hcz46_1 := cz_ BK108.out 1 rfl
             have hcz46_2 := cz_ BK108.out 2 rfl
             have hcz46_3 := cz_ BK108.out 3 rfl
             have hcz46_4 := cz_ BK108.out 4 rfl
             have hcz46_5 := cz_ BK108.out 5 rfl
             have hfz46_0 := blk_frozen BK108.out 0
             have hfz46_1 := blk_frozen BK108.out 1
             have hfz46_2 := blk_frozen BK108.out 2
             have hfz46_3 := blk_frozen BK108.out 3
             have hfz46_4 := blk_frozen BK108.out 4
             have hfz46_5 := blk_frozen BK108.out 5
             have hcz47_0 := cz_ BK105.out 0 rfl
             have hcz47_1 := cz_ BK105.out 1 rfl
             have hcz47_2 := cz_ BK105.out 2 rfl
             have hcz47_3 := cz_ BK105.out 3 rfl
             have hcz47_4 := cz_ BK105.out 4 rfl
             have hcz47_5 := cz_ BK105.out 5 rfl
             have hcz47_6 := cz_ BK105.out 6 rfl
             have hcz47_7 := cz_ BK105.out 7 rfl
             have hcz47_8 := cz_ BK105.out 8 rfl
             have hfz47_0 := blk_frozen BK105.out 0
             have hfz47_1 := blk_frozen BK105.out 1
             have hfz47_2 := blk_frozen BK105.out 2
             have hfz47_3 := blk_frozen BK105.out 3
             have hfz47_4 := blk_frozen BK105.out 4
             have hfz47_5 := blk_frozen BK105.out 5
             have hfz47_6 := blk_frozen BK105.out 6
             have hfz47_7 := blk_frozen BK105.out 7
             have hfz47_8 := blk_frozen BK105.out 8
             go_wp2
             repeat (go_quiet (fail); try go_wp2)
             go_meet
             case rel => exact ⟨_, (false), (Zchartularylaw19_right.z0), H', ⟨Zchartularylaw19_right.z7⟩, ⟨by (with_reducible repeat (first | refine blk_drewN ?_ _ | refine blk_drew ?_ | refine blk_alloc ?_ _)); refine blk_far ?_ NB105_108.out _; (with_reducible repeat (first | refine blk_drewN ?_ _ | refine blk_drew ?_ | refine blk_alloc ?_ _)); refine blk_far ?_ NB105_108.out _; (with_reducible repeat (first | refine blk_drewN ?_ _ | refine blk_drew ?_ | refine blk_alloc ?_ _)); refine blk_far ?_ NB105_108.out _; (with_reducible repeat (first | refine blk_drewN ?_ _ | refine blk_drew ?_ | refine blk_alloc ?_ _)); refine blk_far ?_ NB105_108.out _; (with_reducible repeat (first | refine blk_drewN ?_ _ | refine blk_drew ?_ | refine blk_alloc ?_ _)); refine blk_far ?_ NB105_108.out _; (with_reducible repeat (first | refine blk_drewN ?_ _ | refine blk_drew ?_ | refine blk_alloc ?_ _)); refine blk_far ?_ NB105_108.out _; (with_reducible repeat (first | refine blk_drewN ?_ _ | refine blk_drew ?_ | refine blk_alloc ?_ _)); exact BK105.out⟩, ⟨by (with_reducible repeat (first | refine blk_drewN ?_ _ | refine blk_drew ?_ | refine blk_alloc ?_ _)); refine blk_put (cs := #[.int .i64 ((rd_T50 l0_4 x4_3).f0), .string ((rd_T50 l0_4 x4_3).f1), .bool ((rd_T50 l0_4 x4_3).f2), .string ((rd_T50 l0_4 x4_3).f3), .string ((rd_T50 l0_4 x4_3).f4), .string (⟨#[]⟩ : ByteArray)]) ?_ 5 _ rfl; (with_reducible repeat (first | refine blk_drewN ?_ _ | refine blk_drew ?_ | refine blk_alloc ?_ _)); refine blk_put (cs := #[.int .i64 ((rd_T50 l0_4 x4_3).f0), .string ((rd_T50 l0_4 x4_3).f1), .bool ((rd_T50 l0_4 x4_3).f2), .string ((rd_T50 l0_4 x4_3).f3), .string (⟨#[]⟩ : ByteArray), .string (⟨#[]⟩ : ByteArray)]) ?_ 4 _ rfl; (with_reducible repeat (first | refine blk_drewN ?_ _ | refine blk_drew ?_ | refine blk_alloc ?_ _)); refine blk_put (cs := #[.int .i64 ((rd_T50 l0_4 x4_3).f0), .string ((rd_T50 l0_4 x4_3).f1), .bool ((rd_T50 l0_4 x4_3).f2), .string (⟨#[]⟩ : ByteArray), .string (⟨#[]⟩ : ByteArray), .string (⟨#[]⟩ : ByteArray)]) ?_ 3 _ rfl; (with_reducible repeat (first | refine blk_drewN ?_ _ | refine blk_drew ?_ | refine blk_alloc ?_ _)); refine blk_put (cs := #[.int .i64 ((rd_T50 l0_4 x4_3).f0), .string ((rd_T50 l0_4 x4_3).f1), .bool false, .string (⟨#[]⟩ : ByteArray), .string (⟨#[]⟩ : ByteArray), .string (⟨#[]⟩ : ByteArray)]) ?_ 2 _ rfl; (with_reducible repeat (first | refine blk_drewN ?_ _ | refine blk_drew ?_ | refine blk_alloc ?_ _)); refine blk_put (cs := #[.int .i64 ((rd_T50 l0_4 x4_3).f0), .string (⟨#[]⟩ : ByteArray), .bool false, .string (⟨#[]⟩ : ByteArray), .string (⟨#[]⟩ : ByteArray), .string (⟨#[]⟩ : ByteArray)]) ?_ 1 _ rfl; (with_reducible repeat (first | refine blk_drewN ?_ _ | refine blk_drew ?_ | refine blk_alloc ?_ _)); refine blk_put (cs := #[.int .i64 0, .string (⟨#[]⟩ : ByteArray), .bool false, .string (⟨#[]⟩ : ByteArray), .string (⟨#[]⟩ : ByteArray), .string (⟨#[]⟩ : ByteArray)]) ?_ 0 _ rfl; (with_reducible repeat (first | refine blk_drewN ?_ _ | refine blk_drew ?_ | refine blk_alloc ?_ _)); exact BK108.out⟩, ⟨by repeat (first | (with_reducible first | exact HB.out | apply below_alloc | apply pw_below_drewN | apply below_drew1 | refine below_set ?_ GE105.out | refine below_set ?_ GE108.out) | exact HB.out)⟩⟩
           ·rw [if_neg c39] at H
            have c39b0 : decide (0 ≤ ((rd_T50 l0_4 x4_3).f0)) = false := decide_eq_false c39
            clear c39
            (first | rw [c39b0] | (simp only [i64_w, i32_w]; rw [c39b0]) | skip)
            have H' := Aside0.mk H
            clear H
            have hnb48 := NB108_105.out
            have hnc48 := NB105_108.out
            have hcz49_0 := cz_ BK108.out 0 rfl
            have hcz49_1 := cz_ BK108.out 1 rfl
            have hcz49_2 := cz_ BK108.out 2 rfl
            have hcz49_3 := cz_ BK108.out 3 rfl
            have hcz49_4 := cz_ BK108.out 4 rfl
            have hcz49_5 := cz_ BK108.out 5 rfl
            have hfz49_0 := blk_frozen BK108.out 0
            have hfz49_1 := blk_frozen BK108.out 1
            have hfz49_2 := blk_frozen BK108.out 2
            have hfz49_3 := blk_frozen BK108.out 3
            have hfz49_4 := blk_frozen BK108.out 4
            have hfz49_5 := blk_frozen BK108.out 5
            go_wp2
            repeat (go_quiet (fail); try go_wp2)
            go_meet
            case rel => exact ⟨_, (false), (Zchartularylaw19_right.z0), H', ⟨Zchartularylaw19_right.z7⟩, ⟨by (with_reducible repeat (first | refine blk_drewN ?_ _ | refine blk_drew ?_ | refine blk_alloc ?_ _)); refine blk_far ?_ NB105_108.out _; (with_reducible repeat (first | refine blk_drewN ?_ _ | refine blk_drew ?_ | refine blk_alloc ?_ _)); refine blk_far ?_ NB105_108.out _; (with_reducible repeat (first | refine blk_drewN ?_ _ | refine blk_drew ?_ | refine blk_alloc ?_ _)); refine blk_far ?_ NB105_108.out _; (with_reducible repeat (first | refine blk_drewN ?_ _ | refine blk_drew ?_ | refine blk_alloc ?_ _)); refine blk_far ?_ NB105_108.out _; (with_reducible repeat (first | refine blk_drewN ?_ _ | refine blk_drew ?_ | refine blk_alloc ?_ _)); refine blk_far ?_ NB105_108.out _; (with_reducible repeat (first | refine blk_drewN ?_ _ | refine blk_drew ?_ | refine blk_alloc ?_ _)); refine blk_far ?_ NB105_108.out _; (with_reducible repeat (first | refine blk_drewN ?_ _ | refine blk_drew ?_ | refine blk_alloc ?_ _)); exact BK105.out⟩, ⟨by (with_reducible repeat (first | refine blk_drewN ?_ _ | refine blk_drew ?_ | refine blk_alloc ?_ _)); refine blk_put (cs := #[.int .i64 ((rd_T50 l0_4 x4_3).f0), .string ((rd_T50 l0_4 x4_3).f1), .bool ((rd_T50 l0_4 x4_3).f2), .string ((rd_T50 l0_4 x4_3).f3), .string ((rd_T50 l0_4 x4_3).f4), .string (⟨#[]⟩ : ByteArray)]) ?_ 5 _ rfl; (with_reducible repeat (first | refine blk_drewN ?_ _ | refine blk_drew ?_ | refine blk_alloc ?_ _)); refine blk_put (cs := #[.int .i64 ((rd_T50 l0_4 x4_3).f0), .string ((rd_T50 l0_4 x4_3).f1), .bool ((rd_T50 l0_4 x4_3).f2), .string ((rd_T50 l0_4 x4_3).f3), .string (⟨#[]⟩ : ByteArray), .string (⟨#[]⟩ : ByteArray)]) ?_ 4 _ rfl; (with_reducible repeat (first | refine blk_drewN ?_ _ | refine blk_drew ?_ | refine blk_alloc ?_ _)); refine blk_put (cs := #[.int .i64 ((rd_T50 l0_4 x4_3).f0), .string ((rd_T50 l0_4 x4_3).f1), .bool ((rd_T50 l0_4 x4_3).f2), .string (⟨#[]⟩ : ByteArray), .string (⟨#[]⟩ : ByteArray), .string (⟨#[]⟩ : ByteArray)]) ?_ 3 _ rfl; (with_reducible repeat (first | refine blk_drewN ?_ _ | refine blk_drew ?_ | refine blk_alloc ?_ _)); refine blk_put (cs := #[.int .i64 ((rd_T50 l0_4 x4_3).f0), .string ((rd_T50 l0_4 x4_3).f1), .bool false, .string (⟨#[]⟩ : ByteArray), .string (⟨#[]⟩ : ByteArray), .string (⟨#[]⟩ : ByteArray)]) ?_ 2 _ rfl; (with_reducible repeat (first | refine blk_drewN ?_ _ | refine blk_drew ?_ | refine blk_alloc ?_ _)); refine blk_put (cs := #[.int .i64 ((rd_T50 l0_4 x4_3).f0), .string (⟨#[]⟩ : ByteArray), .bool false, .string (⟨#[]⟩ : ByteArray), .string (⟨#[]⟩ : ByteArray), .string (⟨#[]⟩ : ByteArray)]) ?_ 1 _ rfl; (with_reducible repeat (first | refine blk_drewN ?_ _ | refine blk_drew ?_ | refine blk_alloc ?_ _)); refine blk_put (cs := #[.int .i64 0, .string (⟨#[]⟩ : ByteArray), .bool false, .string (⟨#[]⟩ : ByteArray), .string (⟨#[]⟩ : ByteArray), .string (⟨#[]⟩ : ByteArray)]) ?_ 0 _ rfl; (with_reducible repeat (first | refine blk_drewN ?_ _ | refine blk_drew ?_ | refine blk_alloc ?_ _)); exact BK108.out⟩, ⟨by repeat (first | (with_reducible first | exact HB.out | apply below_alloc | apply pw_below_drewN | apply below_drew1 | refine below_set ?_ GE105.out | refine below_set ?_ GE108.out) | exact HB.out)⟩⟩
          ·replace c38 := Bool.eq_false_iff.mpr c38
           subst c38
           have H1 : (chartularylaw19_right.j3 k3 false x4_3 a0_0 a0_1 a0_2 a0_3 l0_4 l0_5 a0_6 a0_7 l0_8 ((rd_T50 l0_4 x4_3).f0) ((rd_T50 l0_4 x4_3).f1) ((rd_T50 l0_4 x4_3).f2) ((rd_T50 l0_4 x4_3).f3) ((rd_T50 l0_4 x4_3).f4) ((rd_T50 l0_4 x4_3).f5)) = some r := by rw [if_neg (show ¬ (false = true) by decide)] at H; exact H
           clear H
           have H := H1
           clear H1
           have H' := Aside0.mk H
           clear H
           go_wp2
           repeat (go_quiet (fail); try go_wp2)
           go_meet
           case rel => exact ⟨_, (false), (Zchartularylaw19_right.z0), H', ⟨Zchartularylaw19_right.z7⟩, ⟨by (with_reducible repeat (first | refine blk_drewN ?_ _ | refine blk_drew ?_ | refine blk_alloc ?_ _)); refine blk_far ?_ NB105_108.out _; (with_reducible repeat (first | refine blk_drewN ?_ _ | refine blk_drew ?_ | refine blk_alloc ?_ _)); refine blk_far ?_ NB105_108.out _; (with_reducible repeat (first | refine blk_drewN ?_ _ | refine blk_drew ?_ | refine blk_alloc ?_ _)); refine blk_far ?_ NB105_108.out _; (with_reducible repeat (first | refine blk_drewN ?_ _ | refine blk_drew ?_ | refine blk_alloc ?_ _)); refine blk_far ?_ NB105_108.out _; (with_reducible repeat (first | refine blk_drewN ?_ _ | refine blk_drew ?_ | refine blk_alloc ?_ _)); refine blk_far ?_ NB105_108.out _; (with_reducible repeat (first | refine blk_drewN ?_ _ | refine blk_drew ?_ | refine blk_alloc ?_ _)); refine blk_far ?_ NB105_108.out _; (with_reducible repeat (first | refine blk_drewN ?_ _ | refine blk_drew ?_ | refine blk_alloc ?_ _)); exact BK105.out⟩, ⟨by (with_reducible repeat (first | refine blk_drewN ?_ _ | refine blk_drew ?_ | refine blk_alloc ?_ _)); refine blk_put (cs := #[.int .i64 ((rd_T50 l0_4 x4_3).f0), .string ((rd_T50 l0_4 x4_3).f1), .bool ((rd_T50 l0_4 x4_3).f2), .string ((rd_T50 l0_4 x4_3).f3), .string ((rd_T50 l0_4 x4_3).f4), .string (⟨#[]⟩ : ByteArray)]) ?_ 5 _ rfl; (with_reducible repeat (first | refine blk_drewN ?_ _ | refine blk_drew ?_ | refine blk_alloc ?_ _)); refine blk_put (cs := #[.int .i64 ((rd_T50 l0_4 x4_3).f0), .string ((rd_T50 l0_4 x4_3).f1), .bool ((rd_T50 l0_4 x4_3).f2), .string ((rd_T50 l0_4 x4_3).f3), .string (⟨#[]⟩ : ByteArray), .string (⟨#[]⟩ : ByteArray)]) ?_ 4 _ rfl; (with_reducible repeat (first | refine blk_drewN ?_ _ | refine blk_drew ?_ | refine blk_alloc ?_ _)); refine blk_put (cs := #[.int .i64 ((rd_T50 l0_4 x4_3).f0), .string ((rd_T50 l0_4 x4_3).f1), .bool ((rd_T50 l0_4 x4_3).f2), .string (⟨#[]⟩ : ByteArray), .string (⟨#[]⟩ : ByteArray), .string (⟨#[]⟩ : ByteArray)]) ?_ 3 _ rfl; (with_reducible repeat (first | refine blk_drewN ?_ _ | refine blk_drew ?_ | refine blk_alloc ?_ _)); refine blk_put (cs := #[.int .i64 ((rd_T50 l0_4 x4_3).f0), .string ((rd_T50 l0_4 x4_3).f1), .bool false, .string (⟨#[]⟩ : ByteArray), .string (⟨#[]⟩ : ByteArray), .string (⟨#[]⟩ : ByteArray)]) ?_ 2 _ rfl; (with_reducible repeat (first | refine blk_drewN ?_ _ | refine blk_drew ?_ | refine blk_alloc ?_ _)); refine blk_put (cs := #[.int .i64 ((rd_T50 l0_4 x4_3).f0), .string (⟨#[]⟩ : ByteArray), .bool false, .string (⟨#[]⟩ : ByteArray), .string (⟨#[]⟩ : ByteArray), .string (⟨#[]⟩ : ByteArray)]) ?_ 1 _ rfl; (with_reducible repeat (first | refine blk_drewN ?_ _ | refine blk_drew ?_ | refine blk_alloc ?_ _)); refine blk_put (cs := #[.int .i64 0, .string (⟨#[]⟩ : ByteArray), .bool false, .string (⟨#[]⟩ : ByteArray), .string (⟨#[]⟩ : ByteArray), .string (⟨#[]⟩ : ByteArray)]) ?_ 0 _ rfl; (with_reducible repeat (first | refine blk_drewN ?_ _ | refine blk_drew ?_ | refine blk_alloc ?_ _)); exact BK108.out⟩, ⟨by repeat (first | (with_reducible first | exact HB.out | apply below_alloc | apply pw_below_drewN | apply below_drew1 | refine below_set ?_ GE105.out | refine below_set ?_ GE108.out) | exact HB.out)⟩⟩
         case rest =>
          clear HC33
          try clear c1
          try clear p1
          try clear q1
          try clear hx1
          try clear c2
          try clear p2
          try clear c3
          try clear c4
          try clear c5
          try clear c6
          try clear c6b0
          try clear c7
          try clear c7b0
          try clear c8
          try clear c8b0
          try clear c9
          try clear c9b0
          try clear c10
          try clear c10b0
          try clear p10
          try clear q10
          try clear hx10
          try clear c19
          try clear c20
          try clear c20b0
          try clear c21
          try clear c21b0
          try clear c22
          try clear c22b0
          try clear c23
          try clear c23b0
          try clear c24
          try clear c24b0
          try clear c24b1
          try clear c31
          try clear c31b0
          try clear c32
          try clear c32b0
          try clear c36
          try clear c38
          try clear c39
          try clear c39b0
          try clear c40
          try clear c40b0
          try clear c42
          try clear c45
          try clear c48
          try clear hcz11_0
          try clear hcz11_1
          try clear hcz11_2
          try clear hcz11_3
          try clear hcz11_4
          try clear hcz11_5
          try clear hcz11_6
          try clear hcz11_7
          try clear hcz11_8
          try clear hcz12_0
          try clear hcz12_1
          try clear hcz12_2
          try clear hcz12_3
          try clear hcz12_4
          try clear hcz12_5
          try clear hcz12_6
          try clear hcz12_7
          try clear hcz12_8
          try clear hcz13_0
          try clear hcz13_1
          try clear hcz13_2
          try clear hcz13_3
          try clear hcz13_4
          try clear hcz13_5
          try clear hcz13_6
          try clear hcz13_7
          try clear hcz13_8
          try clear hcz14_0
          try clear hcz14_1
          try clear hcz14_2
          try clear hcz14_3
          try clear hcz14_4
          try clear hcz14_5
          try clear hcz14_6
          try clear hcz14_7
          try clear hcz14_8
          try clear hcz15_0
          try clear hcz15_1
          try clear hcz15_2
          try clear hcz15_3
          try clear hcz15_4
          try clear hcz15_5
          try clear hcz15_6
          try clear hcz15_7
          try clear hcz15_8
          try clear hcz16_0
          try clear hcz16_1
          try clear hcz16_2
          try clear hcz16_3
          try clear hcz16_4
          try clear hcz16_5
          try clear hcz16_6
          try clear hcz16_7
          try clear hcz16_8
          try clear hcz17_0
          try clear hcz17_1
          try clear hcz17_2
          try clear hcz17_3
          try clear hcz17_4
          try clear hcz17_5
          try clear hcz17_6
          try clear hcz17_7
          try clear hcz17_8
          try clear hcz25_0
          try clear hcz25_1
          try clear hcz25_2
          try clear hcz25_3
          try clear hcz25_4
          try clear hcz25_5
          try clear hcz25_6
          try clear hcz25_7
          try clear hcz25_8
          try clear hcz26_0
          try clear hcz26_1
          try clear hcz26_2
          try clear hcz26_3
          try clear hcz26_4
          try clear hcz26_5
          try clear hcz26_6
          try clear hcz26_7
          try clear hcz26_8
          try clear hcz27_0
          try clear hcz27_1
          try clear hcz27_2
          try clear hcz27_3
          try clear hcz27_4
          try clear hcz27_5
          try clear hcz27_6
          try clear hcz27_7
          try clear hcz27_8
          try clear hcz28_0
          try clear hcz28_1
          try clear hcz28_2
          try clear hcz28_3
          try clear hcz28_4
          try clear hcz28_5
          try clear hcz28_6
          try clear hcz28_7
          try clear hcz28_8
          try clear hcz29_0
          try clear hcz29_1
          try clear hcz29_2
          try clear hcz29_3
          try clear hcz29_4
          try clear hcz29_5
          try clear hcz29_6
          try clear hcz29_7
          try clear hcz29_8
          try clear hcz30_0
          try clear hcz30_1
          try clear hcz30_2
          try clear hcz30_3
          try clear hcz30_4
          try clear hcz30_5
          try clear hcz30_6
          try clear hcz30_7
          try clear hcz30_8
          try clear hcz34_0
          try clear hcz34_1
          try clear hcz34_2
          try clear hcz34_3
          try clear hcz34_4
          try clear hcz34_5
          try clear hcz34_6
          try clear hcz34_7
          try clear hcz34_8
          try clear hcz37_0
          try clear hcz37_1
          try clear hcz37_2
          try clear hcz37_3
          try clear hcz37_4
          try clear hcz37_5
          try clear hcz43_0
          try clear hcz43_1
          try clear hcz43_2
          try clear hcz43_3
          try clear hcz43_4
          try clear hcz43_5
          try clear hcz44_0
          try clear hcz44_1
          try clear hcz44_2
          try clear hcz44_3
          try clear hcz44_4
          try clear hcz44_5
          try clear hcz44_6
          try clear hcz44_7
          try clear hcz44_8
          try clear hcz46_0
          try clear hcz46_1
          try clear hcz46_2
          try clear hcz46_3
          try clear hcz46_4
          try clear hcz46_5
          try clear hcz47_0
          try clear hcz47_1
          try clear hcz47_2
          try clear hcz47_3
          try clear hcz47_4
          try clear hcz47_5
          try clear hcz47_6
          try clear hcz47_7
          try clear hcz47_8
          try clear hcz49_0
          try clear hcz49_1
          try clear hcz49_2
          try clear hcz49_3
          try clear hcz49_4
          try clear hcz49_5
          try clear hfz11_0
          try clear hfz11_1
          try clear hfz11_2
          try clear hfz11_3
          try clear hfz11_4
          try clear hfz11_5
          try clear hfz11_6
          try clear hfz11_7
          try clear hfz11_8
          try clear hfz12_0
          try clear hfz12_1
          try clear hfz12_2
          try clear hfz12_3
          try clear hfz12_4
          try clear hfz12_5
          try clear hfz12_6
          try clear hfz12_7
          try clear hfz12_8
          try clear hfz13_0
          try clear hfz13_1
          try clear hfz13_2
          try clear hfz13_3
          try clear hfz13_4
          try clear hfz13_5
          try clear hfz13_6
          try clear hfz13_7
          try clear hfz13_8
          try clear hfz14_0
          try clear hfz14_1
          try clear hfz14_2
          try clear hfz14_3
          try clear hfz14_4
          try clear hfz14_5
          try clear hfz14_6
          try clear hfz14_7
          try clear hfz14_8
          try clear hfz15_0
          try clear hfz15_1
          try clear hfz15_2
          try clear hfz15_3
          try clear hfz15_4
          try clear hfz15_5
          try clear hfz15_6
          try clear hfz15_7
          try clear hfz15_8
          try clear hfz16_0
          try clear hfz16_1
          try clear hfz16_2
          try clear hfz16_3
          try clear hfz16_4
          try clear hfz16_5
          try clear hfz16_6
          try clear hfz16_7
          try clear hfz16_8
          try clear hfz17_0
          try clear hfz17_1
          try clear hfz17_2
          try clear hfz17_3
          try clear hfz17_4
          try clear hfz17_5
          try clear hfz17_6
          try clear hfz17_7
          try clear hfz17_8
          try clear hfz25_0
          try clear hfz25_1
          try clear hfz25_2
          try clear hfz25_3
          try clear hfz25_4
          try clear hfz25_5
          try clear hfz25_6
          try clear hfz25_7
          try clear hfz25_8
          try clear hfz26_0
          try clear hfz26_1
          try clear hfz26_2
          try clear hfz26_3
          try clear hfz26_4
          try clear hfz26_5
          try clear hfz26_6
          try clear hfz26_7
          try clear hfz26_8
          try clear hfz27_0
          try clear hfz27_1
          try clear hfz27_2
          try clear hfz27_3
          try clear hfz27_4
          try clear hfz27_5
          try clear hfz27_6
          try clear hfz27_7
          try clear hfz27_8
          try clear hfz28_0
          try clear hfz28_1
          try clear hfz28_2
          try clear hfz28_3
          try clear hfz28_4
          try clear hfz28_5
          try clear hfz28_6
          try clear hfz28_7
          try clear hfz28_8
          try clear hfz29_0
          try clear hfz29_1
          try clear hfz29_2
          try clear hfz29_3
          try clear hfz29_4
          try clear hfz29_5
          try clear hfz29_6
          try clear hfz29_7
          try clear hfz29_8
          try clear hfz30_0
          try clear hfz30_1
          try clear hfz30_2
          try clear hfz30_3
          try clear hfz30_4
          try clear hfz30_5
          try clear hfz30_6
          try clear hfz30_7
          try clear hfz30_8
          try clear hfz34_0
          try clear hfz34_1
          try clear hfz34_2
          try clear hfz34_3
          try clear hfz34_4
          try clear hfz34_5
          try clear hfz34_6
          try clear hfz34_7
          try clear hfz34_8
          try clear hfz37_0
          try clear hfz37_1
          try clear hfz37_2
          try clear hfz37_3
          try clear hfz37_4
          try clear hfz37_5
          try clear hfz43_0
          try clear hfz43_1
          try clear hfz43_2
          try clear hfz43_3
          try clear hfz43_4
          try clear hfz43_5
          try clear hfz44_0
          try clear hfz44_1
          try clear hfz44_2
          try clear hfz44_3
          try clear hfz44_4
          try clear hfz44_5
          try clear hfz44_6
          try clear hfz44_7
          try clear hfz44_8
          try clear hfz46_0
          try clear hfz46_1
          try clear hfz46_2
          try clear hfz46_3
          try clear hfz46_4
          try clear hfz46_5
          try clear hfz47_0
          try clear hfz47_1
          try clear hfz47_2
          try clear hfz47_3
          try clear hfz47_4
          try clear hfz47_5
          try clear hfz47_6
          try clear hfz47_7
          try clear hfz47_8
          try clear hfz49_0
          try clear hfz49_1
          try clear hfz49_2
          try clear hfz49_3
          try clear hfz49_4
          try clear hfz49_5
          try clear hx107_0
          try clear hx107_1
          try clear hx107_2
          try clear hx107_3
          try clear hx107_4
          try clear hx107_5
          try clear p107
          try clear p2
          try clear q107
          obtain ⟨kq, x3_32, rfl, HA, HJ32, BK105, BK108, HB⟩ := hcut
          cases kq with
          | zero => exact absurd HA.out (by simp [chartularylaw19_right.j3])
          | succ kj32 =>
           have H := HA.out
           clear HA
           simp only [chartularylaw19_right.j3] at H
           have HC50 := Aside0.mk H
           clear H
           have hnb51 := NB108_105.out
           have hnc51 := NB105_108.out
           have hcz52_0 := cz_ BK108.out 0 rfl
           have hcz52_1 := cz_ BK108.out 1 rfl
           have hcz52_2 := cz_ BK108.out 2 rfl
           have hcz52_3 := cz_ BK108.out 3 rfl
           have hcz52_4 := cz_ BK108.out 4 rfl
           have hcz52_5 := cz_ BK108.out 5 rfl
           have hfz52_0 := blk_frozen BK108.out 0
           have hfz52_1 := blk_frozen BK108.out 1
           have hfz52_2 := blk_frozen BK108.out 2
           have hfz52_3 := blk_frozen BK108.out 3
           have hfz52_4 := blk_frozen BK108.out 4
           have hfz52_5 := blk_frozen BK108.out 5
           go_upto_if 107 with (fail)
           repeat (go_quiet (fail); go_upto_if 107 with (fail))
           go_cut [3] (fun v3 wc => ∃ (kq : Nat) (x3_49 : Bool), v3 = .bool x3_49 ∧ Aside0 (chartularylaw19_right.j4 kq x3_49 x4_3 a0_0 a0_1 a0_2 a0_3 l0_4 l0_5 a0_6 a0_7 l0_8 ((rd_T50 l0_4 x4_3).f0) ((rd_T50 l0_4 x4_3).f1) ((rd_T50 l0_4 x4_3).f2) ((rd_T50 l0_4 x4_3).f3) ((rd_T50 l0_4 x4_3).f4) ((rd_T50 l0_4 x4_3).f5) = some r) ∧ Aside0 (kq ≤ kj32) ∧ Aside0 (wc.heap[gb105]? = some (.cells #[.string a0_0, .int .i64 a0_1, .int .i64 a0_2, .int .i64 a0_3, (.slice (some ad107) l0_4.length c0_4), (.slice A0_5 l0_5.length c0_5), .int .i64 a0_6, .int .i64 a0_7, (.slice A0_8 l0_8.length c0_8)] 25 (0, 0))) ∧ Aside0 (wc.heap[gb108]? = some (.cells #[.int .i64 ((rd_T50 l0_4 x4_3).f0), .string ((rd_T50 l0_4 x4_3).f1), .bool ((rd_T50 l0_4 x4_3).f2), .string ((rd_T50 l0_4 x4_3).f3), .string ((rd_T50 l0_4 x4_3).f4), .string ((rd_T50 l0_4 x4_3).f5)] 50 (0, 0))) ∧ Aside0 (Below w.heap.size w wc))
           case first => as_aux_lemma =>
            have H := HC50.out
            clear HC50
            by_cases c53 : ((rd_T50 l0_4 x4_3).f2) = true
            ·rw [if_pos c53] at H
             have c53b0 : ((rd_T50 l0_4 x4_3).f2) = true := c53
             clear c53
             (first | rw [c53b0] | (simp only [i64_w, i32_w]; rw [c53b0]) | skip)
             by_cases c54 : x3_32 = true
             ·subst c54
              have H1 : (if (((rd_T50 l0_4 x4_3).f5).size : Int) = 32 then (if ((rd_T50 l0_4 x4_3).f3).toList = ([] : List UInt8) then (chartularylaw19_right.j4 kj32 (((rd_T50 l0_4 x4_3).f4).toList.isEmpty) x4_3 a0_0 a0_1 a0_2 a0_3 l0_4 l0_5 a0_6 a0_7 l0_8 ((rd_T50 l0_4 x4_3).f0) ((rd_T50 l0_4 x4_3).f1) ((rd_T50 l0_4 x4_3).f2) ((rd_T50 l0_4 x4_3).f3) ((rd_T50 l0_4 x4_3).f4) ((rd_T50 l0_4 x4_3).f5)) else (chartularylaw19_right.j4 kj32 false x4_3 a0_0 a0_1 a0_2 a0_3 l0_4 l0_5 a0_6 a0_7 l0_8 ((rd_T50 l0_4 x4_3).f0) ((rd_T50 l0_4 x4_3).f1) ((rd_T50 l0_4 x4_3).f2) ((rd_T50 l0_4 x4_3).f3) ((rd_T50 l0_4 x4_3).f4) ((rd_T50 l0_4 x4_3).f5))) else (chartularylaw19_right.j4 kj32 false x4_3 a0_0 a0_1 a0_2 a0_3 l0_4 l0_5 a0_6 a0_7 l0_8 ((rd_T50 l0_4 x4_3).f0) ((rd_T50 l0_4 x4_3).f1) ((rd_T50 l0_4 x4_3).f2) ((rd_T50 l0_4 x4_3).f3) ((rd_T50 l0_4 x4_3).f4) ((rd_T50 l0_4 x4_3).f5))) = some r := by rw [if_pos rfl] at H; exact H
              clear H
              have H := H1
              clear H1
              by_cases c55 : (((rd_T50 l0_4 x4_3).f5).size : Int) = 32
              ·rw [if_pos c55] at H
               have c55b0 : ((((rd_T50 l0_4 x4_3).f5).size : Int) == 32) = true := beq_iff_eq.mpr c55
               have c55b1 : ((((rd_T50 l0_4 x4_3).f5).size : Int) != 32) = false := bne_eq_false_iff_eq.mpr c55
               clear c55
               by_cases c56 : ((rd_T50 l0_4 x4_3).f3).toList = ([] : List UInt8)
               ·rw [if_pos c56] at H
                have c56b0 : (((rd_T50 l0_4 x4_3).f3).toList == ([] : List UInt8)) = true := beq_iff_eq.mpr c56
                have c56b1 : (((rd_T50 l0_4 x4_3).f3).toList != ([] : List UInt8)) = false := bne_eq_false_iff_eq.mpr c56
                clear c56
                have H' := Aside0.mk H
                clear H
                have hnb57 := NB108_105.out
                have hnc57 := NB105_108.out
                have hcz58_0 := cz_ BK108.out 0 rfl
                have hcz58_1 := cz_ BK108.out 1 rfl
                have hcz58_2 := cz_ BK108.out 2 rfl
                have hcz58_3 := cz_ BK108.out 3 rfl
                have hcz58_4 := cz_ BK108.out 4 rfl
                have hcz58_5 := cz_ BK108.out 5 rfl
                have hfz58_0 := blk_frozen BK108.out 0
                have hfz58_1 := blk_frozen BK108.out 1
                have hfz58_2 := blk_frozen BK108.out 2
                have hfz58_3 := blk_frozen BK108.out 3
                have hfz58_4 := blk_frozen BK108.out 4
                have hfz58_5 := blk_frozen BK108.out 5
                go_wp2
                repeat (go_quiet (fail); try go_wp2)
                go_meet
                case rel => exact ⟨_, (((rd_T50 l0_4 x4_3).f4).toList.isEmpty), (Zchartularylaw19_right.z0), H', ⟨Zchartularylaw19_right.z3⟩, ⟨by (with_reducible repeat (first | refine blk_drewN ?_ _ | refine blk_drew ?_ | refine blk_alloc ?_ _)); exact BK105.out⟩, ⟨by (with_reducible repeat (first | refine blk_drewN ?_ _ | refine blk_drew ?_ | refine blk_alloc ?_ _)); exact BK108.out⟩, ⟨by repeat (first | (with_reducible first | exact HB.out | apply below_alloc | apply pw_below_drewN | apply below_drew1 | refine below_set ?_ GE105.out | refine below_set ?_ GE108.out) | exact HB.out)⟩⟩
               ·rw [if_neg c56] at H
                have c56b0 : (((rd_T50 l0_4 x4_3).f3).toList == ([] : List UInt8)) = false := beq_eq_false_iff_ne.mpr c56
                have c56b1 : (((rd_T50 l0_4 x4_3).f3).toList != ([] : List UInt8)) = true := bne_iff_ne.mpr c56
                have H' := Aside0.mk H
                clear H
                have hnb59 := NB108_105.out
                have hnc59 := NB105_108.out
                have hcz60_0 := cz_ BK108.out 0 rfl
                have hcz60_1 := cz_ BK108.out 1 rfl
                have hcz60_2 := cz_ BK108.out 2 rfl
                have hcz60_3 := cz_ BK108.out 3 rfl
                have hcz60_4 := cz_ BK108.out 4 rfl
                have hcz60_5 := cz_ BK108.out 5 rfl
                have hfz60_0 := blk_frozen BK108.out 0
                have hfz60_1 := blk_frozen BK108.out 1
                have hfz60_2 := blk_frozen BK108.out 2
                have hfz60_3 := blk_frozen BK108.out 3
                have hfz60_4 := blk_frozen BK108.out 4
                have hfz60_5 := blk_frozen BK108.out 5
                go_wp2
                repeat (go_quiet (fail); try go_wp2)
                go_meet
                case rel => exact ⟨_, (false), (Zchartularylaw19_right.z0), H', ⟨Zchartularylaw19_right.z3⟩, ⟨by (with_reducible repeat (first | refine blk_drewN ?_ _ | refine blk_drew ?_ | refine blk_alloc ?_ _)); exact BK105.out⟩, ⟨by (with_reducible repeat (first | refine blk_drewN ?_ _ | refine blk_drew ?_ | refine blk_alloc ?_ _)); exact BK108.out⟩, ⟨by repeat (first | (with_reducible first | exact HB.out | apply below_alloc | apply pw_below_drewN | apply below_drew1 | refine below_set ?_ GE105.out | refine below_set ?_ GE108.out) | exact HB.out)⟩⟩
              ·rw [if_neg c55] at H
               have c55b0 : ((((rd_T50 l0_4 x4_3).f5).size : Int) == 32) = false := beq_eq_false_iff_ne.mpr c55
               have c55b1 : ((((rd_T50 l0_4 x4_3).f5).size : Int) != 32) = true := bne_iff_ne.mpr c55
               have H' := Aside0.mk H
               clear H
               have hnb61 := NB108_105.out
               have hnc61 := NB105_108.out
               have hcz62_0 := cz_ BK108.out 0 rfl
               have hcz62_1 := cz_ BK108.out 1 rfl
               have hcz62_2 := cz_ BK108.out 2 rfl
               have hcz62_3 := cz_ BK108.out 3 rfl
               have hcz62_4 := cz_ BK108.out 4 rfl
               have hcz62_5 := cz_ BK108.out 5 rfl
               have hfz62_0 := blk_frozen BK108.out 0
               have hfz62_1 := blk_frozen BK108.out 1
               have hfz62_2 := blk_frozen BK108.out 2
               have hfz62_3 := blk_frozen BK108.out 3
               have hfz62_4 := blk_frozen BK108.out 4
               have hfz62_5 := blk_frozen BK108.out 5
               go_wp2
               repeat (go_quiet (fail); try go_wp2)
               go_meet
               case rel => exact ⟨_, (false), (Zchartularylaw19_right.z0), H', ⟨Zchartularylaw19_right.z3⟩, ⟨by (with_reducible repeat (first | refine blk_drewN ?_ _ | refine blk_drew ?_ | refine blk_alloc ?_ _)); exact BK105.out⟩, ⟨by (with_reducible repeat (first | refine blk_drewN ?_ _ | refine blk_drew ?_ | refine blk_alloc ?_ _)); exact BK108.out⟩, ⟨by repeat (first | (with_reducible first | exact HB.out | apply below_alloc | apply pw_below_drewN | apply below_drew1 | refine below_set ?_ GE105.out | refine below_set ?_ GE108.out) | exact HB.out)⟩⟩
             ·replace c54 := Bool.eq_false_iff.mpr c54
              subst c54
              have H1 : (chartularylaw19_right.j4 kj32 false x4_3 a0_0 a0_1 a0_2 a0_3 l0_4 l0_5 a0_6 a0_7 l0_8 ((rd_T50 l0_4 x4_3).f0) ((rd_T50 l0_4 x4_3).f1) ((rd_T50 l0_4 x4_3).f2) ((rd_T50 l0_4 x4_3).f3) ((rd_T50 l0_4 x4_3).f4) ((rd_T50 l0_4 x4_3).f5)) = some r := by rw [if_neg (show ¬ (false = true) by decide)] at H; exact H
              clear H
              have H := H1
              clear H1
              have H' := Aside0.mk H
              clear H
              go_wp2
              repeat (go_quiet (fail); try go_wp2)
              go_meet
              case rel => exact ⟨_, (false), (Zchartularylaw19_right.z0), H', ⟨Zchartularylaw19_right.z3⟩, ⟨by (with_reducible repeat (first | refine blk_drewN ?_ _ | refine blk_drew ?_ | refine blk_alloc ?_ _)); exact BK105.out⟩, ⟨by (with_reducible repeat (first | refine blk_drewN ?_ _ | refine blk_drew ?_ | refine blk_alloc ?_ _)); exact BK108.out⟩, ⟨by repeat (first | (with_reducible first | exact HB.out | apply below_alloc | apply pw_below_drewN | apply below_drew1 | refine below_set ?_ GE105.out | refine below_set ?_ GE108.out) | exact HB.out)⟩⟩
            ·rw [if_neg c53] at H
             have c53b0 : ((rd_T50 l0_4 x4_3).f2) = false := by simpa using c53
             clear c53
             (first | rw [c53b0] | (simp only [i64_w, i32_w]; rw [c53b0]) | skip)
             by_cases c63 : x3_32 = true
             ·subst c63
              have H1 : (if ((rd_T50 l0_4 x4_3).f5).toList = ([] : List UInt8) then (if (((rd_T50 l0_4 x4_3).f3).size : Int) = 16 then (chartularylaw19_right.j4 kj32 (decide ((((rd_T50 l0_4 x4_3).f4).size : Int) ≤ 208)) x4_3 a0_0 a0_1 a0_2 a0_3 l0_4 l0_5 a0_6 a0_7 l0_8 ((rd_T50 l0_4 x4_3).f0) ((rd_T50 l0_4 x4_3).f1) ((rd_T50 l0_4 x4_3).f2) ((rd_T50 l0_4 x4_3).f3) ((rd_T50 l0_4 x4_3).f4) ((rd_T50 l0_4 x4_3).f5)) else (chartularylaw19_right.j4 kj32 false x4_3 a0_0 a0_1 a0_2 a0_3 l0_4 l0_5 a0_6 a0_7 l0_8 ((rd_T50 l0_4 x4_3).f0) ((rd_T50 l0_4 x4_3).f1) ((rd_T50 l0_4 x4_3).f2) ((rd_T50 l0_4 x4_3).f3) ((rd_T50 l0_4 x4_3).f4) ((rd_T50 l0_4 x4_3).f5))) else (chartularylaw19_right.j4 kj32 false x4_3 a0_0 a0_1 a0_2 a0_3 l0_4 l0_5 a0_6 a0_7 l0_8 ((rd_T50 l0_4 x4_3).f0) ((rd_T50 l0_4 x4_3).f1) ((rd_T50 l0_4 x4_3).f2) ((rd_T50 l0_4 x4_3).f3) ((rd_T50 l0_4 x4_3).f4) ((rd_T50 l0_4 x4_3).f5))) = some r := by rw [if_pos rfl] at H; exact H
              clear H
              have H := H1
              clear H1
              by_cases c64 : ((rd_T50 l0_4 x4_3).f5).toList = ([] : List UInt8)
              ·rw [if_pos c64] at H
               have c64b0 : (((rd_T50 l0_4 x4_3).f5).toList == ([] : List UInt8)) = true := beq_iff_eq.mpr c64
               have c64b1 : (((rd_T50 l0_4 x4_3).f5).toList != ([] : List UInt8)) = false := bne_eq_false_iff_eq.mpr c64
               clear c64
               by_cases c65 : (((rd_T50 l0_4 x4_3).f3).size : Int) = 16
               ·rw [if_pos c65] at H
                have c65b0 : ((((rd_T50 l0_4 x4_3).f3).size : Int) == 16) = true := beq_iff_eq.mpr c65
                have c65b1 : ((((rd_T50 l0_4 x4_3).f3).size : Int) != 16) = false := bne_eq_false_iff_eq.mpr c65
                clear c65
                have H' := Aside0.mk H
                clear H
                have hnb66 := NB108_105.out
                have hnc66 := NB105_108.out
                have hcz67_0 := cz_ BK108.out 0 rfl
                have hcz67_1 := cz_ BK108.out 1 rfl
                have hcz67_2 := cz_ BK108.out 2 rfl
                have hcz67_3 := cz_ BK108.out 3 rfl
                have hcz67_4 := cz_ BK108.out 4 rfl
                have hcz67_5 := cz_ BK108.out 5 rfl
                have hfz67_0 := blk_frozen BK108.out 0
                have hfz67_1 := blk_frozen BK108.out 1
                have hfz67_2 := blk_frozen BK108.out 2
                have hfz67_3 := blk_frozen BK108.out 3
                have hfz67_4 := blk_frozen BK108.out 4
                have hfz67_5 := blk_frozen BK108.out 5
                go_wp2
                repeat (go_quiet (fail); try go_wp2)
                go_meet
                case rel => exact ⟨_, (decide ((((rd_T50 l0_4 x4_3).f4).size : Int) ≤ 208)), (Zchartularylaw19_right.z0), H', ⟨Zchartularylaw19_right.z3⟩, ⟨by (with_reducible repeat (first | refine blk_drewN ?_ _ | refine blk_drew ?_ | refine blk_alloc ?_ _)); exact BK105.out⟩, ⟨by (with_reducible repeat (first | refine blk_drewN ?_ _ | refine blk_drew ?_ | refine blk_alloc ?_ _)); exact BK108.out⟩, ⟨by repeat (first | (with_reducible first | exact HB.out | apply below_alloc | apply pw_below_drewN | apply below_drew1 | refine below_set ?_ GE105.out | refine below_set ?_ GE108.out) | exact HB.out)⟩⟩
               ·rw [if_neg c65] at H
                have c65b0 : ((((rd_T50 l0_4 x4_3).f3).size : Int) == 16) = false := beq_eq_false_iff_ne.mpr c65
                have c65b1 : ((((rd_T50 l0_4 x4_3).f3).size : Int) != 16) = true := bne_iff_ne.mpr c65
                have H' := Aside0.mk H
                clear H
                have hnb68 := NB108_105.out
                have hnc68 := NB105_108.out
                have hcz69_0 := cz_ BK108.out 0 rfl
                have hcz69_1 := cz_ BK108.out 1 rfl
                have hcz69_2 := cz_ BK108.out 2 rfl
                have hcz69_3 := cz_ BK108.out 3 rfl
                have hcz69_4 := cz_ BK108.out 4 rfl
                have hcz69_5 := cz_ BK108.out 5 rfl
                have hfz69_0 := blk_frozen BK108.out 0
                have hfz69_1 := blk_frozen BK108.out 1
                have hfz69_2 := blk_frozen BK108.out 2
                have hfz69_3 := blk_frozen BK108.out 3
                have hfz69_4 := blk_frozen BK108.out 4
                have hfz69_5 := blk_frozen BK108.out 5
                go_wp2
                repeat (go_quiet (fail); try go_wp2)
                go_meet
                case rel => exact ⟨_, (false), (Zchartularylaw19_right.z0), H', ⟨Zchartularylaw19_right.z3⟩, ⟨by (with_reducible repeat (first | refine blk_drewN ?_ _ | refine blk_drew ?_ | refine blk_alloc ?_ _)); exact BK105.out⟩, ⟨by (with_reducible repeat (first | refine blk_drewN ?_ _ | refine blk_drew ?_ | refine blk_alloc ?_ _)); exact BK108.out⟩, ⟨by repeat (first | (with_reducible first | exact HB.out | apply below_alloc | apply pw_below_drewN | apply below_drew1 | refine below_set ?_ GE105.out | refine below_set ?_ GE108.out) | exact HB.out)⟩⟩
              ·rw [if_neg c64] at H
               have c64b0 : (((rd_T50 l0_4 x4_3).f5).toList == ([] : List UInt8)) = false := beq_eq_false_iff_ne.mpr c64
               have c64b1 : (((rd_T50 l0_4 x4_3).f5).toList != ([] : List UInt8)) = true := bne_iff_ne.mpr c64
               have H' := Aside0.mk H
               clear H
               have hnb70 := NB108_105.out
               have hnc70 := NB105_108.out
               have hcz71_0 := cz_ BK108.out 0 rfl
               have hcz71_1 := cz_ BK108.out 1 rfl
               have hcz71_2 := cz_ BK108.out 2 rfl
               have hcz71_3 := cz_ BK108.out 3 rfl
               have hcz71_4 := cz_ BK108.out 4 rfl
               have hcz71_5 := cz_ BK108.out 5 rfl
               have hfz71_0 := blk_frozen BK108.out 0
               have hfz71_1 := blk_frozen BK108.out 1
               have hfz71_2 := blk_frozen BK108.out 2
               have hfz71_3 := blk_frozen BK108.out 3
               have hfz71_4 := blk_frozen BK108.out 4
               have hfz71_5 := blk_frozen BK108.out 5
               go_wp2
               repeat (go_quiet (fail); try go_wp2)
               go_meet
               case rel => exact ⟨_, (false), (Zchartularylaw19_right.z0), H', ⟨Zchartularylaw19_right.z3⟩, ⟨by (with_reducible repeat (first | refine blk_drewN ?_ _ | refine blk_drew ?_ | refine blk_alloc ?_ _)); exact BK105.out⟩, ⟨by (with_reducible repeat (first | refine blk_drewN ?_ _ | refine blk_drew ?_ | refine blk_alloc ?_ _)); exact BK108.out⟩, ⟨by repeat (first | (with_reducible first | exact HB.out | apply below_alloc | apply pw_below_drewN | apply below_drew1 | refine below_set ?_ GE105.out | refine below_set ?_ GE108.out) | exact HB.out)⟩⟩
             ·replace c63 := Bool.eq_false_iff.mpr c63
              subst c63
              have H1 : (chartularylaw19_right.j4 kj32 false x4_3 a0_0 a0_1 a0_2 a0_3 l0_4 l0_5 a0_6 a0_7 l0_8 ((rd_T50 l0_4 x4_3).f0) ((rd_T50 l0_4 x4_3).f1) ((rd_T50 l0_4 x4_3).f2) ((rd_T50 l0_4 x4_3).f3) ((rd_T50 l0_4 x4_3).f4) ((rd_T50 l0_4 x4_3).f5)) = some r := by rw [if_neg (show ¬ (false = true) by decide)] at H; exact H
              clear H
              have H := H1
              clear H1
              have H' := Aside0.mk H
              clear H
              go_wp2
              repeat (go_quiet (fail); try go_wp2)
              go_meet
              case rel => exact ⟨_, (false), (Zchartularylaw19_right.z0), H', ⟨Zchartularylaw19_right.z3⟩, ⟨by (with_reducible repeat (first | refine blk_drewN ?_ _ | refine blk_drew ?_ | refine blk_alloc ?_ _)); exact BK105.out⟩, ⟨by (with_reducible repeat (first | refine blk_drewN ?_ _ | refine blk_drew ?_ | refine blk_alloc ?_ _)); exact BK108.out⟩, ⟨by repeat (first | (with_reducible first | exact HB.out | apply below_alloc | apply pw_below_drewN | apply below_drew1 | refine below_set ?_ GE105.out | refine below_set ?_ GE108.out) | exact HB.out)⟩⟩
           case rest => as_aux_lemma =>
            clear HC50
            try clear c1
            try clear p1
            try clear q1
            try clear hx1
            try clear c2
            try clear p2
            try clear c3
            try clear c4
            try clear c5
            try clear c6
            try clear c7
            try clear p10
            try clear q10
            try clear hx10
            try clear c19
            try clear c20
            try clear c20b0
            try clear c21
            try clear c21b0
            try clear c22
            try clear c22b0
            try clear c23
            try clear c23b0
            try clear c24
            try clear c24b0
            try clear c24b1
            try clear c31
            try clear c31b0
            try clear c32
            try clear c32b0
            try clear c36
            try clear c38
            try clear c39
            try clear c39b0
            try clear c40
            try clear c40b0
            try clear c42
            try clear c45
            try clear c48
            try clear c51
            try clear c53
            try clear c53b0
            try clear c54
            try clear c55
            try clear c55b0
            try clear c55b1
            try clear c56
            try clear c56b0
            try clear c56b1
            try clear c57
            try clear c59
            try clear c61
            try clear c63
            try clear c64
            try clear c64b0
            try clear c64b1
            try clear c65
            try clear c65b0
            try clear c65b1
            try clear c66
            try clear c68
            try clear c70
            try clear hcz11_0
            try clear hcz11_1
            try clear hcz11_2
            try clear hcz11_3
            try clear hcz11_4
            try clear hcz11_5
            try clear hcz11_6
            try clear hcz11_7
            try clear hcz11_8
            try clear hcz12_0
            try clear hcz12_1
            try clear hcz12_2
            try clear hcz12_3
            try clear hcz12_4
            try clear hcz12_5
            try clear hcz12_6
            try clear hcz12_7
            try clear hcz12_8
            try clear hcz13_0
            try clear hcz13_1
            try clear hcz13_2
            try clear hcz13_3
            try clear hcz13_4
            try clear hcz13_5
            try clear hcz13_6
            try clear hcz13_7
            try clear hcz13_8
            try clear hcz14_0
            try clear hcz14_1
            try clear hcz14_2
            try clear hcz14_3
            try clear hcz14_4
            try clear hcz14_5
            try clear hcz14_6
            try clear hcz14_7
            try clear hcz14_8
            try clear hcz15_0
            try clear hcz15_1
            try clear hcz15_2
            try clear hcz15_3
            try clear hcz15_4
            try clear hcz15_5
            try clear hcz15_6
            try clear hcz15_7
            try clear hcz15_8
            try clear hcz16_0
            try clear hcz16_1
            try clear hcz16_2
            try clear hcz16_3
            try clear hcz16_4
            try clear hcz16_5
            try clear hcz16_6
            try clear hcz16_7
            try clear hcz16_8
            try clear hcz17_0
            try clear hcz17_1
            try clear hcz17_2
            try clear hcz17_3
            try clear hcz17_4
            try clear hcz17_5
            try clear hcz17_6
            try clear hcz17_7
            try clear hcz17_8
            try clear hcz25_0
            try clear hcz25_1
            try clear hcz25_2
            try clear hcz25_3
            try clear hcz25_4
            try clear hcz25_5
            try clear hcz25_6
            try clear hcz25_7
            try clear hcz25_8
            try clear hcz26_0
            try clear hcz26_1
            try clear hcz26_2
            try clear hcz26_3
            try clear hcz26_4
            try clear hcz26_5
            try clear hcz26_6
            try clear hcz26_7
            try clear hcz26_8
            try clear hcz27_0
            try clear hcz27_1
            try clear hcz27_2
            try clear hcz27_3
            try clear hcz27_4
            try clear hcz27_5
            try clear hcz27_6
            try clear hcz27_7
            try clear hcz27_8
            try clear hcz28_0
            try clear hcz28_1
            try clear hcz28_2
            try clear hcz28_3
            try clear hcz28_4
            try clear hcz28_5
            try clear hcz28_6
            try clear hcz28_7
            try clear hcz28_8
            try clear hcz29_0
            try clear hcz29_1
            try clear hcz29_2
            try clear hcz29_3
            try clear hcz29_4
            try clear hcz29_5
            try clear hcz29_6
            try clear hcz29_7
            try clear hcz29_8
            try clear hcz30_0
            try clear hcz30_1
            try clear hcz30_2
            try clear hcz30_3
            try clear hcz30_4
            try clear hcz30_5
            try clear hcz30_6
            try clear hcz30_7
            try clear hcz30_8
            try clear hcz34_0
            try clear hcz34_1
            try clear hcz34_2
            try clear hcz34_3
            try clear hcz34_4
            try clear hcz34_5
            try clear hcz34_6
            try clear hcz34_7
            try clear hcz34_8
            try clear hcz37_0
            try clear hcz37_1
            try clear hcz37_2
            try clear hcz37_3
            try clear hcz37_4
            try clear hcz37_5
            try clear hcz43_0
            try clear hcz43_1
            try clear hcz43_2
            try clear hcz43_3
            try clear hcz43_4
            try clear hcz43_5
            try clear hcz44_0
            try clear hcz44_1
            try clear hcz44_2
            try clear hcz44_3
            try clear hcz44_4
            try clear hcz44_5
            try clear hcz44_6
            try clear hcz44_7
            try clear hcz44_8
            try clear hcz46_0
            try clear hcz46_1
            try clear hcz46_2
            try clear hcz46_3
            try clear hcz46_4
            try clear hcz46_5
            try clear hcz47_0
            try clear hcz47_1
            try clear hcz47_2
            try clear hcz47_3
            try clear hcz47_4
            try clear hcz47_5
            try clear hcz47_6
            try clear hcz47_7
            try clear hcz47_8
            try clear hcz49_0
            try clear hcz49_1
            try clear hcz49_2
            try clear hcz49_3
            try clear hcz49_4
            try clear hcz49_5
            try clear hcz52_0
            try clear hcz52_1
            try clear hcz52_2
            try clear hcz52_3
            try clear hcz52_4
            try clear hcz52_5
            try clear hcz58_0
            try clear hcz58_1
            try clear hcz58_2
            try clear hcz58_3
            try clear hcz58_4
            try clear hcz58_5
            try clear hcz60_0
            try clear hcz60_1
            try clear hcz60_2
            try clear hcz60_3
            try clear hcz60_4
            try clear hcz60_5
            try clear hcz62_0
            try clear hcz62_1
            try clear hcz62_2
            try clear hcz62_3
            try clear hcz62_4
            try clear hcz62_5
            try clear hcz67_0
            try clear hcz67_1
            try clear hcz67_2
            try clear hcz67_3
            try clear hcz67_4
            try clear hcz67_5
            try clear hcz69_0
            try clear hcz69_1
            try clear hcz69_2
            try clear hcz69_3
            try clear hcz69_4
            try clear hcz69_5
            try clear hcz71_0
            try clear hcz71_1
            try clear hcz71_2
            try clear hcz71_3
            try clear hcz71_4
            try clear hcz71_5
            try clear hfz11_0
            try clear hfz11_1
            try clear hfz11_2
            try clear hfz11_3
            try clear hfz11_4
            try clear hfz11_5
            try clear hfz11_6
            try clear hfz11_7
            try clear hfz11_8
            try clear hfz12_0
            try clear hfz12_1
            try clear hfz12_2
            try clear hfz12_3
            try clear hfz12_4
            try clear hfz12_5
            try clear hfz12_6
            try clear hfz12_7
            try clear hfz12_8
            try clear hfz13_0
            try clear hfz13_1
            try clear hfz13_2
            try clear hfz13_3
            try clear hfz13_4
            try clear hfz13_5
            try clear hfz13_6
            try clear hfz13_7
            try clear hfz13_8
            try clear hfz14_0
            try clear hfz14_1
            try clear hfz14_2
            try clear hfz14_3
            try clear hfz14_4
            try clear hfz14_5
            try clear hfz14_6
            try clear hfz14_7
            try clear hfz14_8
            try clear hfz15_0
            try clear hfz15_1
            try clear hfz15_2
            try clear hfz15_3
            try clear hfz15_4
            try clear hfz15_5
            try clear hfz15_6
            try clear hfz15_7
            try clear hfz15_8
            try clear hfz16_0
            try clear hfz16_1
            try clear hfz16_2
            try clear hfz16_3
            try clear hfz16_4
            try clear hfz16_5
            try clear hfz16_6
            try clear hfz16_7
            try clear hfz16_8
            try clear hfz17_0
            try clear hfz17_1
            try clear hfz17_2
            try clear hfz17_3
            try clear hfz17_4
            try clear hfz17_5
            try clear hfz17_6
            try clear hfz17_7
            try clear hfz17_8
            try clear hfz25_0
            try clear hfz25_1
            try clear hfz25_2
            try clear hfz25_3
            try clear hfz25_4
            try clear hfz25_5
            try clear hfz25_6
            try clear hfz25_7
            try clear hfz25_8
            try clear hfz26_0
            try clear hfz26_1
            try clear hfz26_2
            try clear hfz26_3
            try clear hfz26_4
            try clear hfz26_5
            try clear hfz26_6
            try clear hfz26_7
            try clear hfz26_8
            try clear hfz27_0
            try clear hfz27_1
            try clear hfz27_2
            try clear hfz27_3
            try clear hfz27_4
            try clear hfz27_5
            try clear hfz27_6
            try clear hfz27_7
            try clear hfz27_8
            try clear hfz28_0
            try clear hfz28_1
            try clear hfz28_2
            try clear hfz28_3
            try clear hfz28_4
            try clear hfz28_5
            try clear hfz28_6
            try clear hfz28_7
            try clear hfz28_8
            try clear hfz29_0
            try clear hfz29_1
            try clear hfz29_2
            try clear hfz29_3
            try clear hfz29_4
            try clear hfz29_5
            try clear hfz29_6
            try clear hfz29_7
            try clear hfz29_8
            try clear hfz30_0
            try clear hfz30_1
            try clear hfz30_2
            try clear hfz30_3
            try clear hfz30_4
            try clear hfz30_5
            try clear hfz30_6
            try clear hfz30_7
            try clear hfz30_8
            try clear hfz34_0
            try clear hfz34_1
            try clear hfz34_2
            try clear hfz34_3
            try clear hfz34_4
            try clear hfz34_5
            try clear hfz34_6
            try clear hfz34_7
            try clear hfz34_8
            try clear hfz37_0
            try clear hfz37_1
            try clear hfz37_2
            try clear hfz37_3
            try clear hfz37_4
            try clear hfz37_5
            try clear hfz43_0
            try clear hfz43_1
            try clear hfz43_2
            try clear hfz43_3
            try clear hfz43_4
            try clear hfz43_5
            try clear hfz44_0
            try clear hfz44_1
            try clear hfz44_2
            try clear hfz44_3
            try clear hfz44_4
            try clear hfz44_5
            try clear hfz44_6
            try clear hfz44_7
            try clear hfz44_8
            try clear hfz46_0
            try clear hfz46_1
            try clear hfz46_2
            try clear hfz46_3
            try clear hfz46_4
            try clear hfz46_5
            try clear hfz47_0
            try clear hfz47_1
            try clear hfz47_2
            try clear hfz47_3
            try clear hfz47_4
            try clear hfz47_5
            try clear hfz47_6
            try clear hfz47_7
            try clear hfz47_8
            try clear hfz49_0
            try clear hfz49_1
            try clear hfz49_2
            try clear hfz49_3
            try clear hfz49_4
            try clear hfz49_5
            try clear hfz52_0
            try clear hfz52_1
            try clear hfz52_2
            try clear hfz52_3
            try clear hfz52_4
            try clear hfz52_5
            try clear hfz58_0
            try clear hfz58_1
            try clear hfz58_2
            try clear hfz58_3
            try clear hfz58_4
            try clear hfz58_5
            try clear hfz60_0
            try clear hfz60_1
            try clear hfz60_2
            try clear hfz60_3
            try clear hfz60_4
            try clear hfz60_5
            try clear hfz62_0
            try clear hfz62_1
            try clear hfz62_2
            try clear hfz62_3
            try clear hfz62_4
            try clear hfz62_5
            try clear hfz67_0
            try clear hfz67_1
            try clear hfz67_2
            try clear hfz67_3
            try clear hfz67_4
            try clear hfz67_5
            try clear hfz69_0
            try clear hfz69_1
            try clear hfz69_2
            try clear hfz69_3
            try clear hfz69_4
            try clear hfz69_5
            try clear hfz71_0
            try clear hfz71_1
            try clear hfz71_2
            try clear hfz71_3
            try clear hfz71_4
            try clear hfz71_5
            try clear hx107_0
            try clear hx107_1
            try clear hx107_2
            try clear hx107_3
            try clear hx107_4
            try clear hx107_5
            try clear p107
            try clear p2
            try clear q10
            try clear q107
            obtain ⟨kq, x3_49, rfl, HA, HJ49, BK105, BK108, HB⟩ := hcut
            cases kq with
            | zero => exact absurd HA.out (by simp [chartularylaw19_right.j4])
            | succ kj49 =>
             have H := HA.out
             clear HA
             simp only [chartularylaw19_right.j4] at H
             by_cases c72 : x4_3 > 0
             ·rw [if_pos c72] at H
              have c72b0 : decide (0 < x4_3) = true := decide_eq_true c72
              clear c72
              by_cases c73 : x3_49 = true
              ·subst c73
               have H1 : (if 0 ≤ (wrap64 (x4_3 - 1)) then (if (wrap64 (x4_3 - 1)) < (l0_4.length : Int) then (if ((rd_T50 l0_4 (wrap64 (x4_3 - 1))).f0) < ((rd_T50 l0_4 x4_3).f0) then (chartularylaw19_right.l0 kj49 (Op.bytesLess (((rd_T50 l0_4 (wrap64 (x4_3 - 1))).f1).toList) ((rd_T50 l0_4 x4_3).f1).toList) (wrap64 (x4_3 + 1)) a0_0 a0_1 a0_2 a0_3 l0_4 l0_5 a0_6 a0_7 l0_8) else (chartularylaw19_right.l0 kj49 false (wrap64 (x4_3 + 1)) a0_0 a0_1 a0_2 a0_3 l0_4 l0_5 a0_6 a0_7 l0_8)) else (none)) else (none)) = some r := by rw [if_pos rfl] at H; exact H
               clear H
               have H := H1
               clear H1
               obtain ⟨ji74, hji74⟩ : ∃ j_ : Int, (wrap64 (x4_3 - 1)) = j_ := ⟨_, rfl⟩
               replace H : (if 0 ≤ (ji74) then (if (ji74) < (l0_4.length : Int) then (if ((rd_T50 l0_4 (ji74)).f0) < ((rd_T50 l0_4 x4_3).f0) then (chartularylaw19_right.l0 kj49 (Op.bytesLess (((rd_T50 l0_4 (ji74)).f1).toList) ((rd_T50 l0_4 x4_3).f1).toList) (wrap64 (x4_3 + 1)) a0_0 a0_1 a0_2 a0_3 l0_4 l0_5 a0_6 a0_7 l0_8) else (chartularylaw19_right.l0 kj49 false (wrap64 (x4_3 + 1)) a0_0 a0_1 a0_2 a0_3 l0_4 l0_5 a0_6 a0_7 l0_8)) else (none)) else (none)) = some r := by first | (rw [hji74] at H; exact H) | (simp only [hji74] at H ⊢; exact H)
               have hji74w : (IntKind.i64.wrap (x4_3 - 1)) = ji74 := (i64_w _).trans hji74
               by_cases c75 : 0 ≤ (ji74)
               ·rw [if_pos c75] at H
                have c75b0 : decide (0 ≤ (ji74)) = true := decide_eq_true c75
                clear c75
                by_cases c76 : (ji74) < (l0_4.length : Int)
                ·rw [if_pos c76] at H
                 have c76b0 : decide ((ji74) < (l0_4.length : Int)) = true := decide_eq_true c76
                 clear c76
                 by_cases c77 : ((rd_T50 l0_4 (ji74)).f0) < ((rd_T50 l0_4 x4_3).f0)
                 ·rw [if_pos c77] at H
                  have c77b0 : decide (((rd_T50 l0_4 (ji74)).f0) < ((rd_T50 l0_4 x4_3).f0)) = true := decide_eq_true c77
                  clear c77
                  have H' := Aside0.mk H
                  clear H
                  have hnb78 := NB105_108.out
                  have hnc78 := NB108_105.out
                  have hcz79_0 := cz_ BK105.out 0 rfl
                  have hcz79_1 := cz_ BK105.out 1 rfl
                  have hcz79_2 := cz_ BK105.out 2 rfl
                  have hcz79_3 := cz_ BK105.out 3 rfl
                  have hcz79_4 := cz_ BK105.out 4 rfl
                  have hcz79_5 := cz_ BK105.out 5 rfl
                  have hcz79_6 := cz_ BK105.out 6 rfl
                  have hcz79_7 := cz_ BK105.out 7 rfl
                  have hcz79_8 := cz_ BK105.out 8 rfl
                  have hfz79_0 := blk_frozen BK105.out 0
                  have hfz79_1 := blk_frozen BK105.out 1
                  have hfz79_2 := blk_frozen BK105.out 2
                  have hfz79_3 := blk_frozen BK105.out 3
                  have hfz79_4 := blk_frozen BK105.out 4
                  have hfz79_5 := blk_frozen BK105.out 5
                  have hfz79_6 := blk_frozen BK105.out 6
                  have hfz79_7 := blk_frozen BK105.out 7
                  have hfz79_8 := blk_frozen BK105.out 8
                  have p110 : 0 ≤ ((ji74) : Int) := of_decide_eq_true (Zchartularylaw19_right.z2)
                  have q110 : (ji74) < (l0_4.length : Int) := of_decide_eq_true (Zchartularylaw19_right.z2)
                  obtain ⟨ad110, e110, hx110_0, hx110_1, hx110_2, hx110_3, hx110_4, hx110_5⟩ := at_T50 HR0_4.out (ji74) p110 q110
                  obtain rfl : ad107 = ad110 := (by injection e110)
                  replace hx110_0 := (HB.out.cell (World.block_lt_of_cell? w _ hx110_0)).trans hx110_0
                  replace hx110_1 := (HB.out.cell (World.block_lt_of_cell? w _ hx110_1)).trans hx110_1
                  replace hx110_2 := (HB.out.cell (World.block_lt_of_cell? w _ hx110_2)).trans hx110_2
                  replace hx110_3 := (HB.out.cell (World.block_lt_of_cell? w _ hx110_3)).trans hx110_3
                  replace hx110_4 := (HB.out.cell (World.block_lt_of_cell? w _ hx110_4)).trans hx110_4
                  replace hx110_5 := (HB.out.cell (World.block_lt_of_cell? w _ hx110_5)).trans hx110_5
                  replace p110 := eq_true p110
                  replace q110 := eq_true q110
                  have hcz80_0 := cz_ BK108.out 0 rfl
                  have hcz80_1 := cz_ BK108.out 1 rfl
                  have hcz80_2 := cz_ BK108.out 2 rfl
                  have hcz80_3 := cz_ BK108.out 3 rfl
                  have hcz80_4 := cz_ BK108.out 4 rfl
                  have hcz80_5 := cz_ BK108.out 5 rfl
                  have hfz80_0 := blk_frozen BK108.out 0
                  have hfz80_1 := blk_frozen BK108.out 1
                  have hfz80_2 := blk_frozen BK108.out 2
                  have hfz80_3 := blk_frozen BK108.out 3
                  have hfz80_4 := blk_frozen BK108.out 4
                  have hfz80_5 := blk_frozen BK108.out 5
                  have p111 : 0 ≤ ((ji74) : Int) := of_decide_eq_true (Zchartularylaw19_right.z2)
                  have q111 : (ji74) < (l0_4.length : Int) := of_decide_eq_true (Zchartularylaw19_right.z2)
                  obtain ⟨ad111, e111, hx111_0, hx111_1, hx111_2, hx111_3, hx111_4, hx111_5⟩ := at_T50 HR0_4.out (ji74) p111 q111
                  obtain rfl : ad107 = ad111 := (by injection e111)
                  replace hx111_0 := (HB.out.cell (World.block_lt_of_cell? w _ hx111_0)).trans hx111_0
                  replace hx111_1 := (HB.out.cell (World.block_lt_of_cell? w _ hx111_1)).trans hx111_1
                  replace hx111_2 := (HB.out.cell (World.block_lt_of_cell? w _ hx111_2)).trans hx111_2
                  replace hx111_3 := (HB.out.cell (World.block_lt_of_cell? w _ hx111_3)).trans hx111_3
                  replace hx111_4 := (HB.out.cell (World.block_lt_of_cell? w _ hx111_4)).trans hx111_4
                  replace hx111_5 := (HB.out.cell (World.block_lt_of_cell? w _ hx111_5)).trans hx111_5
                  replace p111 := eq_true p111
                  replace q111 := eq_true q111
                  go_wp2
                  repeat (go_quiet (fail); try go_wp2)
                  go_roundg kj49
                  case measure => have := HJ1.out; have := HJ17.out; have := HK3.out; have := HJ32.out; have := HJ49.out; omega
                  case rel => exact ⟨((Op.bytesLess (((rd_T50 l0_4 (ji74)).f1).toList) ((rd_T50 l0_4 x4_3).f1).toList)), (wrap64 (x4_3 + 1)), (by first | rfl | (simp; done) | (simp only [← hji74] <;> (first | rfl | simp)) | (simp [*]; done)), (Zchartularylaw19_right.z0), H', ⟨Zchartularylaw19_right.z8⟩, ⟨by (with_reducible repeat (first | refine blk_drewN ?_ _ | refine blk_drew ?_ | refine blk_alloc ?_ _)); exact BK105.out⟩, ⟨by repeat (first | (with_reducible first | exact HB.out | apply below_alloc | apply pw_below_drewN | apply below_drew1 | refine below_set ?_ GE105.out | refine below_set ?_ GE108.out) | exact HB.out)⟩⟩
                 ·rw [if_neg c77] at H
                  have c77b0 : decide (((rd_T50 l0_4 (ji74)).f0) < ((rd_T50 l0_4 x4_3).f0)) = false := decide_eq_false c77
                  clear c77
                  have H' := Aside0.mk H
                  clear H
                  have hnb81 := NB105_108.out
                  have hnc81 := NB108_105.out
                  have hcz82_0 := cz_ BK105.out 0 rfl
                  have hcz82_1 := cz_ BK105.out 1 rfl
                  have hcz82_2 := cz_ BK105.out 2 rfl
                  have hcz82_3 := cz_ BK105.out 3 rfl
                  have hcz82_4 := cz_ BK105.out 4 rfl
                  have hcz82_5 := cz_ BK105.out 5 rfl
                  have hcz82_6 := cz_ BK105.out 6 rfl
                  have hcz82_7 := cz_ BK105.out 7 rfl
                  have hcz82_8 := cz_ BK105.out 8 rfl
                  have hfz82_0 := blk_frozen BK105.out 0
                  have hfz82_1 := blk_frozen BK105.out 1
                  have hfz82_2 := blk_frozen BK105.out 2
                  have hfz82_3 := blk_frozen BK105.out 3
                  have hfz82_4 := blk_frozen BK105.out 4
                  have hfz82_5 := blk_frozen BK105.out 5
                  have hfz82_6 := blk_frozen BK105.out 6
                  have hfz82_7 := blk_frozen BK105.out 7
                  have hfz82_8 := blk_frozen BK105.out 8
                  have p110 : 0 ≤ ((ji74) : Int) := of_decide_eq_true (Zchartularylaw19_right.z2)
                  have q110 : (ji74) < (l0_4.length : Int) := of_decide_eq_true (Zchartularylaw19_right.z2)
                  obtain ⟨ad110, e110, hx110_0, hx110_1, hx110_2, hx110_3, hx110_4, hx110_5⟩ := at_T50 HR0_4.out (ji74) p110 q110
                  obtain rfl : ad107 = ad110 := (by injection e110)
                  replace hx110_0 := (HB.out.cell (World.block_lt_of_cell? w _ hx110_0)).trans hx110_0
                  replace hx110_1 := (HB.out.cell (World.block_lt_of_cell? w _ hx110_1)).trans hx110_1
                  replace hx110_2 := (HB.out.cell (World.block_lt_of_cell? w _ hx110_2)).trans hx110_2
                  replace hx110_3 := (HB.out.cell (World.block_lt_of_cell? w _ hx110_3)).trans hx110_3
                  replace hx110_4 := (HB.out.cell (World.block_lt_of_cell? w _ hx110_4)).trans hx110_4
                  replace hx110_5 := (HB.out.cell (World.block_lt_of_cell? w _ hx110_5)).trans hx110_5
                  replace p110 := eq_true p110
                  replace q110 := eq_true q110
                  have hcz83_0 := cz_ BK108.out 0 rfl
                  have hcz83_1 := cz_ BK108.out 1 rfl
                  have hcz83_2 := cz_ BK108.out 2 rfl
                  have hcz83_3 := cz_ BK108.out 3 rfl
                  have hcz83_4 := cz_ BK108.out 4 rfl
                  have hcz83_5 := cz_ BK108.out 5 rfl
                  have hfz83_0 := blk_frozen BK108.out 0
                  have hfz83_1 := blk_frozen BK108.out 1
                  have hfz83_2 := blk_frozen BK108.out 2
                  have hfz83_3 := blk_frozen BK108.out 3
                  have hfz83_4 := blk_frozen BK108.out 4
                  have hfz83_5 := blk_frozen BK108.out 5
                  go_wp2
                  repeat (go_quiet (fail); try go_wp2)
                  go_roundg kj49
                  case measure => have := HJ1.out; have := HJ17.out; have := HK3.out; have := HJ32.out; have := HJ49.out; omega
                  case rel => exact ⟨(false), (wrap64 (x4_3 + 1)), (Zchartularylaw19_right.z0), (Zchartularylaw19_right.z0), H', ⟨Zchartularylaw19_right.z8⟩, ⟨by (with_reducible repeat (first | refine blk_drewN ?_ _ | refine blk_drew ?_ | refine blk_alloc ?_ _)); exact BK105.out⟩, ⟨by repeat (first | (with_reducible first | exact HB.out | apply below_alloc | apply pw_below_drewN | apply below_drew1 | refine below_set ?_ GE105.out | refine below_set ?_ GE108.out) | exact HB.out)⟩⟩
                ·rw [if_neg c76] at H
                 exact absurd H (by simp)
               ·rw [if_neg c75] at H
                exact absurd H (by simp)
              ·replace c73 := Bool.eq_false_iff.mpr c73
               subst c73
               have H1 : (chartularylaw19_right.l0 kj49 false (wrap64 (x4_3 + 1)) a0_0 a0_1 a0_2 a0_3 l0_4 l0_5 a0_6 a0_7 l0_8) = some r := by rw [if_neg (show ¬ (false = true) by decide)] at H; exact H
               clear H
               have H := H1
               clear H1
               have H' := Aside0.mk H
               clear H
               go_wp2
               repeat (go_quiet (fail); try go_wp2)
               go_roundg kj49
               case measure => have := HJ1.out; have := HJ17.out; have := HK3.out; have := HJ32.out; have := HJ49.out; omega
               case rel => exact ⟨(false), (wrap64 (x4_3 + 1)), (Zchartularylaw19_right.z0), (Zchartularylaw19_right.z0), H', ⟨Zchartularylaw19_right.z8⟩, ⟨by (with_reducible repeat (first | refine blk_drewN ?_ _ | refine blk_drew ?_ | refine blk_alloc ?_ _)); exact BK105.out⟩, ⟨by repeat (first | (with_reducible first | exact HB.out | apply below_alloc | apply pw_below_drewN | apply below_drew1 | refine below_set ?_ GE105.out | refine below_set ?_ GE108.out) | exact HB.out)⟩⟩
             ·rw [if_neg c72] at H
              have c72b0 : decide (0 < x4_3) = false := decide_eq_false c72
              clear c72
              have H' := Aside0.mk H
              clear H
              go_wp2
              repeat (go_quiet (fail); try go_wp2)
              go_roundg kj49
              case measure => have := HJ1.out; have := HJ17.out; have := HK3.out; have := HJ32.out; have := HJ49.out; omega
              case rel => exact ⟨(x3_49), (wrap64 (x4_3 + 1)), (Zchartularylaw19_right.z0), (Zchartularylaw19_right.z0), H', ⟨Zchartularylaw19_right.z8⟩, ⟨by (with_reducible repeat (first | refine blk_drewN ?_ _ | refine blk_drew ?_ | refine blk_alloc ?_ _)); exact BK105.out⟩, ⟨by repeat (first | (with_reducible first | exact HB.out | apply below_alloc | apply pw_below_drewN | apply below_drew1 | refine below_set ?_ GE105.out | refine below_set ?_ GE108.out) | exact HB.out)⟩⟩
        ·rw [if_neg c32] at H
         exact absurd H (by simp)
       ·rw [if_neg c31] at H
        have c31b0 : decide (x4_3 < (l0_4.length : Int)) = false := decide_eq_false c31
        clear c31
        by_cases c84 : x3_3 = true
        ·subst c84
         have H1 : ((chartularylaw19_sums.f k3 l0_5 12).bind fun t112 => (if t112 = true then ((chartularylaw19_sums.f k3 l0_8 16).bind fun t113 => (some t113)) else (some false))) = some r := by rw [if_pos rfl] at H; exact H
         clear H
         have H := H1
         clear H1
         replace H := Option.bind_eq_some_iff.mp H
         obtain ⟨t112, A850, H⟩ := H
         replace H : (if t112 = true then ((chartularylaw19_sums.f k3 l0_8 16).bind fun t113 => (some t113)) else (some false)) = some r := H
         have A85 := Aside0.mk A850
         clear A850
         by_cases c86 : t112 = true
         ·subst c86
          have H1 : ((chartularylaw19_sums.f k3 l0_8 16).bind fun t113 => (some t113)) = some r := by rw [if_pos rfl] at H; exact H
          clear H
          have H := H1
          clear H1
          replace H := Option.bind_eq_some_iff.mp H
          obtain ⟨t113, A870, H⟩ := H
          replace H : (some t113) = some r := H
          have A87 := Aside0.mk A870
          clear A870
          obtain rfl := Option.some.inj H
          have hcz88_0 := cz_ BK105.out 0 rfl
          have hcz88_1 := cz_ BK105.out 1 rfl
          have hcz88_2 := cz_ BK105.out 2 rfl
          have hcz88_3 := cz_ BK105.out 3 rfl
          have hcz88_4 := cz_ BK105.out 4 rfl
          have hcz88_5 := cz_ BK105.out 5 rfl
          have hcz88_6 := cz_ BK105.out 6 rfl
          have hcz88_7 := cz_ BK105.out 7 rfl
          have hcz88_8 := cz_ BK105.out 8 rfl
          have hfz88_0 := blk_frozen BK105.out 0
          have hfz88_1 := blk_frozen BK105.out 1
          have hfz88_2 := blk_frozen BK105.out 2
          have hfz88_3 := blk_frozen BK105.out 3
          have hfz88_4 := blk_frozen BK105.out 4
          have hfz88_5 := blk_frozen BK105.out 5
          have hfz88_6 := blk_frozen BK105.out 6
          have hfz88_7 := blk_frozen BK105.out 7
          have hfz88_8 := blk_frozen BK105.out 8
          go_wp2_with (first | (go_at_call 16; (with_reducible refine (chartularylaw19_sums.calls k3 _ _ l0_5 12 true _ ?side1 ?side2 A85.out).mono ?_); (case side1 => repeat (first | exact (Kd.C_below HR0_5.out HB.out) | (with_reducible refine Kd.C_alloc ?_ _) | (with_reducible refine Kd.C_drewN ?_ _) | (with_reducible refine Kd.C_drew ?_))); (case side2 => exact HC0_5.out); rintro e w' ⟨rfl, ⟨nd, rfl⟩⟩; (try first | exact ⟨rfl, _, World.drewN_drewN _ _ _⟩ | exact ⟨rfl, _, Eq.trans (World.drewN_drewN _ _ _) (congrArg (World.drewN _) (Nat.add_assoc _ _ _))⟩)) | (go_at_call 16; (with_reducible refine (chartularylaw19_sums.calls k3 _ _ l0_8 16 t113 _ ?side1 ?side2 A87.out).mono ?_); (case side1 => repeat (first | exact (Kd.C_below HR0_8.out (by repeat (first | (with_reducible first | exact HB.out | apply below_alloc | apply pw_below_drewN | apply below_drew1 | refine below_set ?_ GE105.out) | exact HB.out))) | (with_reducible refine Kd.C_alloc ?_ _) | (with_reducible refine Kd.C_drewN ?_ _) | (with_reducible refine Kd.C_drew ?_))); (case side2 => exact HC0_8.out); rintro e w' ⟨rfl, ⟨nd, rfl⟩⟩; (try first | exact ⟨rfl, _, World.drewN_drewN _ _ _⟩ | exact ⟨rfl, _, Eq.trans (World.drewN_drewN _ _ _) (congrArg (World.drewN _) (Nat.add_assoc _ _ _))⟩)))
          repeat (go_quiet (first | (go_at_call 16; (with_reducible refine (chartularylaw19_sums.calls k3 _ _ l0_5 12 true _ ?side1 ?side2 A85.out).mono ?_); (case side1 => repeat (first | exact (Kd.C_below HR0_5.out HB.out) | (with_reducible refine Kd.C_alloc ?_ _) | (with_reducible refine Kd.C_drewN ?_ _) | (with_reducible refine Kd.C_drew ?_))); (case side2 => exact HC0_5.out); rintro e w' ⟨rfl, ⟨nd, rfl⟩⟩; (try first | exact ⟨rfl, _, World.drewN_drewN _ _ _⟩ | exact ⟨rfl, _, Eq.trans (World.drewN_drewN _ _ _) (congrArg (World.drewN _) (Nat.add_assoc _ _ _))⟩)) | (go_at_call 16; (with_reducible refine (chartularylaw19_sums.calls k3 _ _ l0_8 16 t113 _ ?side1 ?side2 A87.out).mono ?_); (case side1 => repeat (first | exact (Kd.C_below HR0_8.out (by repeat (first | (with_reducible first | exact HB.out | apply below_alloc | apply pw_below_drewN | apply below_drew1 | refine below_set ?_ GE105.out) | exact HB.out))) | (with_reducible refine Kd.C_alloc ?_ _) | (with_reducible refine Kd.C_drewN ?_ _) | (with_reducible refine Kd.C_drew ?_))); (case side2 => exact HC0_8.out); rintro e w' ⟨rfl, ⟨nd, rfl⟩⟩; (try first | exact ⟨rfl, _, World.drewN_drewN _ _ _⟩ | exact ⟨rfl, _, Eq.trans (World.drewN_drewN _ _ _) (congrArg (World.drewN _) (Nat.add_assoc _ _ _))⟩))); try go_wp2_with (first | (go_at_call 16; (with_reducible refine (chartularylaw19_sums.calls k3 _ _ l0_5 12 true _ ?side1 ?side2 A85.out).mono ?_); (case side1 => repeat (first | exact (Kd.C_below HR0_5.out HB.out) | (with_reducible refine Kd.C_alloc ?_ _) | (with_reducible refine Kd.C_drewN ?_ _) | (with_reducible refine Kd.C_drew ?_))); (case side2 => exact HC0_5.out); rintro e w' ⟨rfl, ⟨nd, rfl⟩⟩; (try first | exact ⟨rfl, _, World.drewN_drewN _ _ _⟩ | exact ⟨rfl, _, Eq.trans (World.drewN_drewN _ _ _) (congrArg (World.drewN _) (Nat.add_assoc _ _ _))⟩)) | (go_at_call 16; (with_reducible refine (chartularylaw19_sums.calls k3 _ _ l0_8 16 t113 _ ?side1 ?side2 A87.out).mono ?_); (case side1 => repeat (first | exact (Kd.C_below HR0_8.out (by repeat (first | (with_reducible first | exact HB.out | apply below_alloc | apply pw_below_drewN | apply below_drew1 | refine below_set ?_ GE105.out) | exact HB.out))) | (with_reducible refine Kd.C_alloc ?_ _) | (with_reducible refine Kd.C_drewN ?_ _) | (with_reducible refine Kd.C_drew ?_))); (case side2 => exact HC0_8.out); rintro e w' ⟨rfl, ⟨nd, rfl⟩⟩; (try first | exact ⟨rfl, _, World.drewN_drewN _ _ _⟩ | exact ⟨rfl, _, Eq.trans (World.drewN_drewN _ _ _) (congrArg (World.drewN _) (Nat.add_assoc _ _ _))⟩))))
          go_ret
          exact ⟨Zchartularylaw19_right.z9, by repeat (first | (with_reducible first | exact HB.out | apply below_alloc | apply pw_below_drewN | apply below_drew1 | refine below_set ?_ GE105.out) | exact HB.out)⟩
         ·replace c86 := Bool.eq_false_iff.mpr c86
          subst c86
          have H1 : (some false) = some r := by rw [if_neg (show ¬ (false = true) by decide)] at H; exact H
          clear H
          have H := H1
          clear H1
          obtain rfl := Option.some.inj H
          have hcz89_0 := cz_ BK105.out 0 rfl
          have hcz89_1 := cz_ BK105.out 1 rfl
          have hcz89_2 := cz_ BK105.out 2 rfl
          have hcz89_3 := cz_ BK105.out 3 rfl
          have hcz89_4 := cz_ BK105.out 4 rfl
          have hcz89_5 := cz_ BK105.out 5 rfl
          have hcz89_6 := cz_ BK105.out 6 rfl
          have hcz89_7 := cz_ BK105.out 7 rfl
          have hcz89_8 := cz_ BK105.out 8 rfl
          have hfz89_0 := blk_frozen BK105.out 0
          have hfz89_1 := blk_frozen BK105.out 1
          have hfz89_2 := blk_frozen BK105.out 2
          have hfz89_3 := blk_frozen BK105.out 3
          have hfz89_4 := blk_frozen BK105.out 4
          have hfz89_5 := blk_frozen BK105.out 5
          have hfz89_6 := blk_frozen BK105.out 6
          have hfz89_7 := blk_frozen BK105.out 7
          have hfz89_8 := blk_frozen BK105.out 8
          go_wp2_with (first | (go_at_call 16; (with_reducible refine (chartularylaw19_sums.calls k3 _ _ l0_5 12 false _ ?side1 ?side2 A85.out).mono ?_); (case side1 => repeat (first | exact (Kd.C_below HR0_5.out HB.out) | (with_reducible refine Kd.C_alloc ?_ _) | (with_reducible refine Kd.C_drewN ?_ _) | (with_reducible refine Kd.C_drew ?_))); (case side2 => exact HC0_5.out); rintro e w' ⟨rfl, ⟨nd, rfl⟩⟩; (try first | exact ⟨rfl, _, World.drewN_drewN _ _ _⟩ | exact ⟨rfl, _, Eq.trans (World.drewN_drewN _ _ _) (congrArg (World.drewN _) (Nat.add_assoc _ _ _))⟩)))
          repeat (go_quiet (first | (go_at_call 16; (with_reducible refine (chartularylaw19_sums.calls k3 _ _ l0_5 12 false _ ?side1 ?side2 A85.out).mono ?_); (case side1 => repeat (first | exact (Kd.C_below HR0_5.out HB.out) | (with_reducible refine Kd.C_alloc ?_ _) | (with_reducible refine Kd.C_drewN ?_ _) | (with_reducible refine Kd.C_drew ?_))); (case side2 => exact HC0_5.out); rintro e w' ⟨rfl, ⟨nd, rfl⟩⟩; (try first | exact ⟨rfl, _, World.drewN_drewN _ _ _⟩ | exact ⟨rfl, _, Eq.trans (World.drewN_drewN _ _ _) (congrArg (World.drewN _) (Nat.add_assoc _ _ _))⟩))); try go_wp2_with (first | (go_at_call 16; (with_reducible refine (chartularylaw19_sums.calls k3 _ _ l0_5 12 false _ ?side1 ?side2 A85.out).mono ?_); (case side1 => repeat (first | exact (Kd.C_below HR0_5.out HB.out) | (with_reducible refine Kd.C_alloc ?_ _) | (with_reducible refine Kd.C_drewN ?_ _) | (with_reducible refine Kd.C_drew ?_))); (case side2 => exact HC0_5.out); rintro e w' ⟨rfl, ⟨nd, rfl⟩⟩; (try first | exact ⟨rfl, _, World.drewN_drewN _ _ _⟩ | exact ⟨rfl, _, Eq.trans (World.drewN_drewN _ _ _) (congrArg (World.drewN _) (Nat.add_assoc _ _ _))⟩))))
          go_ret
          exact ⟨Zchartularylaw19_right.z9, by repeat (first | (with_reducible first | exact HB.out | apply below_alloc | apply pw_below_drewN | apply below_drew1 | refine below_set ?_ GE105.out) | exact HB.out)⟩
        ·replace c84 := Bool.eq_false_iff.mpr c84
         subst c84
         have H1 : (some false) = some r := by rw [if_neg (show ¬ (false = true) by decide)] at H; exact H
         clear H
         have H := H1
         clear H1
         obtain rfl := Option.some.inj H
         have hcz90_0 := cz_ BK105.out 0 rfl
         have hcz90_1 := cz_ BK105.out 1 rfl
         have hcz90_2 := cz_ BK105.out 2 rfl
         have hcz90_3 := cz_ BK105.out 3 rfl
         have hcz90_4 := cz_ BK105.out 4 rfl
         have hcz90_5 := cz_ BK105.out 5 rfl
         have hcz90_6 := cz_ BK105.out 6 rfl
         have hcz90_7 := cz_ BK105.out 7 rfl
         have hcz90_8 := cz_ BK105.out 8 rfl
         have hfz90_0 := blk_frozen BK105.out 0
         have hfz90_1 := blk_frozen BK105.out 1
         have hfz90_2 := blk_frozen BK105.out 2
         have hfz90_3 := blk_frozen BK105.out 3
         have hfz90_4 := blk_frozen BK105.out 4
         have hfz90_5 := blk_frozen BK105.out 5
         have hfz90_6 := blk_frozen BK105.out 6
         have hfz90_7 := blk_frozen BK105.out 7
         have hfz90_8 := blk_frozen BK105.out 8
         go_wp2
         repeat (go_quiet (fail); try go_wp2)
         go_ret
         exact ⟨Zchartularylaw19_right.z9, by repeat (first | (with_reducible first | exact HB.out | apply below_alloc | apply pw_below_drewN | apply below_drew1 | refine below_set ?_ GE105.out) | exact HB.out)⟩


end

section
/-! ### chartularylaw19_awake: function 10 -/
def chartularylaw19_awake.f (k : Nat)  : Option (Bool) := if 32 ≤ 281474976710656 then ((proof_GrowthBytes.f k 0 (strOfNums (List.replicate 32 0)) ([] : List ByteArray)).bind fun t147 => (some ((t147.size : Int) == 36))) else (none)
theorem chartularylaw19_awake.mono : ∀ k, LeO (chartularylaw19_awake.f k ) (chartularylaw19_awake.f (k + 1) ) := by
  intro  k
  unfold chartularylaw19_awake.f
  repeat' first
      | (with_reducible exact proof_GrowthBytes.mono _ _ _ _)
      | (with_reducible exact LeO.refl _)
      | (with_reducible exact LeO.none _)
      | (with_reducible refine LeO.ite ?_ ?_)
      | (with_reducible refine LeO.bind ?_ (fun _ => ?_))
      | exact proof_GrowthBytes.mono _ _ _ _
      | exact LeO.none _
      | refine LeO.ite ?_ ?_
      | refine LeO.bind ?_ (fun _ => ?_)
theorem Zchartularylaw19_awake.z0 {P_ : Prop} (h_ : P_ := by repeat (first | (with_reducible first | exact HB.out | apply below_alloc | apply pw_below_drewN | apply below_drew1) | exact HB.out)) : P_ := h_
set_option maxHeartbeats 8000000 in
set_option maxRecDepth 100000 in
theorem chartularylaw19_awake.calls (k : Nat)  (r : Bool) (w : World) (h : chartularylaw19_awake.f k  = some r) :
    Calls Try.prog 10 #[] w fun e w' => e = .returned (.bool r) ∧ Below w.heap.size w w' := by
  have hu32 := Try.underlying32
  have hu34 := Try.underlying34
  have HB := Aside0.mk (Below.refl w.heap.size w)
  have H : (if 32 ≤ 281474976710656 then ((proof_GrowthBytes.f k 0 (strOfNums (List.replicate 32 0)) ([] : List ByteArray)).bind fun t147 => (some ((t147.size : Int) == 36))) else (none)) = some r := h
  clear h
  by_cases c1 : 32 ≤ 281474976710656
  · rw [if_pos c1] at H
    have c1b0 := eq_true c1
    have c1b1 : decide (32 ≤ 281474976710656) = true := decide_eq_true c1
    clear c1
    obtain ⟨y144, hy144⟩ : ∃ y_ : List Int, y_ = (List.replicate 32 0) := ⟨_, rfl⟩
    replace H : ((proof_GrowthBytes.f k 0 (strOfNums y144) ([] : List ByteArray)).bind fun t147 => (some ((t147.size : Int) == 36))) = some r := by first | (rw [hy144]; with_reducible exact H) | (have H2_ := (Option.bind_some _ _).symm.trans H; rw [hy144]; with_reducible exact H2_) | (have H2_ := (Option.bind_some _ _).symm.trans H; with_reducible exact H2_) | with_reducible exact H | (rw [hy144]; exact H) | exact H
    have Ny144 := Aside0.mk hy144
    clear hy144
    replace H := Option.bind_eq_some_iff.mp H
    obtain ⟨t147, A20, H⟩ := H
    replace H : (some ((t147.size : Int) == 36)) = some r := H
    have A2 := Aside0.mk A20
    clear A20
    obtain rfl := Option.some.inj H
    go_enter Try.func10, Try.ntmps10
    go_wp2_with (first | ((with_reducible refine gate_dst (N := 1) rfl ?_); refine Kd.R_make (Kd.int .u8) _ 5 rfl (N := 1) rfl 51 _ _ rfl 32 rfl rfl Try.underlying51 (.int .u8 0) 1 info5 rfl (by decide) (by omega) 0 (ok := fun _ => True) (okp := fun _ => True) rfl (fun _ hk => hk) trivial (by omega) (by omega) (Below.refl _ _) (Nat.le_refl _) ?_; intro v145 w3 ho4 hb hg_ hnew_; clear hg_ hnew_; (first | rw [← Ny144.out] at ho4 | (simp only [Int.reduceToNat] at ho4; rw [← Ny144.out] at ho4)); have n0_ := Aside0.mk (Kd.R_lower ho4 (below_size (Zchartularylaw19_awake.z0))); have n1_ := Aside0.mk (below_step (Zchartularylaw19_awake.z0) hb); clear HB; have HO146 := n0_; have HB := n1_; clear n0_ n1_; clear hb ho4; have hcv5 := own_string (P := Try.prog) Try.underlying51 Try.underlying5 Try.underlying9 (Kd.own_of_R HO146.out)) | ((with_reducible refine gate_callee (f := 15) rfl ?_); refine goesL_ (some 5) rfl rfl Try.func15 (by kernel_rfl) rfl #[.agg #[.int .i64 0, .string (strOfNums y144), .slice none 0 0]] rfl (by (try simp only [List.map_toArray, List.map_cons, List.map_nil]); first | done | rfl | (simp only [List.length_drop, List.length_take]; rfl)) ?_; (refine (proof_GrowthBytes.calls k 0 (strOfNums y144) _ _ ([] : List ByteArray) t147 _ ?side1 ?side2 A2.out).mono ?_); (case side1 => exact Kd.C_nil _ _); (case side2 => exact Nat.le_refl _); rintro e w6 ⟨rfl, hb⟩; refine ⟨_, rfl, ?_⟩; have n0_ := Aside0.mk (Kd.R_below (by (with_reducible repeat (first | apply Kd.R_alloc | apply Kd.R_drewN | apply Kd.R_drew)); exact HO146.out) hb); have n1_ := Aside0.mk (below_step (Zchartularylaw19_awake.z0) hb); clear HO146; clear HB; have HO146 := n0_; have HB := n1_; clear n0_ n1_; (try clear hb); (try clear hb2); (try clear hk); (try clear hi)))
    go_ret
    exact ⟨by first | rfl | (simp [errW_none, errW_some] <;> rfl) | (simp [*, errW_none, errW_some] <;> rfl), Zchartularylaw19_awake.z0⟩
  · rw [if_neg c1] at H
    exact absurd H (by simp)


end

section
/-! ### chartularylaw19_sameList: function 22 -/
def chartularylaw19_sameList.l0 : Nat → List ByteArray → List ByteArray → Int → Option (Bool)
  | 0, _, _, _ => none
  | k + 1, x0, x1, x5 => if x5 < (x0.length : Int) then (if 0 ≤ x5 then (if x5 < (x1.length : Int) then (if (rdOf ByteArray.empty x0 x5).toList = (rdOf ByteArray.empty x1 x5).toList then (chartularylaw19_sameList.l0 k x0 x1 (wrap64 (x5 + 1))) else (some false)) else (none)) else (none)) else (some true)
def chartularylaw19_sameList.f (k : Nat) (l0 : List ByteArray) (l1 : List ByteArray) : Option (Bool) := if (l0.length : Int) = (l1.length : Int) then (chartularylaw19_sameList.l0 k l0 l1 0) else (some false)
theorem chartularylaw19_sameList.mono_l : ∀ k, (∀ y0 y1 y2, LeO (chartularylaw19_sameList.l0 k y0 y1 y2) (chartularylaw19_sameList.l0 (k + 1) y0 y1 y2))
  | 0 => fun _ _ _ r h => by simp [chartularylaw19_sameList.l0] at h
  | k + 1 => by
    have ih0 := chartularylaw19_sameList.mono_l k
    · intro y0 y1 y2
      unfold chartularylaw19_sameList.l0
      repeat' first
      | (with_reducible exact ih0 _ _ _)
      | (with_reducible exact LeO.refl _)
      | (with_reducible exact LeO.none _)
      | (with_reducible refine LeO.ite ?_ ?_)
      | (with_reducible refine LeO.bind ?_ (fun _ => ?_))
      | exact ih0 _ _ _
      | exact LeO.none _
      | refine LeO.ite ?_ ?_
      | refine LeO.bind ?_ (fun _ => ?_)
theorem chartularylaw19_sameList.mono : ∀ a0 a1 k, LeO (chartularylaw19_sameList.f k a0 a1) (chartularylaw19_sameList.f (k + 1) a0 a1) := by
  intro a0 a1 k
  have ih0 := chartularylaw19_sameList.mono_l k
  unfold chartularylaw19_sameList.f
  repeat' first
      | (with_reducible exact ih0 _ _ _)
      | (with_reducible exact LeO.refl _)
      | (with_reducible exact LeO.none _)
      | (with_reducible refine LeO.ite ?_ ?_)
      | (with_reducible refine LeO.bind ?_ (fun _ => ?_))
      | exact ih0 _ _ _
      | exact LeO.none _
      | refine LeO.ite ?_ ?_
      | refine LeO.bind ?_ (fun _ => ?_)
theorem Zchartularylaw19_sameList.z0 {P_ : Prop} (h_ : P_ := by first | (with_reducible assumption) | assumption) : P_ := h_
theorem Zchartularylaw19_sameList.z1 {P_ : Prop} (h_ : P_ := by first | rfl | (simp; done) | (simp [*]; done)) : P_ := h_
theorem Zchartularylaw19_sameList.z2 {P_ : Prop} (h_ : P_ := by repeat (first | exact Drawn0.refl _ | apply Drawn0.step)) : P_ := h_
set_option maxHeartbeats 8000000 in
set_option maxRecDepth 100000 in
theorem chartularylaw19_sameList.calls (k : Nat) (A0 : Option Addr) (c0 : Nat) (l0 : List ByteArray) (A1 : Option Addr) (c1 : Nat) (l1 : List ByteArray) (r : Bool) (w : World) (hr0 : Kd.C Kd.string w A0 l0.length l0) (hc0 : l0.length ≤ c0) (hr1 : Kd.C Kd.string w A1 l1.length l1) (hc1 : l1.length ≤ c1) (h : chartularylaw19_sameList.f k l0 l1 = some r) :
    Calls Try.prog 22 #[.slice A0 l0.length c0, .slice A1 l1.length c1] w fun e w' => e = .returned (.bool r) ∧ Drawn0 w w' := by
  have HR0 := Aside0.mk hr0
  have HC0 := Aside0.mk hc0
  clear hr0 hc0
  have HR1 := Aside0.mk hr1
  have HC1 := Aside0.mk hc1
  clear hr1 hc1
  have H : (if (l0.length : Int) = (l1.length : Int) then (chartularylaw19_sameList.l0 k l0 l1 0) else (some false)) = some r := h
  clear h
  by_cases c3 : (l0.length : Int) = (l1.length : Int)
  · rw [if_pos c3] at H
    have c3b0 : ((l0.length : Int) == (l1.length : Int)) = true := beq_iff_eq.mpr c3
    have c3b1 : ((l0.length : Int) != (l1.length : Int)) = false := bne_eq_false_iff_eq.mpr c3
    have c3b2 : (l0.length == l1.length) = true := by first | simpa using c3 | (simp at c3 ⊢; omega)
    clear c3
    have H' := Aside0.mk H
    clear H
    go_enter Try.func22, Try.ntmps22
    go_wp2
    repeat (go_quiet (fail); try go_wp2)
    go_loopg [5] k (fun kq v5 w' => ∃ (x5_1 : Int), v5 = .int .i64 x5_1 ∧ Aside0 (chartularylaw19_sameList.l0 kq l0 l1 x5_1 = some r) ∧ Aside0 (kq ≤ k) ∧ Drawn0 w w')
    case atStart => exact ⟨(0), (Zchartularylaw19_sameList.z1), H', ⟨Nat.le_refl _⟩, Zchartularylaw19_sameList.z2⟩
    case round =>
      clear H'
      try clear c1
      try clear c2
      try clear p2
      try clear c3
      try clear c3b0
      try clear c3b1
      try clear c3b2
      obtain ⟨x5_1, rfl, HA, HK1, ⟨m1, rfl⟩⟩ := hrel
      cases gk with
      | zero => exact absurd HA.out (by simp [chartularylaw19_sameList.l0])
      | succ k1 =>
        have H := HA.out
        clear HA
        simp only [chartularylaw19_sameList.l0] at H
        by_cases c4 : x5_1 < (l0.length : Int)
        · rw [if_pos c4] at H
          have c4b0 : decide (x5_1 < (l0.length : Int)) = true := decide_eq_true c4
          clear c4
          by_cases c5 : 0 ≤ x5_1
          · rw [if_pos c5] at H
            have c5b0 : decide (0 ≤ x5_1) = true := decide_eq_true c5
            clear c5
            by_cases c6 : x5_1 < (l1.length : Int)
            · rw [if_pos c6] at H
              have c6b0 : decide (x5_1 < (l1.length : Int)) = true := decide_eq_true c6
              clear c6
              by_cases c7 : (rdOf ByteArray.empty l0 x5_1).toList = (rdOf ByteArray.empty l1 x5_1).toList
              · rw [if_pos c7] at H
                have c7b0 : ((rdOf ByteArray.empty l0 x5_1).toList == (rdOf ByteArray.empty l1 x5_1).toList) = true := beq_iff_eq.mpr c7
                have c7b1 : ((rdOf ByteArray.empty l0 x5_1).toList != (rdOf ByteArray.empty l1 x5_1).toList) = false := bne_eq_false_iff_eq.mpr c7
                clear c7
                have H' := Aside0.mk H
                clear H
                have p148 : 0 ≤ (x5_1 : Int) := of_decide_eq_true (Zchartularylaw19_sameList.z0)
                have q148 : x5_1 < (l0.length : Int) := of_decide_eq_true (Zchartularylaw19_sameList.z0)
                obtain ⟨ad148, e148, hx148_0⟩ := Kd.at_string HR0.out x5_1 p148 q148
                cases e148
                replace p148 := eq_true p148
                replace q148 := eq_true q148
                have p149 : 0 ≤ (x5_1 : Int) := of_decide_eq_true (Zchartularylaw19_sameList.z0)
                have q149 : x5_1 < (l1.length : Int) := of_decide_eq_true (Zchartularylaw19_sameList.z0)
                obtain ⟨ad149, e149, hx149_0⟩ := Kd.at_string HR1.out x5_1 p149 q149
                cases e149
                replace p149 := eq_true p149
                replace q149 := eq_true q149
                go_wp2
                repeat (go_quiet (fail); try go_wp2)
                go_roundg k1
                case measure => have := HK1.out; omega
                case rel => exact ⟨(wrap64 (x5_1 + 1)), (Zchartularylaw19_sameList.z1), H', ⟨by have := HK1.out; omega⟩, Zchartularylaw19_sameList.z2⟩
              · rw [if_neg c7] at H
                have c7b0 : ((rdOf ByteArray.empty l0 x5_1).toList == (rdOf ByteArray.empty l1 x5_1).toList) = false := beq_eq_false_iff_ne.mpr c7
                have c7b1 : ((rdOf ByteArray.empty l0 x5_1).toList != (rdOf ByteArray.empty l1 x5_1).toList) = true := bne_iff_ne.mpr c7
                obtain rfl := Option.some.inj H
                have p148 : 0 ≤ (x5_1 : Int) := of_decide_eq_true (Zchartularylaw19_sameList.z0)
                have q148 : x5_1 < (l0.length : Int) := of_decide_eq_true (Zchartularylaw19_sameList.z0)
                obtain ⟨ad148, e148, hx148_0⟩ := Kd.at_string HR0.out x5_1 p148 q148
                cases e148
                replace p148 := eq_true p148
                replace q148 := eq_true q148
                have p149 : 0 ≤ (x5_1 : Int) := of_decide_eq_true (Zchartularylaw19_sameList.z0)
                have q149 : x5_1 < (l1.length : Int) := of_decide_eq_true (Zchartularylaw19_sameList.z0)
                obtain ⟨ad149, e149, hx149_0⟩ := Kd.at_string HR1.out x5_1 p149 q149
                cases e149
                replace p149 := eq_true p149
                replace q149 := eq_true q149
                go_wp2
                repeat (go_quiet (fail); try go_wp2)
                go_ret
                exact ⟨Zchartularylaw19_sameList.z1, Zchartularylaw19_sameList.z2⟩
            · rw [if_neg c6] at H
              exact absurd H (by simp)
          · rw [if_neg c5] at H
            exact absurd H (by simp)
        · rw [if_neg c4] at H
          have c4b0 : decide (x5_1 < (l0.length : Int)) = false := decide_eq_false c4
          clear c4
          obtain rfl := Option.some.inj H
          go_wp2
          repeat (go_quiet (fail); try go_wp2)
          go_ret
          exact ⟨Zchartularylaw19_sameList.z1, Zchartularylaw19_sameList.z2⟩
  · rw [if_neg c3] at H
    have c3b0 : ((l0.length : Int) == (l1.length : Int)) = false := beq_eq_false_iff_ne.mpr c3
    have c3b1 : ((l0.length : Int) != (l1.length : Int)) = true := bne_iff_ne.mpr c3
    have c3b2 : (l0.length == l1.length) = false := by first | simpa using c3 | (simp at c3 ⊢; omega)
    obtain rfl := Option.some.inj H
    go_enter Try.func22, Try.ntmps22
    go_wp2
    repeat (go_quiet (fail); try go_wp2)
    go_ret
    exact ⟨Zchartularylaw19_sameList.z1, Zchartularylaw19_sameList.z2⟩


end

section
attribute [local go_sem high] eqA50
/-! ### chartularylaw19_same: function 12 -/
mutual
def chartularylaw19_same.j0 : Nat → Bool → ByteArray → Int → Int → Int → List (S50) → List ByteArray → Int → Int → List ByteArray → ByteArray → Int → Int → Int → List (S50) → List ByteArray → Int → Int → List ByteArray → Option (Bool)
 | 0, _, _, _, _, _, _, _, _, _, _, _, _, _, _, _, _, _, _, _ => none
 | k + 1, x54, x151000, x151001, x151002, x151003, x151004, x151005, x151006, x151007, x151008, x152000, x152001, x152002, x152003, x152004, x152005, x152006, x152007, x152008 => if x54 = true then (some false) else (chartularylaw19_same.l0 k 0 x151000 x151001 x151002 x151003 x151004 x151005 x151006 x151007 x151008 x152000 x152001 x152002 x152003 x152004 x152005 x152006 x152007 x152008)
def chartularylaw19_same.l0 : Nat → Int → ByteArray → Int → Int → Int → List (S50) → List ByteArray → Int → Int → List ByteArray → ByteArray → Int → Int → Int → List (S50) → List ByteArray → Int → Int → List ByteArray → Option (Bool)
 | 0, _, _, _, _, _, _, _, _, _, _, _, _, _, _, _, _, _, _, _ => none
 | k + 1, x5, x151000, x151001, x151002, x151003, x151004, x151005, x151006, x151007, x151008, x152000, x152001, x152002, x152003, x152004, x152005, x152006, x152007, x152008 => if x5 < (x151004.length : Int) then (if 0 ≤ x5 then (if x5 < (x152004.length : Int) then (if (!(((rd_T50 x151004 x5).f0) == ((rd_T50 x152004 x5).f0)) || (!((((rd_T50 x151004 x5).f1).toList) == (((rd_T50 x152004 x5).f1).toList)) || (!(((rd_T50 x151004 x5).f2) == ((rd_T50 x152004 x5).f2)) || (!((((rd_T50 x151004 x5).f3).toList) == (((rd_T50 x152004 x5).f3).toList)) || (!((((rd_T50 x151004 x5).f4).toList) == (((rd_T50 x152004 x5).f4).toList)) || (!((((rd_T50 x151004 x5).f5).toList) == (((rd_T50 x152004 x5).f5).toList)))))))) = true then (some false) else (chartularylaw19_same.l0 k (wrap64 (x5 + 1)) x151000 x151001 x151002 x151003 x151004 x151005 x151006 x151007 x151008 x152000 x152001 x152002 x152003 x152004 x152005 x152006 x152007 x152008)) else (none)) else (none)) else ((chartularylaw19_sameList.f k x151005 x152005).bind fun t154 => (if t154 = true then ((chartularylaw19_sameList.f k x151008 x152008).bind fun t155 => (some t155)) else (some false)))
end
def chartularylaw19_same.f (k : Nat) (a0_0 : ByteArray) (a0_1 : Int) (a0_2 : Int) (a0_3 : Int) (l0_4 : List (S50)) (l0_5 : List ByteArray) (a0_6 : Int) (a0_7 : Int) (l0_8 : List ByteArray) (a1_0 : ByteArray) (a1_1 : Int) (a1_2 : Int) (a1_3 : Int) (l1_4 : List (S50)) (l1_5 : List ByteArray) (a1_6 : Int) (a1_7 : Int) (l1_8 : List ByteArray) : Option (Bool) := if a0_0.toList = a1_0.toList then (if a0_1 = a1_1 then (if a0_2 = a1_2 then (if a0_3 = a1_3 then (if a0_6 = a1_6 then (if a0_7 = a1_7 then (chartularylaw19_same.j0 k ((l0_4.length : Int) != (l1_4.length : Int)) a0_0 a0_1 a0_2 a0_3 l0_4 l0_5 a0_6 a0_7 l0_8 a1_0 a1_1 a1_2 a1_3 l1_4 l1_5 a1_6 a1_7 l1_8) else (chartularylaw19_same.j0 k true a0_0 a0_1 a0_2 a0_3 l0_4 l0_5 a0_6 a0_7 l0_8 a1_0 a1_1 a1_2 a1_3 l1_4 l1_5 a1_6 a1_7 l1_8)) else (chartularylaw19_same.j0 k true a0_0 a0_1 a0_2 a0_3 l0_4 l0_5 a0_6 a0_7 l0_8 a1_0 a1_1 a1_2 a1_3 l1_4 l1_5 a1_6 a1_7 l1_8)) else (chartularylaw19_same.j0 k true a0_0 a0_1 a0_2 a0_3 l0_4 l0_5 a0_6 a0_7 l0_8 a1_0 a1_1 a1_2 a1_3 l1_4 l1_5 a1_6 a1_7 l1_8)) else (chartularylaw19_same.j0 k true a0_0 a0_1 a0_2 a0_3 l0_4 l0_5 a0_6 a0_7 l0_8 a1_0 a1_1 a1_2 a1_3 l1_4 l1_5 a1_6 a1_7 l1_8)) else (chartularylaw19_same.j0 k true a0_0 a0_1 a0_2 a0_3 l0_4 l0_5 a0_6 a0_7 l0_8 a1_0 a1_1 a1_2 a1_3 l1_4 l1_5 a1_6 a1_7 l1_8)) else (chartularylaw19_same.j0 k true a0_0 a0_1 a0_2 a0_3 l0_4 l0_5 a0_6 a0_7 l0_8 a1_0 a1_1 a1_2 a1_3 l1_4 l1_5 a1_6 a1_7 l1_8)
theorem chartularylaw19_same.mono_l : ∀ k, (∀ y0 y1 y2 y3 y4 y5 y6 y7 y8 y9 y10 y11 y12 y13 y14 y15 y16 y17 y18, LeO (chartularylaw19_same.j0 k y0 y1 y2 y3 y4 y5 y6 y7 y8 y9 y10 y11 y12 y13 y14 y15 y16 y17 y18) (chartularylaw19_same.j0 (k + 1) y0 y1 y2 y3 y4 y5 y6 y7 y8 y9 y10 y11 y12 y13 y14 y15 y16 y17 y18)) ∧ (∀ y0 y1 y2 y3 y4 y5 y6 y7 y8 y9 y10 y11 y12 y13 y14 y15 y16 y17 y18, LeO (chartularylaw19_same.l0 k y0 y1 y2 y3 y4 y5 y6 y7 y8 y9 y10 y11 y12 y13 y14 y15 y16 y17 y18) (chartularylaw19_same.l0 (k + 1) y0 y1 y2 y3 y4 y5 y6 y7 y8 y9 y10 y11 y12 y13 y14 y15 y16 y17 y18))
 | 0 => ⟨fun _ _ _ _ _ _ _ _ _ _ _ _ _ _ _ _ _ _ _ r h => by simp [chartularylaw19_same.j0] at h, fun _ _ _ _ _ _ _ _ _ _ _ _ _ _ _ _ _ _ _ r h => by simp [chartularylaw19_same.l0] at h⟩
 | k + 1 => by
  obtain ⟨ih0, ih1⟩ := chartularylaw19_same.mono_l k
  refine ⟨?_, ?_⟩
  ·intro y0 y1 y2 y3 y4 y5 y6 y7 y8 y9 y10 y11 y12 y13 y14 y15 y16 y17 y18
   unfold chartularylaw19_same.j0
   repeat' first
   | (with_reducible exact ih0 _ _ _ _ _ _ _ _ _ _ _ _ _ _ _ _ _ _ _)
   | (with_reducible exact ih1 _ _ _ _ _ _ _ _ _ _ _ _ _ _ _ _ _ _ _)
   | (with_reducible exact chartularylaw19_sameList.mono _ _ _)
   | (with_reducible exact LeO.refl _)
   | (with_reducible exact LeO.none _)
   | (with_reducible refine LeO.ite ?_ ?_)
   | (with_reducible refine LeO.bind ?_ (fun _ => ?_))
   | exact ih0 _ _ _ _ _ _ _ _ _ _ _ _ _ _ _ _ _ _ _
   | exact ih1 _ _ _ _ _ _ _ _ _ _ _ _ _ _ _ _ _ _ _
   | exact chartularylaw19_sameList.mono _ _ _
   | exact LeO.none _
   | refine LeO.ite ?_ ?_
   | refine LeO.bind ?_ (fun _ => ?_)
  ·intro y0 y1 y2 y3 y4 y5 y6 y7 y8 y9 y10 y11 y12 y13 y14 y15 y16 y17 y18
   unfold chartularylaw19_same.l0
   repeat' first
   | (with_reducible exact ih0 _ _ _ _ _ _ _ _ _ _ _ _ _ _ _ _ _ _ _)
   | (with_reducible exact ih1 _ _ _ _ _ _ _ _ _ _ _ _ _ _ _ _ _ _ _)
   | (with_reducible exact chartularylaw19_sameList.mono _ _ _)
   | (with_reducible exact LeO.refl _)
   | (with_reducible exact LeO.none _)
   | (with_reducible refine LeO.ite ?_ ?_)
   | (with_reducible refine LeO.bind ?_ (fun _ => ?_))
   | exact ih0 _ _ _ _ _ _ _ _ _ _ _ _ _ _ _ _ _ _ _
   | exact ih1 _ _ _ _ _ _ _ _ _ _ _ _ _ _ _ _ _ _ _
   | exact chartularylaw19_sameList.mono _ _ _
   | exact LeO.none _
   | refine LeO.ite ?_ ?_
   | refine LeO.bind ?_ (fun _ => ?_)
theorem chartularylaw19_same.mono : ∀ a0 a1 a2 a3 a4 a5 a6 a7 a8 a9 a10 a11 a12 a13 a14 a15 a16 a17 k, LeO (chartularylaw19_same.f k a0 a1 a2 a3 a4 a5 a6 a7 a8 a9 a10 a11 a12 a13 a14 a15 a16 a17) (chartularylaw19_same.f (k + 1) a0 a1 a2 a3 a4 a5 a6 a7 a8 a9 a10 a11 a12 a13 a14 a15 a16 a17) := by
 intro a0 a1 a2 a3 a4 a5 a6 a7 a8 a9 a10 a11 a12 a13 a14 a15 a16 a17 k
 obtain ⟨ih0, ih1⟩ := chartularylaw19_same.mono_l k
 unfold chartularylaw19_same.f
 repeat' first
   | (with_reducible exact ih0 _ _ _ _ _ _ _ _ _ _ _ _ _ _ _ _ _ _ _)
   | (with_reducible exact ih1 _ _ _ _ _ _ _ _ _ _ _ _ _ _ _ _ _ _ _)
   | (with_reducible exact chartularylaw19_sameList.mono _ _ _)
   | (with_reducible exact LeO.refl _)
   | (with_reducible exact LeO.none _)
   | (with_reducible refine LeO.ite ?_ ?_)
   | (with_reducible refine LeO.bind ?_ (fun _ => ?_))
   | exact ih0 _ _ _ _ _ _ _ _ _ _ _ _ _ _ _ _ _ _ _
   | exact ih1 _ _ _ _ _ _ _ _ _ _ _ _ _ _ _ _ _ _ _
   | exact chartularylaw19_sameList.mono _ _ _
   | exact LeO.none _
   | refine LeO.ite ?_ ?_
   | refine LeO.bind ?_ (fun _ => ?_)
theorem Zchartularylaw19_same.z0 {P_ : Prop} (h_ : P_ := by repeat (first | (with_reducible first | exact HB.out | apply below_alloc | apply pw_below_drewN | apply below_drew1) | exact HB.out)) : P_ := h_
theorem Zchartularylaw19_same.z1 {P_ : Prop} (h_ : P_ := by first | rfl | (simp; done) | (simp [*]; done)) : P_ := h_
theorem Zchartularylaw19_same.z2 {P_ : Prop} (h_ : P_ := by first | (with_reducible assumption) | assumption) : P_ := h_
theorem Zchartularylaw19_same.z3 {P_ : Prop} (h_ : P_ := by first | omega | exact Nat.le_refl _) : P_ := h_
theorem Zchartularylaw19_same.z4 {P_ : Prop} (h_ : P_ := by rw [hg]; exact (below_size (by repeat (first | (with_reducible first | exact HB.out | apply below_alloc | apply pw_below_drewN | apply below_drew1) | exact HB.out)))) : P_ := h_
theorem Zchartularylaw19_same.z5 {P_ : Prop} (h_ : P_ := by first | rfl | (simp [errW_none, errW_some] <;> rfl) | (simp [*, errW_none, errW_some] <;> rfl)) : P_ := h_
set_option maxHeartbeats 8000000 in
set_option maxRecDepth 100000 in
theorem chartularylaw19_same.calls (k : Nat) (a0_0 : ByteArray) (a0_1 : Int) (a0_2 : Int) (a0_3 : Int) (A0_4 : Option Addr) (c0_4 : Nat) (l0_4 : List (S50)) (A0_5 : Option Addr) (c0_5 : Nat) (l0_5 : List ByteArray) (a0_6 : Int) (a0_7 : Int) (A0_8 : Option Addr) (c0_8 : Nat) (l0_8 : List ByteArray) (a1_0 : ByteArray) (a1_1 : Int) (a1_2 : Int) (a1_3 : Int) (A1_4 : Option Addr) (c1_4 : Nat) (l1_4 : List (S50)) (A1_5 : Option Addr) (c1_5 : Nat) (l1_5 : List ByteArray) (a1_6 : Int) (a1_7 : Int) (A1_8 : Option Addr) (c1_8 : Nat) (l1_8 : List ByteArray) (r : Bool) (w : World) (hr0_4 : Kd.C k50 w A0_4 l0_4.length l0_4) (hc0_4 : l0_4.length ≤ c0_4) (hr0_5 : Kd.C Kd.string w A0_5 l0_5.length l0_5) (hc0_5 : l0_5.length ≤ c0_5) (hr0_8 : Kd.C Kd.string w A0_8 l0_8.length l0_8) (hc0_8 : l0_8.length ≤ c0_8) (hr1_4 : Kd.C k50 w A1_4 l1_4.length l1_4) (hc1_4 : l1_4.length ≤ c1_4) (hr1_5 : Kd.C Kd.string w A1_5 l1_5.length l1_5) (hc1_5 : l1_5.length ≤ c1_5) (hr1_8 : Kd.C Kd.string w A1_8 l1_8.length l1_8) (hc1_8 : l1_8.length ≤ c1_8) (h : chartularylaw19_same.f k a0_0 a0_1 a0_2 a0_3 l0_4 l0_5 a0_6 a0_7 l0_8 a1_0 a1_1 a1_2 a1_3 l1_4 l1_5 a1_6 a1_7 l1_8 = some r) :
  Calls Try.prog 12 #[.agg #[.string a0_0, .int .i64 a0_1, .int .i64 a0_2, .int .i64 a0_3, .slice A0_4 l0_4.length c0_4, .slice A0_5 l0_5.length c0_5, .int .i64 a0_6, .int .i64 a0_7, .slice A0_8 l0_8.length c0_8], .agg #[.string a1_0, .int .i64 a1_1, .int .i64 a1_2, .int .i64 a1_3, .slice A1_4 l1_4.length c1_4, .slice A1_5 l1_5.length c1_5, .int .i64 a1_6, .int .i64 a1_7, .slice A1_8 l1_8.length c1_8]] w fun e w' => e = .returned (.bool r) ∧ Below w.heap.size w w' := by
 have hu25 := Try.underlying25
 have hu50 := Try.underlying50
 have HR0_4 := Aside0.mk hr0_4
 have HC0_4 := Aside0.mk hc0_4
 clear hr0_4 hc0_4
 have HR0_5 := Aside0.mk hr0_5
 have HC0_5 := Aside0.mk hc0_5
 clear hr0_5 hc0_5
 have HR0_8 := Aside0.mk hr0_8
 have HC0_8 := Aside0.mk hc0_8
 clear hr0_8 hc0_8
 have HR1_4 := Aside0.mk hr1_4
 have HC1_4 := Aside0.mk hc1_4
 clear hr1_4 hc1_4
 have HR1_5 := Aside0.mk hr1_5
 have HC1_5 := Aside0.mk hc1_5
 clear hr1_5 hc1_5
 have HR1_8 := Aside0.mk hr1_8
 have HC1_8 := Aside0.mk hc1_8
 clear hr1_8 hc1_8
 have HB := Aside0.mk (Below.refl w.heap.size w)
 have H : (if a0_0.toList = a1_0.toList then (if a0_1 = a1_1 then (if a0_2 = a1_2 then (if a0_3 = a1_3 then (if a0_6 = a1_6 then (if a0_7 = a1_7 then (chartularylaw19_same.j0 k ((l0_4.length : Int) != (l1_4.length : Int)) a0_0 a0_1 a0_2 a0_3 l0_4 l0_5 a0_6 a0_7 l0_8 a1_0 a1_1 a1_2 a1_3 l1_4 l1_5 a1_6 a1_7 l1_8) else (chartularylaw19_same.j0 k true a0_0 a0_1 a0_2 a0_3 l0_4 l0_5 a0_6 a0_7 l0_8 a1_0 a1_1 a1_2 a1_3 l1_4 l1_5 a1_6 a1_7 l1_8)) else (chartularylaw19_same.j0 k true a0_0 a0_1 a0_2 a0_3 l0_4 l0_5 a0_6 a0_7 l0_8 a1_0 a1_1 a1_2 a1_3 l1_4 l1_5 a1_6 a1_7 l1_8)) else (chartularylaw19_same.j0 k true a0_0 a0_1 a0_2 a0_3 l0_4 l0_5 a0_6 a0_7 l0_8 a1_0 a1_1 a1_2 a1_3 l1_4 l1_5 a1_6 a1_7 l1_8)) else (chartularylaw19_same.j0 k true a0_0 a0_1 a0_2 a0_3 l0_4 l0_5 a0_6 a0_7 l0_8 a1_0 a1_1 a1_2 a1_3 l1_4 l1_5 a1_6 a1_7 l1_8)) else (chartularylaw19_same.j0 k true a0_0 a0_1 a0_2 a0_3 l0_4 l0_5 a0_6 a0_7 l0_8 a1_0 a1_1 a1_2 a1_3 l1_4 l1_5 a1_6 a1_7 l1_8)) else (chartularylaw19_same.j0 k true a0_0 a0_1 a0_2 a0_3 l0_4 l0_5 a0_6 a0_7 l0_8 a1_0 a1_1 a1_2 a1_3 l1_4 l1_5 a1_6 a1_7 l1_8)) = some r := h
 clear h
 have HC3 := Aside0.mk H
 clear H
 go_enter Try.func12, Try.ntmps12
 go_upto_region 1 with (first | ((with_reducible refine gate_dst (N := 2) rfl ?_); (try (refine gate_guard (by rfl) ?_; dsimp only)); refine box_event ?hg (N := 2) ?hd (cs := #[.string a0_0, .int .i64 a0_1, .int .i64 a0_2, .int .i64 a0_3, .slice A0_4 l0_4.length c0_4, .slice A0_5 l0_5.length c0_5, .int .i64 a0_6, .int .i64 a0_7, .slice A0_8 l0_8.length c0_8]) (t := 25) ?hr ?_; (case hd => rfl); (case hg => rfl); (case hr => first | (go_simp; done) | (go_simp; rfl)); intro gb150 hg w4 hbox hb; have n0_ := Aside0.mk (below_step (Zchartularylaw19_same.z0) hb); have n1_ := Aside0.mk (hbox); have n2_ := Aside0.mk ((Zchartularylaw19_same.z4 : w.heap.size ≤ gb150)); have n3_ := Aside0.mk ((Zchartularylaw19_same.z4 : w.heap.size ≤ gb150)); clear HB; have HB := n0_; have BK150 := n1_; have GW150 := n2_; have GE150 := n3_; clear n0_ n1_ n2_ n3_; clear hb hbox hg) | ((with_reducible refine gate_dst (N := 3) rfl ?_); (try (refine gate_guard (by rfl) ?_; dsimp only)); refine box_event ?hg (N := 3) ?hd (cs := #[.string a1_0, .int .i64 a1_1, .int .i64 a1_2, .int .i64 a1_3, .slice A1_4 l1_4.length c1_4, .slice A1_5 l1_5.length c1_5, .int .i64 a1_6, .int .i64 a1_7, .slice A1_8 l1_8.length c1_8]) (t := 25) ?hr ?_; (case hd => rfl); (case hg => rfl); (case hr => first | (go_simp; done) | (go_simp; rfl)); intro gb151 hg w5 hbox hb; have n0_ := Aside0.mk (blk_below (g := gb150) (o := .cells #[.string a0_0, .int .i64 a0_1, .int .i64 a0_2, .int .i64 a0_3, .slice A0_4 l0_4.length c0_4, .slice A0_5 l0_5.length c0_5, .int .i64 a0_6, .int .i64 a0_7, .slice A0_8 l0_8.length c0_8] 25 (0, 0)) (by (with_reducible repeat (first | refine blk_drewN ?_ _ | refine blk_drew ?_ | refine blk_alloc ?_ _)); exact BK150.out) hb); have n1_ := Aside0.mk (below_step (by repeat (first | (with_reducible first | exact HB.out | apply below_alloc | apply pw_below_drewN | apply below_drew1 | refine below_set ?_ GE150.out) | exact HB.out)) hb); have n2_ := Aside0.mk (hbox); have n3_ := Aside0.mk ((by rw [hg]; exact (below_size (by repeat (first | (with_reducible first | exact HB.out | apply below_alloc | apply pw_below_drewN | apply below_drew1 | refine below_set ?_ GE150.out) | exact HB.out))) : w.heap.size ≤ gb151)); have n4_ := Aside0.mk ((by rw [hg]; exact (below_size (by repeat (first | (with_reducible first | exact HB.out | apply below_alloc | apply pw_below_drewN | apply below_drew1 | refine below_set ?_ GE150.out) | exact HB.out))) : w.heap.size ≤ gb151)); have n5_ := Aside0.mk ((by rw [hg]; exact Nat.ne_of_lt (blk_lt (g := gb150) (o := .cells #[.string a0_0, .int .i64 a0_1, .int .i64 a0_2, .int .i64 a0_3, .slice A0_4 l0_4.length c0_4, .slice A0_5 l0_5.length c0_5, .int .i64 a0_6, .int .i64 a0_7, .slice A0_8 l0_8.length c0_8] 25 (0, 0)) (by (with_reducible repeat (first | refine blk_drewN ?_ _ | refine blk_drew ?_ | refine blk_alloc ?_ _)); exact BK150.out)) : gb150 ≠ gb151)); have n6_ := Aside0.mk ((by rw [hg]; exact Nat.ne_of_gt (blk_lt (g := gb150) (o := .cells #[.string a0_0, .int .i64 a0_1, .int .i64 a0_2, .int .i64 a0_3, .slice A0_4 l0_4.length c0_4, .slice A0_5 l0_5.length c0_5, .int .i64 a0_6, .int .i64 a0_7, .slice A0_8 l0_8.length c0_8] 25 (0, 0)) (by (with_reducible repeat (first | refine blk_drewN ?_ _ | refine blk_drew ?_ | refine blk_alloc ?_ _)); exact BK150.out)) : gb151 ≠ gb150)); clear BK150; clear HB; have BK150 := n0_; have HB := n1_; have BK151 := n2_; have GW151 := n3_; have GE151 := n4_; have NB150_151 := n5_; have NB151_150 := n6_; clear n0_ n1_ n2_ n3_ n4_ n5_ n6_; clear hb hbox hg))
 repeat (go_quiet (first | ((with_reducible refine gate_dst (N := 2) rfl ?_); (try (refine gate_guard (by rfl) ?_; dsimp only)); refine box_event ?hg (N := 2) ?hd (cs := #[.string a0_0, .int .i64 a0_1, .int .i64 a0_2, .int .i64 a0_3, .slice A0_4 l0_4.length c0_4, .slice A0_5 l0_5.length c0_5, .int .i64 a0_6, .int .i64 a0_7, .slice A0_8 l0_8.length c0_8]) (t := 25) ?hr ?_; (case hd => rfl); (case hg => rfl); (case hr => first | (go_simp; done) | (go_simp; rfl)); intro gb150 hg w4 hbox hb; have n0_ := Aside0.mk (below_step (Zchartularylaw19_same.z0) hb); have n1_ := Aside0.mk (hbox); have n2_ := Aside0.mk ((Zchartularylaw19_same.z4 : w.heap.size ≤ gb150)); have n3_ := Aside0.mk ((Zchartularylaw19_same.z4 : w.heap.size ≤ gb150)); clear HB; have HB := n0_; have BK150 := n1_; have GW150 := n2_; have GE150 := n3_; clear n0_ n1_ n2_ n3_; clear hb hbox hg) | ((with_reducible refine gate_dst (N := 3) rfl ?_); (try (refine gate_guard (by rfl) ?_; dsimp only)); refine box_event ?hg (N := 3) ?hd (cs := #[.string a1_0, .int .i64 a1_1, .int .i64 a1_2, .int .i64 a1_3, .slice A1_4 l1_4.length c1_4, .slice A1_5 l1_5.length c1_5, .int .i64 a1_6, .int .i64 a1_7, .slice A1_8 l1_8.length c1_8]) (t := 25) ?hr ?_; (case hd => rfl); (case hg => rfl); (case hr => first | (go_simp; done) | (go_simp; rfl)); intro gb151 hg w5 hbox hb; have n0_ := Aside0.mk (blk_below (g := gb150) (o := .cells #[.string a0_0, .int .i64 a0_1, .int .i64 a0_2, .int .i64 a0_3, .slice A0_4 l0_4.length c0_4, .slice A0_5 l0_5.length c0_5, .int .i64 a0_6, .int .i64 a0_7, .slice A0_8 l0_8.length c0_8] 25 (0, 0)) (by (with_reducible repeat (first | refine blk_drewN ?_ _ | refine blk_drew ?_ | refine blk_alloc ?_ _)); exact BK150.out) hb); have n1_ := Aside0.mk (below_step (by repeat (first | (with_reducible first | exact HB.out | apply below_alloc | apply pw_below_drewN | apply below_drew1 | refine below_set ?_ GE150.out) | exact HB.out)) hb); have n2_ := Aside0.mk (hbox); have n3_ := Aside0.mk ((by rw [hg]; exact (below_size (by repeat (first | (with_reducible first | exact HB.out | apply below_alloc | apply pw_below_drewN | apply below_drew1 | refine below_set ?_ GE150.out) | exact HB.out))) : w.heap.size ≤ gb151)); have n4_ := Aside0.mk ((by rw [hg]; exact (below_size (by repeat (first | (with_reducible first | exact HB.out | apply below_alloc | apply pw_below_drewN | apply below_drew1 | refine below_set ?_ GE150.out) | exact HB.out))) : w.heap.size ≤ gb151)); have n5_ := Aside0.mk ((by rw [hg]; exact Nat.ne_of_lt (blk_lt (g := gb150) (o := .cells #[.string a0_0, .int .i64 a0_1, .int .i64 a0_2, .int .i64 a0_3, .slice A0_4 l0_4.length c0_4, .slice A0_5 l0_5.length c0_5, .int .i64 a0_6, .int .i64 a0_7, .slice A0_8 l0_8.length c0_8] 25 (0, 0)) (by (with_reducible repeat (first | refine blk_drewN ?_ _ | refine blk_drew ?_ | refine blk_alloc ?_ _)); exact BK150.out)) : gb150 ≠ gb151)); have n6_ := Aside0.mk ((by rw [hg]; exact Nat.ne_of_gt (blk_lt (g := gb150) (o := .cells #[.string a0_0, .int .i64 a0_1, .int .i64 a0_2, .int .i64 a0_3, .slice A0_4 l0_4.length c0_4, .slice A0_5 l0_5.length c0_5, .int .i64 a0_6, .int .i64 a0_7, .slice A0_8 l0_8.length c0_8] 25 (0, 0)) (by (with_reducible repeat (first | refine blk_drewN ?_ _ | refine blk_drew ?_ | refine blk_alloc ?_ _)); exact BK150.out)) : gb151 ≠ gb150)); clear BK150; clear HB; have BK150 := n0_; have HB := n1_; have BK151 := n2_; have GW151 := n3_; have GE151 := n4_; have NB150_151 := n5_; have NB151_150 := n6_; clear n0_ n1_ n2_ n3_ n4_ n5_ n6_; clear hb hbox hg)); go_upto_region 1 with (first | ((with_reducible refine gate_dst (N := 2) rfl ?_); (try (refine gate_guard (by rfl) ?_; dsimp only)); refine box_event ?hg (N := 2) ?hd (cs := #[.string a0_0, .int .i64 a0_1, .int .i64 a0_2, .int .i64 a0_3, .slice A0_4 l0_4.length c0_4, .slice A0_5 l0_5.length c0_5, .int .i64 a0_6, .int .i64 a0_7, .slice A0_8 l0_8.length c0_8]) (t := 25) ?hr ?_; (case hd => rfl); (case hg => rfl); (case hr => first | (go_simp; done) | (go_simp; rfl)); intro gb150 hg w4 hbox hb; have n0_ := Aside0.mk (below_step (Zchartularylaw19_same.z0) hb); have n1_ := Aside0.mk (hbox); have n2_ := Aside0.mk ((Zchartularylaw19_same.z4 : w.heap.size ≤ gb150)); have n3_ := Aside0.mk ((Zchartularylaw19_same.z4 : w.heap.size ≤ gb150)); clear HB; have HB := n0_; have BK150 := n1_; have GW150 := n2_; have GE150 := n3_; clear n0_ n1_ n2_ n3_; clear hb hbox hg) | ((with_reducible refine gate_dst (N := 3) rfl ?_); (try (refine gate_guard (by rfl) ?_; dsimp only)); refine box_event ?hg (N := 3) ?hd (cs := #[.string a1_0, .int .i64 a1_1, .int .i64 a1_2, .int .i64 a1_3, .slice A1_4 l1_4.length c1_4, .slice A1_5 l1_5.length c1_5, .int .i64 a1_6, .int .i64 a1_7, .slice A1_8 l1_8.length c1_8]) (t := 25) ?hr ?_; (case hd => rfl); (case hg => rfl); (case hr => first | (go_simp; done) | (go_simp; rfl)); intro gb151 hg w5 hbox hb; have n0_ := Aside0.mk (blk_below (g := gb150) (o := .cells #[.string a0_0, .int .i64 a0_1, .int .i64 a0_2, .int .i64 a0_3, .slice A0_4 l0_4.length c0_4, .slice A0_5 l0_5.length c0_5, .int .i64 a0_6, .int .i64 a0_7, .slice A0_8 l0_8.length c0_8] 25 (0, 0)) (by (with_reducible repeat (first | refine blk_drewN ?_ _ | refine blk_drew ?_ | refine blk_alloc ?_ _)); exact BK150.out) hb); have n1_ := Aside0.mk (below_step (by repeat (first | (with_reducible first | exact HB.out | apply below_alloc | apply pw_below_drewN | apply below_drew1 | refine below_set ?_ GE150.out) | exact HB.out)) hb); have n2_ := Aside0.mk (hbox); have n3_ := Aside0.mk ((by rw [hg]; exact (below_size (by repeat (first | (with_reducible first | exact HB.out | apply below_alloc | apply pw_below_drewN | apply below_drew1 | refine below_set ?_ GE150.out) | exact HB.out))) : w.heap.size ≤ gb151)); have n4_ := Aside0.mk ((by rw [hg]; exact (below_size (by repeat (first | (with_reducible first | exact HB.out | apply below_alloc | apply pw_below_drewN | apply below_drew1 | refine below_set ?_ GE150.out) | exact HB.out))) : w.heap.size ≤ gb151)); have n5_ := Aside0.mk ((by rw [hg]; exact Nat.ne_of_lt (blk_lt (g := gb150) (o := .cells #[.string a0_0, .int .i64 a0_1, .int .i64 a0_2, .int .i64 a0_3, .slice A0_4 l0_4.length c0_4, .slice A0_5 l0_5.length c0_5, .int .i64 a0_6, .int .i64 a0_7, .slice A0_8 l0_8.length c0_8] 25 (0, 0)) (by (with_reducible repeat (first | refine blk_drewN ?_ _ | refine blk_drew ?_ | refine blk_alloc ?_ _)); exact BK150.out)) : gb150 ≠ gb151)); have n6_ := Aside0.mk ((by rw [hg]; exact Nat.ne_of_gt (blk_lt (g := gb150) (o := .cells #[.string a0_0, .int .i64 a0_1, .int .i64 a0_2, .int .i64 a0_3, .slice A0_4 l0_4.length c0_4, .slice A0_5 l0_5.length c0_5, .int .i64 a0_6, .int .i64 a0_7, .slice A0_8 l0_8.length c0_8] 25 (0, 0)) (by (with_reducible repeat (first | refine blk_drewN ?_ _ | refine blk_drew ?_ | refine blk_alloc ?_ _)); exact BK150.out)) : gb151 ≠ gb150)); clear BK150; clear HB; have BK150 := n0_; have HB := n1_; have BK151 := n2_; have GW151 := n3_; have GE151 := n4_; have NB150_151 := n5_; have NB151_150 := n6_; clear n0_ n1_ n2_ n3_ n4_ n5_ n6_; clear hb hbox hg)))
 (try simp only [Act.put, List.setIfInBounds_toArray, List.set_cons_zero, List.set_cons_succ])
 go_cut [54] (fun v54 wc => ∃ (kq : Nat) (x54_2 : Bool), v54 = .bool x54_2 ∧ Aside0 (chartularylaw19_same.j0 kq x54_2 a0_0 a0_1 a0_2 a0_3 l0_4 l0_5 a0_6 a0_7 l0_8 a1_0 a1_1 a1_2 a1_3 l1_4 l1_5 a1_6 a1_7 l1_8 = some r) ∧ Aside0 (kq ≤ k) ∧ Aside0 (wc.heap[gb150]? = some (.cells #[.string a0_0, .int .i64 a0_1, .int .i64 a0_2, .int .i64 a0_3, (.slice A0_4 l0_4.length c0_4), (.slice A0_5 l0_5.length c0_5), .int .i64 a0_6, .int .i64 a0_7, (.slice A0_8 l0_8.length c0_8)] 25 (0, 0))) ∧ Aside0 (wc.heap[gb151]? = some (.cells #[.string a1_0, .int .i64 a1_1, .int .i64 a1_2, .int .i64 a1_3, (.slice A1_4 l1_4.length c1_4), (.slice A1_5 l1_5.length c1_5), .int .i64 a1_6, .int .i64 a1_7, (.slice A1_8 l1_8.length c1_8)] 25 (0, 0))) ∧ Aside0 (Below w.heap.size w wc))
 case first =>
  have H := HC3.out
  clear HC3
  by_cases c6 : a0_0.toList = a1_0.toList
  ·rw [if_pos c6] at H
   have c6b0 : (a0_0.toList == a1_0.toList) = true := beq_iff_eq.mpr c6
   have c6b1 : (a0_0.toList != a1_0.toList) = false := bne_eq_false_iff_eq.mpr c6
   clear c6
   (first | rw [c6b0] | (simp only [i64_w, i32_w]; rw [c6b0]) | skip)
   by_cases c7 : a0_1 = a1_1
   ·rw [if_pos c7] at H
    have c7b0 : (a0_1 == a1_1) = true := beq_iff_eq.mpr c7
    have c7b1 : (a0_1 != a1_1) = false := bne_eq_false_iff_eq.mpr c7
    clear c7
    by_cases c8 : a0_2 = a1_2
    ·rw [if_pos c8] at H
     have c8b0 : (a0_2 == a1_2) = true := beq_iff_eq.mpr c8
     have c8b1 : (a0_2 != a1_2) = false := bne_eq_false_iff_eq.mpr c8
     clear c8
     by_cases c9 : a0_3 = a1_3
     ·rw [if_pos c9] at H
      have c9b0 : (a0_3 == a1_3) = true := beq_iff_eq.mpr c9
      have c9b1 : (a0_3 != a1_3) = false := bne_eq_false_iff_eq.mpr c9
      clear c9
      by_cases c10 : a0_6 = a1_6
      ·rw [if_pos c10] at H
       have c10b0 : (a0_6 == a1_6) = true := beq_iff_eq.mpr c10
       have c10b1 : (a0_6 != a1_6) = false := bne_eq_false_iff_eq.mpr c10
       clear c10
       by_cases c11 : a0_7 = a1_7
       ·rw [if_pos c11] at H
        have c11b0 : (a0_7 == a1_7) = true := beq_iff_eq.mpr c11
        have c11b1 : (a0_7 != a1_7) = false := bne_eq_false_iff_eq.mpr c11
        clear c11
        have H' := Aside0.mk H
        clear H
        have hnb12 := NB150_151.out
        have hnc12 := NB151_150.out
        have hcz13_0 := cz_ BK150.out 0 rfl
        have hcz13_1 := cz_ BK150.out 1 rfl
        have hcz13_2 := cz_ BK150.out 2 rfl
        have hcz13_3 := cz_ BK150.out 3 rfl
        have hcz13_4 := cz_ BK150.out 4 rfl
        have hcz13_5 := cz_ BK150.out 5 rfl
        have hcz13_6 := cz_ BK150.out 6 rfl
        have hcz13_7 := cz_ BK150.out 7 rfl
        have hcz13_8 := cz_ BK150.out 8 rfl
        have hfz13_0 := blk_frozen BK150.out 0
        have hfz13_1 := blk_frozen BK150.out 1
        have hfz13_2 := blk_frozen BK150.out 2
        have hfz13_3 := blk_frozen BK150.out 3
        have hfz13_4 := blk_frozen BK150.out 4
        have hfz13_5 := blk_frozen BK150.out 5
        have hfz13_6 := blk_frozen BK150.out 6
        have hfz13_7 := blk_frozen BK150.out 7
        have hfz13_8 := blk_frozen BK150.out 8
        have hcz14_0 := cz_ BK151.out 0 rfl
        have hcz14_1 := cz_ BK151.out 1 rfl
        have hcz14_2 := cz_ BK151.out 2 rfl
        have hcz14_3 := cz_ BK151.out 3 rfl
        have hcz14_4 := cz_ BK151.out 4 rfl
        have hcz14_5 := cz_ BK151.out 5 rfl
        have hcz14_6 := cz_ BK151.out 6 rfl
        have hcz14_7 := cz_ BK151.out 7 rfl
        have hcz14_8 := cz_ BK151.out 8 rfl
        have hfz14_0 := blk_frozen BK151.out 0
        have hfz14_1 := blk_frozen BK151.out 1
        have hfz14_2 := blk_frozen BK151.out 2
        have hfz14_3 := blk_frozen BK151.out 3
        have hfz14_4 := blk_frozen BK151.out 4
        have hfz14_5 := blk_frozen BK151.out 5
        have hfz14_6 := blk_frozen BK151.out 6
        have hfz14_7 := blk_frozen BK151.out 7
        have hfz14_8 := blk_frozen BK151.out 8
        go_wp2
        repeat (go_quiet (fail); try go_wp2)
        go_meet
        case rel => exact ⟨_, (((l0_4.length : Int) != (l1_4.length : Int))), (Zchartularylaw19_same.z1), H', ⟨Zchartularylaw19_same.z3⟩, ⟨by (with_reducible repeat (first | refine blk_drewN ?_ _ | refine blk_drew ?_ | refine blk_alloc ?_ _)); exact BK150.out⟩, ⟨by (with_reducible repeat (first | refine blk_drewN ?_ _ | refine blk_drew ?_ | refine blk_alloc ?_ _)); exact BK151.out⟩, ⟨by repeat (first | (with_reducible first | exact HB.out | apply below_alloc | apply pw_below_drewN | apply below_drew1 | refine below_set ?_ GE150.out | refine below_set ?_ GE151.out) | exact HB.out)⟩⟩
       ·rw [if_neg c11] at H
        have c11b0 : (a0_7 == a1_7) = false := beq_eq_false_iff_ne.mpr c11
        have c11b1 : (a0_7 != a1_7) = true := bne_iff_ne.mpr c11
        have H' := Aside0.mk H
        clear H
        have hnb15 := NB150_151.out
        have hnc15 := NB151_150.out
        have hcz16_0 := cz_ BK150.out 0 rfl
        have hcz16_1 := cz_ BK150.out 1 rfl
        have hcz16_2 := cz_ BK150.out 2 rfl
        have hcz16_3 := cz_ BK150.out 3 rfl
        have hcz16_4 := cz_ BK150.out 4 rfl
        have hcz16_5 := cz_ BK150.out 5 rfl
        have hcz16_6 := cz_ BK150.out 6 rfl
        have hcz16_7 := cz_ BK150.out 7 rfl
        have hcz16_8 := cz_ BK150.out 8 rfl
        have hfz16_0 := blk_frozen BK150.out 0
        have hfz16_1 := blk_frozen BK150.out 1
        have hfz16_2 := blk_frozen BK150.out 2
        have hfz16_3 := blk_frozen BK150.out 3
        have hfz16_4 := blk_frozen BK150.out 4
        have hfz16_5 := blk_frozen BK150.out 5
        have hfz16_6 := blk_frozen BK150.out 6
        have hfz16_7 := blk_frozen BK150.out 7
        have hfz16_8 := blk_frozen BK150.out 8
        have hcz17_0 := cz_ BK151.out 0 rfl
        have hcz17_1 := cz_ BK151.out 1 rfl
        have hcz17_2 := cz_ BK151.out 2 rfl
        have hcz17_3 := cz_ BK151.out 3 rfl
        have hcz17_4 := cz_ BK151.out 4 rfl
        have hcz17_5 := cz_ BK151.out 5 rfl
        have hcz17_6 := cz_ BK151.out 6 rfl
        have hcz17_7 := cz_ BK151.out 7 rfl
        have hcz17_8 := cz_ BK151.out 8 rfl
        have hfz17_0 := blk_frozen BK151.out 0
        have hfz17_1 := blk_frozen BK151.out 1
        have hfz17_2 := blk_frozen BK151.out 2
        have hfz17_3 := blk_frozen BK151.out 3
        have hfz17_4 := blk_frozen BK151.out 4
        have hfz17_5 := blk_frozen BK151.out 5
        have hfz17_6 := blk_frozen BK151.out 6
        have hfz17_7 := blk_frozen BK151.out 7
        have hfz17_8 := blk_frozen BK151.out 8
        go_wp2
        repeat (go_quiet (fail); try go_wp2)
        go_meet
        case rel => exact ⟨_, (true), (Zchartularylaw19_same.z1), H', ⟨Zchartularylaw19_same.z3⟩, ⟨by (with_reducible repeat (first | refine blk_drewN ?_ _ | refine blk_drew ?_ | refine blk_alloc ?_ _)); exact BK150.out⟩, ⟨by (with_reducible repeat (first | refine blk_drewN ?_ _ | refine blk_drew ?_ | refine blk_alloc ?_ _)); exact BK151.out⟩, ⟨by repeat (first | (with_reducible first | exact HB.out | apply below_alloc | apply pw_below_drewN | apply below_drew1 | refine below_set ?_ GE150.out | refine below_set ?_ GE151.out) | exact HB.out)⟩⟩
      ·rw [if_neg c10] at H
       have c10b0 : (a0_6 == a1_6) = false := beq_eq_false_iff_ne.mpr c10
       have c10b1 : (a0_6 != a1_6) = true := bne_iff_ne.mpr c10
       have H' := Aside0.mk H
       clear H
       have hnb18 := NB150_151.out
       have hnc18 := NB151_150.out
       have hcz19_0 := cz_ BK150.out 0 rfl
       have hcz19_1 := cz_ BK150.out 1 rfl
       have hcz19_2 := cz_ BK150.out 2 rfl
       have hcz19_3 := cz_ BK150.out 3 rfl
       have hcz19_4 := cz_ BK150.out 4 rfl
       have hcz19_5 := cz_ BK150.out 5 rfl
       have hcz19_6 := cz_ BK150.out 6 rfl
       have hcz19_7 := cz_ BK150.out 7 rfl
       have hcz19_8 := cz_ BK150.out 8 rfl
       have hfz19_0 := blk_frozen BK150.out 0
       have hfz19_1 := blk_frozen BK150.out 1
       have hfz19_2 := blk_frozen BK150.out 2
       have hfz19_3 := blk_frozen BK150.out 3
       have hfz19_4 := blk_frozen BK150.out 4
       have hfz19_5 := blk_frozen BK150.out 5
       have hfz19_6 := blk_frozen BK150.out 6
       have hfz19_7 := blk_frozen BK150.out 7
       have hfz19_8 := blk_frozen BK150.out 8
       have hcz20_0 := cz_ BK151.out 0 rfl
       have hcz20_1 := cz_ BK151.out 1 rfl
       have hcz20_2 := cz_ BK151.out 2 rfl
       have hcz20_3 := cz_ BK151.out 3 rfl
       have hcz20_4 := cz_ BK151.out 4 rfl
       have hcz20_5 := cz_ BK151.out 5 rfl
       have hcz20_6 := cz_ BK151.out 6 rfl
       have hcz20_7 := cz_ BK151.out 7 rfl
       have hcz20_8 := cz_ BK151.out 8 rfl
       have hfz20_0 := blk_frozen BK151.out 0
       have hfz20_1 := blk_frozen BK151.out 1
       have hfz20_2 := blk_frozen BK151.out 2
       have hfz20_3 := blk_frozen BK151.out 3
       have hfz20_4 := blk_frozen BK151.out 4
       have hfz20_5 := blk_frozen BK151.out 5
       have hfz20_6 := blk_frozen BK151.out 6
       have hfz20_7 := blk_frozen BK151.out 7
       have hfz20_8 := blk_frozen BK151.out 8
       go_wp2
       repeat (go_quiet (fail); try go_wp2)
       go_meet
       case rel => exact ⟨_, (true), (Zchartularylaw19_same.z1), H', ⟨Zchartularylaw19_same.z3⟩, ⟨by (with_reducible repeat (first | refine blk_drewN ?_ _ | refine blk_drew ?_ | refine blk_alloc ?_ _)); exact BK150.out⟩, ⟨by (with_reducible repeat (first | refine blk_drewN ?_ _ | refine blk_drew ?_ | refine blk_alloc ?_ _)); exact BK151.out⟩, ⟨by repeat (first | (with_reducible first | exact HB.out | apply below_alloc | apply pw_below_drewN | apply below_drew1 | refine below_set ?_ GE150.out | refine below_set ?_ GE151.out) | exact HB.out)⟩⟩
     ·rw [if_neg c9] at H
      have c9b0 : (a0_3 == a1_3) = false := beq_eq_false_iff_ne.mpr c9
      have c9b1 : (a0_3 != a1_3) = true := bne_iff_ne.mpr c9
      have H' := Aside0.mk H
      clear H
      have hnb21 := NB150_151.out
      have hnc21 := NB151_150.out
      have hcz22_0 := cz_ BK150.out 0 rfl
      have hcz22_1 := cz_ BK150.out 1 rfl
      have hcz22_2 := cz_ BK150.out 2 rfl
      have hcz22_3 := cz_ BK150.out 3 rfl
      have hcz22_4 := cz_ BK150.out 4 rfl
      have hcz22_5 := cz_ BK150.out 5 rfl
      have hcz22_6 := cz_ BK150.out 6 rfl
      have hcz22_7 := cz_ BK150.out 7 rfl
      have hcz22_8 := cz_ BK150.out 8 rfl
      have hfz22_0 := blk_frozen BK150.out 0
      have hfz22_1 := blk_frozen BK150.out 1
      have hfz22_2 := blk_frozen BK150.out 2
      have hfz22_3 := blk_frozen BK150.out 3
      have hfz22_4 := blk_frozen BK150.out 4
      have hfz22_5 := blk_frozen BK150.out 5
      have hfz22_6 := blk_frozen BK150.out 6
      have hfz22_7 := blk_frozen BK150.out 7
      have hfz22_8 := blk_frozen BK150.out 8
      have hcz23_0 := cz_ BK151.out 0 rfl
      have hcz23_1 := cz_ BK151.out 1 rfl
      have hcz23_2 := cz_ BK151.out 2 rfl
      have hcz23_3 := cz_ BK151.out 3 rfl
      have hcz23_4 := cz_ BK151.out 4 rfl
      have hcz23_5 := cz_ BK151.out 5 rfl
      have hcz23_6 := cz_ BK151.out 6 rfl
      have hcz23_7 := cz_ BK151.out 7 rfl
      have hcz23_8 := cz_ BK151.out 8 rfl
      have hfz23_0 := blk_frozen BK151.out 0
      have hfz23_1 := blk_frozen BK151.out 1
      have hfz23_2 := blk_frozen BK151.out 2
      have hfz23_3 := blk_frozen BK151.out 3
      have hfz23_4 := blk_frozen BK151.out 4
      have hfz23_5 := blk_frozen BK151.out 5
      have hfz23_6 := blk_frozen BK151.out 6
      have hfz23_7 := blk_frozen BK151.out 7
      have hfz23_8 := blk_frozen BK151.out 8
      go_wp2
      repeat (go_quiet (fail); try go_wp2)
      go_meet
      case rel => exact ⟨_, (true), (Zchartularylaw19_same.z1), H', ⟨Zchartularylaw19_same.z3⟩, ⟨by (with_reducible repeat (first | refine blk_drewN ?_ _ | refine blk_drew ?_ | refine blk_alloc ?_ _)); exact BK150.out⟩, ⟨by (with_reducible repeat (first | refine blk_drewN ?_ _ | refine blk_drew ?_ | refine blk_alloc ?_ _)); exact BK151.out⟩, ⟨by repeat (first | (with_reducible first | exact HB.out | apply below_alloc | apply pw_below_drewN | apply below_drew1 | refine below_set ?_ GE150.out | refine below_set ?_ GE151.out) | exact HB.out)⟩⟩
    ·rw [if_neg c8] at H
     have c8b0 : (a0_2 == a1_2) = false := beq_eq_false_iff_ne.mpr c8
     have c8b1 : (a0_2 != a1_2) = true := bne_iff_ne.mpr c8
     have H' := Aside0.mk H
     clear H
     have hnb24 := NB150_151.out
     have hnc24 := NB151_150.out
     have hcz25_0 := cz_ BK150.out 0 rfl
     have hcz25_1 := cz_ BK150.out 1 rfl
     have hcz25_2 := cz_ BK150.out 2 rfl
     have hcz25_3 := cz_ BK150.out 3 rfl
     have hcz25_4 := cz_ BK150.out 4 rfl
     have hcz25_5 := cz_ BK150.out 5 rfl
     have hcz25_6 := cz_ BK150.out 6 rfl
     have hcz25_7 := cz_ BK150.out 7 rfl
     have hcz25_8 := cz_ BK150.out 8 rfl
     have hfz25_0 := blk_frozen BK150.out 0
     have hfz25_1 := blk_frozen BK150.out 1
     have hfz25_2 := blk_frozen BK150.out 2
     have hfz25_3 := blk_frozen BK150.out 3
     have hfz25_4 := blk_frozen BK150.out 4
     have hfz25_5 := blk_frozen BK150.out 5
     have hfz25_6 := blk_frozen BK150.out 6
     have hfz25_7 := blk_frozen BK150.out 7
     have hfz25_8 := blk_frozen BK150.out 8
     have hcz26_0 := cz_ BK151.out 0 rfl
     have hcz26_1 := cz_ BK151.out 1 rfl
     have hcz26_2 := cz_ BK151.out 2 rfl
     have hcz26_3 := cz_ BK151.out 3 rfl
     have hcz26_4 := cz_ BK151.out 4 rfl
     have hcz26_5 := cz_ BK151.out 5 rfl
     have hcz26_6 := cz_ BK151.out 6 rfl
     have hcz26_7 := cz_ BK151.out 7 rfl
     have hcz26_8 := cz_ BK151.out 8 rfl
     have hfz26_0 := blk_frozen BK151.out 0
     have hfz26_1 := blk_frozen BK151.out 1
     have hfz26_2 := blk_frozen BK151.out 2
     have hfz26_3 := blk_frozen BK151.out 3
     have hfz26_4 := blk_frozen BK151.out 4
     have hfz26_5 := blk_frozen BK151.out 5
     have hfz26_6 := blk_frozen BK151.out 6
     have hfz26_7 := blk_frozen BK151.out 7
     have hfz26_8 := blk_frozen BK151.out 8
     go_wp2
     repeat (go_quiet (fail); try go_wp2)
     go_meet
     case rel => exact ⟨_, (true), (Zchartularylaw19_same.z1), H', ⟨Zchartularylaw19_same.z3⟩, ⟨by (with_reducible repeat (first | refine blk_drewN ?_ _ | refine blk_drew ?_ | refine blk_alloc ?_ _)); exact BK150.out⟩, ⟨by (with_reducible repeat (first | refine blk_drewN ?_ _ | refine blk_drew ?_ | refine blk_alloc ?_ _)); exact BK151.out⟩, ⟨by repeat (first | (with_reducible first | exact HB.out | apply below_alloc | apply pw_below_drewN | apply below_drew1 | refine below_set ?_ GE150.out | refine below_set ?_ GE151.out) | exact HB.out)⟩⟩
   ·rw [if_neg c7] at H
    have c7b0 : (a0_1 == a1_1) = false := beq_eq_false_iff_ne.mpr c7
    have c7b1 : (a0_1 != a1_1) = true := bne_iff_ne.mpr c7
    have H' := Aside0.mk H
    clear H
    have hnb27 := NB150_151.out
    have hnc27 := NB151_150.out
    have hcz28_0 := cz_ BK150.out 0 rfl
    have hcz28_1 := cz_ BK150.out 1 rfl
    have hcz28_2 := cz_ BK150.out 2 rfl
    have hcz28_3 := cz_ BK150.out 3 rfl
    have hcz28_4 := cz_ BK150.out 4 rfl
    have hcz28_5 := cz_ BK150.out 5 rfl
    have hcz28_6 := cz_ BK150.out 6 rfl
    have hcz28_7 := cz_ BK150.out 7 rfl
    have hcz28_8 := cz_ BK150.out 8 rfl
    have hfz28_0 := blk_frozen BK150.out 0
    have hfz28_1 := blk_frozen BK150.out 1
    have hfz28_2 := blk_frozen BK150.out 2
    have hfz28_3 := blk_frozen BK150.out 3
    have hfz28_4 := blk_frozen BK150.out 4
    have hfz28_5 := blk_frozen BK150.out 5
    have hfz28_6 := blk_frozen BK150.out 6
    have hfz28_7 := blk_frozen BK150.out 7
    have hfz28_8 := blk_frozen BK150.out 8
    have hcz29_0 := cz_ BK151.out 0 rfl
    have hcz29_1 := cz_ BK151.out 1 rfl
    have hcz29_2 := cz_ BK151.out 2 rfl
    have hcz29_3 := cz_ BK151.out 3 rfl
    have hcz29_4 := cz_ BK151.out 4 rfl
    have hcz29_5 := cz_ BK151.out 5 rfl
    have hcz29_6 := cz_ BK151.out 6 rfl
    have hcz29_7 := cz_ BK151.out 7 rfl
    have hcz29_8 := cz_ BK151.out 8 rfl
    have hfz29_0 := blk_frozen BK151.out 0
    have hfz29_1 := blk_frozen BK151.out 1
    have hfz29_2 := blk_frozen BK151.out 2
    have hfz29_3 := blk_frozen BK151.out 3
    have hfz29_4 := blk_frozen BK151.out 4
    have hfz29_5 := blk_frozen BK151.out 5
    have hfz29_6 := blk_frozen BK151.out 6
    have hfz29_7 := blk_frozen BK151.out 7
    have hfz29_8 := blk_frozen BK151.out 8
    go_wp2
    repeat (go_quiet (fail); try go_wp2)
    go_meet
    case rel => exact ⟨_, (true), (Zchartularylaw19_same.z1), H', ⟨Zchartularylaw19_same.z3⟩, ⟨by (with_reducible repeat (first | refine blk_drewN ?_ _ | refine blk_drew ?_ | refine blk_alloc ?_ _)); exact BK150.out⟩, ⟨by (with_reducible repeat (first | refine blk_drewN ?_ _ | refine blk_drew ?_ | refine blk_alloc ?_ _)); exact BK151.out⟩, ⟨by repeat (first | (with_reducible first | exact HB.out | apply below_alloc | apply pw_below_drewN | apply below_drew1 | refine below_set ?_ GE150.out | refine below_set ?_ GE151.out) | exact HB.out)⟩⟩
  ·rw [if_neg c6] at H
   have c6b0 : (a0_0.toList == a1_0.toList) = false := beq_eq_false_iff_ne.mpr c6
   have c6b1 : (a0_0.toList != a1_0.toList) = true := bne_iff_ne.mpr c6
   (first | rw [c6b0] | (simp only [i64_w, i32_w]; rw [c6b0]) | skip)
   have H' := Aside0.mk H
   clear H
   have hnb30 := NB150_151.out
   have hnc30 := NB151_150.out
   have hcz31_0 := cz_ BK150.out 0 rfl
   have hcz31_1 := cz_ BK150.out 1 rfl
   have hcz31_2 := cz_ BK150.out 2 rfl
   have hcz31_3 := cz_ BK150.out 3 rfl
   have hcz31_4 := cz_ BK150.out 4 rfl
   have hcz31_5 := cz_ BK150.out 5 rfl
   have hcz31_6 := cz_ BK150.out 6 rfl
   have hcz31_7 := cz_ BK150.out 7 rfl
   have hcz31_8 := cz_ BK150.out 8 rfl
   have hfz31_0 := blk_frozen BK150.out 0
   have hfz31_1 := blk_frozen BK150.out 1
   have hfz31_2 := blk_frozen BK150.out 2
   have hfz31_3 := blk_frozen BK150.out 3
   have hfz31_4 := blk_frozen BK150.out 4
   have hfz31_5 := blk_frozen BK150.out 5
   have hfz31_6 := blk_frozen BK150.out 6
   have hfz31_7 := blk_frozen BK150.out 7
   have hfz31_8 := blk_frozen BK150.out 8
   have hcz32_0 := cz_ BK151.out 0 rfl
   have hcz32_1 := cz_ BK151.out 1 rfl
   have hcz32_2 := cz_ BK151.out 2 rfl
   have hcz32_3 := cz_ BK151.out 3 rfl
   have hcz32_4 := cz_ BK151.out 4 rfl
   have hcz32_5 := cz_ BK151.out 5 rfl
   have hcz32_6 := cz_ BK151.out 6 rfl
   have hcz32_7 := cz_ BK151.out 7 rfl
   have hcz32_8 := cz_ BK151.out 8 rfl
   have hfz32_0 := blk_frozen BK151.out 0
   have hfz32_1 := blk_frozen BK151.out 1
   have hfz32_2 := blk_frozen BK151.out 2
   have hfz32_3 := blk_frozen BK151.out 3
   have hfz32_4 := blk_frozen BK151.out 4
   have hfz32_5 := blk_frozen BK151.out 5
   have hfz32_6 := blk_frozen BK151.out 6
   have hfz32_7 := blk_frozen BK151.out 7
   have hfz32_8 := blk_frozen BK151.out 8
   go_wp2
   repeat (go_quiet (fail); try go_wp2)
   go_meet
   case rel => exact ⟨_, (true), (Zchartularylaw19_same.z1), H', ⟨Zchartularylaw19_same.z3⟩, ⟨by (with_reducible repeat (first | refine blk_drewN ?_ _ | refine blk_drew ?_ | refine blk_alloc ?_ _)); exact BK150.out⟩, ⟨by (with_reducible repeat (first | refine blk_drewN ?_ _ | refine blk_drew ?_ | refine blk_alloc ?_ _)); exact BK151.out⟩, ⟨by repeat (first | (with_reducible first | exact HB.out | apply below_alloc | apply pw_below_drewN | apply below_drew1 | refine below_set ?_ GE150.out | refine below_set ?_ GE151.out) | exact HB.out)⟩⟩
 case rest =>
  clear HC3
  try clear c1
  try clear c2
  try clear p2
  try clear c3
  try clear c6
  try clear c6b0
  try clear c6b1
  try clear c7
  try clear c7b0
  try clear c7b1
  try clear c8
  try clear c8b0
  try clear c8b1
  try clear c9
  try clear c9b0
  try clear c9b1
  try clear c10
  try clear c10b0
  try clear c10b1
  try clear c11
  try clear c11b0
  try clear c11b1
  try clear c12
  try clear c15
  try clear c18
  try clear c21
  try clear c24
  try clear c27
  try clear c30
  try clear hcz13_0
  try clear hcz13_1
  try clear hcz13_2
  try clear hcz13_3
  try clear hcz13_4
  try clear hcz13_5
  try clear hcz13_6
  try clear hcz13_7
  try clear hcz13_8
  try clear hcz14_0
  try clear hcz14_1
  try clear hcz14_2
  try clear hcz14_3
  try clear hcz14_4
  try clear hcz14_5
  try clear hcz14_6
  try clear hcz14_7
  try clear hcz14_8
  try clear hcz16_0
  try clear hcz16_1
  try clear hcz16_2
  try clear hcz16_3
  try clear hcz16_4
  try clear hcz16_5
  try clear hcz16_6
  try clear hcz16_7
  try clear hcz16_8
  try clear hcz17_0
  try clear hcz17_1
  try clear hcz17_2
  try clear hcz17_3
  try clear hcz17_4
  try clear hcz17_5
  try clear hcz17_6
  try clear hcz17_7
  try clear hcz17_8
  try clear hcz19_0
  try clear hcz19_1
  try clear hcz19_2
  try clear hcz19_3
  try clear hcz19_4
  try clear hcz19_5
  try clear hcz19_6
  try clear hcz19_7
  try clear hcz19_8
  try clear hcz20_0
  try clear hcz20_1
  try clear hcz20_2
  try clear hcz20_3
  try clear hcz20_4
  try clear hcz20_5
  try clear hcz20_6
  try clear hcz20_7
  try clear hcz20_8
  try clear hcz22_0
  try clear hcz22_1
  try clear hcz22_2
  try clear hcz22_3
  try clear hcz22_4
  try clear hcz22_5
  try clear hcz22_6
  try clear hcz22_7
  try clear hcz22_8
  try clear hcz23_0
  try clear hcz23_1
  try clear hcz23_2
  try clear hcz23_3
  try clear hcz23_4
  try clear hcz23_5
  try clear hcz23_6
  try clear hcz23_7
  try clear hcz23_8
  try clear hcz25_0
  try clear hcz25_1
  try clear hcz25_2
  try clear hcz25_3
  try clear hcz25_4
  try clear hcz25_5
  try clear hcz25_6
  try clear hcz25_7
  try clear hcz25_8
  try clear hcz26_0
  try clear hcz26_1
  try clear hcz26_2
  try clear hcz26_3
  try clear hcz26_4
  try clear hcz26_5
  try clear hcz26_6
  try clear hcz26_7
  try clear hcz26_8
  try clear hcz28_0
  try clear hcz28_1
  try clear hcz28_2
  try clear hcz28_3
  try clear hcz28_4
  try clear hcz28_5
  try clear hcz28_6
  try clear hcz28_7
  try clear hcz28_8
  try clear hcz29_0
  try clear hcz29_1
  try clear hcz29_2
  try clear hcz29_3
  try clear hcz29_4
  try clear hcz29_5
  try clear hcz29_6
  try clear hcz29_7
  try clear hcz29_8
  try clear hcz31_0
  try clear hcz31_1
  try clear hcz31_2
  try clear hcz31_3
  try clear hcz31_4
  try clear hcz31_5
  try clear hcz31_6
  try clear hcz31_7
  try clear hcz31_8
  try clear hcz32_0
  try clear hcz32_1
  try clear hcz32_2
  try clear hcz32_3
  try clear hcz32_4
  try clear hcz32_5
  try clear hcz32_6
  try clear hcz32_7
  try clear hcz32_8
  try clear hfz13_0
  try clear hfz13_1
  try clear hfz13_2
  try clear hfz13_3
  try clear hfz13_4
  try clear hfz13_5
  try clear hfz13_6
  try clear hfz13_7
  try clear hfz13_8
  try clear hfz14_0
  try clear hfz14_1
  try clear hfz14_2
  try clear hfz14_3
  try clear hfz14_4
  try clear hfz14_5
  try clear hfz14_6
  try clear hfz14_7
  try clear hfz14_8
  try clear hfz16_0
  try clear hfz16_1
  try clear hfz16_2
  try clear hfz16_3
  try clear hfz16_4
  try clear hfz16_5
  try clear hfz16_6
  try clear hfz16_7
  try clear hfz16_8
  try clear hfz17_0
  try clear hfz17_1
  try clear hfz17_2
  try clear hfz17_3
  try clear hfz17_4
  try clear hfz17_5
  try clear hfz17_6
  try clear hfz17_7
  try clear hfz17_8
  try clear hfz19_0
  try clear hfz19_1
  try clear hfz19_2
  try clear hfz19_3
  try clear hfz19_4
  try clear hfz19_5
  try clear hfz19_6
  try clear hfz19_7
  try clear hfz19_8
  try clear hfz20_0
  try clear hfz20_1
  try clear hfz20_2
  try clear hfz20_3
  try clear hfz20_4
  try clear hfz20_5
  try clear hfz20_6
  try clear hfz20_7
  try clear hfz20_8
  try clear hfz22_0
  try clear hfz22_1
  try clear hfz22_2
  try clear hfz22_3
  try clear hfz22_4
  try clear hfz22_5
  try clear hfz22_6
  try clear hfz22_7
  try clear hfz22_8
  try clear hfz23_0
  try clear hfz23_1
  try clear hfz23_2
  try clear hfz23_3
  try clear hfz23_4
  try clear hfz23_5
  try clear hfz23_6
  try clear hfz23_7
  try clear hfz23_8
  try clear hfz25_0
  try clear hfz25_1
  try clear hfz25_2
  try clear hfz25_3
  try clear hfz25_4
  try clear hfz25_5
  try clear hfz25_6
  try clear hfz25_7
  try clear hfz25_8
  try clear hfz26_0
  try clear hfz26_1
  try clear hfz26_2
  try clear hfz26_3
  try clear hfz26_4
  try clear hfz26_5
  try clear hfz26_6
  try clear hfz26_7
  try clear hfz26_8
  try clear hfz28_0
  try clear hfz28_1
  try clear hfz28_2
  try clear hfz28_3
  try clear hfz28_4
  try clear hfz28_5
  try clear hfz28_6
  try clear hfz28_7
  try clear hfz28_8
  try clear hfz29_0
  try clear hfz29_1
  try clear hfz29_2
  try clear hfz29_3
  try clear hfz29_4
  try clear hfz29_5
  try clear hfz29_6
  try clear hfz29_7
  try clear hfz29_8
  try clear hfz31_0
  try clear hfz31_1
  try clear hfz31_2
  try clear hfz31_3
  try clear hfz31_4
  try clear hfz31_5
  try clear hfz31_6
  try clear hfz31_7
  try clear hfz31_8
  try clear hfz32_0
  try clear hfz32_1
  try clear hfz32_2
  try clear hfz32_3
  try clear hfz32_4
  try clear hfz32_5
  try clear hfz32_6
  try clear hfz32_7
  try clear hfz32_8
  obtain ⟨kq, x54_2, rfl, HA, HJ2, BK150, BK151, HB⟩ := hcut
  cases kq with
  | zero => exact absurd HA.out (by simp [chartularylaw19_same.j0])
  | succ kj2 =>
   have H := HA.out
   clear HA
   simp only [chartularylaw19_same.j0] at H
   by_cases c33 : x54_2 = true
   ·subst c33
    have H1 : (some false) = some r := by rw [if_pos rfl] at H; exact H
    clear H
    have H := H1
    clear H1
    obtain rfl := Option.some.inj H
    go_wp2
    repeat (go_quiet (fail); try go_wp2)
    go_ret
    exact ⟨Zchartularylaw19_same.z5, by repeat (first | (with_reducible first | exact HB.out | apply below_alloc | apply pw_below_drewN | apply below_drew1 | refine below_set ?_ GE150.out | refine below_set ?_ GE151.out) | exact HB.out)⟩
   ·replace c33 := Bool.eq_false_iff.mpr c33
    subst c33
    have H1 : (chartularylaw19_same.l0 kj2 0 a0_0 a0_1 a0_2 a0_3 l0_4 l0_5 a0_6 a0_7 l0_8 a1_0 a1_1 a1_2 a1_3 l1_4 l1_5 a1_6 a1_7 l1_8) = some r := by rw [if_neg (show ¬ (false = true) by decide)] at H; exact H
    clear H
    have H := H1
    clear H1
    have H' := Aside0.mk H
    clear H
    go_wp2
    repeat (go_quiet (fail); try go_wp2)
    go_loopg [5] kj2 (fun kq v5 w' => ∃ (x5_2 : Int), v5 = .int .i64 x5_2 ∧ Aside0 (chartularylaw19_same.l0 kq x5_2 a0_0 a0_1 a0_2 a0_3 l0_4 l0_5 a0_6 a0_7 l0_8 a1_0 a1_1 a1_2 a1_3 l1_4 l1_5 a1_6 a1_7 l1_8 = some r) ∧ Aside0 (kq ≤ kj2) ∧ Aside0 (w'.heap[gb150]? = some (.cells #[.string a0_0, .int .i64 a0_1, .int .i64 a0_2, .int .i64 a0_3, (.slice A0_4 l0_4.length c0_4), (.slice A0_5 l0_5.length c0_5), .int .i64 a0_6, .int .i64 a0_7, (.slice A0_8 l0_8.length c0_8)] 25 (0, 0))) ∧ Aside0 (w'.heap[gb151]? = some (.cells #[.string a1_0, .int .i64 a1_1, .int .i64 a1_2, .int .i64 a1_3, (.slice A1_4 l1_4.length c1_4), (.slice A1_5 l1_5.length c1_5), .int .i64 a1_6, .int .i64 a1_7, (.slice A1_8 l1_8.length c1_8)] 25 (0, 0))) ∧ Aside0 (Below w.heap.size w w'))
    case atStart => exact ⟨(0), (Zchartularylaw19_same.z1), H', ⟨Nat.le_refl _⟩, ⟨by (with_reducible repeat (first | refine blk_drewN ?_ _ | refine blk_drew ?_ | refine blk_alloc ?_ _)); exact BK150.out⟩, ⟨by (with_reducible repeat (first | refine blk_drewN ?_ _ | refine blk_drew ?_ | refine blk_alloc ?_ _)); exact BK151.out⟩, ⟨by repeat (first | (with_reducible first | exact HB.out | apply below_alloc | apply pw_below_drewN | apply below_drew1 | refine below_set ?_ GE150.out | refine below_set ?_ GE151.out) | exact HB.out)⟩⟩
    case round =>
     clear H'
     try clear c1
     try clear c2
     try clear p2
     try clear c3
     try clear c6
     try clear c6b0
     try clear c6b1
     try clear c7
     try clear c7b0
     try clear c7b1
     try clear c8
     try clear c8b0
     try clear c8b1
     try clear c9
     try clear c9b0
     try clear c9b1
     try clear c10
     try clear c10b0
     try clear c10b1
     try clear c11
     try clear c11b0
     try clear c11b1
     try clear c12
     try clear c15
     try clear c18
     try clear c21
     try clear c24
     try clear c27
     try clear c30
     try clear c33
     try clear hcz13_0
     try clear hcz13_1
     try clear hcz13_2
     try clear hcz13_3
     try clear hcz13_4
     try clear hcz13_5
     try clear hcz13_6
     try clear hcz13_7
     try clear hcz13_8
     try clear hcz14_0
     try clear hcz14_1
     try clear hcz14_2
     try clear hcz14_3
     try clear hcz14_4
     try clear hcz14_5
     try clear hcz14_6
     try clear hcz14_7
     try clear hcz14_8
     try clear hcz16_0
     try clear hcz16_1
     try clear hcz16_2
     try clear hcz16_3
     try clear hcz16_4
     try clear hcz16_5
     try clear hcz16_6
     try clear hcz16_7
     try clear hcz16_8
     try clear hcz17_0
     try clear hcz17_1
     try clear hcz17_2
     try clear hcz17_3
     try clear hcz17_4
     try clear hcz17_5
     try clear hcz17_6
     try clear hcz17_7
     try clear hcz17_8
     try clear hcz19_0
     try clear hcz19_1
     try clear hcz19_2
     try clear hcz19_3
     try clear hcz19_4
     try clear hcz19_5
     try clear hcz19_6
     try clear hcz19_7
     try clear hcz19_8
     try clear hcz20_0
     try clear hcz20_1
     try clear hcz20_2
     try clear hcz20_3
     try clear hcz20_4
     try clear hcz20_5
     try clear hcz20_6
     try clear hcz20_7
     try clear hcz20_8
     try clear hcz22_0
     try clear hcz22_1
     try clear hcz22_2
     try clear hcz22_3
     try clear hcz22_4
     try clear hcz22_5
     try clear hcz22_6
     try clear hcz22_7
     try clear hcz22_8
     try clear hcz23_0
     try clear hcz23_1
     try clear hcz23_2
     try clear hcz23_3
     try clear hcz23_4
     try clear hcz23_5
     try clear hcz23_6
     try clear hcz23_7
     try clear hcz23_8
     try clear hcz25_0
     try clear hcz25_1
     try clear hcz25_2
     try clear hcz25_3
     try clear hcz25_4
     try clear hcz25_5
     try clear hcz25_6
     try clear hcz25_7
     try clear hcz25_8
     try clear hcz26_0
     try clear hcz26_1
     try clear hcz26_2
     try clear hcz26_3
     try clear hcz26_4
     try clear hcz26_5
     try clear hcz26_6
     try clear hcz26_7
     try clear hcz26_8
     try clear hcz28_0
     try clear hcz28_1
     try clear hcz28_2
     try clear hcz28_3
     try clear hcz28_4
     try clear hcz28_5
     try clear hcz28_6
     try clear hcz28_7
     try clear hcz28_8
     try clear hcz29_0
     try clear hcz29_1
     try clear hcz29_2
     try clear hcz29_3
     try clear hcz29_4
     try clear hcz29_5
     try clear hcz29_6
     try clear hcz29_7
     try clear hcz29_8
     try clear hcz31_0
     try clear hcz31_1
     try clear hcz31_2
     try clear hcz31_3
     try clear hcz31_4
     try clear hcz31_5
     try clear hcz31_6
     try clear hcz31_7
     try clear hcz31_8
     try clear hcz32_0
     try clear hcz32_1
     try clear hcz32_2
     try clear hcz32_3
     try clear hcz32_4
     try clear hcz32_5
     try clear hcz32_6
     try clear hcz32_7
     try clear hcz32_8
     try clear hfz13_0
     try clear hfz13_1
     try clear hfz13_2
     try clear hfz13_3
     try clear hfz13_4
     try clear hfz13_5
     try clear hfz13_6
     try clear hfz13_7
     try clear hfz13_8
     try clear hfz14_0
     try clear hfz14_1
     try clear hfz14_2
     try clear hfz14_3
     try clear hfz14_4
     try clear hfz14_5
     try clear hfz14_6
     try clear hfz14_7
     try clear hfz14_8
     try clear hfz16_0
     try clear hfz16_1
     try clear hfz16_2
     try clear hfz16_3
     try clear hfz16_4
     try clear hfz16_5
     try clear hfz16_6
     try clear hfz16_7
     try clear hfz16_8
     try clear hfz17_0
     try clear hfz17_1
     try clear hfz17_2
     try clear hfz17_3
     try clear hfz17_4
     try clear hfz17_5
     try clear hfz17_6
     try clear hfz17_7
     try clear hfz17_8
     try clear hfz19_0
     try clear hfz19_1
     try clear hfz19_2
     try clear hfz19_3
     try clear hfz19_4
     try clear hfz19_5
     try clear hfz19_6
     try clear hfz19_7
     try clear hfz19_8
     try clear hfz20_0
     try clear hfz20_1
     try clear hfz20_2
     try clear hfz20_3
     try clear hfz20_4
     try clear hfz20_5
     try clear hfz20_6
     try clear hfz20_7
     try clear hfz20_8
     try clear hfz22_0
     try clear hfz22_1
     try clear hfz22_2
     try clear hfz22_3
     try clear hfz22_4
     try clear hfz22_5
     try clear hfz22_6
     try clear hfz22_7
     try clear hfz22_8
     try clear hfz23_0
     try clear hfz23_1
     try clear hfz23_2
     try clear hfz23_3
     try clear hfz23_4
     try clear hfz23_5
     try clear hfz23_6
     try clear hfz23_7
     try clear hfz23_8
     try clear hfz25_0
     try clear hfz25_1
     try clear hfz25_2
     try clear hfz25_3
     try clear hfz25_4
     try clear hfz25_5
     try clear hfz25_6
     try clear hfz25_7
     try clear hfz25_8
     try clear hfz26_0
     try clear hfz26_1
     try clear hfz26_2
     try clear hfz26_3
     try clear hfz26_4
     try clear hfz26_5
     try clear hfz26_6
     try clear hfz26_7
     try clear hfz26_8
     try clear hfz28_0
     try clear hfz28_1
     try clear hfz28_2
     try clear hfz28_3
     try clear hfz28_4
     try clear hfz28_5
     try clear hfz28_6
     try clear hfz28_7
     try clear hfz28_8
     try clear hfz29_0
     try clear hfz29_1
     try clear hfz29_2
     try clear hfz29_3
     try clear hfz29_4
     try clear hfz29_5
     try clear hfz29_6
     try clear hfz29_7
     try clear hfz29_8
     try clear hfz31_0
     try clear hfz31_1
     try clear hfz31_2
     try clear hfz31_3
     try clear hfz31_4
     try clear hfz31_5
     try clear hfz31_6
     try clear hfz31_7
     try clear hfz31_8
     try clear hfz32_0
     try clear hfz32_1
     try clear hfz32_2
     try clear hfz32_3
     try clear hfz32_4
     try clear hfz32_5
     try clear hfz32_6
     try clear hfz32_7
     try clear hfz32_8
     try clear p2
     obtain ⟨x5_2, rfl, HA, HK2, BK150, BK151, HB⟩ := hrel
     cases gk with
     | zero => exact absurd HA.out (by simp [chartularylaw19_same.l0])
     | succ k2 =>
      have H := HA.out
      clear HA
      simp only [chartularylaw19_same.l0] at H
      by_cases c34 : x5_2 < (l0_4.length : Int)
      ·rw [if_pos c34] at H
       have c34b0 : decide (x5_2 < (l0_4.length : Int)) = true := decide_eq_true c34
       clear c34
       by_cases c35 : 0 ≤ x5_2
       ·rw [if_pos c35] at H
        have c35b0 : decide (0 ≤ x5_2) = true := decide_eq_true c35
        clear c35
        by_cases c36 : x5_2 < (l1_4.length : Int)
        ·rw [if_pos c36] at H
         have c36b0 : decide (x5_2 < (l1_4.length : Int)) = true := decide_eq_true c36
         clear c36
         by_cases c37 : (!(((rd_T50 l0_4 x5_2).f0) == ((rd_T50 l1_4 x5_2).f0)) || (!((((rd_T50 l0_4 x5_2).f1).toList) == (((rd_T50 l1_4 x5_2).f1).toList)) || (!(((rd_T50 l0_4 x5_2).f2) == ((rd_T50 l1_4 x5_2).f2)) || (!((((rd_T50 l0_4 x5_2).f3).toList) == (((rd_T50 l1_4 x5_2).f3).toList)) || (!((((rd_T50 l0_4 x5_2).f4).toList) == (((rd_T50 l1_4 x5_2).f4).toList)) || (!((((rd_T50 l0_4 x5_2).f5).toList) == (((rd_T50 l1_4 x5_2).f5).toList)))))))) = true
         ·rw [if_pos c37] at H
          have c37b0 : (!(((rd_T50 l0_4 x5_2).f0) == ((rd_T50 l1_4 x5_2).f0)) || (!((((rd_T50 l0_4 x5_2).f1).toList) == (((rd_T50 l1_4 x5_2).f1).toList)) || (!(((rd_T50 l0_4 x5_2).f2) == ((rd_T50 l1_4 x5_2).f2)) || (!((((rd_T50 l0_4 x5_2).f3).toList) == (((rd_T50 l1_4 x5_2).f3).toList)) || (!((((rd_T50 l0_4 x5_2).f4).toList) == (((rd_T50 l1_4 x5_2).f4).toList)) || (!((((rd_T50 l0_4 x5_2).f5).toList) == (((rd_T50 l1_4 x5_2).f5).toList)))))))) = true := c37
          clear c37
          obtain rfl := Option.some.inj H
          have hnb38 := NB150_151.out
          have hnc38 := NB151_150.out
          have hcz39_0 := cz_ BK150.out 0 rfl
          have hcz39_1 := cz_ BK150.out 1 rfl
          have hcz39_2 := cz_ BK150.out 2 rfl
          have hcz39_3 := cz_ BK150.out 3 rfl
          have hcz39_4 := cz_ BK150.out 4 rfl
          have hcz39_5 := cz_ BK150.out 5 rfl
          have hcz39_6 := cz_ BK150.out 6 rfl
          have hcz39_7 := cz_ BK150.out 7 rfl
          have hcz39_8 := cz_ BK150.out 8 rfl
          have hfz39_0 := blk_frozen BK150.out 0
          have hfz39_1 := blk_frozen BK150.out 1
          have hfz39_2 := blk_frozen BK150.out 2
          have hfz39_3 := blk_frozen BK150.out 3
          have hfz39_4 := blk_frozen BK150.out 4
          have hfz39_5 := blk_frozen BK150.out 5
          have hfz39_6 := blk_frozen BK150.out 6
          have hfz39_7 := blk_frozen BK150.out 7
          have hfz39_8 := blk_frozen BK150.out 8
          have p152 : 0 ≤ (x5_2 : Int) := of_decide_eq_true (Zchartularylaw19_same.z2)
          have q152 : x5_2 < (l0_4.length : Int) := of_decide_eq_true (Zchartularylaw19_same.z2)
          obtain ⟨ad152, e152, hx152_0, hx152_1, hx152_2, hx152_3, hx152_4, hx152_5⟩ := at_T50 HR0_4.out x5_2 p152 q152
          cases e152
          replace hx152_0 := (HB.out.cell (World.block_lt_of_cell? w _ hx152_0)).trans hx152_0
          replace hx152_1 := (HB.out.cell (World.block_lt_of_cell? w _ hx152_1)).trans hx152_1
          replace hx152_2 := (HB.out.cell (World.block_lt_of_cell? w _ hx152_2)).trans hx152_2
          replace hx152_3 := (HB.out.cell (World.block_lt_of_cell? w _ hx152_3)).trans hx152_3
          replace hx152_4 := (HB.out.cell (World.block_lt_of_cell? w _ hx152_4)).trans hx152_4
          replace hx152_5 := (HB.out.cell (World.block_lt_of_cell? w _ hx152_5)).trans hx152_5
          replace p152 := eq_true p152
          replace q152 := eq_true q152
          have hcz40_0 := cz_ BK151.out 0 rfl
          have hcz40_1 := cz_ BK151.out 1 rfl
          have hcz40_2 := cz_ BK151.out 2 rfl
          have hcz40_3 := cz_ BK151.out 3 rfl
          have hcz40_4 := cz_ BK151.out 4 rfl
          have hcz40_5 := cz_ BK151.out 5 rfl
          have hcz40_6 := cz_ BK151.out 6 rfl
          have hcz40_7 := cz_ BK151.out 7 rfl
          have hcz40_8 := cz_ BK151.out 8 rfl
          have hfz40_0 := blk_frozen BK151.out 0
          have hfz40_1 := blk_frozen BK151.out 1
          have hfz40_2 := blk_frozen BK151.out 2
          have hfz40_3 := blk_frozen BK151.out 3
          have hfz40_4 := blk_frozen BK151.out 4
          have hfz40_5 := blk_frozen BK151.out 5
          have hfz40_6 := blk_frozen BK151.out 6
          have hfz40_7 := blk_frozen BK151.out 7
          have hfz40_8 := blk_frozen BK151.out 8
          have p153 : 0 ≤ (x5_2 : Int) := of_decide_eq_true (Zchartularylaw19_same.z2)
          have q153 : x5_2 < (l1_4.length : Int) := of_decide_eq_true (Zchartularylaw19_same.z2)
          obtain ⟨ad153, e153, hx153_0, hx153_1, hx153_2, hx153_3, hx153_4, hx153_5⟩ := at_T50 HR1_4.out x5_2 p153 q153
          cases e153
          replace hx153_0 := (HB.out.cell (World.block_lt_of_cell? w _ hx153_0)).trans hx153_0
          replace hx153_1 := (HB.out.cell (World.block_lt_of_cell? w _ hx153_1)).trans hx153_1
          replace hx153_2 := (HB.out.cell (World.block_lt_of_cell? w _ hx153_2)).trans hx153_2
          replace hx153_3 := (HB.out.cell (World.block_lt_of_cell? w _ hx153_3)).trans hx153_3
          replace hx153_4 := (HB.out.cell (World.block_lt_of_cell? w _ hx153_4)).trans hx153_4
          replace hx153_5 := (HB.out.cell (World.block_lt_of_cell? w _ hx153_5)).trans hx153_5
          replace p153 := eq_true p153
          replace q153 := eq_true q153
          go_wp2
          repeat (go_quiet (fail); try go_wp2)
          go_ret
          exact ⟨Zchartularylaw19_same.z5, by repeat (first | (with_reducible first | exact HB.out | apply below_alloc | apply pw_below_drewN | apply below_drew1 | refine below_set ?_ GE150.out | refine below_set ?_ GE151.out) | exact HB.out)⟩
         ·rw [if_neg c37] at H
          have c37b0 : (!(((rd_T50 l0_4 x5_2).f0) == ((rd_T50 l1_4 x5_2).f0)) || (!((((rd_T50 l0_4 x5_2).f1).toList) == (((rd_T50 l1_4 x5_2).f1).toList)) || (!(((rd_T50 l0_4 x5_2).f2) == ((rd_T50 l1_4 x5_2).f2)) || (!((((rd_T50 l0_4 x5_2).f3).toList) == (((rd_T50 l1_4 x5_2).f3).toList)) || (!((((rd_T50 l0_4 x5_2).f4).toList) == (((rd_T50 l1_4 x5_2).f4).toList)) || (!((((rd_T50 l0_4 x5_2).f5).toList) == (((rd_T50 l1_4 x5_2).f5).toList)))))))) = false := by simpa using c37
          clear c37
          have H' := Aside0.mk H
          clear H
          have hnb41 := NB150_151.out
          have hnc41 := NB151_150.out
          have hcz42_0 := cz_ BK150.out 0 rfl
          have hcz42_1 := cz_ BK150.out 1 rfl
          have hcz42_2 := cz_ BK150.out 2 rfl
          have hcz42_3 := cz_ BK150.out 3 rfl
          have hcz42_4 := cz_ BK150.out 4 rfl
          have hcz42_5 := cz_ BK150.out 5 rfl
          have hcz42_6 := cz_ BK150.out 6 rfl
          have hcz42_7 := cz_ BK150.out 7 rfl
          have hcz42_8 := cz_ BK150.out 8 rfl
          have hfz42_0 := blk_frozen BK150.out 0
          have hfz42_1 := blk_frozen BK150.out 1
          have hfz42_2 := blk_frozen BK150.out 2
          have hfz42_3 := blk_frozen BK150.out 3
          have hfz42_4 := blk_frozen BK150.out 4
          have hfz42_5 := blk_frozen BK150.out 5
          have hfz42_6 := blk_frozen BK150.out 6
          have hfz42_7 := blk_frozen BK150.out 7
          have hfz42_8 := blk_frozen BK150.out 8
          have p152 : 0 ≤ (x5_2 : Int) := of_decide_eq_true (Zchartularylaw19_same.z2)
          have q152 : x5_2 < (l0_4.length : Int) := of_decide_eq_true (Zchartularylaw19_same.z2)
          obtain ⟨ad152, e152, hx152_0, hx152_1, hx152_2, hx152_3, hx152_4, hx152_5⟩ := at_T50 HR0_4.out x5_2 p152 q152
          cases e152
          replace hx152_0 := (HB.out.cell (World.block_lt_of_cell? w _ hx152_0)).trans hx152_0
          replace hx152_1 := (HB.out.cell (World.block_lt_of_cell? w _ hx152_1)).trans hx152_1
          replace hx152_2 := (HB.out.cell (World.block_lt_of_cell? w _ hx152_2)).trans hx152_2
          replace hx152_3 := (HB.out.cell (World.block_lt_of_cell? w _ hx152_3)).trans hx152_3
          replace hx152_4 := (HB.out.cell (World.block_lt_of_cell? w _ hx152_4)).trans hx152_4
          replace hx152_5 := (HB.out.cell (World.block_lt_of_cell? w _ hx152_5)).trans hx152_5
          replace p152 := eq_true p152
          replace q152 := eq_true q152
          have hcz43_0 := cz_ BK151.out 0 rfl
          have hcz43_1 := cz_ BK151.out 1 rfl
          have hcz43_2 := cz_ BK151.out 2 rfl
          have hcz43_3 := cz_ BK151.out 3 rfl
          have hcz43_4 := cz_ BK151.out 4 rfl
          have hcz43_5 := cz_ BK151.out 5 rfl
          have hcz43_6 := cz_ BK151.out 6 rfl
          have hcz43_7 := cz_ BK151.out 7 rfl
          have hcz43_8 := cz_ BK151.out 8 rfl
          have hfz43_0 := blk_frozen BK151.out 0
          have hfz43_1 := blk_frozen BK151.out 1
          have hfz43_2 := blk_frozen BK151.out 2
          have hfz43_3 := blk_frozen BK151.out 3
          have hfz43_4 := blk_frozen BK151.out 4
          have hfz43_5 := blk_frozen BK151.out 5
          have hfz43_6 := blk_frozen BK151.out 6
          have hfz43_7 := blk_frozen BK151.out 7
          have hfz43_8 := blk_frozen BK151.out 8
          have p153 : 0 ≤ (x5_2 : Int) := of_decide_eq_true (Zchartularylaw19_same.z2)
          have q153 : x5_2 < (l1_4.length : Int) := of_decide_eq_true (Zchartularylaw19_same.z2)
          obtain ⟨ad153, e153, hx153_0, hx153_1, hx153_2, hx153_3, hx153_4, hx153_5⟩ := at_T50 HR1_4.out x5_2 p153 q153
          cases e153
          replace hx153_0 := (HB.out.cell (World.block_lt_of_cell? w _ hx153_0)).trans hx153_0
          replace hx153_1 := (HB.out.cell (World.block_lt_of_cell? w _ hx153_1)).trans hx153_1
          replace hx153_2 := (HB.out.cell (World.block_lt_of_cell? w _ hx153_2)).trans hx153_2
          replace hx153_3 := (HB.out.cell (World.block_lt_of_cell? w _ hx153_3)).trans hx153_3
          replace hx153_4 := (HB.out.cell (World.block_lt_of_cell? w _ hx153_4)).trans hx153_4
          replace hx153_5 := (HB.out.cell (World.block_lt_of_cell? w _ hx153_5)).trans hx153_5
          replace p153 := eq_true p153
          replace q153 := eq_true q153
          go_wp2
          repeat (go_quiet (fail); try go_wp2)
          go_roundg k2
          case measure => have := HJ2.out; have := HK2.out; omega
          case rel => exact ⟨(wrap64 (x5_2 + 1)), (Zchartularylaw19_same.z1), H', ⟨by have := HJ2.out; have := HK2.out; omega⟩, ⟨by (with_reducible repeat (first | refine blk_drewN ?_ _ | refine blk_drew ?_ | refine blk_alloc ?_ _)); exact BK150.out⟩, ⟨by (with_reducible repeat (first | refine blk_drewN ?_ _ | refine blk_drew ?_ | refine blk_alloc ?_ _)); exact BK151.out⟩, ⟨by repeat (first | (with_reducible first | exact HB.out | apply below_alloc | apply pw_below_drewN | apply below_drew1 | refine below_set ?_ GE150.out | refine below_set ?_ GE151.out) | exact HB.out)⟩⟩
        ·rw [if_neg c36] at H
         exact absurd H (by simp)
       ·rw [if_neg c35] at H
        exact absurd H (by simp)
      ·rw [if_neg c34] at H
       have c34b0 : decide (x5_2 < (l0_4.length : Int)) = false := decide_eq_false c34
       clear c34
       replace H := Option.bind_eq_some_iff.mp H
       obtain ⟨t154, A440, H⟩ := H
       replace H : (if t154 = true then ((chartularylaw19_sameList.f k2 l0_8 l1_8).bind fun t155 => (some t155)) else (some false)) = some r := H
       have A44 := Aside0.mk A440
       clear A440
       by_cases c45 : t154 = true
       ·subst c45
        have H1 : ((chartularylaw19_sameList.f k2 l0_8 l1_8).bind fun t155 => (some t155)) = some r := by rw [if_pos rfl] at H; exact H
        clear H
        have H := H1
        clear H1
        replace H := Option.bind_eq_some_iff.mp H
        obtain ⟨t155, A460, H⟩ := H
        replace H : (some t155) = some r := H
        have A46 := Aside0.mk A460
        clear A460
        obtain rfl := Option.some.inj H
        have hnb47 := NB150_151.out
        have hnc47 := NB151_150.out
        have hcz48_0 := cz_ BK150.out 0 rfl
        have hcz48_1 := cz_ BK150.out 1 rfl
        have hcz48_2 := cz_ BK150.out 2 rfl
        have hcz48_3 := cz_ BK150.out 3 rfl
        have hcz48_4 := cz_ BK150.out 4 rfl
        have hcz48_5 := cz_ BK150.out 5 rfl
        have hcz48_6 := cz_ BK150.out 6 rfl
        have hcz48_7 := cz_ BK150.out 7 rfl
        have hcz48_8 := cz_ BK150.out 8 rfl
        have hfz48_0 := blk_frozen BK150.out 0
        have hfz48_1 := blk_frozen BK150.out 1
        have hfz48_2 := blk_frozen BK150.out 2
        have hfz48_3 := blk_frozen BK150.out 3
        have hfz48_4 := blk_frozen BK150.out 4
        have hfz48_5 := blk_frozen BK150.out 5
        have hfz48_6 := blk_frozen BK150.out 6
        have hfz48_7 := blk_frozen BK150.out 7
        have hfz48_8 := blk_frozen BK150.out 8
        have hcz49_0 := cz_ BK151.out 0 rfl
        have hcz49_1 := cz_ BK151.out 1 rfl
        have hcz49_2 := cz_ BK151.out 2 rfl
        have hcz49_3 := cz_ BK151.out 3 rfl
        have hcz49_4 := cz_ BK151.out 4 rfl
        have hcz49_5 := cz_ BK151.out 5 rfl
        have hcz49_6 := cz_ BK151.out 6 rfl
        have hcz49_7 := cz_ BK151.out 7 rfl
        have hcz49_8 := cz_ BK151.out 8 rfl
        have hfz49_0 := blk_frozen BK151.out 0
        have hfz49_1 := blk_frozen BK151.out 1
        have hfz49_2 := blk_frozen BK151.out 2
        have hfz49_3 := blk_frozen BK151.out 3
        have hfz49_4 := blk_frozen BK151.out 4
        have hfz49_5 := blk_frozen BK151.out 5
        have hfz49_6 := blk_frozen BK151.out 6
        have hfz49_7 := blk_frozen BK151.out 7
        have hfz49_8 := blk_frozen BK151.out 8
        go_wp2_with (first | (go_at_call 22; (with_reducible refine (chartularylaw19_sameList.calls k2 _ _ l0_5 _ _ l1_5 true _ ?side1 ?side2 ?side3 ?side4 A44.out).mono ?_); (case side1 => repeat (first | exact (Kd.C_below HR0_5.out HB.out) | (with_reducible refine Kd.C_alloc ?_ _) | (with_reducible refine Kd.C_drewN ?_ _) | (with_reducible refine Kd.C_drew ?_))); (case side2 => exact HC0_5.out); (case side3 => repeat (first | exact (Kd.C_below HR1_5.out HB.out) | (with_reducible refine Kd.C_alloc ?_ _) | (with_reducible refine Kd.C_drewN ?_ _) | (with_reducible refine Kd.C_drew ?_))); (case side4 => exact HC1_5.out); rintro e w' ⟨rfl, ⟨nd, rfl⟩⟩; (try first | exact ⟨rfl, _, World.drewN_drewN _ _ _⟩ | exact ⟨rfl, _, Eq.trans (World.drewN_drewN _ _ _) (congrArg (World.drewN _) (Nat.add_assoc _ _ _))⟩)) | (go_at_call 22; (with_reducible refine (chartularylaw19_sameList.calls k2 _ _ l0_8 _ _ l1_8 t155 _ ?side1 ?side2 ?side3 ?side4 A46.out).mono ?_); (case side1 => repeat (first | exact (Kd.C_below HR0_8.out (by repeat (first | (with_reducible first | exact HB.out | apply below_alloc | apply pw_below_drewN | apply below_drew1 | refine below_set ?_ GE150.out | refine below_set ?_ GE151.out) | exact HB.out))) | (with_reducible refine Kd.C_alloc ?_ _) | (with_reducible refine Kd.C_drewN ?_ _) | (with_reducible refine Kd.C_drew ?_))); (case side2 => exact HC0_8.out); (case side3 => repeat (first | exact (Kd.C_below HR1_8.out (by repeat (first | (with_reducible first | exact HB.out | apply below_alloc | apply pw_below_drewN | apply below_drew1 | refine below_set ?_ GE150.out | refine below_set ?_ GE151.out) | exact HB.out))) | (with_reducible refine Kd.C_alloc ?_ _) | (with_reducible refine Kd.C_drewN ?_ _) | (with_reducible refine Kd.C_drew ?_))); (case side4 => exact HC1_8.out); rintro e w' ⟨rfl, ⟨nd, rfl⟩⟩; (try first | exact ⟨rfl, _, World.drewN_drewN _ _ _⟩ | exact ⟨rfl, _, Eq.trans (World.drewN_drewN _ _ _) (congrArg (World.drewN _) (Nat.add_assoc _ _ _))⟩)))
        repeat (go_quiet (first | (go_at_call 22; (with_reducible refine (chartularylaw19_sameList.calls k2 _ _ l0_5 _ _ l1_5 true _ ?side1 ?side2 ?side3 ?side4 A44.out).mono ?_); (case side1 => repeat (first | exact (Kd.C_below HR0_5.out HB.out) | (with_reducible refine Kd.C_alloc ?_ _) | (with_reducible refine Kd.C_drewN ?_ _) | (with_reducible refine Kd.C_drew ?_))); (case side2 => exact HC0_5.out); (case side3 => repeat (first | exact (Kd.C_below HR1_5.out HB.out) | (with_reducible refine Kd.C_alloc ?_ _) | (with_reducible refine Kd.C_drewN ?_ _) | (with_reducible refine Kd.C_drew ?_))); (case side4 => exact HC1_5.out); rintro e w' ⟨rfl, ⟨nd, rfl⟩⟩; (try first | exact ⟨rfl, _, World.drewN_drewN _ _ _⟩ | exact ⟨rfl, _, Eq.trans (World.drewN_drewN _ _ _) (congrArg (World.drewN _) (Nat.add_assoc _ _ _))⟩)) | (go_at_call 22; (with_reducible refine (chartularylaw19_sameList.calls k2 _ _ l0_8 _ _ l1_8 t155 _ ?side1 ?side2 ?side3 ?side4 A46.out).mono ?_); (case side1 => repeat (first | exact (Kd.C_below HR0_8.out (by repeat (first | (with_reducible first | exact HB.out | apply below_alloc | apply pw_below_drewN | apply below_drew1 | refine below_set ?_ GE150.out | refine below_set ?_ GE151.out) | exact HB.out))) | (with_reducible refine Kd.C_alloc ?_ _) | (with_reducible refine Kd.C_drewN ?_ _) | (with_reducible refine Kd.C_drew ?_))); (case side2 => exact HC0_8.out); (case side3 => repeat (first | exact (Kd.C_below HR1_8.out (by repeat (first | (with_reducible first | exact HB.out | apply below_alloc | apply pw_below_drewN | apply below_drew1 | refine below_set ?_ GE150.out | refine below_set ?_ GE151.out) | exact HB.out))) | (with_reducible refine Kd.C_alloc ?_ _) | (with_reducible refine Kd.C_drewN ?_ _) | (with_reducible refine Kd.C_drew ?_))); (case side4 => exact HC1_8.out); rintro e w' ⟨rfl, ⟨nd, rfl⟩⟩; (try first | exact ⟨rfl, _, World.drewN_drewN _ _ _⟩ | exact ⟨rfl, _, Eq.trans (World.drewN_drewN _ _ _) (congrArg (World.drewN _) (Nat.add_assoc _ _ _))⟩))); try go_wp2_with (first | (go_at_call 22; (with_reducible refine (chartularylaw19_sameList.calls k2 _ _ l0_5 _ _ l1_5 true _ ?side1 ?side2 ?side3 ?side4 A44.out).mono ?_); (case side1 => repeat (first | exact (Kd.C_below HR0_5.out HB.out) | (with_reducible refine Kd.C_alloc ?_ _) | (with_reducible refine Kd.C_drewN ?_ _) | (with_reducible refine Kd.C_drew ?_))); (case side2 => exact HC0_5.out); (case side3 => repeat (first | exact (Kd.C_below HR1_5.out HB.out) | (with_reducible refine Kd.C_alloc ?_ _) | (with_reducible refine Kd.C_drewN ?_ _) | (with_reducible refine Kd.C_drew ?_))); (case side4 => exact HC1_5.out); rintro e w' ⟨rfl, ⟨nd, rfl⟩⟩; (try first | exact ⟨rfl, _, World.drewN_drewN _ _ _⟩ | exact ⟨rfl, _, Eq.trans (World.drewN_drewN _ _ _) (congrArg (World.drewN _) (Nat.add_assoc _ _ _))⟩)) | (go_at_call 22; (with_reducible refine (chartularylaw19_sameList.calls k2 _ _ l0_8 _ _ l1_8 t155 _ ?side1 ?side2 ?side3 ?side4 A46.out).mono ?_); (case side1 => repeat (first | exact (Kd.C_below HR0_8.out (by repeat (first | (with_reducible first | exact HB.out | apply below_alloc | apply pw_below_drewN | apply below_drew1 | refine below_set ?_ GE150.out | refine below_set ?_ GE151.out) | exact HB.out))) | (with_reducible refine Kd.C_alloc ?_ _) | (with_reducible refine Kd.C_drewN ?_ _) | (with_reducible refine Kd.C_drew ?_))); (case side2 => exact HC0_8.out); (case side3 => repeat (first | exact (Kd.C_below HR1_8.out (by repeat (first | (with_reducible first | exact HB.out | apply below_alloc | apply pw_below_drewN | apply below_drew1 | refine below_set ?_ GE150.out | refine below_set ?_ GE151.out) | exact HB.out))) | (with_reducible refine Kd.C_alloc ?_ _) | (with_reducible refine Kd.C_drewN ?_ _) | (with_reducible refine Kd.C_drew ?_))); (case side4 => exact HC1_8.out); rintro e w' ⟨rfl, ⟨nd, rfl⟩⟩; (try first | exact ⟨rfl, _, World.drewN_drewN _ _ _⟩ | exact ⟨rfl, _, Eq.trans (World.drewN_drewN _ _ _) (congrArg (World.drewN _) (Nat.add_assoc _ _ _))⟩))))
        go_ret
        exact ⟨Zchartularylaw19_same.z5, by repeat (first | (with_reducible first | exact HB.out | apply below_alloc | apply pw_below_drewN | apply below_drew1 | refine below_set ?_ GE150.out | refine below_set ?_ GE151.out) | exact HB.out)⟩
       ·replace c45 := Bool.eq_false_iff.mpr c45
        subst c45
        have H1 : (some false) = some r := by rw [if_neg (show ¬ (false = true) by decide)] at H; exact H
        clear H
        have H := H1
        clear H1
        obtain rfl := Option.some.inj H
        have hnb50 := NB150_151.out
        have hnc50 := NB151_150.out
        have hcz51_0 := cz_ BK150.out 0 rfl
        have hcz51_1 := cz_ BK150.out 1 rfl
        have hcz51_2 := cz_ BK150.out 2 rfl
        have hcz51_3 := cz_ BK150.out 3 rfl
        have hcz51_4 := cz_ BK150.out 4 rfl
        have hcz51_5 := cz_ BK150.out 5 rfl
        have hcz51_6 := cz_ BK150.out 6 rfl
        have hcz51_7 := cz_ BK150.out 7 rfl
        have hcz51_8 := cz_ BK150.out 8 rfl
        have hfz51_0 := blk_frozen BK150.out 0
        have hfz51_1 := blk_frozen BK150.out 1
        have hfz51_2 := blk_frozen BK150.out 2
        have hfz51_3 := blk_frozen BK150.out 3
        have hfz51_4 := blk_frozen BK150.out 4
        have hfz51_5 := blk_frozen BK150.out 5
        have hfz51_6 := blk_frozen BK150.out 6
        have hfz51_7 := blk_frozen BK150.out 7
        have hfz51_8 := blk_frozen BK150.out 8
        have hcz52_0 := cz_ BK151.out 0 rfl
        have hcz52_1 := cz_ BK151.out 1 rfl
        have hcz52_2 := cz_ BK151.out 2 rfl
        have hcz52_3 := cz_ BK151.out 3 rfl
        have hcz52_4 := cz_ BK151.out 4 rfl
        have hcz52_5 := cz_ BK151.out 5 rfl
        have hcz52_6 := cz_ BK151.out 6 rfl
        have hcz52_7 := cz_ BK151.out 7 rfl
        have hcz52_8 := cz_ BK151.out 8 rfl
        have hfz52_0 := blk_frozen BK151.out 0
        have hfz52_1 := blk_frozen BK151.out 1
        have hfz52_2 := blk_frozen BK151.out 2
        have hfz52_3 := blk_frozen BK151.out 3
        have hfz52_4 := blk_frozen BK151.out 4
        have hfz52_5 := blk_frozen BK151.out 5
        have hfz52_6 := blk_frozen BK151.out 6
        have hfz52_7 := blk_frozen BK151.out 7
        have hfz52_8 := blk_frozen BK151.out 8
        go_wp2_with (first | (go_at_call 22; (with_reducible refine (chartularylaw19_sameList.calls k2 _ _ l0_5 _ _ l1_5 false _ ?side1 ?side2 ?side3 ?side4 A44.out).mono ?_); (case side1 => repeat (first | exact (Kd.C_below HR0_5.out HB.out) | (with_reducible refine Kd.C_alloc ?_ _) | (with_reducible refine Kd.C_drewN ?_ _) | (with_reducible refine Kd.C_drew ?_))); (case side2 => exact HC0_5.out); (case side3 => repeat (first | exact (Kd.C_below HR1_5.out HB.out) | (with_reducible refine Kd.C_alloc ?_ _) | (with_reducible refine Kd.C_drewN ?_ _) | (with_reducible refine Kd.C_drew ?_))); (case side4 => exact HC1_5.out); rintro e w' ⟨rfl, ⟨nd, rfl⟩⟩; (try first | exact ⟨rfl, _, World.drewN_drewN _ _ _⟩ | exact ⟨rfl, _, Eq.trans (World.drewN_drewN _ _ _) (congrArg (World.drewN _) (Nat.add_assoc _ _ _))⟩)))
        repeat (go_quiet (first | (go_at_call 22; (with_reducible refine (chartularylaw19_sameList.calls k2 _ _ l0_5 _ _ l1_5 false _ ?side1 ?side2 ?side3 ?side4 A44.out).mono ?_); (case side1 => repeat (first | exact (Kd.C_below HR0_5.out HB.out) | (with_reducible refine Kd.C_alloc ?_ _) | (with_reducible refine Kd.C_drewN ?_ _) | (with_reducible refine Kd.C_drew ?_))); (case side2 => exact HC0_5.out); (case side3 => repeat (first | exact (Kd.C_below HR1_5.out HB.out) | (with_reducible refine Kd.C_alloc ?_ _) | (with_reducible refine Kd.C_drewN ?_ _) | (with_reducible refine Kd.C_drew ?_))); (case side4 => exact HC1_5.out); rintro e w' ⟨rfl, ⟨nd, rfl⟩⟩; (try first | exact ⟨rfl, _, World.drewN_drewN _ _ _⟩ | exact ⟨rfl, _, Eq.trans (World.drewN_drewN _ _ _) (congrArg (World.drewN _) (Nat.add_assoc _ _ _))⟩))); try go_wp2_with (first | (go_at_call 22; (with_reducible refine (chartularylaw19_sameList.calls k2 _ _ l0_5 _ _ l1_5 false _ ?side1 ?side2 ?side3 ?side4 A44.out).mono ?_); (case side1 => repeat (first | exact (Kd.C_below HR0_5.out HB.out) | (with_reducible refine Kd.C_alloc ?_ _) | (with_reducible refine Kd.C_drewN ?_ _) | (with_reducible refine Kd.C_drew ?_))); (case side2 => exact HC0_5.out); (case side3 => repeat (first | exact (Kd.C_below HR1_5.out HB.out) | (with_reducible refine Kd.C_alloc ?_ _) | (with_reducible refine Kd.C_drewN ?_ _) | (with_reducible refine Kd.C_drew ?_))); (case side4 => exact HC1_5.out); rintro e w' ⟨rfl, ⟨nd, rfl⟩⟩; (try first | exact ⟨rfl, _, World.drewN_drewN _ _ _⟩ | exact ⟨rfl, _, Eq.trans (World.drewN_drewN _ _ _) (congrArg (World.drewN _) (Nat.add_assoc _ _ _))⟩))))
        go_ret
        exact ⟨Zchartularylaw19_same.z5, by repeat (first | (with_reducible first | exact HB.out | apply below_alloc | apply pw_below_drewN | apply below_drew1 | refine below_set ?_ GE150.out | refine below_set ?_ GE151.out) | exact HB.out)⟩


end

section
/-! ### chartularylaw19_list: function 21 -/
def chartularylaw19_list.l0 : Nat → List ByteArray → ByteArray → Int → Option (ByteArray)
  | 0, _, _, _ => none
  | k + 1, x0, x3, x4 => if x4 < (x0.length : Int) then (if 0 ≤ x4 then ((octet_Text.f k (rdOf ByteArray.empty x0 x4)).bind fun t344 => (if x3.size + t344.size ≤ 9223372036854775807 then (chartularylaw19_list.l0 k x0 (x3 ++ t344) (wrap64 (x4 + 1))) else (none))) else (none)) else (some x3)
def chartularylaw19_list.f (k : Nat) (l0 : List ByteArray) : Option (ByteArray) := (octet_Num.f k (l0.length : Int)).bind fun t342 => (chartularylaw19_list.l0 k l0 t342 0)
theorem chartularylaw19_list.mono_l : ∀ k, (∀ y0 y1 y2, LeO (chartularylaw19_list.l0 k y0 y1 y2) (chartularylaw19_list.l0 (k + 1) y0 y1 y2))
  | 0 => fun _ _ _ r h => by simp [chartularylaw19_list.l0] at h
  | k + 1 => by
    have ih0 := chartularylaw19_list.mono_l k
    · intro y0 y1 y2
      unfold chartularylaw19_list.l0
      repeat' first
      | (with_reducible exact ih0 _ _ _)
      | (with_reducible exact octet_Num.mono _ _)
      | (with_reducible exact octet_Text.mono _ _)
      | (with_reducible exact LeO.refl _)
      | (with_reducible exact LeO.none _)
      | (with_reducible refine LeO.ite ?_ ?_)
      | (with_reducible refine LeO.bind ?_ (fun _ => ?_))
      | exact ih0 _ _ _
      | exact octet_Num.mono _ _
      | exact octet_Text.mono _ _
      | exact LeO.none _
      | refine LeO.ite ?_ ?_
      | refine LeO.bind ?_ (fun _ => ?_)
theorem chartularylaw19_list.mono : ∀ a0 k, LeO (chartularylaw19_list.f k a0) (chartularylaw19_list.f (k + 1) a0) := by
  intro a0 k
  have ih0 := chartularylaw19_list.mono_l k
  unfold chartularylaw19_list.f
  repeat' first
      | (with_reducible exact ih0 _ _ _)
      | (with_reducible exact octet_Num.mono _ _)
      | (with_reducible exact octet_Text.mono _ _)
      | (with_reducible exact LeO.refl _)
      | (with_reducible exact LeO.none _)
      | (with_reducible refine LeO.ite ?_ ?_)
      | (with_reducible refine LeO.bind ?_ (fun _ => ?_))
      | exact ih0 _ _ _
      | exact octet_Num.mono _ _
      | exact octet_Text.mono _ _
      | exact LeO.none _
      | refine LeO.ite ?_ ?_
      | refine LeO.bind ?_ (fun _ => ?_)
theorem Zchartularylaw19_list.z0 {P_ : Prop} (h_ : P_ := by repeat (first | (with_reducible first | exact HB.out | apply below_alloc | apply pw_below_drewN | apply below_drew1) | exact HB.out)) : P_ := h_
theorem Zchartularylaw19_list.z1 {P_ : Prop} (h_ : P_ := by first | rfl | (simp; done) | (simp [*]; done)) : P_ := h_
theorem Zchartularylaw19_list.z2 {P_ : Prop} (h_ : P_ := by (try simp only [List.map_toArray, List.map_cons, List.map_nil]); first | done | rfl | (simp only [List.length_drop, List.length_take]; rfl)) : P_ := h_
set_option maxHeartbeats 8000000 in
set_option maxRecDepth 100000 in
theorem chartularylaw19_list.calls (k : Nat) (A0 : Option Addr) (c0 : Nat) (l0 : List ByteArray) (r : ByteArray) (w : World) (hr0 : Kd.C Kd.string w A0 l0.length l0) (hc0 : l0.length ≤ c0) (h : chartularylaw19_list.f k l0 = some r) :
    Calls Try.prog 21 #[.slice A0 l0.length c0] w fun e w' => e = .returned (.string r) ∧ Below w.heap.size w w' := by
  have HR0 := Aside0.mk hr0
  have HC0 := Aside0.mk hc0
  clear hr0 hc0
  have HB := Aside0.mk (Below.refl w.heap.size w)
  have H : ((octet_Num.f k (l0.length : Int)).bind fun t342 => (chartularylaw19_list.l0 k l0 t342 0)) = some r := h
  clear h
  replace H := Option.bind_eq_some_iff.mp H
  obtain ⟨t342, A20, H⟩ := H
  replace H : (chartularylaw19_list.l0 k l0 t342 0) = some r := H
  have A2 := Aside0.mk A20
  clear A20
  have H' := Aside0.mk H
  clear H
  go_enter Try.func21, Try.ntmps21
  go_wp2_with (first | ((with_reducible refine gate_callee (f := 19) rfl ?_); refine goesL_ (some 7) rfl rfl Try.func19 (by kernel_rfl) rfl #[.int .i64 (l0.length : Int)] rfl (Zchartularylaw19_list.z2) ?_; (with_reducible refine (octet_Num.calls k (l0.length : Int) t342 _ A2.out).mono ?_); rintro e w3 ⟨rfl, hb⟩; refine ⟨_, rfl, ?_⟩; have n0_ := Aside0.mk (below_step (Zchartularylaw19_list.z0) hb); clear HB; have HB := n0_; clear n0_; (try clear hb); (try clear hb2); (try clear hk); (try clear hi)))
  go_loopg [3, 4] k (fun kq v3 v4 w' => ∃ (x3_1 : ByteArray) (x4_1 : Int), v3 = .string x3_1 ∧ v4 = .int .i64 x4_1 ∧ Aside0 (chartularylaw19_list.l0 kq l0 x3_1 x4_1 = some r) ∧ Aside0 (kq ≤ k) ∧ Aside0 (Below w.heap.size w w'))
  case atStart => exact ⟨(t342), (0), (Zchartularylaw19_list.z1), (Zchartularylaw19_list.z1), H', ⟨Nat.le_refl _⟩, ⟨Zchartularylaw19_list.z0⟩⟩
  case round =>
    clear H'
    try clear c1
    try clear c2
    try clear p2
    obtain ⟨x3_1, x4_1, rfl, rfl, HA, HK1, HB⟩ := hrel
    cases gk with
    | zero => exact absurd HA.out (by simp [chartularylaw19_list.l0])
    | succ k1 =>
      have H := HA.out
      clear HA
      simp only [chartularylaw19_list.l0] at H
      by_cases c4 : x4_1 < (l0.length : Int)
      · rw [if_pos c4] at H
        have c4b0 : decide (x4_1 < (l0.length : Int)) = true := decide_eq_true c4
        clear c4
        by_cases c5 : 0 ≤ x4_1
        · rw [if_pos c5] at H
          have c5b0 : decide (0 ≤ x4_1) = true := decide_eq_true c5
          clear c5
          replace H := Option.bind_eq_some_iff.mp H
          obtain ⟨t344, A60, H⟩ := H
          replace H : (if x3_1.size + t344.size ≤ 9223372036854775807 then (chartularylaw19_list.l0 k1 l0 (x3_1 ++ t344) (wrap64 (x4_1 + 1))) else (none)) = some r := H
          have A6 := Aside0.mk A60
          clear A60
          by_cases c7 : x3_1.size + t344.size ≤ 9223372036854775807
          · rw [if_pos c7] at H
            have c7b0 := eq_true c7
            have c7b1 : decide (x3_1.size + t344.size ≤ 9223372036854775807) = true := decide_eq_true c7
            try have c7b2 : (9223372036854775807 < x3_1.size + t344.size) = False := eq_false (Nat.not_lt.2 c7)
            have H' := Aside0.mk H
            clear H
            have p343 : 0 ≤ (x4_1 : Int) := of_decide_eq_true (by first | (with_reducible assumption) | assumption)
            have q343 : x4_1 < (l0.length : Int) := of_decide_eq_true (by first | (with_reducible assumption) | assumption)
            obtain ⟨ad343, e343, hx343_0⟩ := Kd.at_string HR0.out x4_1 p343 q343
            cases e343
            replace hx343_0 := (HB.out.cell (World.block_lt_of_cell? w _ hx343_0)).trans hx343_0
            replace p343 := eq_true p343
            replace q343 := eq_true q343
            go_wp2_with (first | ((with_reducible refine gate_callee (f := 20) rfl ?_); refine goesL_ (some 19) rfl rfl Try.func20 (by kernel_rfl) rfl #[.string (rdOf ByteArray.empty l0 x4_1)] rfl (Zchartularylaw19_list.z2) ?_; (with_reducible refine (octet_Text.calls k1 (rdOf ByteArray.empty l0 x4_1) t344 _ A6.out).mono ?_); rintro e w8 ⟨rfl, hb⟩; refine ⟨_, rfl, ?_⟩; have n0_ := Aside0.mk (below_step (Zchartularylaw19_list.z0) hb); clear HB; have HB := n0_; clear n0_; (try clear hb); (try clear hb2); (try clear hk); (try clear hi)))
            go_roundg k1
            case measure => have := HK1.out; omega
            case rel => exact ⟨(x3_1 ++ t344), (wrap64 (x4_1 + 1)), (Zchartularylaw19_list.z1), (Zchartularylaw19_list.z1), H', ⟨by have := HK1.out; omega⟩, ⟨Zchartularylaw19_list.z0⟩⟩
          · rw [if_neg c7] at H
            exact absurd H (by simp)
        · rw [if_neg c5] at H
          exact absurd H (by simp)
      · rw [if_neg c4] at H
        have c4b0 : decide (x4_1 < (l0.length : Int)) = false := decide_eq_false c4
        clear c4
        obtain rfl := Option.some.inj H
        go_wp2
        go_ret
        exact ⟨by first | rfl | (simp [errW_none, errW_some] <;> rfl) | (simp [*, errW_none, errW_some] <;> rfl), Zchartularylaw19_list.z0⟩


end

end Go.Proofs.Ytfegehfdbcnepaa.PAll
