-- Laid by programs of this session (myprint.py, post.py) out of the translation.
import Derived.Test.YtabdmnoejoiboaaPBase
import Derived.Test.YtabdmnoejoiboaaPPaper
namespace Go.Proofs.Ytabdmnoejoiboaa.PAll
open Go.RowKit Go.Proofs.YtabdmnoejoiboaaW.PrintWords Go.Proofs.YtabdmnoejoiboaaW.PrintLast Go.Proofs.YtabdmnoejoiboaaW.PrintMore
attribute [local go_sem] max2_int min2_int max_two min_two max_three min_three max_four min_four   -- for this text's walks alone
set_option linter.unusedVariables false
set_option linter.unusedSimpArgs false
section
/-! ### chartularylaw05_word: function 9 -/
def chartularylaw05_word.l0 : Nat → ByteArray → Int → Int → Option (Bool)
 | 0, _, _, _ => none
 | k + 1, x0, x1, x5 => if x5 < (x0.size : Int) then (if 0 ≤ x5 then (if (bt x0 x5) ≥ 97 then (if (bt x0 x5) ≤ 122 then (chartularylaw05_word.l0 k x0 x1 (wrap64 (x5 + 1))) else (if (bt x0 x5) ≥ 65 then (if ((bt x0 x5) ≤ 90) then (chartularylaw05_word.l0 k x0 x1 (wrap64 (x5 + 1))) else (if (bt x0 x5) ≥ 48 then (if ((bt x0 x5) ≤ 57) then (chartularylaw05_word.l0 k x0 x1 (wrap64 (x5 + 1))) else (if (bt x0 x5) = 45 then (chartularylaw05_word.l0 k x0 x1 (wrap64 (x5 + 1))) else (if (bt x0 x5) = 95 then (chartularylaw05_word.l0 k x0 x1 (wrap64 (x5 + 1))) else (if (bt x0 x5) = 46 then (chartularylaw05_word.l0 k x0 x1 (wrap64 (x5 + 1))) else (some false))))) else (if (bt x0 x5) = 45 then (chartularylaw05_word.l0 k x0 x1 (wrap64 (x5 + 1))) else (if (bt x0 x5) = 95 then (chartularylaw05_word.l0 k x0 x1 (wrap64 (x5 + 1))) else (if (bt x0 x5) = 46 then (chartularylaw05_word.l0 k x0 x1 (wrap64 (x5 + 1))) else (some false)))))) else (if (bt x0 x5) ≥ 48 then (if ((bt x0 x5) ≤ 57) then (chartularylaw05_word.l0 k x0 x1 (wrap64 (x5 + 1))) else (if (bt x0 x5) = 45 then (chartularylaw05_word.l0 k x0 x1 (wrap64 (x5 + 1))) else (if (bt x0 x5) = 95 then (chartularylaw05_word.l0 k x0 x1 (wrap64 (x5 + 1))) else (if (bt x0 x5) = 46 then (chartularylaw05_word.l0 k x0 x1 (wrap64 (x5 + 1))) else (some false))))) else (if (bt x0 x5) = 45 then (chartularylaw05_word.l0 k x0 x1 (wrap64 (x5 + 1))) else (if (bt x0 x5) = 95 then (chartularylaw05_word.l0 k x0 x1 (wrap64 (x5 + 1))) else (if (bt x0 x5) = 46 then (chartularylaw05_word.l0 k x0 x1 (wrap64 (x5 + 1))) else (some false))))))) else (if (bt x0 x5) ≥ 65 then (if ((bt x0 x5) ≤ 90) then (chartularylaw05_word.l0 k x0 x1 (wrap64 (x5 + 1))) else (if (bt x0 x5) ≥ 48 then (if ((bt x0 x5) ≤ 57) then (chartularylaw05_word.l0 k x0 x1 (wrap64 (x5 + 1))) else (if (bt x0 x5) = 45 then (chartularylaw05_word.l0 k x0 x1 (wrap64 (x5 + 1))) else (if (bt x0 x5) = 95 then (chartularylaw05_word.l0 k x0 x1 (wrap64 (x5 + 1))) else (if (bt x0 x5) = 46 then (chartularylaw05_word.l0 k x0 x1 (wrap64 (x5 + 1))) else (some false))))) else (if (bt x0 x5) = 45 then (chartularylaw05_word.l0 k x0 x1 (wrap64 (x5 + 1))) else (if (bt x0 x5) = 95 then (chartularylaw05_word.l0 k x0 x1 (wrap64 (x5 + 1))) else (if (bt x0 x5) = 46 then (chartularylaw05_word.l0 k x0 x1 (wrap64 (x5 + 1))) else (some false)))))) else (if (bt x0 x5) ≥ 48 then (if ((bt x0 x5) ≤ 57) then (chartularylaw05_word.l0 k x0 x1 (wrap64 (x5 + 1))) else (if (bt x0 x5) = 45 then (chartularylaw05_word.l0 k x0 x1 (wrap64 (x5 + 1))) else (if (bt x0 x5) = 95 then (chartularylaw05_word.l0 k x0 x1 (wrap64 (x5 + 1))) else (if (bt x0 x5) = 46 then (chartularylaw05_word.l0 k x0 x1 (wrap64 (x5 + 1))) else (some false))))) else (if (bt x0 x5) = 45 then (chartularylaw05_word.l0 k x0 x1 (wrap64 (x5 + 1))) else (if (bt x0 x5) = 95 then (chartularylaw05_word.l0 k x0 x1 (wrap64 (x5 + 1))) else (if (bt x0 x5) = 46 then (chartularylaw05_word.l0 k x0 x1 (wrap64 (x5 + 1))) else (some false))))))) else (none)) else (if (x0.size : Int) > 0 then (some (decide ((x0.size : Int) ≤ x1))) else (some false))
def chartularylaw05_word.f (k : Nat) (a0 : ByteArray) (a1 : Int) : Option (Bool) := chartularylaw05_word.l0 k a0 a1 0
theorem chartularylaw05_word.mono_l : ∀ k, (∀ y0 y1 y2, LeO (chartularylaw05_word.l0 k y0 y1 y2) (chartularylaw05_word.l0 (k + 1) y0 y1 y2))
 | 0 => fun _ _ _ r h => by simp [chartularylaw05_word.l0] at h
 | k + 1 => by
  have ih0 := chartularylaw05_word.mono_l k
  ·intro y0 y1 y2
   unfold chartularylaw05_word.l0
   repeat' first
   | (with_reducible exact ih0 _ _ _)
   | (with_reducible exact LeO.refl _)
   | (with_reducible exact LeO.none _)
   | (with_reducible refine LeO.ite ?_ ?_)
   | (with_reducible refine LeO.bind ?_ (fun _ => ?_))
   | exact ih0 _ _ _
   | exact LeO.none _
   | refine LeO.ite ?_ ?_
   | refine LeO.bind ?_ (fun _ => ?_)
theorem chartularylaw05_word.mono : ∀ a0 a1 k, LeO (chartularylaw05_word.f k a0 a1) (chartularylaw05_word.f (k + 1) a0 a1) := by
 intro a0 a1 k
 have ih0 := chartularylaw05_word.mono_l k
 unfold chartularylaw05_word.f
 repeat' first
   | (with_reducible exact ih0 _ _ _)
   | (with_reducible exact LeO.refl _)
   | (with_reducible exact LeO.none _)
   | (with_reducible refine LeO.ite ?_ ?_)
   | (with_reducible refine LeO.bind ?_ (fun _ => ?_))
   | exact ih0 _ _ _
   | exact LeO.none _
   | refine LeO.ite ?_ ?_
   | refine LeO.bind ?_ (fun _ => ?_)
theorem Zchartularylaw05_word.z0 {P_ : Prop} (h_ : P_ := by first | (with_reducible assumption) | assumption) : P_ := h_
theorem Zchartularylaw05_word.z1 {P_ : Prop} (h_ : P_ := by first | rfl | (simp; done) | (simp [*]; done)) : P_ := h_
theorem Zchartularylaw05_word.z2 {P_ : Prop} (h_ : P_ := by repeat (first | exact Drawn0.refl _ | apply Drawn0.step)) : P_ := h_
set_option maxHeartbeats 8000000 in
set_option maxRecDepth 100000 in
theorem chartularylaw05_word.calls (k : Nat) (a0 : ByteArray) (a1 : Int) (r : Bool) (w : World) (h : chartularylaw05_word.f k a0 a1 = some r) :
  Calls Try.prog 9 #[.string a0, .int .i64 a1] w fun e w' => e = .returned (.bool r) ∧ Drawn0 w w' := by
 have H : (chartularylaw05_word.l0 k a0 a1 0) = some r := h
 clear h
 have H' := Aside0.mk H
 clear H
 go_enter Try.func9, Try.ntmps9
 go_wp2
 go_loopg [5] k (fun kq v5 w' => ∃ (x5_1 : Int), v5 = .int .i64 x5_1 ∧ Aside0 (chartularylaw05_word.l0 kq a0 a1 x5_1 = some r) ∧ Aside0 (kq ≤ k) ∧ Drawn0 w w')
 case atStart => exact ⟨(0), (Zchartularylaw05_word.z1), H', ⟨Nat.le_refl _⟩, Zchartularylaw05_word.z2⟩
 case round =>
  clear H'
  try clear p2
  obtain ⟨x5_1, rfl, HA, HK1, ⟨m1, rfl⟩⟩ := hrel
  cases gk with
  | zero => exact absurd HA.out (by simp [chartularylaw05_word.l0])
  | succ k1 =>
   have H := HA.out
   clear HA
   simp only [chartularylaw05_word.l0] at H
   by_cases c3 : x5_1 < (a0.size : Int)
   ·rw [if_pos c3] at H
    have c3b0 : decide (x5_1 < (a0.size : Int)) = true := decide_eq_true c3
    clear c3
    by_cases c4 : 0 ≤ x5_1
    ·rw [if_pos c4] at H
     have c4b0 : decide (0 ≤ x5_1) = true := decide_eq_true c4
     clear c4
     by_cases c6 : (bt a0 x5_1) ≥ 97
     ·rw [if_pos c6] at H
      have c6b0 : decide (97 ≤ (bt a0 x5_1)) = true := decide_eq_true c6
      clear c6
      by_cases c7 : (bt a0 x5_1) ≤ 122
      ·rw [if_pos c7] at H
       have c7b0 : decide ((bt a0 x5_1) ≤ 122) = true := decide_eq_true c7
       clear c7
       have H' := Aside0.mk H
       clear H
       have p5 : 0 ≤ (x5_1 : Int) := of_decide_eq_true (Zchartularylaw05_word.z0)
       have q5 : x5_1 < (a0.size : Int) := of_decide_eq_true (Zchartularylaw05_word.z0)
       have hx5 := bt_at a0 x5_1
       replace p5 := eq_true p5
       replace q5 := eq_true q5
       go_wp2
       go_roundg k1
       case measure => have := HK1.out; omega
       case rel => exact ⟨(wrap64 (x5_1 + 1)), (Zchartularylaw05_word.z1), H', ⟨by have := HK1.out; omega⟩, Zchartularylaw05_word.z2⟩
      ·rw [if_neg c7] at H
       have c7b0 : decide ((bt a0 x5_1) ≤ 122) = false := decide_eq_false c7
       clear c7
       by_cases c8 : (bt a0 x5_1) ≥ 65
       ·rw [if_pos c8] at H
        have c8b0 : decide (65 ≤ (bt a0 x5_1)) = true := decide_eq_true c8
        clear c8
        by_cases c9 : ((bt a0 x5_1) ≤ 90)
        ·rw [if_pos c9] at H
         have c9b0 : decide ((bt a0 x5_1) ≤ 90) = true := decide_eq_true c9
         clear c9
         have H' := Aside0.mk H
         clear H
         have p5 : 0 ≤ (x5_1 : Int) := of_decide_eq_true (Zchartularylaw05_word.z0)
         have q5 : x5_1 < (a0.size : Int) := of_decide_eq_true (Zchartularylaw05_word.z0)
         have hx5 := bt_at a0 x5_1
         replace p5 := eq_true p5
         replace q5 := eq_true q5
         go_wp2
         go_roundg k1
         case measure => have := HK1.out; omega
         case rel => exact ⟨(wrap64 (x5_1 + 1)), (Zchartularylaw05_word.z1), H', ⟨by have := HK1.out; omega⟩, Zchartularylaw05_word.z2⟩
        ·rw [if_neg c9] at H
         have c9b0 : decide ((bt a0 x5_1) ≤ 90) = false := decide_eq_false c9
         clear c9
         by_cases c10 : (bt a0 x5_1) ≥ 48
         ·rw [if_pos c10] at H
          have c10b0 : decide (48 ≤ (bt a0 x5_1)) = true := decide_eq_true c10
          clear c10
          by_cases c11 : ((bt a0 x5_1) ≤ 57)
          ·rw [if_pos c11] at H
           have c11b0 : decide ((bt a0 x5_1) ≤ 57) = true := decide_eq_true c11
           clear c11
           have H' := Aside0.mk H
           clear H
           have p5 : 0 ≤ (x5_1 : Int) := of_decide_eq_true (Zchartularylaw05_word.z0)
           have q5 : x5_1 < (a0.size : Int) := of_decide_eq_true (Zchartularylaw05_word.z0)
           have hx5 := bt_at a0 x5_1
           replace p5 := eq_true p5
           replace q5 := eq_true q5
           go_wp2
           go_roundg k1
           case measure => have := HK1.out; omega
           case rel => exact ⟨(wrap64 (x5_1 + 1)), (Zchartularylaw05_word.z1), H', ⟨by have := HK1.out; omega⟩, Zchartularylaw05_word.z2⟩
          ·rw [if_neg c11] at H
           have c11b0 : decide ((bt a0 x5_1) ≤ 57) = false := decide_eq_false c11
           clear c11
           by_cases c12 : (bt a0 x5_1) = 45
           ·rw [if_pos c12] at H
            have c12b0 : ((bt a0 x5_1) == 45) = true := beq_iff_eq.mpr c12
            have c12b1 : ((bt a0 x5_1) != 45) = false := bne_eq_false_iff_eq.mpr c12
            clear c12
            have H' := Aside0.mk H
            clear H
            have p5 : 0 ≤ (x5_1 : Int) := of_decide_eq_true (Zchartularylaw05_word.z0)
            have q5 : x5_1 < (a0.size : Int) := of_decide_eq_true (Zchartularylaw05_word.z0)
            have hx5 := bt_at a0 x5_1
            replace p5 := eq_true p5
            replace q5 := eq_true q5
            go_wp2
            go_roundg k1
            case measure => have := HK1.out; omega
            case rel => exact ⟨(wrap64 (x5_1 + 1)), (Zchartularylaw05_word.z1), H', ⟨by have := HK1.out; omega⟩, Zchartularylaw05_word.z2⟩
           ·rw [if_neg c12] at H
            have c12b0 : ((bt a0 x5_1) == 45) = false := beq_eq_false_iff_ne.mpr c12
            have c12b1 : ((bt a0 x5_1) != 45) = true := bne_iff_ne.mpr c12
            by_cases c13 : (bt a0 x5_1) = 95
            ·rw [if_pos c13] at H
             have c13b0 : ((bt a0 x5_1) == 95) = true := beq_iff_eq.mpr c13
             have c13b1 : ((bt a0 x5_1) != 95) = false := bne_eq_false_iff_eq.mpr c13
             clear c13
             have H' := Aside0.mk H
             clear H
             have p5 : 0 ≤ (x5_1 : Int) := of_decide_eq_true (Zchartularylaw05_word.z0)
             have q5 : x5_1 < (a0.size : Int) := of_decide_eq_true (Zchartularylaw05_word.z0)
             have hx5 := bt_at a0 x5_1
             replace p5 := eq_true p5
             replace q5 := eq_true q5
             go_wp2
             go_roundg k1
             case measure => have := HK1.out; omega
             case rel => exact ⟨(wrap64 (x5_1 + 1)), (Zchartularylaw05_word.z1), H', ⟨by have := HK1.out; omega⟩, Zchartularylaw05_word.z2⟩
            ·rw [if_neg c13] at H
             have c13b0 : ((bt a0 x5_1) == 95) = false := beq_eq_false_iff_ne.mpr c13
             have c13b1 : ((bt a0 x5_1) != 95) = true := bne_iff_ne.mpr c13
             by_cases c14 : (bt a0 x5_1) = 46
             ·rw [if_pos c14] at H
              have c14b0 : ((bt a0 x5_1) == 46) = true := beq_iff_eq.mpr c14
              have c14b1 : ((bt a0 x5_1) != 46) = false := bne_eq_false_iff_eq.mpr c14
              clear c14
              have H' := Aside0.mk H
              clear H
              have p5 : 0 ≤ (x5_1 : Int) := of_decide_eq_true (Zchartularylaw05_word.z0)
              have q5 : x5_1 < (a0.size : Int) := of_decide_eq_true (Zchartularylaw05_word.z0)
              have hx5 := bt_at a0 x5_1
              replace p5 := eq_true p5
              replace q5 := eq_true q5
              go_wp2
              go_roundg k1
              case measure => have := HK1.out; omega
              case rel => exact ⟨(wrap64 (x5_1 + 1)), (Zchartularylaw05_word.z1), H', ⟨by have := HK1.out; omega⟩, Zchartularylaw05_word.z2⟩
             ·rw [if_neg c14] at H
              have c14b0 : ((bt a0 x5_1) == 46) = false := beq_eq_false_iff_ne.mpr c14
              have c14b1 : ((bt a0 x5_1) != 46) = true := bne_iff_ne.mpr c14
              obtain rfl := Option.some.inj H
              have p5 : 0 ≤ (x5_1 : Int) := of_decide_eq_true (Zchartularylaw05_word.z0)
              have q5 : x5_1 < (a0.size : Int) := of_decide_eq_true (Zchartularylaw05_word.z0)
              have hx5 := bt_at a0 x5_1
              replace p5 := eq_true p5
              replace q5 := eq_true q5
              go_wp2
              go_ret
              exact ⟨Zchartularylaw05_word.z1, Zchartularylaw05_word.z2⟩
         ·rw [if_neg c10] at H
          have c10b0 : decide (48 ≤ (bt a0 x5_1)) = false := decide_eq_false c10
          clear c10
          by_cases c15 : (bt a0 x5_1) = 45
          ·rw [if_pos c15] at H
           have c15b0 : ((bt a0 x5_1) == 45) = true := beq_iff_eq.mpr c15
           have c15b1 : ((bt a0 x5_1) != 45) = false := bne_eq_false_iff_eq.mpr c15
           clear c15
           have H' := Aside0.mk H
           clear H
           have p5 : 0 ≤ (x5_1 : Int) := of_decide_eq_true (Zchartularylaw05_word.z0)
           have q5 : x5_1 < (a0.size : Int) := of_decide_eq_true (Zchartularylaw05_word.z0)
           have hx5 := bt_at a0 x5_1
           replace p5 := eq_true p5
           replace q5 := eq_true q5
           go_wp2
           go_roundg k1
           case measure => have := HK1.out; omega
           case rel => exact ⟨(wrap64 (x5_1 + 1)), (Zchartularylaw05_word.z1), H', ⟨by have := HK1.out; omega⟩, Zchartularylaw05_word.z2⟩
          ·rw [if_neg c15] at H
           have c15b0 : ((bt a0 x5_1) == 45) = false := beq_eq_false_iff_ne.mpr c15
           have c15b1 : ((bt a0 x5_1) != 45) = true := bne_iff_ne.mpr c15
           by_cases c16 : (bt a0 x5_1) = 95
           ·rw [if_pos c16] at H
            have c16b0 : ((bt a0 x5_1) == 95) = true := beq_iff_eq.mpr c16
            have c16b1 : ((bt a0 x5_1) != 95) = false := bne_eq_false_iff_eq.mpr c16
            clear c16
            have H' := Aside0.mk H
            clear H
            have p5 : 0 ≤ (x5_1 : Int) := of_decide_eq_true (Zchartularylaw05_word.z0)
            have q5 : x5_1 < (a0.size : Int) := of_decide_eq_true (Zchartularylaw05_word.z0)
            have hx5 := bt_at a0 x5_1
            replace p5 := eq_true p5
            replace q5 := eq_true q5
            go_wp2
            go_roundg k1
            case measure => have := HK1.out; omega
            case rel => exact ⟨(wrap64 (x5_1 + 1)), (Zchartularylaw05_word.z1), H', ⟨by have := HK1.out; omega⟩, Zchartularylaw05_word.z2⟩
           ·rw [if_neg c16] at H
            have c16b0 : ((bt a0 x5_1) == 95) = false := beq_eq_false_iff_ne.mpr c16
            have c16b1 : ((bt a0 x5_1) != 95) = true := bne_iff_ne.mpr c16
            by_cases c17 : (bt a0 x5_1) = 46
            ·rw [if_pos c17] at H
             have c17b0 : ((bt a0 x5_1) == 46) = true := beq_iff_eq.mpr c17
             have c17b1 : ((bt a0 x5_1) != 46) = false := bne_eq_false_iff_eq.mpr c17
             clear c17
             have H' := Aside0.mk H
             clear H
             have p5 : 0 ≤ (x5_1 : Int) := of_decide_eq_true (Zchartularylaw05_word.z0)
             have q5 : x5_1 < (a0.size : Int) := of_decide_eq_true (Zchartularylaw05_word.z0)
             have hx5 := bt_at a0 x5_1
             replace p5 := eq_true p5
             replace q5 := eq_true q5
             go_wp2
             go_roundg k1
             case measure => have := HK1.out; omega
             case rel => exact ⟨(wrap64 (x5_1 + 1)), (Zchartularylaw05_word.z1), H', ⟨by have := HK1.out; omega⟩, Zchartularylaw05_word.z2⟩
            ·rw [if_neg c17] at H
             have c17b0 : ((bt a0 x5_1) == 46) = false := beq_eq_false_iff_ne.mpr c17
             have c17b1 : ((bt a0 x5_1) != 46) = true := bne_iff_ne.mpr c17
             obtain rfl := Option.some.inj H
             have p5 : 0 ≤ (x5_1 : Int) := of_decide_eq_true (Zchartularylaw05_word.z0)
             have q5 : x5_1 < (a0.size : Int) := of_decide_eq_true (Zchartularylaw05_word.z0)
             have hx5 := bt_at a0 x5_1
             replace p5 := eq_true p5
             replace q5 := eq_true q5
             go_wp2
             go_ret
             exact ⟨Zchartularylaw05_word.z1, Zchartularylaw05_word.z2⟩
       ·rw [if_neg c8] at H
        have c8b0 : decide (65 ≤ (bt a0 x5_1)) = false := decide_eq_false c8
        clear c8
        by_cases c18 : (bt a0 x5_1) ≥ 48
        ·rw [if_pos c18] at H
         have c18b0 : decide (48 ≤ (bt a0 x5_1)) = true := decide_eq_true c18
         clear c18
         by_cases c19 : ((bt a0 x5_1) ≤ 57)
         ·rw [if_pos c19] at H
          have c19b0 : decide ((bt a0 x5_1) ≤ 57) = true := decide_eq_true c19
          clear c19
          have H' := Aside0.mk H
          clear H
          have p5 : 0 ≤ (x5_1 : Int) := of_decide_eq_true (Zchartularylaw05_word.z0)
          have q5 : x5_1 < (a0.size : Int) := of_decide_eq_true (Zchartularylaw05_word.z0)
          have hx5 := bt_at a0 x5_1
          replace p5 := eq_true p5
          replace q5 := eq_true q5
          go_wp2
          go_roundg k1
          case measure => have := HK1.out; omega
          case rel => exact ⟨(wrap64 (x5_1 + 1)), (Zchartularylaw05_word.z1), H', ⟨by have := HK1.out; omega⟩, Zchartularylaw05_word.z2⟩
         ·rw [if_neg c19] at H
          have c19b0 : decide ((bt a0 x5_1) ≤ 57) = false := decide_eq_false c19
          clear c19
          by_cases c20 : (bt a0 x5_1) = 45
          ·rw [if_pos c20] at H
           have c20b0 : ((bt a0 x5_1) == 45) = true := beq_iff_eq.mpr c20
           have c20b1 : ((bt a0 x5_1) != 45) = false := bne_eq_false_iff_eq.mpr c20
           clear c20
           have H' := Aside0.mk H
           clear H
           have p5 : 0 ≤ (x5_1 : Int) := of_decide_eq_true (Zchartularylaw05_word.z0)
           have q5 : x5_1 < (a0.size : Int) := of_decide_eq_true (Zchartularylaw05_word.z0)
           have hx5 := bt_at a0 x5_1
           replace p5 := eq_true p5
           replace q5 := eq_true q5
           go_wp2
           go_roundg k1
           case measure => have := HK1.out; omega
           case rel => exact ⟨(wrap64 (x5_1 + 1)), (Zchartularylaw05_word.z1), H', ⟨by have := HK1.out; omega⟩, Zchartularylaw05_word.z2⟩
          ·rw [if_neg c20] at H
           have c20b0 : ((bt a0 x5_1) == 45) = false := beq_eq_false_iff_ne.mpr c20
           have c20b1 : ((bt a0 x5_1) != 45) = true := bne_iff_ne.mpr c20
           by_cases c21 : (bt a0 x5_1) = 95
           ·rw [if_pos c21] at H
            have c21b0 : ((bt a0 x5_1) == 95) = true := beq_iff_eq.mpr c21
            have c21b1 : ((bt a0 x5_1) != 95) = false := bne_eq_false_iff_eq.mpr c21
            clear c21
            have H' := Aside0.mk H
            clear H
            have p5 : 0 ≤ (x5_1 : Int) := of_decide_eq_true (Zchartularylaw05_word.z0)
            have q5 : x5_1 < (a0.size : Int) := of_decide_eq_true (Zchartularylaw05_word.z0)
            have hx5 := bt_at a0 x5_1
            replace p5 := eq_true p5
            replace q5 := eq_true q5
            go_wp2
            go_roundg k1
            case measure => have := HK1.out; omega
            case rel => exact ⟨(wrap64 (x5_1 + 1)), (Zchartularylaw05_word.z1), H', ⟨by have := HK1.out; omega⟩, Zchartularylaw05_word.z2⟩
           ·rw [if_neg c21] at H
            have c21b0 : ((bt a0 x5_1) == 95) = false := beq_eq_false_iff_ne.mpr c21
            have c21b1 : ((bt a0 x5_1) != 95) = true := bne_iff_ne.mpr c21
            by_cases c22 : (bt a0 x5_1) = 46
            ·rw [if_pos c22] at H
             have c22b0 : ((bt a0 x5_1) == 46) = true := beq_iff_eq.mpr c22
             have c22b1 : ((bt a0 x5_1) != 46) = false := bne_eq_false_iff_eq.mpr c22
             clear c22
             have H' := Aside0.mk H
             clear H
             have p5 : 0 ≤ (x5_1 : Int) := of_decide_eq_true (Zchartularylaw05_word.z0)
             have q5 : x5_1 < (a0.size : Int) := of_decide_eq_true (Zchartularylaw05_word.z0)
             have hx5 := bt_at a0 x5_1
             replace p5 := eq_true p5
             replace q5 := eq_true q5
             go_wp2
             go_roundg k1
             case measure => have := HK1.out; omega
             case rel => exact ⟨(wrap64 (x5_1 + 1)), (Zchartularylaw05_word.z1), H', ⟨by have := HK1.out; omega⟩, Zchartularylaw05_word.z2⟩
            ·rw [if_neg c22] at H
             have c22b0 : ((bt a0 x5_1) == 46) = false := beq_eq_false_iff_ne.mpr c22
             have c22b1 : ((bt a0 x5_1) != 46) = true := bne_iff_ne.mpr c22
             obtain rfl := Option.some.inj H
             have p5 : 0 ≤ (x5_1 : Int) := of_decide_eq_true (Zchartularylaw05_word.z0)
             have q5 : x5_1 < (a0.size : Int) := of_decide_eq_true (Zchartularylaw05_word.z0)
             have hx5 := bt_at a0 x5_1
             replace p5 := eq_true p5
             replace q5 := eq_true q5
             go_wp2
             go_ret
             exact ⟨Zchartularylaw05_word.z1, Zchartularylaw05_word.z2⟩
        ·rw [if_neg c18] at H
         have c18b0 : decide (48 ≤ (bt a0 x5_1)) = false := decide_eq_false c18
         clear c18
         by_cases c23 : (bt a0 x5_1) = 45
         ·rw [if_pos c23] at H
          have c23b0 : ((bt a0 x5_1) == 45) = true := beq_iff_eq.mpr c23
          have c23b1 : ((bt a0 x5_1) != 45) = false := bne_eq_false_iff_eq.mpr c23
          clear c23
          have H' := Aside0.mk H
          clear H
          have p5 : 0 ≤ (x5_1 : Int) := of_decide_eq_true (Zchartularylaw05_word.z0)
          have q5 : x5_1 < (a0.size : Int) := of_decide_eq_true (Zchartularylaw05_word.z0)
          have hx5 := bt_at a0 x5_1
          replace p5 := eq_true p5
          replace q5 := eq_true q5
          go_wp2
          go_roundg k1
          case measure => have := HK1.out; omega
          case rel => exact ⟨(wrap64 (x5_1 + 1)), (Zchartularylaw05_word.z1), H', ⟨by have := HK1.out; omega⟩, Zchartularylaw05_word.z2⟩
         ·rw [if_neg c23] at H
          have c23b0 : ((bt a0 x5_1) == 45) = false := beq_eq_false_iff_ne.mpr c23
          have c23b1 : ((bt a0 x5_1) != 45) = true := bne_iff_ne.mpr c23
          by_cases c24 : (bt a0 x5_1) = 95
          ·rw [if_pos c24] at H
           have c24b0 : ((bt a0 x5_1) == 95) = true := beq_iff_eq.mpr c24
           have c24b1 : ((bt a0 x5_1) != 95) = false := bne_eq_false_iff_eq.mpr c24
           clear c24
           have H' := Aside0.mk H
           clear H
           have p5 : 0 ≤ (x5_1 : Int) := of_decide_eq_true (Zchartularylaw05_word.z0)
           have q5 : x5_1 < (a0.size : Int) := of_decide_eq_true (Zchartularylaw05_word.z0)
           have hx5 := bt_at a0 x5_1
           replace p5 := eq_true p5
           replace q5 := eq_true q5
           go_wp2
           go_roundg k1
           case measure => have := HK1.out; omega
           case rel => exact ⟨(wrap64 (x5_1 + 1)), (Zchartularylaw05_word.z1), H', ⟨by have := HK1.out; omega⟩, Zchartularylaw05_word.z2⟩
          ·rw [if_neg c24] at H
           have c24b0 : ((bt a0 x5_1) == 95) = false := beq_eq_false_iff_ne.mpr c24
           have c24b1 : ((bt a0 x5_1) != 95) = true := bne_iff_ne.mpr c24
           by_cases c25 : (bt a0 x5_1) = 46
           ·rw [if_pos c25] at H
            have c25b0 : ((bt a0 x5_1) == 46) = true := beq_iff_eq.mpr c25
            have c25b1 : ((bt a0 x5_1) != 46) = false := bne_eq_false_iff_eq.mpr c25
            clear c25
            have H' := Aside0.mk H
            clear H
            have p5 : 0 ≤ (x5_1 : Int) := of_decide_eq_true (Zchartularylaw05_word.z0)
            have q5 : x5_1 < (a0.size : Int) := of_decide_eq_true (Zchartularylaw05_word.z0)
            have hx5 := bt_at a0 x5_1
            replace p5 := eq_true p5
            replace q5 := eq_true q5
            go_wp2
            go_roundg k1
            case measure => have := HK1.out; omega
            case rel => exact ⟨(wrap64 (x5_1 + 1)), (Zchartularylaw05_word.z1), H', ⟨by have := HK1.out; omega⟩, Zchartularylaw05_word.z2⟩
           ·rw [if_neg c25] at H
            have c25b0 : ((bt a0 x5_1) == 46) = false := beq_eq_false_iff_ne.mpr c25
            have c25b1 : ((bt a0 x5_1) != 46) = true := bne_iff_ne.mpr c25
            obtain rfl := Option.some.inj H
            have p5 : 0 ≤ (x5_1 : Int) := of_decide_eq_true (Zchartularylaw05_word.z0)
            have q5 : x5_1 < (a0.size : Int) := of_decide_eq_true (Zchartularylaw05_word.z0)
            have hx5 := bt_at a0 x5_1
            replace p5 := eq_true p5
            replace q5 := eq_true q5
            go_wp2
            go_ret
            exact ⟨Zchartularylaw05_word.z1, Zchartularylaw05_word.z2⟩
     ·rw [if_neg c6] at H
      have c6b0 : decide (97 ≤ (bt a0 x5_1)) = false := decide_eq_false c6
      clear c6
      by_cases c26 : (bt a0 x5_1) ≥ 65
      ·rw [if_pos c26] at H
       have c26b0 : decide (65 ≤ (bt a0 x5_1)) = true := decide_eq_true c26
       clear c26
       by_cases c27 : ((bt a0 x5_1) ≤ 90)
       ·rw [if_pos c27] at H
        have c27b0 : decide ((bt a0 x5_1) ≤ 90) = true := decide_eq_true c27
        clear c27
        have H' := Aside0.mk H
        clear H
        have p5 : 0 ≤ (x5_1 : Int) := of_decide_eq_true (Zchartularylaw05_word.z0)
        have q5 : x5_1 < (a0.size : Int) := of_decide_eq_true (Zchartularylaw05_word.z0)
        have hx5 := bt_at a0 x5_1
        replace p5 := eq_true p5
        replace q5 := eq_true q5
        go_wp2
        go_roundg k1
        case measure => have := HK1.out; omega
        case rel => exact ⟨(wrap64 (x5_1 + 1)), (Zchartularylaw05_word.z1), H', ⟨by have := HK1.out; omega⟩, Zchartularylaw05_word.z2⟩
       ·rw [if_neg c27] at H
        have c27b0 : decide ((bt a0 x5_1) ≤ 90) = false := decide_eq_false c27
        clear c27
        by_cases c28 : (bt a0 x5_1) ≥ 48
        ·rw [if_pos c28] at H
         have c28b0 : decide (48 ≤ (bt a0 x5_1)) = true := decide_eq_true c28
         clear c28
         by_cases c29 : ((bt a0 x5_1) ≤ 57)
         ·rw [if_pos c29] at H
          have c29b0 : decide ((bt a0 x5_1) ≤ 57) = true := decide_eq_true c29
          clear c29
          have H' := Aside0.mk H
          clear H
          have p5 : 0 ≤ (x5_1 : Int) := of_decide_eq_true (Zchartularylaw05_word.z0)
          have q5 : x5_1 < (a0.size : Int) := of_decide_eq_true (Zchartularylaw05_word.z0)
          have hx5 := bt_at a0 x5_1
          replace p5 := eq_true p5
          replace q5 := eq_true q5
          go_wp2
          go_roundg k1
          case measure => have := HK1.out; omega
          case rel => exact ⟨(wrap64 (x5_1 + 1)), (Zchartularylaw05_word.z1), H', ⟨by have := HK1.out; omega⟩, Zchartularylaw05_word.z2⟩
         ·rw [if_neg c29] at H
          have c29b0 : decide ((bt a0 x5_1) ≤ 57) = false := decide_eq_false c29
          clear c29
          by_cases c30 : (bt a0 x5_1) = 45
          ·rw [if_pos c30] at H
           have c30b0 : ((bt a0 x5_1) == 45) = true := beq_iff_eq.mpr c30
           have c30b1 : ((bt a0 x5_1) != 45) = false := bne_eq_false_iff_eq.mpr c30
           clear c30
           have H' := Aside0.mk H
           clear H
           have p5 : 0 ≤ (x5_1 : Int) := of_decide_eq_true (Zchartularylaw05_word.z0)
           have q5 : x5_1 < (a0.size : Int) := of_decide_eq_true (Zchartularylaw05_word.z0)
           have hx5 := bt_at a0 x5_1
           replace p5 := eq_true p5
           replace q5 := eq_true q5
           go_wp2
           go_roundg k1
           case measure => have := HK1.out; omega
           case rel => exact ⟨(wrap64 (x5_1 + 1)), (Zchartularylaw05_word.z1), H', ⟨by have := HK1.out; omega⟩, Zchartularylaw05_word.z2⟩
          ·rw [if_neg c30] at H
           have c30b0 : ((bt a0 x5_1) == 45) = false := beq_eq_false_iff_ne.mpr c30
           have c30b1 : ((bt a0 x5_1) != 45) = true := bne_iff_ne.mpr c30
           by_cases c31 : (bt a0 x5_1) = 95
           ·rw [if_pos c31] at H
            have c31b0 : ((bt a0 x5_1) == 95) = true := beq_iff_eq.mpr c31
            have c31b1 : ((bt a0 x5_1) != 95) = false := bne_eq_false_iff_eq.mpr c31
            clear c31
            have H' := Aside0.mk H
            clear H
            have p5 : 0 ≤ (x5_1 : Int) := of_decide_eq_true (Zchartularylaw05_word.z0)
            have q5 : x5_1 < (a0.size : Int) := of_decide_eq_true (Zchartularylaw05_word.z0)
            have hx5 := bt_at a0 x5_1
            replace p5 := eq_true p5
            replace q5 := eq_true q5
            go_wp2
            go_roundg k1
            case measure => have := HK1.out; omega
            case rel => exact ⟨(wrap64 (x5_1 + 1)), (Zchartularylaw05_word.z1), H', ⟨by have := HK1.out; omega⟩, Zchartularylaw05_word.z2⟩
           ·rw [if_neg c31] at H
            have c31b0 : ((bt a0 x5_1) == 95) = false := beq_eq_false_iff_ne.mpr c31
            have c31b1 : ((bt a0 x5_1) != 95) = true := bne_iff_ne.mpr c31
            by_cases c32 : (bt a0 x5_1) = 46
            ·rw [if_pos c32] at H
             have c32b0 : ((bt a0 x5_1) == 46) = true := beq_iff_eq.mpr c32
             have c32b1 : ((bt a0 x5_1) != 46) = false := bne_eq_false_iff_eq.mpr c32
             clear c32
             have H' := Aside0.mk H
             clear H
             have p5 : 0 ≤ (x5_1 : Int) := of_decide_eq_true (Zchartularylaw05_word.z0)
             have q5 : x5_1 < (a0.size : Int) := of_decide_eq_true (Zchartularylaw05_word.z0)
             have hx5 := bt_at a0 x5_1
             replace p5 := eq_true p5
             replace q5 := eq_true q5
             go_wp2
             go_roundg k1
             case measure => have := HK1.out; omega
             case rel => exact ⟨(wrap64 (x5_1 + 1)), (Zchartularylaw05_word.z1), H', ⟨by have := HK1.out; omega⟩, Zchartularylaw05_word.z2⟩
            ·rw [if_neg c32] at H
             have c32b0 : ((bt a0 x5_1) == 46) = false := beq_eq_false_iff_ne.mpr c32
             have c32b1 : ((bt a0 x5_1) != 46) = true := bne_iff_ne.mpr c32
             obtain rfl := Option.some.inj H
             have p5 : 0 ≤ (x5_1 : Int) := of_decide_eq_true (Zchartularylaw05_word.z0)
             have q5 : x5_1 < (a0.size : Int) := of_decide_eq_true (Zchartularylaw05_word.z0)
             have hx5 := bt_at a0 x5_1
             replace p5 := eq_true p5
             replace q5 := eq_true q5
             go_wp2
             go_ret
             exact ⟨Zchartularylaw05_word.z1, Zchartularylaw05_word.z2⟩
        ·rw [if_neg c28] at H
         have c28b0 : decide (48 ≤ (bt a0 x5_1)) = false := decide_eq_false c28
         clear c28
         by_cases c33 : (bt a0 x5_1) = 45
         ·rw [if_pos c33] at H
          have c33b0 : ((bt a0 x5_1) == 45) = true := beq_iff_eq.mpr c33
          have c33b1 : ((bt a0 x5_1) != 45) = false := bne_eq_false_iff_eq.mpr c33
          clear c33
          have H' := Aside0.mk H
          clear H
          have p5 : 0 ≤ (x5_1 : Int) := of_decide_eq_true (Zchartularylaw05_word.z0)
          have q5 : x5_1 < (a0.size : Int) := of_decide_eq_true (Zchartularylaw05_word.z0)
          have hx5 := bt_at a0 x5_1
          replace p5 := eq_true p5
          replace q5 := eq_true q5
          go_wp2
          go_roundg k1
          case measure => have := HK1.out; omega
          case rel => exact ⟨(wrap64 (x5_1 + 1)), (Zchartularylaw05_word.z1), H', ⟨by have := HK1.out; omega⟩, Zchartularylaw05_word.z2⟩
         ·rw [if_neg c33] at H
          have c33b0 : ((bt a0 x5_1) == 45) = false := beq_eq_false_iff_ne.mpr c33
          have c33b1 : ((bt a0 x5_1) != 45) = true := bne_iff_ne.mpr c33
          by_cases c34 : (bt a0 x5_1) = 95
          ·rw [if_pos c34] at H
           have c34b0 : ((bt a0 x5_1) == 95) = true := beq_iff_eq.mpr c34
           have c34b1 : ((bt a0 x5_1) != 95) = false := bne_eq_false_iff_eq.mpr c34
           clear c34
           have H' := Aside0.mk H
           clear H
           have p5 : 0 ≤ (x5_1 : Int) := of_decide_eq_true (Zchartularylaw05_word.z0)
           have q5 : x5_1 < (a0.size : Int) := of_decide_eq_true (Zchartularylaw05_word.z0)
           have hx5 := bt_at a0 x5_1
           replace p5 := eq_true p5
           replace q5 := eq_true q5
           go_wp2
           go_roundg k1
           case measure => have := HK1.out; omega
           case rel => exact ⟨(wrap64 (x5_1 + 1)), (Zchartularylaw05_word.z1), H', ⟨by have := HK1.out; omega⟩, Zchartularylaw05_word.z2⟩
          ·rw [if_neg c34] at H
           have c34b0 : ((bt a0 x5_1) == 95) = false := beq_eq_false_iff_ne.mpr c34
           have c34b1 : ((bt a0 x5_1) != 95) = true := bne_iff_ne.mpr c34
           by_cases c35 : (bt a0 x5_1) = 46
           ·rw [if_pos c35] at H
            have c35b0 : ((bt a0 x5_1) == 46) = true := beq_iff_eq.mpr c35
            have c35b1 : ((bt a0 x5_1) != 46) = false := bne_eq_false_iff_eq.mpr c35
            clear c35
            have H' := Aside0.mk H
            clear H
            have p5 : 0 ≤ (x5_1 : Int) := of_decide_eq_true (Zchartularylaw05_word.z0)
            have q5 : x5_1 < (a0.size : Int) := of_decide_eq_true (Zchartularylaw05_word.z0)
            have hx5 := bt_at a0 x5_1
            replace p5 := eq_true p5
            replace q5 := eq_true q5
            go_wp2
            go_roundg k1
            case measure => have := HK1.out; omega
            case rel => exact ⟨(wrap64 (x5_1 + 1)), (Zchartularylaw05_word.z1), H', ⟨by have := HK1.out; omega⟩, Zchartularylaw05_word.z2⟩
           ·rw [if_neg c35] at H
            have c35b0 : ((bt a0 x5_1) == 46) = false := beq_eq_false_iff_ne.mpr c35
            have c35b1 : ((bt a0 x5_1) != 46) = true := bne_iff_ne.mpr c35
            obtain rfl := Option.some.inj H
            have p5 : 0 ≤ (x5_1 : Int) := of_decide_eq_true (Zchartularylaw05_word.z0)
            have q5 : x5_1 < (a0.size : Int) := of_decide_eq_true (Zchartularylaw05_word.z0)
            have hx5 := bt_at a0 x5_1
            replace p5 := eq_true p5
            replace q5 := eq_true q5
            go_wp2
            go_ret
            exact ⟨Zchartularylaw05_word.z1, Zchartularylaw05_word.z2⟩
      ·rw [if_neg c26] at H
       have c26b0 : decide (65 ≤ (bt a0 x5_1)) = false := decide_eq_false c26
       clear c26
       by_cases c36 : (bt a0 x5_1) ≥ 48
       ·rw [if_pos c36] at H
        have c36b0 : decide (48 ≤ (bt a0 x5_1)) = true := decide_eq_true c36
        clear c36
        by_cases c37 : ((bt a0 x5_1) ≤ 57)
        ·rw [if_pos c37] at H
         have c37b0 : decide ((bt a0 x5_1) ≤ 57) = true := decide_eq_true c37
         clear c37
         have H' := Aside0.mk H
         clear H
         have p5 : 0 ≤ (x5_1 : Int) := of_decide_eq_true (Zchartularylaw05_word.z0)
         have q5 : x5_1 < (a0.size : Int) := of_decide_eq_true (Zchartularylaw05_word.z0)
         have hx5 := bt_at a0 x5_1
         replace p5 := eq_true p5
         replace q5 := eq_true q5
         go_wp2
         go_roundg k1
         case measure => have := HK1.out; omega
         case rel => exact ⟨(wrap64 (x5_1 + 1)), (Zchartularylaw05_word.z1), H', ⟨by have := HK1.out; omega⟩, Zchartularylaw05_word.z2⟩
        ·rw [if_neg c37] at H
         have c37b0 : decide ((bt a0 x5_1) ≤ 57) = false := decide_eq_false c37
         clear c37
         by_cases c38 : (bt a0 x5_1) = 45
         ·rw [if_pos c38] at H
          have c38b0 : ((bt a0 x5_1) == 45) = true := beq_iff_eq.mpr c38
          have c38b1 : ((bt a0 x5_1) != 45) = false := bne_eq_false_iff_eq.mpr c38
          clear c38
          have H' := Aside0.mk H
          clear H
          have p5 : 0 ≤ (x5_1 : Int) := of_decide_eq_true (Zchartularylaw05_word.z0)
          have q5 : x5_1 < (a0.size : Int) := of_decide_eq_true (Zchartularylaw05_word.z0)
          have hx5 := bt_at a0 x5_1
          replace p5 := eq_true p5
          replace q5 := eq_true q5
          go_wp2
          go_roundg k1
          case measure => have := HK1.out; omega
          case rel => exact ⟨(wrap64 (x5_1 + 1)), (Zchartularylaw05_word.z1), H', ⟨by have := HK1.out; omega⟩, Zchartularylaw05_word.z2⟩
         ·rw [if_neg c38] at H
          have c38b0 : ((bt a0 x5_1) == 45) = false := beq_eq_false_iff_ne.mpr c38
          have c38b1 : ((bt a0 x5_1) != 45) = true := bne_iff_ne.mpr c38
          by_cases c39 : (bt a0 x5_1) = 95
          ·rw [if_pos c39] at H
           have c39b0 : ((bt a0 x5_1) == 95) = true := beq_iff_eq.mpr c39
           have c39b1 : ((bt a0 x5_1) != 95) = false := bne_eq_false_iff_eq.mpr c39
           clear c39
           have H' := Aside0.mk H
           clear H
           have p5 : 0 ≤ (x5_1 : Int) := of_decide_eq_true (Zchartularylaw05_word.z0)
           have q5 : x5_1 < (a0.size : Int) := of_decide_eq_true (Zchartularylaw05_word.z0)
           have hx5 := bt_at a0 x5_1
           replace p5 := eq_true p5
           replace q5 := eq_true q5
           go_wp2
           go_roundg k1
           case measure => have := HK1.out; omega
           case rel => exact ⟨(wrap64 (x5_1 + 1)), (Zchartularylaw05_word.z1), H', ⟨by have := HK1.out; omega⟩, Zchartularylaw05_word.z2⟩
          ·rw [if_neg c39] at H
           have c39b0 : ((bt a0 x5_1) == 95) = false := beq_eq_false_iff_ne.mpr c39
           have c39b1 : ((bt a0 x5_1) != 95) = true := bne_iff_ne.mpr c39
           by_cases c40 : (bt a0 x5_1) = 46
           ·rw [if_pos c40] at H
            have c40b0 : ((bt a0 x5_1) == 46) = true := beq_iff_eq.mpr c40
            have c40b1 : ((bt a0 x5_1) != 46) = false := bne_eq_false_iff_eq.mpr c40
            clear c40
            have H' := Aside0.mk H
            clear H
            have p5 : 0 ≤ (x5_1 : Int) := of_decide_eq_true (Zchartularylaw05_word.z0)
            have q5 : x5_1 < (a0.size : Int) := of_decide_eq_true (Zchartularylaw05_word.z0)
            have hx5 := bt_at a0 x5_1
            replace p5 := eq_true p5
            replace q5 := eq_true q5
            go_wp2
            go_roundg k1
            case measure => have := HK1.out; omega
            case rel => exact ⟨(wrap64 (x5_1 + 1)), (Zchartularylaw05_word.z1), H', ⟨by have := HK1.out; omega⟩, Zchartularylaw05_word.z2⟩
           ·rw [if_neg c40] at H
            have c40b0 : ((bt a0 x5_1) == 46) = false := beq_eq_false_iff_ne.mpr c40
            have c40b1 : ((bt a0 x5_1) != 46) = true := bne_iff_ne.mpr c40
            obtain rfl := Option.some.inj H
            have p5 : 0 ≤ (x5_1 : Int) := of_decide_eq_true (Zchartularylaw05_word.z0)
            have q5 : x5_1 < (a0.size : Int) := of_decide_eq_true (Zchartularylaw05_word.z0)
            have hx5 := bt_at a0 x5_1
            replace p5 := eq_true p5
            replace q5 := eq_true q5
            go_wp2
            go_ret
            exact ⟨Zchartularylaw05_word.z1, Zchartularylaw05_word.z2⟩
       ·rw [if_neg c36] at H
        have c36b0 : decide (48 ≤ (bt a0 x5_1)) = false := decide_eq_false c36
        clear c36
        by_cases c41 : (bt a0 x5_1) = 45
        ·rw [if_pos c41] at H
         have c41b0 : ((bt a0 x5_1) == 45) = true := beq_iff_eq.mpr c41
         have c41b1 : ((bt a0 x5_1) != 45) = false := bne_eq_false_iff_eq.mpr c41
         clear c41
         have H' := Aside0.mk H
         clear H
         have p5 : 0 ≤ (x5_1 : Int) := of_decide_eq_true (Zchartularylaw05_word.z0)
         have q5 : x5_1 < (a0.size : Int) := of_decide_eq_true (Zchartularylaw05_word.z0)
         have hx5 := bt_at a0 x5_1
         replace p5 := eq_true p5
         replace q5 := eq_true q5
         go_wp2
         go_roundg k1
         case measure => have := HK1.out; omega
         case rel => exact ⟨(wrap64 (x5_1 + 1)), (Zchartularylaw05_word.z1), H', ⟨by have := HK1.out; omega⟩, Zchartularylaw05_word.z2⟩
        ·rw [if_neg c41] at H
         have c41b0 : ((bt a0 x5_1) == 45) = false := beq_eq_false_iff_ne.mpr c41
         have c41b1 : ((bt a0 x5_1) != 45) = true := bne_iff_ne.mpr c41
         by_cases c42 : (bt a0 x5_1) = 95
         ·rw [if_pos c42] at H
          have c42b0 : ((bt a0 x5_1) == 95) = true := beq_iff_eq.mpr c42
          have c42b1 : ((bt a0 x5_1) != 95) = false := bne_eq_false_iff_eq.mpr c42
          clear c42
          have H' := Aside0.mk H
          clear H
          have p5 : 0 ≤ (x5_1 : Int) := of_decide_eq_true (Zchartularylaw05_word.z0)
          have q5 : x5_1 < (a0.size : Int) := of_decide_eq_true (Zchartularylaw05_word.z0)
          have hx5 := bt_at a0 x5_1
          replace p5 := eq_true p5
          replace q5 := eq_true q5
          go_wp2
          go_roundg k1
          case measure => have := HK1.out; omega
          case rel => exact ⟨(wrap64 (x5_1 + 1)), (Zchartularylaw05_word.z1), H', ⟨by have := HK1.out; omega⟩, Zchartularylaw05_word.z2⟩
         ·rw [if_neg c42] at H
          have c42b0 : ((bt a0 x5_1) == 95) = false := beq_eq_false_iff_ne.mpr c42
          have c42b1 : ((bt a0 x5_1) != 95) = true := bne_iff_ne.mpr c42
          by_cases c43 : (bt a0 x5_1) = 46
          ·rw [if_pos c43] at H
           have c43b0 : ((bt a0 x5_1) == 46) = true := beq_iff_eq.mpr c43
           have c43b1 : ((bt a0 x5_1) != 46) = false := bne_eq_false_iff_eq.mpr c43
           clear c43
           have H' := Aside0.mk H
           clear H
           have p5 : 0 ≤ (x5_1 : Int) := of_decide_eq_true (Zchartularylaw05_word.z0)
           have q5 : x5_1 < (a0.size : Int) := of_decide_eq_true (Zchartularylaw05_word.z0)
           have hx5 := bt_at a0 x5_1
           replace p5 := eq_true p5
           replace q5 := eq_true q5
           go_wp2
           go_roundg k1
           case measure => have := HK1.out; omega
           case rel => exact ⟨(wrap64 (x5_1 + 1)), (Zchartularylaw05_word.z1), H', ⟨by have := HK1.out; omega⟩, Zchartularylaw05_word.z2⟩
          ·rw [if_neg c43] at H
           have c43b0 : ((bt a0 x5_1) == 46) = false := beq_eq_false_iff_ne.mpr c43
           have c43b1 : ((bt a0 x5_1) != 46) = true := bne_iff_ne.mpr c43
           obtain rfl := Option.some.inj H
           have p5 : 0 ≤ (x5_1 : Int) := of_decide_eq_true (Zchartularylaw05_word.z0)
           have q5 : x5_1 < (a0.size : Int) := of_decide_eq_true (Zchartularylaw05_word.z0)
           have hx5 := bt_at a0 x5_1
           replace p5 := eq_true p5
           replace q5 := eq_true q5
           go_wp2
           go_ret
           exact ⟨Zchartularylaw05_word.z1, Zchartularylaw05_word.z2⟩
    ·rw [if_neg c4] at H
     exact absurd H (by simp)
   ·rw [if_neg c3] at H
    have c3b0 : decide (x5_1 < (a0.size : Int)) = false := decide_eq_false c3
    clear c3
    by_cases c44 : (a0.size : Int) > 0
    ·rw [if_pos c44] at H
     have c44b0 : decide (0 < (a0.size : Int)) = true := decide_eq_true c44
     have c44b1 : decide (0 < a0.size) = true := decide_eq_true (by omega)
     clear c44
     obtain rfl := Option.some.inj H
     go_wp2
     go_ret
     exact ⟨Zchartularylaw05_word.z1, Zchartularylaw05_word.z2⟩
    ·rw [if_neg c44] at H
     have c44b0 : decide (0 < (a0.size : Int)) = false := decide_eq_false c44
     have c44b1 : decide (0 < a0.size) = false := decide_eq_false (by omega)
     clear c44
     obtain rfl := Option.some.inj H
     go_wp2
     go_ret
     exact ⟨Zchartularylaw05_word.z1, Zchartularylaw05_word.z2⟩


end

section
/-! ### chartularylaw05_awake: function 11 -/
def chartularylaw05_awake.f (k : Nat)  : Option (Bool) := (paper_Bytes.f k (⟨#[97]⟩ : ByteArray) 2 (([(⟨(⟨#[120]⟩ : ByteArray), (⟨1, true, 0, 0, (⟨#[]⟩ : ByteArray)⟩ : S35)⟩ : S37)] : List (S37)))).bind fun bt235 => (if bt235.2 = 0 then (some (bt235.1.toList == ([1, 1, 97, 1, 2, 1, 1, 1, 1, 120, 1, 3, 1, 1, 1] : List UInt8))) else (some false))
theorem chartularylaw05_awake.mono : ∀ k, LeO (chartularylaw05_awake.f k ) (chartularylaw05_awake.f (k + 1) ) := by
  intro  k
  unfold chartularylaw05_awake.f
  repeat' first
      | (with_reducible exact paper_Bytes.mono _ _ _ _)
      | (with_reducible exact LeO.refl _)
      | (with_reducible exact LeO.none _)
      | (with_reducible refine LeO.ite ?_ ?_)
      | (with_reducible refine LeO.bind ?_ (fun _ => ?_))
      | exact paper_Bytes.mono _ _ _ _
      | exact LeO.none _
      | refine LeO.ite ?_ ?_
      | refine LeO.bind ?_ (fun _ => ?_)
theorem Zchartularylaw05_awake.z0 {P_ : Prop} (h_ : P_ := by repeat (first | (with_reducible first | exact HB.out | apply below_alloc | apply pw_below_drewN | apply below_drew1) | exact HB.out)) : P_ := h_
theorem Zchartularylaw05_awake.z1 {P_ : Prop} (h_ : P_ := by (try simp only [List.map_toArray, List.map_cons, List.map_nil]); first | done | rfl | (simp only [List.length_drop, List.length_take]; rfl)) : P_ := h_
theorem Zchartularylaw05_awake.z2 {P_ : Prop} (h_ : P_ := by (with_reducible repeat (first | apply Kd.R_alloc | apply Kd.R_drewN | apply Kd.R_drew)); exact HO234.out) : P_ := h_
theorem Zchartularylaw05_awake.z3 {P_ : Prop} (h_ : P_ := by first | rfl | (simp [errW_none, errW_some] <;> rfl) | (simp [*, errW_none, errW_some] <;> rfl)) : P_ := h_
set_option maxHeartbeats 8000000 in
set_option maxRecDepth 100000 in
theorem chartularylaw05_awake.calls (k : Nat)  (r : Bool) (w : World) (h : chartularylaw05_awake.f k  = some r) :
    Calls Try.prog 11 #[] w fun e w' => e = .returned (.bool r) ∧ Below w.heap.size w w' := by
  have hu35 := Try.underlying35
  have hu37 := Try.underlying37
  have hu27 := Try.underlying27
  have HB := Aside0.mk (Below.refl w.heap.size w)
  have H : ((paper_Bytes.f k (⟨#[97]⟩ : ByteArray) 2 (([(⟨(⟨#[120]⟩ : ByteArray), (⟨1, true, 0, 0, (⟨#[]⟩ : ByteArray)⟩ : S35)⟩ : S37)] : List (S37)))).bind fun bt235 => (if bt235.2 = 0 then (some (bt235.1.toList == ([1, 1, 97, 1, 2, 1, 1, 1, 1, 120, 1, 3, 1, 1, 1] : List UInt8))) else (some false))) = some r := h
  clear h
  obtain ⟨y232, hy232⟩ : ∃ y_ : List (S37), y_ = (([(⟨(⟨#[120]⟩ : ByteArray), (⟨1, true, 0, 0, (⟨#[]⟩ : ByteArray)⟩ : S35)⟩ : S37)] : List (S37))) := ⟨_, rfl⟩
  replace H : ((paper_Bytes.f k (⟨#[97]⟩ : ByteArray) 2 y232).bind fun bt235 => (if bt235.2 = 0 then (some (bt235.1.toList == ([1, 1, 97, 1, 2, 1, 1, 1, 1, 120, 1, 3, 1, 1, 1] : List UInt8))) else (some false))) = some r := by first | (rw [hy232]; with_reducible exact H) | (have H2_ := (Option.bind_some _ _).symm.trans H; rw [hy232]; with_reducible exact H2_) | (have H2_ := (Option.bind_some _ _).symm.trans H; with_reducible exact H2_) | with_reducible exact H | (rw [hy232]; exact H) | exact H
  have Ny232 := Aside0.mk hy232
  clear hy232
  replace H := Option.bind_eq_some_iff.mp H
  obtain ⟨⟨t235, t236⟩, A10, H⟩ := H
  replace H : (if t236 = 0 then (some (t235.toList == ([1, 1, 97, 1, 2, 1, 1, 1, 1, 120, 1, 3, 1, 1, 1] : List UInt8))) else (some false)) = some r := H
  have A1 := Aside0.mk A10
  clear A10
  by_cases c2 : t236 = 0
  · rw [if_pos c2] at H
    have c2b0 : (t236 == 0) = true := beq_iff_eq.mpr c2
    have c2b1 : (t236 != 0) = false := bne_eq_false_iff_eq.mpr c2
    clear c2
    obtain rfl := Option.some.inj H
    go_enter Try.func11, Try.ntmps11
    go_wp2_with (first | ((with_reducible refine gate_dst (N := 6) rfl ?_); refine Kd.R_lit k37 _ 37 ?hg (N := 6) ?hd (xs := ([(⟨(⟨#[120]⟩ : ByteArray), (⟨1, true, 0, 0, (⟨#[]⟩ : ByteArray)⟩ : S35)⟩ : S37)] : List (S37))) (inner := [.string (⟨#[120]⟩ : ByteArray), .int .i64 1, .bool true, .int .i64 0, .int .u64 0, .string (⟨#[]⟩ : ByteArray)]) (ok := fun _ => True) (okp := fun _ => True) ?hr ?hp (fun _ hk => hk) trivial (Below.refl _ _) (Nat.le_refl _) (by simp) ?_; (case hd => rfl); (case hg => rfl); (case hr => first | (go_simp; done) | (go_simp; rfl)); (case hp => exact (Reps.c6 (show Kd.M k37 _ _ _ (⟨(⟨#[120]⟩ : ByteArray), (⟨1, true, 0, 0, (⟨#[]⟩ : ByteArray)⟩ : S35)⟩ : S37) [.string (⟨#[120]⟩ : ByteArray), .int .i64 1, .bool true, .int .i64 0, .int .u64 0, .string (⟨#[]⟩ : ByteArray)] from (k37_mkM _ _ _ (⟨(⟨#[120]⟩ : ByteArray), (⟨1, true, 0, 0, (⟨#[]⟩ : ByteArray)⟩ : S35)⟩ : S37) )) (Reps.none _ _))); intro v233 w3 ho4 hb hg_ hnew_; clear hg_ hnew_; (first | rw [← Ny232.out] at ho4 | (simp only [Int.reduceToNat] at ho4; rw [← Ny232.out] at ho4)); have n0_ := Aside0.mk (Kd.R_lower ho4 (below_size (Zchartularylaw05_awake.z0))); have n1_ := Aside0.mk (below_step (Zchartularylaw05_awake.z0) hb); clear HB; have HO234 := n0_; have HB := n1_; clear n0_ n1_; clear hb ho4; obtain ⟨Ao5, co5, eo5⟩ := Kd.R_slice HO234.out; subst eo5) | ((with_reducible refine gate_callee (f := 20) rfl ?_); refine goesL_ (some 8) rfl rfl Try.func20 (by kernel_rfl) rfl #[.agg #[.string (⟨#[97]⟩ : ByteArray), .int .i64 2, .slice Ao5 y232.length co5]] rfl (Zchartularylaw05_awake.z1) ?_; (with_reducible refine (paper_Bytes.calls k (⟨#[97]⟩ : ByteArray) 2 _ _ y232 t235 t236 _ ?side1 ?side2 A1.out).mono ?_); (case side1 => repeat (first | exact (Kd.R_reads' HO234.out).2.2 | (with_reducible refine Kd.C_alloc ?_ _) | (with_reducible refine Kd.C_drewN ?_ _) | (with_reducible refine Kd.C_drew ?_))); (case side2 => exact (Kd.R_reads' HO234.out).2.1); rintro e w6 ⟨rfl, hb⟩; refine ⟨_, rfl, ?_⟩; have n0_ := Aside0.mk (Kd.R_below (Zchartularylaw05_awake.z2) hb); have n1_ := Aside0.mk (below_step (Zchartularylaw05_awake.z0) hb); clear HO234; clear HB; have HO234 := n0_; have HB := n1_; clear n0_ n1_; (try clear hb); (try clear hb2); (try clear hk); (try clear hi)))
    go_ret
    exact ⟨Zchartularylaw05_awake.z3, Zchartularylaw05_awake.z0⟩
  · rw [if_neg c2] at H
    have c2b0 : (t236 == 0) = false := beq_eq_false_iff_ne.mpr c2
    have c2b1 : (t236 != 0) = true := bne_iff_ne.mpr c2
    obtain rfl := Option.some.inj H
    go_enter Try.func11, Try.ntmps11
    go_wp2_with (first | ((with_reducible refine gate_dst (N := 6) rfl ?_); refine Kd.R_lit k37 _ 37 ?hg (N := 6) ?hd (xs := ([(⟨(⟨#[120]⟩ : ByteArray), (⟨1, true, 0, 0, (⟨#[]⟩ : ByteArray)⟩ : S35)⟩ : S37)] : List (S37))) (inner := [.string (⟨#[120]⟩ : ByteArray), .int .i64 1, .bool true, .int .i64 0, .int .u64 0, .string (⟨#[]⟩ : ByteArray)]) (ok := fun _ => True) (okp := fun _ => True) ?hr ?hp (fun _ hk => hk) trivial (Below.refl _ _) (Nat.le_refl _) (by simp) ?_; (case hd => rfl); (case hg => rfl); (case hr => first | (go_simp; done) | (go_simp; rfl)); (case hp => exact (Reps.c6 (show Kd.M k37 _ _ _ (⟨(⟨#[120]⟩ : ByteArray), (⟨1, true, 0, 0, (⟨#[]⟩ : ByteArray)⟩ : S35)⟩ : S37) [.string (⟨#[120]⟩ : ByteArray), .int .i64 1, .bool true, .int .i64 0, .int .u64 0, .string (⟨#[]⟩ : ByteArray)] from (k37_mkM _ _ _ (⟨(⟨#[120]⟩ : ByteArray), (⟨1, true, 0, 0, (⟨#[]⟩ : ByteArray)⟩ : S35)⟩ : S37) )) (Reps.none _ _))); intro v233 w7 ho8 hb hg_ hnew_; clear hg_ hnew_; (first | rw [← Ny232.out] at ho8 | (simp only [Int.reduceToNat] at ho8; rw [← Ny232.out] at ho8)); have n0_ := Aside0.mk (Kd.R_lower ho8 (below_size (Zchartularylaw05_awake.z0))); have n1_ := Aside0.mk (below_step (Zchartularylaw05_awake.z0) hb); clear HB; have HO234 := n0_; have HB := n1_; clear n0_ n1_; clear hb ho8; obtain ⟨Ao9, co9, eo9⟩ := Kd.R_slice HO234.out; subst eo9) | ((with_reducible refine gate_callee (f := 20) rfl ?_); refine goesL_ (some 8) rfl rfl Try.func20 (by kernel_rfl) rfl #[.agg #[.string (⟨#[97]⟩ : ByteArray), .int .i64 2, .slice Ao9 y232.length co9]] rfl (Zchartularylaw05_awake.z1) ?_; (with_reducible refine (paper_Bytes.calls k (⟨#[97]⟩ : ByteArray) 2 _ _ y232 t235 t236 _ ?side1 ?side2 A1.out).mono ?_); (case side1 => repeat (first | exact (Kd.R_reads' HO234.out).2.2 | (with_reducible refine Kd.C_alloc ?_ _) | (with_reducible refine Kd.C_drewN ?_ _) | (with_reducible refine Kd.C_drew ?_))); (case side2 => exact (Kd.R_reads' HO234.out).2.1); rintro e w10 ⟨rfl, hb⟩; refine ⟨_, rfl, ?_⟩; have n0_ := Aside0.mk (Kd.R_below (Zchartularylaw05_awake.z2) hb); have n1_ := Aside0.mk (below_step (Zchartularylaw05_awake.z0) hb); clear HO234; clear HB; have HO234 := n0_; have HB := n1_; clear n0_ n1_; (try clear hb); (try clear hb2); (try clear hk); (try clear hi)))
    go_ret
    exact ⟨Zchartularylaw05_awake.z3, Zchartularylaw05_awake.z0⟩


end

end Go.Proofs.Ytabdmnoejoiboaa.PAll
