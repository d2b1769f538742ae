-- Laid by programs of this session (myprint.py, post.py) out of the translation.
import Derived.Test.YtnlanlhhcgdjiaaPBase
import Derived.Test.YtnlanlhhcgdjiaaPOctet
namespace Go.Proofs.Ytnlanlhhcgdjiaa.PAll
open Go.RowKit Go.Proofs.YtnlanlhhcgdjiaaW.PrintWords Go.Proofs.YtnlanlhhcgdjiaaW.PrintLast Go.Proofs.YtnlanlhhcgdjiaaW.PrintMore
attribute [local go_sem] max2_int min2_int max_two min_two max_three min_three max_four min_four   -- for this text's walks alone
set_option linter.unusedVariables false
set_option linter.unusedSimpArgs false
section
/-! ### chartularylaw01_num: function 10 -/
mutual
def chartularylaw01_num.j0 : Nat → Int → Bool → Option (ByteArray)
  | 0, _, _ => none
  | k + 1, x0, x9 => if x9 = true then (some (⟨#[]⟩ : ByteArray)) else (chartularylaw01_num.l0 k x0 (⟨#[]⟩ : ByteArray))
def chartularylaw01_num.l0 : Nat → Int → ByteArray → Option (ByteArray)
  | 0, _, _ => none
  | k + 1, x0, x3 => if x0 > 0 then ((some (([(Int.tmod x0 256) % 256] : List Int) : List Int)).bind fun y107 => (if (strOfNums y107).size + x3.size ≤ 9223372036854775807 then (chartularylaw01_num.l0 k (wrap64 (Int.tdiv x0 256)) ((strOfNums y107) ++ x3)) else (none))) else ((some (([((x3.size : Int)) % 256] : List Int) : List Int)).bind fun y110 => (if (strOfNums y110).size + x3.size ≤ 9223372036854775807 then (some ((strOfNums y110) ++ x3)) else (none)))
end
def chartularylaw01_num.f (k : Nat) (a0 : Int) : Option (ByteArray) := if a0 < 0 then (chartularylaw01_num.j0 k a0 true) else (chartularylaw01_num.j0 k a0 (decide (a0 ≥ 72057594037927936)))
theorem chartularylaw01_num.mono_l : ∀ k, (∀ y0 y1, LeO (chartularylaw01_num.j0 k y0 y1) (chartularylaw01_num.j0 (k + 1) y0 y1)) ∧ (∀ y0 y1, LeO (chartularylaw01_num.l0 k y0 y1) (chartularylaw01_num.l0 (k + 1) y0 y1))
  | 0 => ⟨fun _ _ r h => by simp [chartularylaw01_num.j0] at h, fun _ _ r h => by simp [chartularylaw01_num.l0] at h⟩
  | k + 1 => by
    obtain ⟨ih0, ih1⟩ := chartularylaw01_num.mono_l k
    refine ⟨?_, ?_⟩
    · intro y0 y1
      unfold chartularylaw01_num.j0
      repeat' first
      | (with_reducible exact ih0 _ _)
      | (with_reducible exact ih1 _ _)
      | (with_reducible exact LeO.refl _)
      | (with_reducible exact LeO.none _)
      | (with_reducible refine LeO.ite ?_ ?_)
      | (with_reducible refine LeO.bind ?_ (fun _ => ?_))
      | exact ih0 _ _
      | exact ih1 _ _
      | exact LeO.none _
      | refine LeO.ite ?_ ?_
      | refine LeO.bind ?_ (fun _ => ?_)
    · intro y0 y1
      unfold chartularylaw01_num.l0
      repeat' first
      | (with_reducible exact ih0 _ _)
      | (with_reducible exact ih1 _ _)
      | (with_reducible exact LeO.refl _)
      | (with_reducible exact LeO.none _)
      | (with_reducible refine LeO.ite ?_ ?_)
      | (with_reducible refine LeO.bind ?_ (fun _ => ?_))
      | exact ih0 _ _
      | exact ih1 _ _
      | exact LeO.none _
      | refine LeO.ite ?_ ?_
      | refine LeO.bind ?_ (fun _ => ?_)
theorem chartularylaw01_num.mono : ∀ a0 k, LeO (chartularylaw01_num.f k a0) (chartularylaw01_num.f (k + 1) a0) := by
  intro a0 k
  obtain ⟨ih0, ih1⟩ := chartularylaw01_num.mono_l k
  unfold chartularylaw01_num.f
  repeat' first
      | (with_reducible exact ih0 _ _)
      | (with_reducible exact ih1 _ _)
      | (with_reducible exact LeO.refl _)
      | (with_reducible exact LeO.none _)
      | (with_reducible refine LeO.ite ?_ ?_)
      | (with_reducible refine LeO.bind ?_ (fun _ => ?_))
      | exact ih0 _ _
      | exact ih1 _ _
      | exact LeO.none _
      | refine LeO.ite ?_ ?_
      | refine LeO.bind ?_ (fun _ => ?_)
theorem Zchartularylaw01_num.z0 {P_ : Prop} (h_ : P_ := by repeat (first | (with_reducible first | exact HB.out | apply below_alloc | apply pw_below_drewN | apply below_drew1) | exact HB.out)) : P_ := h_
theorem Zchartularylaw01_num.z1 {P_ : Prop} (h_ : P_ := by first | rfl | (simp; done) | (simp [*]; done)) : P_ := h_
theorem Zchartularylaw01_num.z2 {P_ : Prop} (h_ : P_ := by first | rfl | (simp [errW_none, errW_some] <;> rfl) | (simp [*, errW_none, errW_some] <;> rfl)) : P_ := h_
set_option maxHeartbeats 8000000 in
set_option maxRecDepth 100000 in
theorem chartularylaw01_num.calls (k : Nat) (a0 : Int) (r : ByteArray) (w : World) (h : chartularylaw01_num.f k a0 = some r) :
    Calls Try.prog 10 #[.int .i64 a0] w fun e w' => e = .returned (.string r) ∧ Below w.heap.size w w' := by
  have HB := Aside0.mk (Below.refl w.heap.size w)
  have H : (if a0 < 0 then (chartularylaw01_num.j0 k a0 true) else (chartularylaw01_num.j0 k a0 (decide (a0 ≥ 72057594037927936)))) = some r := h
  clear h
  have HC2 := Aside0.mk H
  clear H
  go_enter Try.func10, Try.ntmps10
  go_upto_region 1 with (fail)
  go_cut [9] (fun v9 wc => ∃ (kq : Nat) (x9_1 : Bool), v9 = .bool x9_1 ∧ Aside0 (chartularylaw01_num.j0 kq a0 x9_1 = some r) ∧ Aside0 (kq ≤ k) ∧ Aside0 (Below w.heap.size w wc))
  case first =>
    have H := HC2.out
    clear HC2
    by_cases c3 : a0 < 0
    · rw [if_pos c3] at H
      have c3b0 : decide (a0 < 0) = true := decide_eq_true c3
      clear c3
      (first | rw [c3b0] | (simp only [i64_w, i32_w]; rw [c3b0]) | skip)
      have H' := Aside0.mk H
      clear H
      go_wp2
      go_meet
      case rel => exact ⟨_, (true), (Zchartularylaw01_num.z1), H', ⟨by first | omega | exact Nat.le_refl _⟩, ⟨Zchartularylaw01_num.z0⟩⟩
    · rw [if_neg c3] at H
      have c3b0 : decide (a0 < 0) = false := decide_eq_false c3
      clear c3
      (first | rw [c3b0] | (simp only [i64_w, i32_w]; rw [c3b0]) | skip)
      have H' := Aside0.mk H
      clear H
      go_wp2
      go_meet
      case rel => exact ⟨_, (decide (a0 ≥ 72057594037927936)), (Zchartularylaw01_num.z1), H', ⟨by first | omega | exact Nat.le_refl _⟩, ⟨Zchartularylaw01_num.z0⟩⟩
  case rest =>
    clear HC2
    try clear c1
    try clear p2
    try clear c3
    try clear c3b0
    obtain ⟨kq, x9_1, rfl, HA, HJ1, HB⟩ := hcut
    cases kq with
    | zero => exact absurd HA.out (by simp [chartularylaw01_num.j0])
    | succ kj1 =>
      have H := HA.out
      clear HA
      simp only [chartularylaw01_num.j0] at H
      by_cases c4 : x9_1 = true
      · subst c4
        have H1 : (some (⟨#[]⟩ : ByteArray)) = some r := by rw [if_pos rfl] at H; exact H
        clear H
        have H := H1
        clear H1
        obtain rfl := Option.some.inj H
        go_wp2
        go_ret
        exact ⟨Zchartularylaw01_num.z2, Zchartularylaw01_num.z0⟩
      · replace c4 := Bool.eq_false_iff.mpr c4
        subst c4
        have H1 : (chartularylaw01_num.l0 kj1 a0 (⟨#[]⟩ : ByteArray)) = some r := by rw [if_neg (show ¬ (false = true) by decide)] at H; exact H
        clear H
        have H := H1
        clear H1
        have H' := Aside0.mk H
        clear H
        go_wp2
        go_loopg [0, 3] kj1 (fun kq v0 v3 w' => ∃ (x0_2 : Int) (x3_2 : ByteArray), v0 = .int .i64 x0_2 ∧ v3 = .string x3_2 ∧ Aside0 (chartularylaw01_num.l0 kq x0_2 x3_2 = some r) ∧ Aside0 (kq ≤ kj1) ∧ Aside0 (Below w.heap.size w w'))
        case atStart => exact ⟨(a0), ((⟨#[]⟩ : ByteArray)), (Zchartularylaw01_num.z1), (Zchartularylaw01_num.z1), H', ⟨Nat.le_refl _⟩, ⟨Zchartularylaw01_num.z0⟩⟩
        case round =>
          clear H'
          try clear c1
          try clear p2
          try clear c3
          try clear c3b0
          try clear c4
          try clear p2
          obtain ⟨x0_2, x3_2, rfl, rfl, HA, HK2, HB⟩ := hrel
          cases gk with
          | zero => exact absurd HA.out (by simp [chartularylaw01_num.l0])
          | succ k2 =>
            have H := HA.out
            clear HA
            simp only [chartularylaw01_num.l0] at H
            by_cases c5 : x0_2 > 0
            · rw [if_pos c5] at H
              have c5b0 : decide (0 < x0_2) = true := decide_eq_true c5
              clear c5
              obtain ⟨y107, hy107⟩ : ∃ y_ : List Int, y_ = (([(Int.tmod x0_2 256) % 256] : List Int)) := ⟨_, rfl⟩
              replace H : (if (strOfNums y107).size + x3_2.size ≤ 9223372036854775807 then (chartularylaw01_num.l0 k2 (wrap64 (Int.tdiv x0_2 256)) ((strOfNums y107) ++ x3_2)) else (none)) = some r := by first | (rw [hy107]; with_reducible exact H) | (have H2_ := (Option.bind_some _ _).symm.trans H; rw [hy107]; with_reducible exact H2_) | (have H2_ := (Option.bind_some _ _).symm.trans H; with_reducible exact H2_) | with_reducible exact H | (rw [hy107]; exact H) | exact H
              have Ny107 := Aside0.mk hy107
              clear hy107
              by_cases c6 : (strOfNums y107).size + x3_2.size ≤ 9223372036854775807
              · rw [if_pos c6] at H
                have c6b0 := eq_true c6
                have c6b1 : decide ((strOfNums y107).size + x3_2.size ≤ 9223372036854775807) = true := decide_eq_true c6
                try have c6b2 : (9223372036854775807 < (strOfNums y107).size + x3_2.size) = False := eq_false (Nat.not_lt.2 c6)
                have H' := Aside0.mk H
                clear H
                go_wp2_with (first | ((with_reducible refine gate_dst (N := 15) rfl ?_); refine Kd.R_lit (Kd.int .u8) _ 5 ?hg (N := 15) ?hd (xs := ([(Int.tmod x0_2 256) % 256] : List Int)) (inner := [.int .u8 ((Int.tmod x0_2 256) % 256)]) (ok := fun _ => True) (okp := fun _ => True) ?hr ?hp (fun _ hk => hk) trivial (Below.refl _ _) (Nat.le_refl _) (by simp) ?_; (case hd => rfl); (case hg => rfl); (case hr => first | (go_simp; done) | (go_simp; rfl)); (case hp => exact (Reps.one (show Kd.M (Kd.int .u8) _ _ _ ((Int.tmod x0_2 256) % 256) [.int .u8 ((Int.tmod x0_2 256) % 256)] from rfl) (Reps.none _ _))); intro v108 w7 ho8 hb hg_ hnew_; clear hg_ hnew_; (first | rw [← Ny107.out] at ho8 | (simp only [Int.reduceToNat] at ho8; rw [← Ny107.out] at ho8)); have n0_ := Aside0.mk (Kd.R_lower ho8 (below_size (Zchartularylaw01_num.z0))); have n1_ := Aside0.mk (below_step (Zchartularylaw01_num.z0) hb); clear HB; have HO109 := n0_; have HB := n1_; clear n0_ n1_; clear hb ho8; have hcv9 := own_string (P := Try.prog) Try.underlying58 Try.underlying5 Try.underlying9 (Kd.own_of_R HO109.out)))
                go_roundg k2
                case measure => have := HJ1.out; have := HK2.out; omega
                case rel => exact ⟨(wrap64 (Int.tdiv x0_2 256)), ((strOfNums y107) ++ x3_2), (Zchartularylaw01_num.z1), (Zchartularylaw01_num.z1), H', ⟨by have := HJ1.out; have := HK2.out; omega⟩, ⟨Zchartularylaw01_num.z0⟩⟩
              · rw [if_neg c6] at H
                exact absurd H (by simp)
            · rw [if_neg c5] at H
              have c5b0 : decide (0 < x0_2) = false := decide_eq_false c5
              clear c5
              obtain ⟨y110, hy110⟩ : ∃ y_ : List Int, y_ = (([((x3_2.size : Int)) % 256] : List Int)) := ⟨_, rfl⟩
              replace H : (if (strOfNums y110).size + x3_2.size ≤ 9223372036854775807 then (some ((strOfNums y110) ++ x3_2)) else (none)) = some r := by first | (rw [hy110]; with_reducible exact H) | (have H2_ := (Option.bind_some _ _).symm.trans H; rw [hy110]; with_reducible exact H2_) | (have H2_ := (Option.bind_some _ _).symm.trans H; with_reducible exact H2_) | with_reducible exact H | (rw [hy110]; exact H) | exact H
              have Ny110 := Aside0.mk hy110
              clear hy110
              by_cases c10 : (strOfNums y110).size + x3_2.size ≤ 9223372036854775807
              · rw [if_pos c10] at H
                have c10b0 := eq_true c10
                have c10b1 : decide ((strOfNums y110).size + x3_2.size ≤ 9223372036854775807) = true := decide_eq_true c10
                try have c10b2 : (9223372036854775807 < (strOfNums y110).size + x3_2.size) = False := eq_false (Nat.not_lt.2 c10)
                obtain rfl := Option.some.inj H
                go_wp2_with (first | ((with_reducible refine gate_dst (N := 24) rfl ?_); refine Kd.R_lit (Kd.int .u8) _ 5 ?hg (N := 24) ?hd (xs := ([((x3_2.size : Int)) % 256] : List Int)) (inner := [.int .u8 (((x3_2.size : Int)) % 256)]) (ok := fun _ => True) (okp := fun _ => True) ?hr ?hp (fun _ hk => hk) trivial (Below.refl _ _) (Nat.le_refl _) (by simp) ?_; (case hd => rfl); (case hg => rfl); (case hr => first | (go_simp; done) | (go_simp; rfl)); (case hp => exact (Reps.one (show Kd.M (Kd.int .u8) _ _ _ (((x3_2.size : Int)) % 256) [.int .u8 (((x3_2.size : Int)) % 256)] from rfl) (Reps.none _ _))); intro v111 w11 ho12 hb hg_ hnew_; clear hg_ hnew_; (first | rw [← Ny110.out] at ho12 | (simp only [Int.reduceToNat] at ho12; rw [← Ny110.out] at ho12)); have n0_ := Aside0.mk (Kd.R_lower ho12 (below_size (Zchartularylaw01_num.z0))); have n1_ := Aside0.mk (below_step (Zchartularylaw01_num.z0) hb); clear HB; have HO112 := n0_; have HB := n1_; clear n0_ n1_; clear hb ho12; have hcv13 := own_string (P := Try.prog) Try.underlying58 Try.underlying5 Try.underlying9 (Kd.own_of_R HO112.out)))
                go_ret
                exact ⟨Zchartularylaw01_num.z2, Zchartularylaw01_num.z0⟩
              · rw [if_neg c10] at H
                exact absurd H (by simp)


end

section
/-! ### chartularylaw01_awake: function 12 -/
def chartularylaw01_awake.f (k : Nat)  : Option (Bool) := (octet_Num.f k 0).bind fun t114 => (if t114.toList = ([0] : List UInt8) then ((octet_Num.f k 258).bind fun t115 => (if t115.toList = ([2, 1, 2] : List UInt8) then ((octet_Text.f k (⟨#[97, 98]⟩ : ByteArray)).bind fun t116 => (some (t116.toList == ([1, 2, 97, 98] : List UInt8)))) else (some false))) else (some false))
theorem chartularylaw01_awake.mono : ∀ k, LeO (chartularylaw01_awake.f k ) (chartularylaw01_awake.f (k + 1) ) := by
  intro  k
  unfold chartularylaw01_awake.f
  repeat' first
      | (with_reducible exact octet_Num.mono _ _)
      | (with_reducible exact octet_Text.mono _ _)
      | (with_reducible exact LeO.refl _)
      | (with_reducible exact LeO.none _)
      | (with_reducible refine LeO.ite ?_ ?_)
      | (with_reducible refine LeO.bind ?_ (fun _ => ?_))
      | exact octet_Num.mono _ _
      | exact octet_Text.mono _ _
      | exact LeO.none _
      | refine LeO.ite ?_ ?_
      | refine LeO.bind ?_ (fun _ => ?_)
theorem Zchartularylaw01_awake.z0 {P_ : Prop} (h_ : P_ := by repeat (first | (with_reducible first | exact HB.out | apply below_alloc | apply pw_below_drewN | apply below_drew1) | exact HB.out)) : P_ := h_
theorem Zchartularylaw01_awake.z1 {P_ : Prop} (h_ : P_ := by (try simp only [List.map_toArray, List.map_cons, List.map_nil]); first | done | rfl | (simp only [List.length_drop, List.length_take]; rfl)) : P_ := h_
theorem Zchartularylaw01_awake.z2 {P_ : Prop} (h_ : P_ := by first | rfl | (simp [errW_none, errW_some] <;> rfl) | (simp [*, errW_none, errW_some] <;> rfl)) : P_ := h_
set_option maxHeartbeats 8000000 in
set_option maxRecDepth 100000 in
theorem chartularylaw01_awake.calls (k : Nat)  (r : Bool) (w : World) (h : chartularylaw01_awake.f k  = some r) :
    Calls Try.prog 12 #[] w fun e w' => e = .returned (.bool r) ∧ Below w.heap.size w w' := by
  have HB := Aside0.mk (Below.refl w.heap.size w)
  have H : ((octet_Num.f k 0).bind fun t114 => (if t114.toList = ([0] : List UInt8) then ((octet_Num.f k 258).bind fun t115 => (if t115.toList = ([2, 1, 2] : List UInt8) then ((octet_Text.f k (⟨#[97, 98]⟩ : ByteArray)).bind fun t116 => (some (t116.toList == ([1, 2, 97, 98] : List UInt8)))) else (some false))) else (some false))) = some r := h
  clear h
  replace H := Option.bind_eq_some_iff.mp H
  obtain ⟨t114, A10, H⟩ := H
  replace H : (if t114.toList = ([0] : List UInt8) then ((octet_Num.f k 258).bind fun t115 => (if t115.toList = ([2, 1, 2] : List UInt8) then ((octet_Text.f k (⟨#[97, 98]⟩ : ByteArray)).bind fun t116 => (some (t116.toList == ([1, 2, 97, 98] : List UInt8)))) else (some false))) else (some false)) = some r := H
  have A1 := Aside0.mk A10
  clear A10
  by_cases c2 : t114.toList = ([0] : List UInt8)
  · rw [if_pos c2] at H
    have c2b0 : (t114.toList == ([0] : List UInt8)) = true := beq_iff_eq.mpr c2
    have c2b1 : (t114.toList != ([0] : List UInt8)) = false := bne_eq_false_iff_eq.mpr c2
    clear c2
    replace H := Option.bind_eq_some_iff.mp H
    obtain ⟨t115, A30, H⟩ := H
    replace H : (if t115.toList = ([2, 1, 2] : List UInt8) then ((octet_Text.f k (⟨#[97, 98]⟩ : ByteArray)).bind fun t116 => (some (t116.toList == ([1, 2, 97, 98] : List UInt8)))) else (some false)) = some r := H
    have A3 := Aside0.mk A30
    clear A30
    by_cases c4 : t115.toList = ([2, 1, 2] : List UInt8)
    · rw [if_pos c4] at H
      have c4b0 : (t115.toList == ([2, 1, 2] : List UInt8)) = true := beq_iff_eq.mpr c4
      have c4b1 : (t115.toList != ([2, 1, 2] : List UInt8)) = false := bne_eq_false_iff_eq.mpr c4
      clear c4
      replace H := Option.bind_eq_some_iff.mp H
      obtain ⟨t116, A50, H⟩ := H
      replace H : (some (t116.toList == ([1, 2, 97, 98] : List UInt8))) = some r := H
      have A5 := Aside0.mk A50
      clear A50
      obtain rfl := Option.some.inj H
      go_enter Try.func12, Try.ntmps12
      go_wp2_with (first | ((with_reducible refine gate_callee (f := 9) rfl ?_); refine goesL_ (some 1) rfl rfl Try.func9 (by kernel_rfl) rfl #[.int .i64 0] rfl (Zchartularylaw01_awake.z1) ?_; (with_reducible refine (octet_Num.calls k 0 t114 _ A1.out).mono ?_); rintro e w6 ⟨rfl, hb⟩; refine ⟨_, rfl, ?_⟩; have n0_ := Aside0.mk (below_step (Zchartularylaw01_awake.z0) hb); clear HB; have HB := n0_; clear n0_; (try clear hb); (try clear hb2); (try clear hk); (try clear hi)) | (go_at_call 9; (with_reducible refine (octet_Num.calls k 258 t115 _ A3.out).mono ?_); rintro e w7 ⟨rfl, hb⟩; have n0_ := Aside0.mk (below_step (Zchartularylaw01_awake.z0) hb); clear HB; have HB := n0_; clear n0_; (try clear hb); (try clear hb2); (try clear hk); (try clear hi)) | (go_at_call 11; (with_reducible refine (octet_Text.calls k (⟨#[97, 98]⟩ : ByteArray) t116 _ A5.out).mono ?_); rintro e w8 ⟨rfl, hb⟩; have n0_ := Aside0.mk (below_step (Zchartularylaw01_awake.z0) hb); clear HB; have HB := n0_; clear n0_; (try clear hb); (try clear hb2); (try clear hk); (try clear hi)))
      go_ret
      exact ⟨Zchartularylaw01_awake.z2, Zchartularylaw01_awake.z0⟩
    · rw [if_neg c4] at H
      have c4b0 : (t115.toList == ([2, 1, 2] : List UInt8)) = false := beq_eq_false_iff_ne.mpr c4
      have c4b1 : (t115.toList != ([2, 1, 2] : List UInt8)) = true := bne_iff_ne.mpr c4
      obtain rfl := Option.some.inj H
      go_enter Try.func12, Try.ntmps12
      go_wp2_with (first | ((with_reducible refine gate_callee (f := 9) rfl ?_); refine goesL_ (some 1) rfl rfl Try.func9 (by kernel_rfl) rfl #[.int .i64 0] rfl (Zchartularylaw01_awake.z1) ?_; (with_reducible refine (octet_Num.calls k 0 t114 _ A1.out).mono ?_); rintro e w9 ⟨rfl, hb⟩; refine ⟨_, rfl, ?_⟩; have n0_ := Aside0.mk (below_step (Zchartularylaw01_awake.z0) hb); clear HB; have HB := n0_; clear n0_; (try clear hb); (try clear hb2); (try clear hk); (try clear hi)) | (go_at_call 9; (with_reducible refine (octet_Num.calls k 258 t115 _ A3.out).mono ?_); rintro e w10 ⟨rfl, hb⟩; have n0_ := Aside0.mk (below_step (Zchartularylaw01_awake.z0) hb); clear HB; have HB := n0_; clear n0_; (try clear hb); (try clear hb2); (try clear hk); (try clear hi)))
      go_ret
      exact ⟨Zchartularylaw01_awake.z2, Zchartularylaw01_awake.z0⟩
  · rw [if_neg c2] at H
    have c2b0 : (t114.toList == ([0] : List UInt8)) = false := beq_eq_false_iff_ne.mpr c2
    have c2b1 : (t114.toList != ([0] : List UInt8)) = true := bne_iff_ne.mpr c2
    obtain rfl := Option.some.inj H
    go_enter Try.func12, Try.ntmps12
    go_wp2_with (first | ((with_reducible refine gate_callee (f := 9) rfl ?_); refine goesL_ (some 1) rfl rfl Try.func9 (by kernel_rfl) rfl #[.int .i64 0] rfl (Zchartularylaw01_awake.z1) ?_; (with_reducible refine (octet_Num.calls k 0 t114 _ A1.out).mono ?_); rintro e w11 ⟨rfl, hb⟩; refine ⟨_, rfl, ?_⟩; have n0_ := Aside0.mk (below_step (Zchartularylaw01_awake.z0) hb); clear HB; have HB := n0_; clear n0_; (try clear hb); (try clear hb2); (try clear hk); (try clear hi)))
    go_ret
    exact ⟨Zchartularylaw01_awake.z2, Zchartularylaw01_awake.z0⟩


end

section
/-! ### chartularylaw01_longest: function 27 -/
def chartularylaw01_longest.l0 : Nat → List ByteArray → Int → Int → Option (Int)
  | 0, _, _, _ => none
  | k + 1, x0, x3, x4 => if x4 < (x0.length : Int) then (if 0 ≤ x4 then (if ((rdOf ByteArray.empty x0 x4).size : Int) > x3 then (chartularylaw01_longest.l0 k x0 ((rdOf ByteArray.empty x0 x4).size : Int) (wrap64 (x4 + 1))) else (chartularylaw01_longest.l0 k x0 x3 (wrap64 (x4 + 1)))) else (none)) else (some x3)
def chartularylaw01_longest.f (k : Nat) (l0 : List ByteArray) : Option (Int) := chartularylaw01_longest.l0 k l0 0 0
theorem chartularylaw01_longest.mono_l : ∀ k, (∀ y0 y1 y2, LeO (chartularylaw01_longest.l0 k y0 y1 y2) (chartularylaw01_longest.l0 (k + 1) y0 y1 y2))
  | 0 => fun _ _ _ r h => by simp [chartularylaw01_longest.l0] at h
  | k + 1 => by
    have ih0 := chartularylaw01_longest.mono_l k
    · intro y0 y1 y2
      unfold chartularylaw01_longest.l0
      repeat' first
      | (with_reducible exact ih0 _ _ _)
      | (with_reducible exact LeO.refl _)
      | (with_reducible exact LeO.none _)
      | (with_reducible refine LeO.ite ?_ ?_)
      | (with_reducible refine LeO.bind ?_ (fun _ => ?_))
      | exact ih0 _ _ _
      | exact LeO.none _
      | refine LeO.ite ?_ ?_
      | refine LeO.bind ?_ (fun _ => ?_)
theorem chartularylaw01_longest.mono : ∀ a0 k, LeO (chartularylaw01_longest.f k a0) (chartularylaw01_longest.f (k + 1) a0) := by
  intro a0 k
  have ih0 := chartularylaw01_longest.mono_l k
  unfold chartularylaw01_longest.f
  repeat' first
      | (with_reducible exact ih0 _ _ _)
      | (with_reducible exact LeO.refl _)
      | (with_reducible exact LeO.none _)
      | (with_reducible refine LeO.ite ?_ ?_)
      | (with_reducible refine LeO.bind ?_ (fun _ => ?_))
      | exact ih0 _ _ _
      | exact LeO.none _
      | refine LeO.ite ?_ ?_
      | refine LeO.bind ?_ (fun _ => ?_)
theorem Zchartularylaw01_longest.z0 {P_ : Prop} (h_ : P_ := by first | rfl | (simp; done) | (simp [*]; done)) : P_ := h_
theorem Zchartularylaw01_longest.z1 {P_ : Prop} (h_ : P_ := by first | (with_reducible assumption) | assumption) : P_ := h_
theorem Zchartularylaw01_longest.z2 {P_ : Prop} (h_ : P_ := by repeat (first | exact Drawn0.refl _ | apply Drawn0.step)) : P_ := h_
set_option maxHeartbeats 8000000 in
set_option maxRecDepth 100000 in
theorem chartularylaw01_longest.calls (k : Nat) (A0 : Option Addr) (c0 : Nat) (l0 : List ByteArray) (r : Int) (w : World) (hr0 : Kd.C Kd.string w A0 l0.length l0) (hc0 : l0.length ≤ c0) (h : chartularylaw01_longest.f k l0 = some r) :
    Calls Try.prog 27 #[.slice A0 l0.length c0] w fun e w' => e = .returned (.int .i64 r) ∧ Drawn0 w w' := by
  have HR0 := Aside0.mk hr0
  have HC0 := Aside0.mk hc0
  clear hr0 hc0
  have H : (chartularylaw01_longest.l0 k l0 0 0) = some r := h
  clear h
  have H' := Aside0.mk H
  clear H
  go_enter Try.func27, Try.ntmps27
  go_wp2
  go_loopg [3, 4] k (fun kq v3 v4 w' => ∃ (x3_1 : Int) (x4_1 : Int), v3 = .int .i64 x3_1 ∧ v4 = .int .i64 x4_1 ∧ Aside0 (chartularylaw01_longest.l0 kq l0 x3_1 x4_1 = some r) ∧ Aside0 (kq ≤ k) ∧ Drawn0 w w')
  case atStart => exact ⟨(0), (0), (Zchartularylaw01_longest.z0), (Zchartularylaw01_longest.z0), H', ⟨Nat.le_refl _⟩, Zchartularylaw01_longest.z2⟩
  case round =>
    clear H'
    obtain ⟨x3_1, x4_1, rfl, rfl, HA, HK1, ⟨m1, rfl⟩⟩ := hrel
    cases gk with
    | zero => exact absurd HA.out (by simp [chartularylaw01_longest.l0])
    | succ k1 =>
      have H := HA.out
      clear HA
      simp only [chartularylaw01_longest.l0] at H
      by_cases c2 : x4_1 < (l0.length : Int)
      · rw [if_pos c2] at H
        have c2b0 : decide (x4_1 < (l0.length : Int)) = true := decide_eq_true c2
        clear c2
        by_cases c3 : 0 ≤ x4_1
        · rw [if_pos c3] at H
          have c3b0 : decide (0 ≤ x4_1) = true := decide_eq_true c3
          clear c3
          by_cases c4 : ((rdOf ByteArray.empty l0 x4_1).size : Int) > x3_1
          · rw [if_pos c4] at H
            have c4b0 : decide (x3_1 < ((rdOf ByteArray.empty l0 x4_1).size : Int)) = true := decide_eq_true c4
            clear c4
            have H' := Aside0.mk H
            clear H
            have p300 : 0 ≤ (x4_1 : Int) := of_decide_eq_true (Zchartularylaw01_longest.z1)
            have q300 : x4_1 < (l0.length : Int) := of_decide_eq_true (Zchartularylaw01_longest.z1)
            obtain ⟨ad300, e300, hx300_0⟩ := Kd.at_string HR0.out x4_1 p300 q300
            cases e300
            replace p300 := eq_true p300
            replace q300 := eq_true q300
            have p301 : 0 ≤ (x4_1 : Int) := of_decide_eq_true (Zchartularylaw01_longest.z1)
            have q301 : x4_1 < (l0.length : Int) := of_decide_eq_true (Zchartularylaw01_longest.z1)
            obtain ⟨ad301, e301, hx301_0⟩ := Kd.at_string HR0.out x4_1 p301 q301
            obtain rfl : ad300 = ad301 := (by injection e301)
            replace p301 := eq_true p301
            replace q301 := eq_true q301
            go_wp2
            go_roundg k1
            case measure => have := HK1.out; omega
            case rel => exact ⟨(((rdOf ByteArray.empty l0 x4_1).size : Int)), (wrap64 (x4_1 + 1)), (Zchartularylaw01_longest.z0), (Zchartularylaw01_longest.z0), H', ⟨by have := HK1.out; omega⟩, Zchartularylaw01_longest.z2⟩
          · rw [if_neg c4] at H
            have c4b0 : decide (x3_1 < ((rdOf ByteArray.empty l0 x4_1).size : Int)) = false := decide_eq_false c4
            clear c4
            have H' := Aside0.mk H
            clear H
            have p300 : 0 ≤ (x4_1 : Int) := of_decide_eq_true (Zchartularylaw01_longest.z1)
            have q300 : x4_1 < (l0.length : Int) := of_decide_eq_true (Zchartularylaw01_longest.z1)
            obtain ⟨ad300, e300, hx300_0⟩ := Kd.at_string HR0.out x4_1 p300 q300
            cases e300
            replace p300 := eq_true p300
            replace q300 := eq_true q300
            go_wp2
            go_roundg k1
            case measure => have := HK1.out; omega
            case rel => exact ⟨(x3_1), (wrap64 (x4_1 + 1)), (Zchartularylaw01_longest.z0), (Zchartularylaw01_longest.z0), H', ⟨by have := HK1.out; omega⟩, Zchartularylaw01_longest.z2⟩
        · rw [if_neg c3] at H
          exact absurd H (by simp)
      · rw [if_neg c2] at H
        have c2b0 : decide (x4_1 < (l0.length : Int)) = false := decide_eq_false c2
        clear c2
        obtain rfl := Option.some.inj H
        go_wp2
        go_ret
        exact ⟨Zchartularylaw01_longest.z0, Zchartularylaw01_longest.z2⟩


end

end Go.Proofs.Ytnlanlhhcgdjiaa.PAll
