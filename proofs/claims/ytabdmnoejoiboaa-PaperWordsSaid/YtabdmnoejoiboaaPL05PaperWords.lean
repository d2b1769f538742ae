-- Laid by programs of this session (myprint.py, post.py) out of the translation.
import Derived.Test.YtabdmnoejoiboaaPBase
import Derived.Test.YtabdmnoejoiboaaPH05
import Derived.Test.YtabdmnoejoiboaaPPaper
namespace Go.Proofs.Ytabdmnoejoiboaa.PAll
open Go.RowKit Go.Proofs.YtabdmnoejoiboaaW.PrintWords Go.Proofs.YtabdmnoejoiboaaW.PrintLast Go.Proofs.YtabdmnoejoiboaaW.PrintMore
attribute [local go_sem] max2_int min2_int max_two min_two max_three min_three max_four min_four   -- for this text's walks alone
set_option linter.unusedVariables false
set_option linter.unusedSimpArgs false
section
/-! ### chartularylaw05_PaperWords: function 3 -/
def chartularylaw05_PaperWords.j0 : Nat → ByteArray → Option (Bool)
  | 0, _ => none
  | k + 1, x0 => (paper_IsID.f k x0).bind fun t237 => ((chartularylaw05_word.f k x0 24).bind fun t238 => (if (t237 == t238) = true then ((paper_IsName.f k x0).bind fun t239 => ((chartularylaw05_word.f k x0 16).bind fun t240 => (if (t239 == t240) = true then ((chartularylaw05_awake.f k).bind fun t241 => (some t241)) else (some false)))) else (some false)))
def chartularylaw05_PaperWords.f (k : Nat) (a0 : ByteArray) : Option (Bool) := if (a0.size : Int) > 100 then (if 0 ≤ 100 then (if 100 ≤ (a0.size : Int) then (chartularylaw05_PaperWords.j0 k (a0.extract 0 100)) else (none)) else (none)) else (chartularylaw05_PaperWords.j0 k a0)
theorem chartularylaw05_PaperWords.mono_l : ∀ k, (∀ y0, LeO (chartularylaw05_PaperWords.j0 k y0) (chartularylaw05_PaperWords.j0 (k + 1) y0))
  | 0 => fun _ r h => by simp [chartularylaw05_PaperWords.j0] at h
  | k + 1 => by
    have ih0 := chartularylaw05_PaperWords.mono_l k
    · intro y0
      unfold chartularylaw05_PaperWords.j0
      repeat' first
      | (with_reducible exact ih0 _)
      | (with_reducible exact chartularylaw05_awake.mono _)
      | (with_reducible exact chartularylaw05_word.mono _ _ _)
      | (with_reducible exact paper_IsID.mono _ _)
      | (with_reducible exact paper_IsName.mono _ _)
      | (with_reducible exact LeO.refl _)
      | (with_reducible exact LeO.none _)
      | (with_reducible refine LeO.ite ?_ ?_)
      | (with_reducible refine LeO.bind ?_ (fun _ => ?_))
      | exact ih0 _
      | exact chartularylaw05_awake.mono _
      | exact chartularylaw05_word.mono _ _ _
      | exact paper_IsID.mono _ _
      | exact paper_IsName.mono _ _
      | exact LeO.none _
      | refine LeO.ite ?_ ?_
      | refine LeO.bind ?_ (fun _ => ?_)
theorem chartularylaw05_PaperWords.mono : ∀ a0 k, LeO (chartularylaw05_PaperWords.f k a0) (chartularylaw05_PaperWords.f (k + 1) a0) := by
  intro a0 k
  have ih0 := chartularylaw05_PaperWords.mono_l k
  unfold chartularylaw05_PaperWords.f
  repeat' first
      | (with_reducible exact ih0 _)
      | (with_reducible exact chartularylaw05_awake.mono _)
      | (with_reducible exact chartularylaw05_word.mono _ _ _)
      | (with_reducible exact paper_IsID.mono _ _)
      | (with_reducible exact paper_IsName.mono _ _)
      | (with_reducible exact LeO.refl _)
      | (with_reducible exact LeO.none _)
      | (with_reducible refine LeO.ite ?_ ?_)
      | (with_reducible refine LeO.bind ?_ (fun _ => ?_))
      | exact ih0 _
      | exact chartularylaw05_awake.mono _
      | exact chartularylaw05_word.mono _ _ _
      | exact paper_IsID.mono _ _
      | exact paper_IsName.mono _ _
      | exact LeO.none _
      | refine LeO.ite ?_ ?_
      | refine LeO.bind ?_ (fun _ => ?_)
theorem Zchartularylaw05_PaperWords.z0 {P_ : Prop} (h_ : P_ := by repeat (first | (with_reducible first | exact HB.out | apply below_alloc | apply pw_below_drewN | apply below_drew1) | exact HB.out)) : P_ := h_
theorem Zchartularylaw05_PaperWords.z1 {P_ : Prop} (h_ : P_ := by (try simp only [List.map_toArray, List.map_cons, List.map_nil]); first | done | rfl | (simp only [List.length_drop, List.length_take]; rfl)) : P_ := h_
theorem Zchartularylaw05_PaperWords.z2 {P_ : Prop} (h_ : P_ := by first | rfl | (simp [errW_none, errW_some] <;> rfl) | (simp [*, errW_none, errW_some] <;> rfl)) : P_ := h_
set_option maxHeartbeats 8000000 in
set_option maxRecDepth 100000 in
theorem chartularylaw05_PaperWords.calls (k : Nat) (a0 : ByteArray) (r : Bool) (w : World) (h : chartularylaw05_PaperWords.f k a0 = some r) :
    Calls Try.prog 3 #[.string a0] w fun e w' => e = .returned (.bool r) ∧ Below w.heap.size w w' := by
  have HB := Aside0.mk (Below.refl w.heap.size w)
  have H : (if (a0.size : Int) > 100 then (if 0 ≤ 100 then (if 100 ≤ (a0.size : Int) then (chartularylaw05_PaperWords.j0 k (a0.extract 0 100)) else (none)) else (none)) else (chartularylaw05_PaperWords.j0 k a0)) = some r := h
  clear h
  have HC2 := Aside0.mk H
  clear H
  go_enter Try.func3, Try.ntmps3
  go_upto_if 5 with (fail)
  go_cut [0] (fun v0 wc => ∃ (kq : Nat) (x0_1 : ByteArray), v0 = .string x0_1 ∧ Aside0 (chartularylaw05_PaperWords.j0 kq x0_1 = some r) ∧ Aside0 (kq ≤ k) ∧ Aside0 (Below w.heap.size w wc))
  case first =>
    have H := HC2.out
    clear HC2
    by_cases c3 : (a0.size : Int) > 100
    · rw [if_pos c3] at H
      have c3b0 : decide (100 < (a0.size : Int)) = true := decide_eq_true c3
      have c3b1 : decide (100 < a0.size) = true := decide_eq_true (by omega)
      clear c3
      (first | rw [c3b0] | (simp only [i64_w, i32_w]; rw [c3b0]) | skip)
      by_cases c4 : 0 ≤ 100
      · rw [if_pos c4] at H
        have c4b0 := eq_true c4
        have c4b1 : decide (0 ≤ 100) = true := decide_eq_true c4
        clear c4
        by_cases c5 : 100 ≤ (a0.size : Int)
        · rw [if_pos c5] at H
          have c5b0 := eq_true c5
          have c5b1 : decide (100 ≤ (a0.size : Int)) = true := decide_eq_true c5
          clear c5
          have H' := Aside0.mk H
          clear H
          go_wp2
          go_meet
          case rel => exact ⟨_, (a0.extract 0 100), (by first | rfl | (simp; done) | (simp [*]; done)), H', ⟨by first | omega | exact Nat.le_refl _⟩, ⟨Zchartularylaw05_PaperWords.z0⟩⟩
        · rw [if_neg c5] at H
          exact absurd H (by simp)
      · rw [if_neg c4] at H
        exact absurd H (by simp)
    · rw [if_neg c3] at H
      have c3b0 : decide (100 < (a0.size : Int)) = false := decide_eq_false c3
      have c3b1 : decide (100 < a0.size) = false := decide_eq_false (by omega)
      clear c3
      (first | rw [c3b0] | (simp only [i64_w, i32_w]; rw [c3b0]) | skip)
      have H' := Aside0.mk H
      clear H
      go_wp2
      go_meet
      case rel => exact ⟨_, (a0), (by first | rfl | (simp; done) | (simp [*]; done)), H', ⟨by first | omega | exact Nat.le_refl _⟩, ⟨Zchartularylaw05_PaperWords.z0⟩⟩
  case rest =>
    clear HC2
    try clear p2
    try clear c3
    try clear c3b0
    try clear c3b1
    try clear c4
    try clear c4b0
    try clear c4b1
    try clear c5
    try clear c5b0
    try clear c5b1
    obtain ⟨kq, x0_1, rfl, HA, HJ1, HB⟩ := hcut
    cases kq with
    | zero => exact absurd HA.out (by simp [chartularylaw05_PaperWords.j0])
    | succ kj1 =>
      have H := HA.out
      clear HA
      simp only [chartularylaw05_PaperWords.j0] at H
      replace H := Option.bind_eq_some_iff.mp H
      obtain ⟨t237, A60, H⟩ := H
      replace H : ((chartularylaw05_word.f kj1 x0_1 24).bind fun t238 => (if (t237 == t238) = true then ((paper_IsName.f kj1 x0_1).bind fun t239 => ((chartularylaw05_word.f kj1 x0_1 16).bind fun t240 => (if (t239 == t240) = true then ((chartularylaw05_awake.f kj1).bind fun t241 => (some t241)) else (some false)))) else (some false))) = some r := H
      have A6 := Aside0.mk A60
      clear A60
      replace H := Option.bind_eq_some_iff.mp H
      obtain ⟨t238, A70, H⟩ := H
      replace H : (if (t237 == t238) = true then ((paper_IsName.f kj1 x0_1).bind fun t239 => ((chartularylaw05_word.f kj1 x0_1 16).bind fun t240 => (if (t239 == t240) = true then ((chartularylaw05_awake.f kj1).bind fun t241 => (some t241)) else (some false)))) else (some false)) = some r := H
      have A7 := Aside0.mk A70
      clear A70
      by_cases c8 : (t237 == t238) = true
      · rw [if_pos c8] at H
        have c8b0 : (t237 == t238) = true := c8
        (try (have c8b1 : decide (t237 = t238) = true := by simpa using c8))
        (try (have c8b2 : (t237 == t238) = true := by simpa using c8))
        clear c8
        replace H := Option.bind_eq_some_iff.mp H
        obtain ⟨t239, A90, H⟩ := H
        replace H : ((chartularylaw05_word.f kj1 x0_1 16).bind fun t240 => (if (t239 == t240) = true then ((chartularylaw05_awake.f kj1).bind fun t241 => (some t241)) else (some false))) = some r := H
        have A9 := Aside0.mk A90
        clear A90
        replace H := Option.bind_eq_some_iff.mp H
        obtain ⟨t240, A100, H⟩ := H
        replace H : (if (t239 == t240) = true then ((chartularylaw05_awake.f kj1).bind fun t241 => (some t241)) else (some false)) = some r := H
        have A10 := Aside0.mk A100
        clear A100
        by_cases c11 : (t239 == t240) = true
        · rw [if_pos c11] at H
          have c11b0 : (t239 == t240) = true := c11
          (try (have c11b1 : decide (t239 = t240) = true := by simpa using c11))
          (try (have c11b2 : (t239 == t240) = true := by simpa using c11))
          clear c11
          replace H := Option.bind_eq_some_iff.mp H
          obtain ⟨t241, A120, H⟩ := H
          replace H : (some t241) = some r := H
          have A12 := Aside0.mk A120
          clear A120
          obtain rfl := Option.some.inj H
          go_wp2_with (first | ((with_reducible refine gate_callee (f := 8) rfl ?_); refine goesL_ (some 9) rfl rfl Try.func8 (by kernel_rfl) rfl #[.string x0_1] rfl (Zchartularylaw05_PaperWords.z1) ?_; (with_reducible refine (paper_IsID.calls kj1 x0_1 t237 _ A6.out).mono ?_); rintro e w' ⟨rfl, ⟨nd, rfl⟩⟩; refine ⟨_, rfl, ?_⟩) | ((with_reducible refine gate_callee (f := 9) rfl ?_); refine goesL_ (some 11) rfl rfl Try.func9 (by kernel_rfl) rfl #[.string x0_1, .int .i64 24] rfl (Zchartularylaw05_PaperWords.z1) ?_; (with_reducible refine (chartularylaw05_word.calls kj1 x0_1 24 t238 _ A7.out).mono ?_); rintro e w' ⟨rfl, ⟨nd, rfl⟩⟩; refine ⟨_, rfl, ?_⟩) | (go_at_call 10; (with_reducible refine (paper_IsName.calls kj1 x0_1 t239 _ A9.out).mono ?_); rintro e w' ⟨rfl, ⟨nd, rfl⟩⟩) | (go_at_call 9; (with_reducible refine (chartularylaw05_word.calls kj1 x0_1 16 t240 _ A10.out).mono ?_); rintro e w' ⟨rfl, ⟨nd, rfl⟩⟩) | (go_at_call 11; (with_reducible refine (chartularylaw05_awake.calls kj1  t241 _ A12.out).mono ?_); rintro e w13 ⟨rfl, hb⟩; have n0_ := Aside0.mk (below_step (Zchartularylaw05_PaperWords.z0) hb); clear HB; have HB := n0_; clear n0_; (try clear hb); (try clear hb2); (try clear hk); (try clear hi)))
          go_ret
          exact ⟨Zchartularylaw05_PaperWords.z2, Zchartularylaw05_PaperWords.z0⟩
        · rw [if_neg c11] at H
          have c11b0 : (t239 == t240) = false := by simpa using c11
          (try (have c11b1 : decide (t239 = t240) = false := by simpa using c11))
          (try (have c11b2 : (t239 == t240) = false := by simpa using c11))
          (try (have c11b3 : ¬ (t239 = t240) := by simpa using c11))
          clear c11
          obtain rfl := Option.some.inj H
          go_wp2_with (first | ((with_reducible refine gate_callee (f := 8) rfl ?_); refine goesL_ (some 9) rfl rfl Try.func8 (by kernel_rfl) rfl #[.string x0_1] rfl (Zchartularylaw05_PaperWords.z1) ?_; (with_reducible refine (paper_IsID.calls kj1 x0_1 t237 _ A6.out).mono ?_); rintro e w' ⟨rfl, ⟨nd, rfl⟩⟩; refine ⟨_, rfl, ?_⟩) | ((with_reducible refine gate_callee (f := 9) rfl ?_); refine goesL_ (some 11) rfl rfl Try.func9 (by kernel_rfl) rfl #[.string x0_1, .int .i64 24] rfl (Zchartularylaw05_PaperWords.z1) ?_; (with_reducible refine (chartularylaw05_word.calls kj1 x0_1 24 t238 _ A7.out).mono ?_); rintro e w' ⟨rfl, ⟨nd, rfl⟩⟩; refine ⟨_, rfl, ?_⟩) | (go_at_call 10; (with_reducible refine (paper_IsName.calls kj1 x0_1 t239 _ A9.out).mono ?_); rintro e w' ⟨rfl, ⟨nd, rfl⟩⟩) | (go_at_call 9; (with_reducible refine (chartularylaw05_word.calls kj1 x0_1 16 t240 _ A10.out).mono ?_); rintro e w' ⟨rfl, ⟨nd, rfl⟩⟩))
          go_ret
          exact ⟨Zchartularylaw05_PaperWords.z2, Zchartularylaw05_PaperWords.z0⟩
      · rw [if_neg c8] at H
        have c8b0 : (t237 == t238) = false := by simpa using c8
        (try (have c8b1 : decide (t237 = t238) = false := by simpa using c8))
        (try (have c8b2 : (t237 == t238) = false := by simpa using c8))
        (try (have c8b3 : ¬ (t237 = t238) := by simpa using c8))
        clear c8
        obtain rfl := Option.some.inj H
        go_wp2_with (first | ((with_reducible refine gate_callee (f := 8) rfl ?_); refine goesL_ (some 9) rfl rfl Try.func8 (by kernel_rfl) rfl #[.string x0_1] rfl (Zchartularylaw05_PaperWords.z1) ?_; (with_reducible refine (paper_IsID.calls kj1 x0_1 t237 _ A6.out).mono ?_); rintro e w' ⟨rfl, ⟨nd, rfl⟩⟩; refine ⟨_, rfl, ?_⟩) | ((with_reducible refine gate_callee (f := 9) rfl ?_); refine goesL_ (some 11) rfl rfl Try.func9 (by kernel_rfl) rfl #[.string x0_1, .int .i64 24] rfl (Zchartularylaw05_PaperWords.z1) ?_; (with_reducible refine (chartularylaw05_word.calls kj1 x0_1 24 t238 _ A7.out).mono ?_); rintro e w' ⟨rfl, ⟨nd, rfl⟩⟩; refine ⟨_, rfl, ?_⟩))
        go_ret
        exact ⟨Zchartularylaw05_PaperWords.z2, Zchartularylaw05_PaperWords.z0⟩

/-- THE ONE PURE STATEMENT of chartularylaw05_PaperWords: yours. -/
def chartularylaw05_PaperWords.Pure : Prop := ∀ (a0 : ByteArray), a0.size ≤ 140737488351232 → ∃ k, chartularylaw05_PaperWords.f k a0 = some true
theorem chartularylaw05_PaperWords.walk (P : chartularylaw05_PaperWords.Pure) (a0 : ByteArray) (w : World) (w0 : a0.size ≤ 140737488351232) :
    Calls Try.prog 3 #[.string a0] w fun e w' => e = .returned (.bool true) ∧ Below w.heap.size w w' := by
  obtain ⟨k, h⟩ := P a0 w0
  refine (chartularylaw05_PaperWords.calls k a0 true w h).mono ?_
  rintro e w' ⟨rfl, hd⟩
  exact ⟨rfl, hd⟩


end

end Go.Proofs.Ytabdmnoejoiboaa.PAll
