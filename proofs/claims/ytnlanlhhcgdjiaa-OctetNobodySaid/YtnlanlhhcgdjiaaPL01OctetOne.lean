-- Laid by programs of this session (myprint.py, post.py) out of the translation.
import Derived.Test.YtnlanlhhcgdjiaaPBase
import Derived.Test.YtnlanlhhcgdjiaaPH01
import Derived.Test.YtnlanlhhcgdjiaaPOctet
import Derived.Test.YtnlanlhhcgdjiaaPSt
namespace Go.Proofs.Ytnlanlhhcgdjiaa.PAll
open Go.RowKit Go.Proofs.YtnlanlhhcgdjiaaW.PrintWords Go.Proofs.YtnlanlhhcgdjiaaW.PrintLast Go.Proofs.YtnlanlhhcgdjiaaW.PrintMore
attribute [local go_sem] max2_int min2_int max_two min_two max_three min_three max_four min_four   -- for this text's walks alone
set_option linter.unusedVariables false
set_option linter.unusedSimpArgs false
section
/-! ### chartularylaw01_OctetOne: function 5 -/
def chartularylaw01_OctetOne.j0 : Nat → ByteArray → Bool → Option (Bool)
  | 0, _, _ => none
  | k + 1, x0, x1 => (octet_Read.f x0).bind fun bt227 => (if x1 = true then ((octet_Reader_Text.f k bt227.1 bt227.2.1 bt227.2.2 1000).bind fun bt231 => ((octet_Reader_End.f bt231.2.1 bt231.2.2.1 bt231.2.2.2).bind fun bt235 => (if bt235.1 = 0 then ((octet_Text.f k bt231.1).bind fun t239 => (if t239.toList = x0.toList then ((chartularylaw01_awake.f k).bind fun t240 => (some t240)) else (some false))) else ((chartularylaw01_awake.f k).bind fun t241 => (some t241))))) else ((octet_Reader_Num.f k bt227.1 bt227.2.1 bt227.2.2 72057594037927935).bind fun bt242 => ((octet_Reader_End.f bt242.2.1 bt242.2.2.1 bt242.2.2.2).bind fun bt246 => (if bt246.1 = 0 then ((octet_Num.f k bt242.1).bind fun t250 => (if t250.toList = x0.toList then ((chartularylaw01_awake.f k).bind fun t251 => (some t251)) else (some false))) else ((chartularylaw01_awake.f k).bind fun t252 => (some t252))))))
def chartularylaw01_OctetOne.f (k : Nat) (a0 : ByteArray) (a1 : Bool) : Option (Bool) := if (a0.size : Int) > 1000 then (if 0 ≤ 1000 then (if 1000 ≤ (a0.size : Int) then (chartularylaw01_OctetOne.j0 k (a0.extract 0 1000) a1) else (none)) else (none)) else (chartularylaw01_OctetOne.j0 k a0 a1)
theorem chartularylaw01_OctetOne.mono_l : ∀ k, (∀ y0 y1, LeO (chartularylaw01_OctetOne.j0 k y0 y1) (chartularylaw01_OctetOne.j0 (k + 1) y0 y1))
  | 0 => fun _ _ r h => by simp [chartularylaw01_OctetOne.j0] at h
  | k + 1 => by
    have ih0 := chartularylaw01_OctetOne.mono_l k
    · intro y0 y1
      unfold chartularylaw01_OctetOne.j0
      repeat' first
      | (with_reducible exact ih0 _ _)
      | (with_reducible exact chartularylaw01_awake.mono _)
      | (with_reducible exact octet_Num.mono _ _)
      | (with_reducible exact octet_Reader_Num.mono _ _ _ _ _)
      | (with_reducible exact octet_Reader_Text.mono _ _ _ _ _)
      | (with_reducible exact octet_Text.mono _ _)
      | (with_reducible exact LeO.refl _)
      | (with_reducible exact LeO.none _)
      | (with_reducible refine LeO.ite ?_ ?_)
      | (with_reducible refine LeO.bind ?_ (fun _ => ?_))
      | exact ih0 _ _
      | exact chartularylaw01_awake.mono _
      | exact octet_Num.mono _ _
      | exact octet_Reader_Num.mono _ _ _ _ _
      | exact octet_Reader_Text.mono _ _ _ _ _
      | exact octet_Text.mono _ _
      | exact LeO.none _
      | refine LeO.ite ?_ ?_
      | refine LeO.bind ?_ (fun _ => ?_)
theorem chartularylaw01_OctetOne.mono : ∀ a0 a1 k, LeO (chartularylaw01_OctetOne.f k a0 a1) (chartularylaw01_OctetOne.f (k + 1) a0 a1) := by
  intro a0 a1 k
  have ih0 := chartularylaw01_OctetOne.mono_l k
  unfold chartularylaw01_OctetOne.f
  repeat' first
      | (with_reducible exact ih0 _ _)
      | (with_reducible exact chartularylaw01_awake.mono _)
      | (with_reducible exact octet_Num.mono _ _)
      | (with_reducible exact octet_Reader_Num.mono _ _ _ _ _)
      | (with_reducible exact octet_Reader_Text.mono _ _ _ _ _)
      | (with_reducible exact octet_Text.mono _ _)
      | (with_reducible exact LeO.refl _)
      | (with_reducible exact LeO.none _)
      | (with_reducible refine LeO.ite ?_ ?_)
      | (with_reducible refine LeO.bind ?_ (fun _ => ?_))
      | exact ih0 _ _
      | exact chartularylaw01_awake.mono _
      | exact octet_Num.mono _ _
      | exact octet_Reader_Num.mono _ _ _ _ _
      | exact octet_Reader_Text.mono _ _ _ _ _
      | exact octet_Text.mono _ _
      | exact LeO.none _
      | refine LeO.ite ?_ ?_
      | refine LeO.bind ?_ (fun _ => ?_)
theorem Zchartularylaw01_OctetOne.z0 {P_ : Prop} (h_ : P_ := by (try simp only [List.map_toArray, List.map_cons, List.map_nil]); first | done | rfl | (simp only [List.length_drop, List.length_take]; rfl)) : P_ := h_
theorem Zchartularylaw01_OctetOne.z1 {P_ : Prop} (h_ : P_ := by repeat (first | (with_reducible first | exact HI230.out | apply IsS64.alloc | apply IsS64.drewN | apply IsS64.drew | apply IsS64.set_0 | apply IsS64.set_1 | apply IsS64.set_2) | exact HI230.out)) : P_ := h_
theorem Zchartularylaw01_OctetOne.z2 {P_ : Prop} (h_ : P_ := by first | rfl | (simp [errW_none, errW_some] <;> rfl) | (simp [*, errW_none, errW_some] <;> rfl)) : P_ := h_
theorem Zchartularylaw01_OctetOne.z3 {P_ : Prop} (h_ : P_ := by repeat (first | (with_reducible first | exact HB.out | apply below_alloc | apply pw_below_drewN | apply below_drew1) | exact HB.out)) : P_ := h_
set_option maxHeartbeats 8000000 in
set_option maxRecDepth 100000 in
theorem chartularylaw01_OctetOne.calls (k : Nat) (a0 : ByteArray) (a1 : Bool) (r : Bool) (w : World) (h : chartularylaw01_OctetOne.f k a0 a1 = some r) :
    Calls Try.prog 5 #[.string a0, .bool a1] w fun e w' => e = .returned (.bool r) ∧ Below w.heap.size w w' := by
  have HB := Aside0.mk (Below.refl w.heap.size w)
  have H : (if (a0.size : Int) > 1000 then (if 0 ≤ 1000 then (if 1000 ≤ (a0.size : Int) then (chartularylaw01_OctetOne.j0 k (a0.extract 0 1000) a1) else (none)) else (none)) else (chartularylaw01_OctetOne.j0 k a0 a1)) = some r := h
  clear h
  have HC3 := Aside0.mk H
  clear H
  go_enter Try.func5, Try.ntmps5
  go_upto_if 10 with (fail)
  go_cut [0] (fun v0 wc => ∃ (kq : Nat) (x0_2 : ByteArray), v0 = .string x0_2 ∧ Aside0 (chartularylaw01_OctetOne.j0 kq x0_2 a1 = some r) ∧ Aside0 (kq ≤ k) ∧ Aside0 (Below w.heap.size w wc))
  case first =>
    have H := HC3.out
    clear HC3
    by_cases c4 : (a0.size : Int) > 1000
    · rw [if_pos c4] at H
      have c4b0 : decide (1000 < (a0.size : Int)) = true := decide_eq_true c4
      have c4b1 : decide (1000 < a0.size) = true := decide_eq_true (by omega)
      clear c4
      (first | rw [c4b0] | (simp only [i64_w, i32_w]; rw [c4b0]) | skip)
      by_cases c5 : 0 ≤ 1000
      · rw [if_pos c5] at H
        have c5b0 := eq_true c5
        have c5b1 : decide (0 ≤ 1000) = true := decide_eq_true c5
        clear c5
        by_cases c6 : 1000 ≤ (a0.size : Int)
        · rw [if_pos c6] at H
          have c6b0 := eq_true c6
          have c6b1 : decide (1000 ≤ (a0.size : Int)) = true := decide_eq_true c6
          clear c6
          have H' := Aside0.mk H
          clear H
          go_wp2
          go_meet
          case rel => exact ⟨_, (a0.extract 0 1000), (by first | rfl | (simp; done) | (simp [*]; done)), H', ⟨by first | omega | exact Nat.le_refl _⟩, ⟨Zchartularylaw01_OctetOne.z3⟩⟩
        · rw [if_neg c6] at H
          exact absurd H (by simp)
      · rw [if_neg c5] at H
        exact absurd H (by simp)
    · rw [if_neg c4] at H
      have c4b0 : decide (1000 < (a0.size : Int)) = false := decide_eq_false c4
      have c4b1 : decide (1000 < a0.size) = false := decide_eq_false (by omega)
      clear c4
      (first | rw [c4b0] | (simp only [i64_w, i32_w]; rw [c4b0]) | skip)
      have H' := Aside0.mk H
      clear H
      go_wp2
      go_meet
      case rel => exact ⟨_, (a0), (by first | rfl | (simp; done) | (simp [*]; done)), H', ⟨by first | omega | exact Nat.le_refl _⟩, ⟨Zchartularylaw01_OctetOne.z3⟩⟩
  case rest =>
    clear HC3
    try clear p2
    try clear c4
    try clear c4b0
    try clear c4b1
    try clear c5
    try clear c5b0
    try clear c5b1
    try clear c6
    try clear c6b0
    try clear c6b1
    obtain ⟨kq, x0_2, rfl, HA, HJ2, HB⟩ := hcut
    cases kq with
    | zero => exact absurd HA.out (by simp [chartularylaw01_OctetOne.j0])
    | succ kj2 =>
      have H := HA.out
      clear HA
      simp only [chartularylaw01_OctetOne.j0] at H
      replace H := Option.bind_eq_some_iff.mp H
      obtain ⟨⟨t227, t228, t229⟩, A70, H⟩ := H
      replace H : (if a1 = true then ((octet_Reader_Text.f kj2 t227 t228 t229 1000).bind fun bt231 => ((octet_Reader_End.f bt231.2.1 bt231.2.2.1 bt231.2.2.2).bind fun bt235 => (if bt235.1 = 0 then ((octet_Text.f kj2 bt231.1).bind fun t239 => (if t239.toList = x0_2.toList then ((chartularylaw01_awake.f kj2).bind fun t240 => (some t240)) else (some false))) else ((chartularylaw01_awake.f kj2).bind fun t241 => (some t241))))) else ((octet_Reader_Num.f kj2 t227 t228 t229 72057594037927935).bind fun bt242 => ((octet_Reader_End.f bt242.2.1 bt242.2.2.1 bt242.2.2.2).bind fun bt246 => (if bt246.1 = 0 then ((octet_Num.f kj2 bt242.1).bind fun t250 => (if t250.toList = x0_2.toList then ((chartularylaw01_awake.f kj2).bind fun t251 => (some t251)) else (some false))) else ((chartularylaw01_awake.f kj2).bind fun t252 => (some t252)))))) = some r := H
      have A7 := Aside0.mk A70
      clear A70
      by_cases c8 : a1 = true
      · subst c8
        have H1 : ((octet_Reader_Text.f kj2 t227 t228 t229 1000).bind fun bt231 => ((octet_Reader_End.f bt231.2.1 bt231.2.2.1 bt231.2.2.2).bind fun bt235 => (if bt235.1 = 0 then ((octet_Text.f kj2 bt231.1).bind fun t239 => (if t239.toList = x0_2.toList then ((chartularylaw01_awake.f kj2).bind fun t240 => (some t240)) else (some false))) else ((chartularylaw01_awake.f kj2).bind fun t241 => (some t241))))) = some r := by rw [if_pos rfl] at H; exact H
        clear H
        have H := H1
        clear H1
        replace H := Option.bind_eq_some_iff.mp H
        obtain ⟨⟨t231, t232, t233, t234⟩, A90, H⟩ := H
        replace H : ((octet_Reader_End.f t232 t233 t234).bind fun bt235 => (if bt235.1 = 0 then ((octet_Text.f kj2 t231).bind fun t239 => (if t239.toList = x0_2.toList then ((chartularylaw01_awake.f kj2).bind fun t240 => (some t240)) else (some false))) else ((chartularylaw01_awake.f kj2).bind fun t241 => (some t241)))) = some r := H
        have A9 := Aside0.mk A90
        clear A90
        replace H := Option.bind_eq_some_iff.mp H
        obtain ⟨⟨t235, t236, t237, t238⟩, A100, H⟩ := H
        replace H : (if t235 = 0 then ((octet_Text.f kj2 t231).bind fun t239 => (if t239.toList = x0_2.toList then ((chartularylaw01_awake.f kj2).bind fun t240 => (some t240)) else (some false))) else ((chartularylaw01_awake.f kj2).bind fun t241 => (some t241))) = some r := H
        have A10 := Aside0.mk A100
        clear A100
        by_cases c11 : t235 = 0
        · rw [if_pos c11] at H
          have c11b0 : (t235 == 0) = true := beq_iff_eq.mpr c11
          have c11b1 : (t235 != 0) = false := bne_eq_false_iff_eq.mpr c11
          clear c11
          replace H := Option.bind_eq_some_iff.mp H
          obtain ⟨t239, A120, H⟩ := H
          replace H : (if t239.toList = x0_2.toList then ((chartularylaw01_awake.f kj2).bind fun t240 => (some t240)) else (some false)) = some r := H
          have A12 := Aside0.mk A120
          clear A120
          by_cases c13 : t239.toList = x0_2.toList
          · rw [if_pos c13] at H
            have c13b0 : (t239.toList == x0_2.toList) = true := beq_iff_eq.mpr c13
            have c13b1 : (t239.toList != x0_2.toList) = false := bne_eq_false_iff_eq.mpr c13
            clear c13
            replace H := Option.bind_eq_some_iff.mp H
            obtain ⟨t240, A140, H⟩ := H
            replace H : (some t240) = some r := H
            have A14 := Aside0.mk A140
            clear A140
            obtain rfl := Option.some.inj H
            go_wp2_with (first | ((with_reducible refine gate_callee (f := 16) rfl ?_); refine goesL_ (some 14) rfl rfl Try.func16 (by kernel_rfl) rfl #[.string x0_2] rfl (Zchartularylaw01_OctetOne.z0) ?_; (with_reducible refine (octet_Read.calls x0_2 t227 t228 t229 w _ ?side1 A7.out).mono ?_); (case side1 => repeat (first | (with_reducible first | exact HB.out | apply below_alloc | apply pw_below_drewN | apply below_drew1) | exact HB.out)); rintro e w15 ⟨g230, rfl, hi, hb, hb2⟩; refine ⟨_, rfl, ?_⟩; have n0_ := Aside0.mk (hb); have n1_ := Aside0.mk (hi); clear HB; have HB := n0_; have HI230 := n1_; clear n0_ n1_; (try clear hb); (try clear hb2); (try clear hk); (try clear hi)) | ((with_reducible refine gate_callee (f := 17) rfl ?_); refine goesL_ (some 17) rfl rfl Try.func17 (by kernel_rfl) rfl #[.pointer (some ⟨g230, 0, none⟩), .int .i64 1000] rfl (Zchartularylaw01_OctetOne.z0) ?_; (with_reducible refine (octet_Reader_Text.calls kj2 g230 t227 t228 t229 1000 t231 t232 t233 t234 w _ ?side1 ?side2 A9.out).mono ?_); (case side1 => repeat (first | (with_reducible first | exact HI230.out | apply IsS64.alloc | apply IsS64.drewN | apply IsS64.drew | apply IsS64.set_0 | apply IsS64.set_1 | apply IsS64.set_2) | exact HI230.out)); (case side2 => repeat (first | (with_reducible first | exact HB.out | apply below_alloc | apply pw_below_drewN | apply below_drew1 | refine below_set ?_ (IsS64.ge HI230.out)) | exact HB.out)); rintro e w16 ⟨rfl, hi, hb, hk⟩; refine ⟨_, rfl, ?_⟩; have n0_ := Aside0.mk (hb); have n1_ := Aside0.mk (hi); clear HB; clear HI230; have HB := n0_; have HI230 := n1_; clear n0_ n1_; (try clear hb); (try clear hb2); (try clear hk); (try clear hi)) | ((with_reducible refine gate_callee (f := 18) rfl ?_); refine goesL_ (some 19) rfl rfl Try.func18 (by kernel_rfl) rfl #[.pointer (some ⟨g230, 0, none⟩)] rfl (Zchartularylaw01_OctetOne.z0) ?_; (with_reducible refine (octet_Reader_End.calls g230 t232 t233 t234 t235 t236 t237 t238 w _ ?side1 ?side2 A10.out).mono ?_); (case side1 => repeat (first | (with_reducible first | exact HI230.out | apply IsS64.alloc | apply IsS64.drewN | apply IsS64.drew | apply IsS64.set_0 | apply IsS64.set_1 | apply IsS64.set_2) | exact HI230.out)); (case side2 => repeat (first | (with_reducible first | exact HB.out | apply below_alloc | apply pw_below_drewN | apply below_drew1 | refine below_set ?_ (IsS64.ge HI230.out)) | exact HB.out)); rintro e w17 ⟨rfl, hi, hb, hk⟩; refine ⟨_, rfl, ?_⟩; have n0_ := Aside0.mk (hb); have n1_ := Aside0.mk (hi); clear HB; clear HI230; have HB := n0_; have HI230 := n1_; clear n0_ n1_; (try clear hb); (try clear hb2); (try clear hk); (try clear hi)) | (go_at_call 11; (with_reducible refine (octet_Text.calls kj2 t231 t239 _ A12.out).mono ?_); rintro e w18 ⟨rfl, hb⟩; have n0_ := Aside0.mk (IsS64.below (Zchartularylaw01_OctetOne.z1) hb); have n1_ := Aside0.mk (below_step (by repeat (first | (with_reducible first | exact HB.out | apply below_alloc | apply pw_below_drewN | apply below_drew1 | refine below_set ?_ (IsS64.ge HI230.out)) | exact HB.out)) hb); clear HI230; clear HB; have HI230 := n0_; have HB := n1_; clear n0_ n1_; (try clear hb); (try clear hb2); (try clear hk); (try clear hi)) | (go_at_call 12; (with_reducible refine (chartularylaw01_awake.calls kj2  t240 _ A14.out).mono ?_); rintro e w19 ⟨rfl, hb⟩; have n0_ := Aside0.mk (IsS64.below (Zchartularylaw01_OctetOne.z1) hb); have n1_ := Aside0.mk (below_step (by repeat (first | (with_reducible first | exact HB.out | apply below_alloc | apply pw_below_drewN | apply below_drew1 | refine below_set ?_ (IsS64.ge HI230.out)) | exact HB.out)) hb); clear HI230; clear HB; have HI230 := n0_; have HB := n1_; clear n0_ n1_; (try clear hb); (try clear hb2); (try clear hk); (try clear hi)))
            go_ret
            exact ⟨Zchartularylaw01_OctetOne.z2, by repeat (first | (with_reducible first | exact HB.out | apply below_alloc | apply pw_below_drewN | apply below_drew1 | refine below_set ?_ (IsS64.ge HI230.out)) | exact HB.out)⟩
          · rw [if_neg c13] at H
            have c13b0 : (t239.toList == x0_2.toList) = false := beq_eq_false_iff_ne.mpr c13
            have c13b1 : (t239.toList != x0_2.toList) = true := bne_iff_ne.mpr c13
            obtain rfl := Option.some.inj H
            go_wp2_with (first | ((with_reducible refine gate_callee (f := 16) rfl ?_); refine goesL_ (some 14) rfl rfl Try.func16 (by kernel_rfl) rfl #[.string x0_2] rfl (Zchartularylaw01_OctetOne.z0) ?_; (with_reducible refine (octet_Read.calls x0_2 t227 t228 t229 w _ ?side1 A7.out).mono ?_); (case side1 => repeat (first | (with_reducible first | exact HB.out | apply below_alloc | apply pw_below_drewN | apply below_drew1) | exact HB.out)); rintro e w20 ⟨g230, rfl, hi, hb, hb2⟩; refine ⟨_, rfl, ?_⟩; have n0_ := Aside0.mk (hb); have n1_ := Aside0.mk (hi); clear HB; have HB := n0_; have HI230 := n1_; clear n0_ n1_; (try clear hb); (try clear hb2); (try clear hk); (try clear hi)) | ((with_reducible refine gate_callee (f := 17) rfl ?_); refine goesL_ (some 17) rfl rfl Try.func17 (by kernel_rfl) rfl #[.pointer (some ⟨g230, 0, none⟩), .int .i64 1000] rfl (Zchartularylaw01_OctetOne.z0) ?_; (with_reducible refine (octet_Reader_Text.calls kj2 g230 t227 t228 t229 1000 t231 t232 t233 t234 w _ ?side1 ?side2 A9.out).mono ?_); (case side1 => repeat (first | (with_reducible first | exact HI230.out | apply IsS64.alloc | apply IsS64.drewN | apply IsS64.drew | apply IsS64.set_0 | apply IsS64.set_1 | apply IsS64.set_2) | exact HI230.out)); (case side2 => repeat (first | (with_reducible first | exact HB.out | apply below_alloc | apply pw_below_drewN | apply below_drew1 | refine below_set ?_ (IsS64.ge HI230.out)) | exact HB.out)); rintro e w21 ⟨rfl, hi, hb, hk⟩; refine ⟨_, rfl, ?_⟩; have n0_ := Aside0.mk (hb); have n1_ := Aside0.mk (hi); clear HB; clear HI230; have HB := n0_; have HI230 := n1_; clear n0_ n1_; (try clear hb); (try clear hb2); (try clear hk); (try clear hi)) | ((with_reducible refine gate_callee (f := 18) rfl ?_); refine goesL_ (some 19) rfl rfl Try.func18 (by kernel_rfl) rfl #[.pointer (some ⟨g230, 0, none⟩)] rfl (Zchartularylaw01_OctetOne.z0) ?_; (with_reducible refine (octet_Reader_End.calls g230 t232 t233 t234 t235 t236 t237 t238 w _ ?side1 ?side2 A10.out).mono ?_); (case side1 => repeat (first | (with_reducible first | exact HI230.out | apply IsS64.alloc | apply IsS64.drewN | apply IsS64.drew | apply IsS64.set_0 | apply IsS64.set_1 | apply IsS64.set_2) | exact HI230.out)); (case side2 => repeat (first | (with_reducible first | exact HB.out | apply below_alloc | apply pw_below_drewN | apply below_drew1 | refine below_set ?_ (IsS64.ge HI230.out)) | exact HB.out)); rintro e w22 ⟨rfl, hi, hb, hk⟩; refine ⟨_, rfl, ?_⟩; have n0_ := Aside0.mk (hb); have n1_ := Aside0.mk (hi); clear HB; clear HI230; have HB := n0_; have HI230 := n1_; clear n0_ n1_; (try clear hb); (try clear hb2); (try clear hk); (try clear hi)) | (go_at_call 11; (with_reducible refine (octet_Text.calls kj2 t231 t239 _ A12.out).mono ?_); rintro e w23 ⟨rfl, hb⟩; have n0_ := Aside0.mk (IsS64.below (Zchartularylaw01_OctetOne.z1) hb); have n1_ := Aside0.mk (below_step (by repeat (first | (with_reducible first | exact HB.out | apply below_alloc | apply pw_below_drewN | apply below_drew1 | refine below_set ?_ (IsS64.ge HI230.out)) | exact HB.out)) hb); clear HI230; clear HB; have HI230 := n0_; have HB := n1_; clear n0_ n1_; (try clear hb); (try clear hb2); (try clear hk); (try clear hi)))
            go_ret
            exact ⟨Zchartularylaw01_OctetOne.z2, by repeat (first | (with_reducible first | exact HB.out | apply below_alloc | apply pw_below_drewN | apply below_drew1 | refine below_set ?_ (IsS64.ge HI230.out)) | exact HB.out)⟩
        · rw [if_neg c11] at H
          have c11b0 : (t235 == 0) = false := beq_eq_false_iff_ne.mpr c11
          have c11b1 : (t235 != 0) = true := bne_iff_ne.mpr c11
          replace H := Option.bind_eq_some_iff.mp H
          obtain ⟨t241, A240, H⟩ := H
          replace H : (some t241) = some r := H
          have A24 := Aside0.mk A240
          clear A240
          obtain rfl := Option.some.inj H
          go_wp2_with (first | ((with_reducible refine gate_callee (f := 16) rfl ?_); refine goesL_ (some 14) rfl rfl Try.func16 (by kernel_rfl) rfl #[.string x0_2] rfl (Zchartularylaw01_OctetOne.z0) ?_; (with_reducible refine (octet_Read.calls x0_2 t227 t228 t229 w _ ?side1 A7.out).mono ?_); (case side1 => repeat (first | (with_reducible first | exact HB.out | apply below_alloc | apply pw_below_drewN | apply below_drew1) | exact HB.out)); rintro e w25 ⟨g230, rfl, hi, hb, hb2⟩; refine ⟨_, rfl, ?_⟩; have n0_ := Aside0.mk (hb); have n1_ := Aside0.mk (hi); clear HB; have HB := n0_; have HI230 := n1_; clear n0_ n1_; (try clear hb); (try clear hb2); (try clear hk); (try clear hi)) | ((with_reducible refine gate_callee (f := 17) rfl ?_); refine goesL_ (some 17) rfl rfl Try.func17 (by kernel_rfl) rfl #[.pointer (some ⟨g230, 0, none⟩), .int .i64 1000] rfl (Zchartularylaw01_OctetOne.z0) ?_; (with_reducible refine (octet_Reader_Text.calls kj2 g230 t227 t228 t229 1000 t231 t232 t233 t234 w _ ?side1 ?side2 A9.out).mono ?_); (case side1 => repeat (first | (with_reducible first | exact HI230.out | apply IsS64.alloc | apply IsS64.drewN | apply IsS64.drew | apply IsS64.set_0 | apply IsS64.set_1 | apply IsS64.set_2) | exact HI230.out)); (case side2 => repeat (first | (with_reducible first | exact HB.out | apply below_alloc | apply pw_below_drewN | apply below_drew1 | refine below_set ?_ (IsS64.ge HI230.out)) | exact HB.out)); rintro e w26 ⟨rfl, hi, hb, hk⟩; refine ⟨_, rfl, ?_⟩; have n0_ := Aside0.mk (hb); have n1_ := Aside0.mk (hi); clear HB; clear HI230; have HB := n0_; have HI230 := n1_; clear n0_ n1_; (try clear hb); (try clear hb2); (try clear hk); (try clear hi)) | ((with_reducible refine gate_callee (f := 18) rfl ?_); refine goesL_ (some 19) rfl rfl Try.func18 (by kernel_rfl) rfl #[.pointer (some ⟨g230, 0, none⟩)] rfl (Zchartularylaw01_OctetOne.z0) ?_; (with_reducible refine (octet_Reader_End.calls g230 t232 t233 t234 t235 t236 t237 t238 w _ ?side1 ?side2 A10.out).mono ?_); (case side1 => repeat (first | (with_reducible first | exact HI230.out | apply IsS64.alloc | apply IsS64.drewN | apply IsS64.drew | apply IsS64.set_0 | apply IsS64.set_1 | apply IsS64.set_2) | exact HI230.out)); (case side2 => repeat (first | (with_reducible first | exact HB.out | apply below_alloc | apply pw_below_drewN | apply below_drew1 | refine below_set ?_ (IsS64.ge HI230.out)) | exact HB.out)); rintro e w27 ⟨rfl, hi, hb, hk⟩; refine ⟨_, rfl, ?_⟩; have n0_ := Aside0.mk (hb); have n1_ := Aside0.mk (hi); clear HB; clear HI230; have HB := n0_; have HI230 := n1_; clear n0_ n1_; (try clear hb); (try clear hb2); (try clear hk); (try clear hi)) | (go_at_call 12; (with_reducible refine (chartularylaw01_awake.calls kj2  t241 _ A24.out).mono ?_); rintro e w28 ⟨rfl, hb⟩; have n0_ := Aside0.mk (IsS64.below (Zchartularylaw01_OctetOne.z1) hb); have n1_ := Aside0.mk (below_step (by repeat (first | (with_reducible first | exact HB.out | apply below_alloc | apply pw_below_drewN | apply below_drew1 | refine below_set ?_ (IsS64.ge HI230.out)) | exact HB.out)) hb); clear HI230; clear HB; have HI230 := n0_; have HB := n1_; clear n0_ n1_; (try clear hb); (try clear hb2); (try clear hk); (try clear hi)))
          go_ret
          exact ⟨Zchartularylaw01_OctetOne.z2, by repeat (first | (with_reducible first | exact HB.out | apply below_alloc | apply pw_below_drewN | apply below_drew1 | refine below_set ?_ (IsS64.ge HI230.out)) | exact HB.out)⟩
      · replace c8 := Bool.eq_false_iff.mpr c8
        subst c8
        have H1 : ((octet_Reader_Num.f kj2 t227 t228 t229 72057594037927935).bind fun bt242 => ((octet_Reader_End.f bt242.2.1 bt242.2.2.1 bt242.2.2.2).bind fun bt246 => (if bt246.1 = 0 then ((octet_Num.f kj2 bt242.1).bind fun t250 => (if t250.toList = x0_2.toList then ((chartularylaw01_awake.f kj2).bind fun t251 => (some t251)) else (some false))) else ((chartularylaw01_awake.f kj2).bind fun t252 => (some t252))))) = some r := by rw [if_neg (show ¬ (false = true) by decide)] at H; exact H
        clear H
        have H := H1
        clear H1
        replace H := Option.bind_eq_some_iff.mp H
        obtain ⟨⟨t242, t243, t244, t245⟩, A290, H⟩ := H
        replace H : ((octet_Reader_End.f t243 t244 t245).bind fun bt246 => (if bt246.1 = 0 then ((octet_Num.f kj2 t242).bind fun t250 => (if t250.toList = x0_2.toList then ((chartularylaw01_awake.f kj2).bind fun t251 => (some t251)) else (some false))) else ((chartularylaw01_awake.f kj2).bind fun t252 => (some t252)))) = some r := H
        have A29 := Aside0.mk A290
        clear A290
        replace H := Option.bind_eq_some_iff.mp H
        obtain ⟨⟨t246, t247, t248, t249⟩, A300, H⟩ := H
        replace H : (if t246 = 0 then ((octet_Num.f kj2 t242).bind fun t250 => (if t250.toList = x0_2.toList then ((chartularylaw01_awake.f kj2).bind fun t251 => (some t251)) else (some false))) else ((chartularylaw01_awake.f kj2).bind fun t252 => (some t252))) = some r := H
        have A30 := Aside0.mk A300
        clear A300
        by_cases c31 : t246 = 0
        · rw [if_pos c31] at H
          have c31b0 : (t246 == 0) = true := beq_iff_eq.mpr c31
          have c31b1 : (t246 != 0) = false := bne_eq_false_iff_eq.mpr c31
          clear c31
          replace H := Option.bind_eq_some_iff.mp H
          obtain ⟨t250, A320, H⟩ := H
          replace H : (if t250.toList = x0_2.toList then ((chartularylaw01_awake.f kj2).bind fun t251 => (some t251)) else (some false)) = some r := H
          have A32 := Aside0.mk A320
          clear A320
          by_cases c33 : t250.toList = x0_2.toList
          · rw [if_pos c33] at H
            have c33b0 : (t250.toList == x0_2.toList) = true := beq_iff_eq.mpr c33
            have c33b1 : (t250.toList != x0_2.toList) = false := bne_eq_false_iff_eq.mpr c33
            clear c33
            replace H := Option.bind_eq_some_iff.mp H
            obtain ⟨t251, A340, H⟩ := H
            replace H : (some t251) = some r := H
            have A34 := Aside0.mk A340
            clear A340
            obtain rfl := Option.some.inj H
            go_wp2_with (first | ((with_reducible refine gate_callee (f := 16) rfl ?_); refine goesL_ (some 14) rfl rfl Try.func16 (by kernel_rfl) rfl #[.string x0_2] rfl (Zchartularylaw01_OctetOne.z0) ?_; (with_reducible refine (octet_Read.calls x0_2 t227 t228 t229 w _ ?side1 A7.out).mono ?_); (case side1 => repeat (first | (with_reducible first | exact HB.out | apply below_alloc | apply pw_below_drewN | apply below_drew1) | exact HB.out)); rintro e w35 ⟨g230, rfl, hi, hb, hb2⟩; refine ⟨_, rfl, ?_⟩; have n0_ := Aside0.mk (hb); have n1_ := Aside0.mk (hi); clear HB; have HB := n0_; have HI230 := n1_; clear n0_ n1_; (try clear hb); (try clear hb2); (try clear hk); (try clear hi)) | ((with_reducible refine gate_callee (f := 19) rfl ?_); refine goesL_ (some 31) rfl rfl Try.func19 (by kernel_rfl) rfl #[.pointer (some ⟨g230, 0, none⟩), .int .i64 72057594037927935] rfl (Zchartularylaw01_OctetOne.z0) ?_; (with_reducible refine (octet_Reader_Num.calls kj2 g230 t227 t228 t229 72057594037927935 t242 t243 t244 t245 w _ ?side1 ?side2 A29.out).mono ?_); (case side1 => repeat (first | (with_reducible first | exact HI230.out | apply IsS64.alloc | apply IsS64.drewN | apply IsS64.drew | apply IsS64.set_0 | apply IsS64.set_1 | apply IsS64.set_2) | exact HI230.out)); (case side2 => repeat (first | (with_reducible first | exact HB.out | apply below_alloc | apply pw_below_drewN | apply below_drew1 | refine below_set ?_ (IsS64.ge HI230.out)) | exact HB.out)); rintro e w36 ⟨rfl, hi, hb, hk⟩; refine ⟨_, rfl, ?_⟩; have n0_ := Aside0.mk (hb); have n1_ := Aside0.mk (hi); clear HB; clear HI230; have HB := n0_; have HI230 := n1_; clear n0_ n1_; (try clear hb); (try clear hb2); (try clear hk); (try clear hi)) | ((with_reducible refine gate_callee (f := 18) rfl ?_); refine goesL_ (some 33) rfl rfl Try.func18 (by kernel_rfl) rfl #[.pointer (some ⟨g230, 0, none⟩)] rfl (Zchartularylaw01_OctetOne.z0) ?_; (with_reducible refine (octet_Reader_End.calls g230 t243 t244 t245 t246 t247 t248 t249 w _ ?side1 ?side2 A30.out).mono ?_); (case side1 => repeat (first | (with_reducible first | exact HI230.out | apply IsS64.alloc | apply IsS64.drewN | apply IsS64.drew | apply IsS64.set_0 | apply IsS64.set_1 | apply IsS64.set_2) | exact HI230.out)); (case side2 => repeat (first | (with_reducible first | exact HB.out | apply below_alloc | apply pw_below_drewN | apply below_drew1 | refine below_set ?_ (IsS64.ge HI230.out)) | exact HB.out)); rintro e w37 ⟨rfl, hi, hb, hk⟩; refine ⟨_, rfl, ?_⟩; have n0_ := Aside0.mk (hb); have n1_ := Aside0.mk (hi); clear HB; clear HI230; have HB := n0_; have HI230 := n1_; clear n0_ n1_; (try clear hb); (try clear hb2); (try clear hk); (try clear hi)) | (go_at_call 9; (with_reducible refine (octet_Num.calls kj2 t242 t250 _ A32.out).mono ?_); rintro e w38 ⟨rfl, hb⟩; have n0_ := Aside0.mk (IsS64.below (Zchartularylaw01_OctetOne.z1) hb); have n1_ := Aside0.mk (below_step (by repeat (first | (with_reducible first | exact HB.out | apply below_alloc | apply pw_below_drewN | apply below_drew1 | refine below_set ?_ (IsS64.ge HI230.out)) | exact HB.out)) hb); clear HI230; clear HB; have HI230 := n0_; have HB := n1_; clear n0_ n1_; (try clear hb); (try clear hb2); (try clear hk); (try clear hi)) | (go_at_call 12; (with_reducible refine (chartularylaw01_awake.calls kj2  t251 _ A34.out).mono ?_); rintro e w39 ⟨rfl, hb⟩; have n0_ := Aside0.mk (IsS64.below (Zchartularylaw01_OctetOne.z1) hb); have n1_ := Aside0.mk (below_step (by repeat (first | (with_reducible first | exact HB.out | apply below_alloc | apply pw_below_drewN | apply below_drew1 | refine below_set ?_ (IsS64.ge HI230.out)) | exact HB.out)) hb); clear HI230; clear HB; have HI230 := n0_; have HB := n1_; clear n0_ n1_; (try clear hb); (try clear hb2); (try clear hk); (try clear hi)))
            go_ret
            exact ⟨Zchartularylaw01_OctetOne.z2, by repeat (first | (with_reducible first | exact HB.out | apply below_alloc | apply pw_below_drewN | apply below_drew1 | refine below_set ?_ (IsS64.ge HI230.out)) | exact HB.out)⟩
          · rw [if_neg c33] at H
            have c33b0 : (t250.toList == x0_2.toList) = false := beq_eq_false_iff_ne.mpr c33
            have c33b1 : (t250.toList != x0_2.toList) = true := bne_iff_ne.mpr c33
            obtain rfl := Option.some.inj H
            go_wp2_with (first | ((with_reducible refine gate_callee (f := 16) rfl ?_); refine goesL_ (some 14) rfl rfl Try.func16 (by kernel_rfl) rfl #[.string x0_2] rfl (Zchartularylaw01_OctetOne.z0) ?_; (with_reducible refine (octet_Read.calls x0_2 t227 t228 t229 w _ ?side1 A7.out).mono ?_); (case side1 => repeat (first | (with_reducible first | exact HB.out | apply below_alloc | apply pw_below_drewN | apply below_drew1) | exact HB.out)); rintro e w40 ⟨g230, rfl, hi, hb, hb2⟩; refine ⟨_, rfl, ?_⟩; have n0_ := Aside0.mk (hb); have n1_ := Aside0.mk (hi); clear HB; have HB := n0_; have HI230 := n1_; clear n0_ n1_; (try clear hb); (try clear hb2); (try clear hk); (try clear hi)) | ((with_reducible refine gate_callee (f := 19) rfl ?_); refine goesL_ (some 31) rfl rfl Try.func19 (by kernel_rfl) rfl #[.pointer (some ⟨g230, 0, none⟩), .int .i64 72057594037927935] rfl (Zchartularylaw01_OctetOne.z0) ?_; (with_reducible refine (octet_Reader_Num.calls kj2 g230 t227 t228 t229 72057594037927935 t242 t243 t244 t245 w _ ?side1 ?side2 A29.out).mono ?_); (case side1 => repeat (first | (with_reducible first | exact HI230.out | apply IsS64.alloc | apply IsS64.drewN | apply IsS64.drew | apply IsS64.set_0 | apply IsS64.set_1 | apply IsS64.set_2) | exact HI230.out)); (case side2 => repeat (first | (with_reducible first | exact HB.out | apply below_alloc | apply pw_below_drewN | apply below_drew1 | refine below_set ?_ (IsS64.ge HI230.out)) | exact HB.out)); rintro e w41 ⟨rfl, hi, hb, hk⟩; refine ⟨_, rfl, ?_⟩; have n0_ := Aside0.mk (hb); have n1_ := Aside0.mk (hi); clear HB; clear HI230; have HB := n0_; have HI230 := n1_; clear n0_ n1_; (try clear hb); (try clear hb2); (try clear hk); (try clear hi)) | ((with_reducible refine gate_callee (f := 18) rfl ?_); refine goesL_ (some 33) rfl rfl Try.func18 (by kernel_rfl) rfl #[.pointer (some ⟨g230, 0, none⟩)] rfl (Zchartularylaw01_OctetOne.z0) ?_; (with_reducible refine (octet_Reader_End.calls g230 t243 t244 t245 t246 t247 t248 t249 w _ ?side1 ?side2 A30.out).mono ?_); (case side1 => repeat (first | (with_reducible first | exact HI230.out | apply IsS64.alloc | apply IsS64.drewN | apply IsS64.drew | apply IsS64.set_0 | apply IsS64.set_1 | apply IsS64.set_2) | exact HI230.out)); (case side2 => repeat (first | (with_reducible first | exact HB.out | apply below_alloc | apply pw_below_drewN | apply below_drew1 | refine below_set ?_ (IsS64.ge HI230.out)) | exact HB.out)); rintro e w42 ⟨rfl, hi, hb, hk⟩; refine ⟨_, rfl, ?_⟩; have n0_ := Aside0.mk (hb); have n1_ := Aside0.mk (hi); clear HB; clear HI230; have HB := n0_; have HI230 := n1_; clear n0_ n1_; (try clear hb); (try clear hb2); (try clear hk); (try clear hi)) | (go_at_call 9; (with_reducible refine (octet_Num.calls kj2 t242 t250 _ A32.out).mono ?_); rintro e w43 ⟨rfl, hb⟩; have n0_ := Aside0.mk (IsS64.below (Zchartularylaw01_OctetOne.z1) hb); have n1_ := Aside0.mk (below_step (by repeat (first | (with_reducible first | exact HB.out | apply below_alloc | apply pw_below_drewN | apply below_drew1 | refine below_set ?_ (IsS64.ge HI230.out)) | exact HB.out)) hb); clear HI230; clear HB; have HI230 := n0_; have HB := n1_; clear n0_ n1_; (try clear hb); (try clear hb2); (try clear hk); (try clear hi)))
            go_ret
            exact ⟨Zchartularylaw01_OctetOne.z2, by repeat (first | (with_reducible first | exact HB.out | apply below_alloc | apply pw_below_drewN | apply below_drew1 | refine below_set ?_ (IsS64.ge HI230.out)) | exact HB.out)⟩
        · rw [if_neg c31] at H
          have c31b0 : (t246 == 0) = false := beq_eq_false_iff_ne.mpr c31
          have c31b1 : (t246 != 0) = true := bne_iff_ne.mpr c31
          replace H := Option.bind_eq_some_iff.mp H
          obtain ⟨t252, A440, H⟩ := H
          replace H : (some t252) = some r := H
          have A44 := Aside0.mk A440
          clear A440
          obtain rfl := Option.some.inj H
          go_wp2_with (first | ((with_reducible refine gate_callee (f := 16) rfl ?_); refine goesL_ (some 14) rfl rfl Try.func16 (by kernel_rfl) rfl #[.string x0_2] rfl (Zchartularylaw01_OctetOne.z0) ?_; (with_reducible refine (octet_Read.calls x0_2 t227 t228 t229 w _ ?side1 A7.out).mono ?_); (case side1 => repeat (first | (with_reducible first | exact HB.out | apply below_alloc | apply pw_below_drewN | apply below_drew1) | exact HB.out)); rintro e w45 ⟨g230, rfl, hi, hb, hb2⟩; refine ⟨_, rfl, ?_⟩; have n0_ := Aside0.mk (hb); have n1_ := Aside0.mk (hi); clear HB; have HB := n0_; have HI230 := n1_; clear n0_ n1_; (try clear hb); (try clear hb2); (try clear hk); (try clear hi)) | ((with_reducible refine gate_callee (f := 19) rfl ?_); refine goesL_ (some 31) rfl rfl Try.func19 (by kernel_rfl) rfl #[.pointer (some ⟨g230, 0, none⟩), .int .i64 72057594037927935] rfl (Zchartularylaw01_OctetOne.z0) ?_; (with_reducible refine (octet_Reader_Num.calls kj2 g230 t227 t228 t229 72057594037927935 t242 t243 t244 t245 w _ ?side1 ?side2 A29.out).mono ?_); (case side1 => repeat (first | (with_reducible first | exact HI230.out | apply IsS64.alloc | apply IsS64.drewN | apply IsS64.drew | apply IsS64.set_0 | apply IsS64.set_1 | apply IsS64.set_2) | exact HI230.out)); (case side2 => repeat (first | (with_reducible first | exact HB.out | apply below_alloc | apply pw_below_drewN | apply below_drew1 | refine below_set ?_ (IsS64.ge HI230.out)) | exact HB.out)); rintro e w46 ⟨rfl, hi, hb, hk⟩; refine ⟨_, rfl, ?_⟩; have n0_ := Aside0.mk (hb); have n1_ := Aside0.mk (hi); clear HB; clear HI230; have HB := n0_; have HI230 := n1_; clear n0_ n1_; (try clear hb); (try clear hb2); (try clear hk); (try clear hi)) | ((with_reducible refine gate_callee (f := 18) rfl ?_); refine goesL_ (some 33) rfl rfl Try.func18 (by kernel_rfl) rfl #[.pointer (some ⟨g230, 0, none⟩)] rfl (Zchartularylaw01_OctetOne.z0) ?_; (with_reducible refine (octet_Reader_End.calls g230 t243 t244 t245 t246 t247 t248 t249 w _ ?side1 ?side2 A30.out).mono ?_); (case side1 => repeat (first | (with_reducible first | exact HI230.out | apply IsS64.alloc | apply IsS64.drewN | apply IsS64.drew | apply IsS64.set_0 | apply IsS64.set_1 | apply IsS64.set_2) | exact HI230.out)); (case side2 => repeat (first | (with_reducible first | exact HB.out | apply below_alloc | apply pw_below_drewN | apply below_drew1 | refine below_set ?_ (IsS64.ge HI230.out)) | exact HB.out)); rintro e w47 ⟨rfl, hi, hb, hk⟩; refine ⟨_, rfl, ?_⟩; have n0_ := Aside0.mk (hb); have n1_ := Aside0.mk (hi); clear HB; clear HI230; have HB := n0_; have HI230 := n1_; clear n0_ n1_; (try clear hb); (try clear hb2); (try clear hk); (try clear hi)) | (go_at_call 12; (with_reducible refine (chartularylaw01_awake.calls kj2  t252 _ A44.out).mono ?_); rintro e w48 ⟨rfl, hb⟩; have n0_ := Aside0.mk (IsS64.below (Zchartularylaw01_OctetOne.z1) hb); have n1_ := Aside0.mk (below_step (by repeat (first | (with_reducible first | exact HB.out | apply below_alloc | apply pw_below_drewN | apply below_drew1 | refine below_set ?_ (IsS64.ge HI230.out)) | exact HB.out)) hb); clear HI230; clear HB; have HI230 := n0_; have HB := n1_; clear n0_ n1_; (try clear hb); (try clear hb2); (try clear hk); (try clear hi)))
          go_ret
          exact ⟨Zchartularylaw01_OctetOne.z2, by repeat (first | (with_reducible first | exact HB.out | apply below_alloc | apply pw_below_drewN | apply below_drew1 | refine below_set ?_ (IsS64.ge HI230.out)) | exact HB.out)⟩

/-- THE ONE PURE STATEMENT of chartularylaw01_OctetOne: yours. -/
def chartularylaw01_OctetOne.Pure : Prop := ∀ (a0 : ByteArray) (a1 : Bool), a0.size ≤ 140737488351232 → ∃ k, chartularylaw01_OctetOne.f k a0 a1 = some true
theorem chartularylaw01_OctetOne.walk (P : chartularylaw01_OctetOne.Pure) (a0 : ByteArray) (a1 : Bool) (w : World) (w0 : a0.size ≤ 140737488351232) :
    Calls Try.prog 5 #[.string a0, .bool a1] w fun e w' => e = .returned (.bool true) ∧ Below w.heap.size w w' := by
  obtain ⟨k, h⟩ := P a0 a1 w0
  refine (chartularylaw01_OctetOne.calls k a0 a1 true w h).mono ?_
  rintro e w' ⟨rfl, hd⟩
  exact ⟨rfl, hd⟩


end

end Go.Proofs.Ytnlanlhhcgdjiaa.PAll
