/- Plain laws of chapter 4: which floats are equal as numbers, and which values are worth a whole number. -/
import Derived.Test.YtnedfkfelagmpaaESValueWorths
import Derived.Test.YtnedfkfelagmpaaP04y
import Derived.Test.YtnedfkfelagmpaaPAw04
namespace Go.Proofs.Ytnedfkfelagmpaa.Pure
open Go Go.Proofs.Ytnedfkfelagmpaa.E Go.Proofs.Ytnedfkfelagmpaa.Eng
set_option linter.unusedVariables false
set_option linter.unusedSimpArgs false

theorem wholeN_can (n : Nat) : wholeN (fcan n) = wholeN n := by
  unfold fcan
  cases h : fnan n with
  | false => rfl
  | true =>
    have h2 : 9218868437227405312 < rung n := by rw [fnan_eq, decide_eq_true_eq] at h; exact h
    show wholeN 9221120237041090561 = wholeN n
    rw [wholeN_no (a := n) (by omega), wholeN_no]
    rw [show rung 9221120237041090561 = 9221120237041090561 from rfl]; omega
/-- What is behind the floats' worth. -/
theorem tail_ok (x : Vlu) (hx : BOk x) : TP (fun k =>
    (value_Whole.f k (x.1, x.2.1, x.2.2.1, x.2.2.2.1, x.2.2.2.2.1, ())).bind fun r8 =>
    (chartularylaw04_right.f k (x.1, x.2.1, x.2.2.1, x.2.2.2.1, x.2.2.2.2.1, ())).bind fun r9 =>
    bif r9.1.1 then
      bif (x.1 : Int) == 2 then
        bif r8.1.2.1 then
          bif (r8.1.1 : Int) == x.2.2.1 then
            (chartularylaw04_awake.f k).bind fun r10 =>
            some ((r10.1.1, ()), (()))
          else
            some ((false, ()), (()))
        else
          some ((false, ()), (()))
      else
        (chartularylaw04_right.f k (x.1, x.2.1, x.2.2.1, x.2.2.2.1, x.2.2.2.2.1, ())).bind fun r11 =>
        bif !r11.1.1 then
          bif !r8.1.2.1 then
            bif (r8.1.1 : Int) == 0 then
              (chartularylaw04_awake.f k).bind fun r12 =>
              some ((r12.1.1, ()), (()))
            else
              some ((false, ()), (()))
          else
            some ((false, ()), (()))
        else
        bif (x.1 : Int) != 3 then
          bif !r8.1.2.1 then
            bif (r8.1.1 : Int) == 0 then
              (chartularylaw04_awake.f k).bind fun r13 =>
              some ((r13.1.1, ()), (()))
            else
              some ((false, ()), (()))
          else
            some ((false, ()), (()))
        else
          (chartularylaw04_worth.f k x.2.2.2.1).bind fun r14 =>
          bif r8.1.2.1 == r14.1.2.1 then
            bif (r8.1.1 : Int) == r14.1.1 then
              (chartularylaw04_awake.f k).bind fun r15 =>
              some ((r15.1.1, ()), (()))
            else
              some ((false, ()), (()))
          else
            some ((false, ()), (()))
    else
      (chartularylaw04_right.f k (x.1, x.2.1, x.2.2.1, x.2.2.2.1, x.2.2.2.2.1, ())).bind fun r16 =>
      bif !r16.1.1 then
        bif !r8.1.2.1 then
          bif (r8.1.1 : Int) == 0 then
            (chartularylaw04_awake.f k).bind fun r17 =>
            some ((r17.1.1, ()), (()))
          else
            some ((false, ()), (()))
        else
          some ((false, ()), (()))
      else
      bif (x.1 : Int) != 3 then
        bif !r8.1.2.1 then
          bif (r8.1.1 : Int) == 0 then
            (chartularylaw04_awake.f k).bind fun r18 =>
            some ((r18.1.1, ()), (()))
          else
            some ((false, ()), (()))
        else
          some ((false, ()), (()))
      else
        (chartularylaw04_worth.f k x.2.2.2.1).bind fun r19 =>
        bif r8.1.2.1 == r19.1.2.1 then
          bif (r8.1.1 : Int) == r19.1.1 then
            (chartularylaw04_awake.f k).bind fun r20 =>
            some ((r20.1.1, ()), (()))
          else
            some ((false, ()), (()))
        else
          some ((false, ()), (()))) (fun v => v.1.1 = true) := by
  have hw := whole_ok x hx
  have hr := lright_ok x hx
  have aw : TP (fun k => (chartularylaw04_awake.f k).bind fun r => some ((r.1.1, ()), ())) (fun v => v.1.1 = true) := awake_end (fun k => rfl)
  refine TP.bindR hw (TP.bindR hr (TP.cond (fun h1 => ?_) fun h1 => ?_))
  · have h1 : rightV x = true := h1
    refine TP.eqI (fun h2 => ?_) fun h2 => TP.bindR hr (TP.no (by rw [h1]; rfl) (TP.neI (fun h3 => ?_) fun h3 => ?_))
    · have e : wholeV x = (x.2.2.1, true) := by unfold wholeV; rw [h2, h1]; rfl
      exact TP.yes (by rw [e]) (TP.yes (by rw [e]; exact beq_self_eq_true _) aw)
    · have e : wholeV x = (0, false) := by
        unfold wholeV isF
        rw [show ((x.1 : Int) == 2) = false from beq_eq_false_iff_ne.2 h2, show ((x.1 : Int) == 3) = false from beq_eq_false_iff_ne.2 h3]; rfl
      exact TP.yes (by rw [e]; rfl) (TP.yes (by rw [e]; rfl) aw)
    · obtain ⟨n, hn, hlt⟩ := hx
      have e : wholeV x = wholeN n := by
        unfold wholeV isF
        rw [show ((x.1 : Int) == 2) = false from beq_eq_false_iff_ne.2 h2, show ((x.1 : Int) == 3) = true from by rw [h3]; rfl, h1, hn, Int.toNat_natCast, wholeN_can]; rfl
      refine TP.bindR (by rw [hn]; exact worth_ok n hlt) ?_
      exact TP.yes (by rw [e]; exact beq_self_eq_true _) (TP.yes (by rw [e]; exact beq_self_eq_true _) aw)
  · have h1 : rightV x = false := h1
    have e : wholeV x = (0, false) := by unfold wholeV isF; rw [h1, Bool.and_false, Bool.and_false]; rfl
    exact TP.bindR hr (TP.yes (by rw [h1]; rfl) (TP.yes (by rw [e]; rfl) (TP.yes (by rw [e]; rfl) aw)))
theorem isF_iff (x : Vlu) : isF x = true ↔ x.1 = 3 ∧ rightV x = true := by unfold isF; rw [Bool.and_eq_true, beq_iff_eq]
theorem worth_floats {x y : Vlu} {n m : Nat} (hx : x.2.2.2.1 = (n : Int)) (hy : y.2.2.2.1 = (m : Int)) (hn : n < 18446744073709551616) (hm : m < 18446744073709551616) :
    worthB x y = (isF x && isF y && !fnan n && !fnan m && decide (n = m ∨ (rung n = 0 ∧ rung m = 0))) := by
  unfold worthB
  cases h1 : isF x with
  | false => rfl
  | true =>
    cases h2 : isF y with
    | false => rfl
    | true =>
      simp only [Bool.true_and]
      rw [hx, hy, Int.toNat_natCast, Int.toNat_natCast]
      cases h3 : fnan n with
      | true => unfold feq fcan; rw [h3]; simp only []; rw [(order_nan (a := 9221120237041090561) rfl _).1]; rfl
      | false =>
        cases h4 : fnan m with
        | true => unfold feq fcan; rw [h3, h4]; simp only []; rw [(order_nan (a := 9221120237041090561) rfl _).2]; rfl
        | false =>
          unfold fcan; rw [h3, h4]; simp only []
          rw [feq_bits hn hm h3 h4]; rfl
theorem j1_ok (x y : Vlu) (hx : BOk x) (hy : BOk y) (b : Bool) (hb : b = (isF x && isF y && !fnan x.2.2.2.1.toNat && !fnan y.2.2.2.1.toNat)) :
    TP (fun k => chartularylaw04_ValueWorths.j1 k b x.1 x.2.1 x.2.2.1 x.2.2.2.1 x.2.2.2.2.1 y.1 y.2.1 y.2.2.1 y.2.2.2.1 y.2.2.2.2.1) (fun v => v.1.1 = true) := by
  have tl := tail_ok x hx
  obtain ⟨n, hn, hlt⟩ := id hx
  obtain ⟨m, hm, hlt2⟩ := id hy
  have hw := worth_floats hn hm hlt hlt2
  rw [hn, hm, Int.toNat_natCast, Int.toNat_natCast] at hb
  rw [← hb] at hw
  refine TP.step (fun k => by rw [chartularylaw04_ValueWorths.j1]) ?_
  refine TP.bindR (worths_ok x y hx hy) (TP.cond (fun h1 => ?_) fun h1 => ?_)
  · rw [h1, Bool.true_and] at hw
    refine TP.cond (fun h2 => TP.no ?_ tl) fun h2 => TP.ck rfl (TP.cond (fun h3 => TP.ck rfl (TP.no ?_ tl)) fun h3 => TP.no ?_ tl)
    · have h2 := eq_of_beq h2
      rw [hn, hm] at h2
      have h2 : n = m := by omega
      show (!(worthB x y == true)) = false
      rw [hw, decide_eq_true (.inl h2)]; rfl
    · rw [hn, shl1 n hlt, decide_eq_true_eq] at h3
      rw [beq_eq_false_iff_ne, hn, hm] at h2
      show (!(worthB x y == _)) = false
      rw [hm, shl1 m hlt2, hw]
      by_cases h4 : rung m = 0
      · rw [decide_eq_true h4, decide_eq_true (.inr ⟨h3, h4⟩)]; rfl
      · rw [decide_eq_false h4, decide_eq_false (by omega)]; rfl
    · rw [hn, shl1 n hlt, decide_eq_false_iff_not] at h3
      rw [beq_eq_false_iff_ne, hn, hm] at h2
      show (!(worthB x y == false)) = false
      rw [hw, decide_eq_false (by omega)]; rfl
  · rw [h1, Bool.false_and] at hw
    refine TP.no ?_ tl
    show (!(worthB x y == false)) = false
    rw [hw]; rfl
theorem j0_end (x y : Vlu) (hx : BOk x) (hy : BOk y) :
    TP (fun k => chartularylaw04_ValueWorths.j0 k x.1 x.2.1 x.2.2.1 x.2.2.2.1 x.2.2.2.2.1 y.1 y.2.1 y.2.2.1 y.2.2.2.1 y.2.2.2.2.1) (fun v => v.1.1 = true) := by
  obtain ⟨n, hn, hlt⟩ := id hx
  obtain ⟨m, hm, hlt2⟩ := id hy
  have no : isF x = false ∨ isF y = false → TP (fun k => chartularylaw04_ValueWorths.j1 k false x.1 x.2.1 x.2.2.1 x.2.2.2.1 x.2.2.2.2.1 y.1 y.2.1 y.2.2.1 y.2.2.2.1 y.2.2.2.2.1) (fun v => v.1.1 = true) := by
    intro h
    exact j1_ok x y hx hy false (by rcases h with h | h <;> rw [h] <;> simp)
  have nf : ∀ {z : Vlu}, rightV z = false → isF z = false := fun h => by unfold isF; rw [h, Bool.and_false]
  have nk : ∀ {z : Vlu}, ((z.1 : Int) == 3) = false → isF z = false := fun h => by unfold isF; rw [h, Bool.false_and]
  refine TP.step (fun k => rfl) (TP.bindR (lright_ok x hx) (TP.cond (fun h1 => TP.bindR (lright_ok y hy) (TP.cond (fun h2 => TP.cond (fun h3 => TP.cond (fun h4 => ?_) fun h4 => no (.inr (nk h4))) fun h3 => no (.inl (nk h3))) fun h2 => no (.inr (nf h2)))) fun h1 => no (.inl (nf h1))))
  have f1 : isF x = true := by unfold isF; rw [h3]; exact h1
  have f2 : isF y = true := by unfold isF; rw [h4]; exact h2
  refine TP.bindR (by rw [hn]; exact lnan_ok n hlt) (TP.cond (fun h5 => ?_) fun h5 => ?_)
  · refine TP.bindR (by rw [hm]; exact lnan_ok m hlt2) ?_
    have h5 : fnan n = false := by simpa using h5
    exact j1_ok x y hx hy _ (by rw [f1, f2, hn, hm, Int.toNat_natCast, Int.toNat_natCast, h5]; rfl)
  · have h5 : fnan n = true := by simpa using h5
    exact j1_ok x y hx hy false (by rw [hn, Int.toNat_natCast, h5]; simp)
theorem ValueWorths : chartularylaw04_ValueWorths.Pure := by
  intro x y wx wy _
  have hx : BOk x := wf_u64 wx.2.2.2.1
  have hy : BOk y := wf_u64 wy.2.2.2.1
  refine TP.one (TP.step (fun k => rfl) (TP.dec (fun _ => awake_end (fun k => rfl)) fun _ => TP.dec (fun _ => awake_end (fun k => rfl)) fun _ => j0_end x y hx hy))
end Go.Proofs.Ytnedfkfelagmpaa.Pure
