/- Plain laws: climbs. -/
import Derived.Test.YtioagphpiflplaaPMerkS
namespace Go.Proofs.Ytioagphpiflplaa.Pure
open Go Go.Proofs.Ytioagphpiflplaa.E Go.Proofs.Ytioagphpiflplaa.Eng
set_option linter.unusedVariables false
set_option linter.unusedSimpArgs false

section
variable {T : Tab}
/-- What a climb comes to: its root where the path has the right length. -/
def ClimbP (T : Tab) (x : ByteArray) (i n : Nat) (p : List ByteArray) (v : ByteArray × Bool × Unit) : Prop := v.2.1 = decide (p.length = depthV i n) ∧ (p.length = depthV i n → v.1 = climbV T x i n p) ∧ v.1.size ≤ 32
theorem climb_ok (hT : Tok T) (x : ByteArray) (hx : x.size = 32) : ∀ (m : Nat) (i n : Nat) (p : List ByteArray), n ≤ m → m ≤ 1000000000 → i < n → S32 p → p.length ≤ 1000000000 → ∀ t f1 f2 c N, TP (fun k => merkle_climb.f k x (i : Int) (n : Int) p t f1 f2 c T N) (fun v => ClimbP T x i n p v.1)
  | m, i, n, p, hm, hb, hi, hp, hq, t, f1, f2, c, N => by
    refine TP.step (fun k => rfl) (TP.eqI (fun h => TP.some ?_) fun h1 => TP.eqI (fun h => TP.some ?_) fun h0 => ?_)
    · refine ⟨?_, fun _ => (climbV_one (by omega) x i p).symm, by dsimp only; omega⟩
      dsimp only
      rw [depthV_one (by omega)]
      by_cases h0 : p.length = 0
      · rw [h0]; rfl
      · rw [decide_eq_false h0]; exact beq_false_of_ne (by omega)
    · have h2 : 2 ≤ n := by omega
      have hd : depthV i n ≠ 0 := by
        by_cases hc : i < belowN n
        · rw [depthV_left h2 hc]; omega
        · rw [depthV_right h2 hc]; omega
      exact ⟨by dsimp only; rw [decide_eq_false (by omega)], fun e => absurd e (by omega), Nat.zero_le _⟩
    · have h2 : 2 ≤ n := by omega
      have hlt := below_lt h2
      have hpos := below_pos n
      have h0 : p.length ≠ 0 := by omega
      have hl := hp.last h0
      have hdl : p.dropLast.length = p.length - 1 := List.length_dropLast
      cases m with
      | zero => omega
      | succ m =>
      refine TP.bindM (split_ok h2 (by omega)) fun _ => TP.optE (lastI h0 hq) (TP.ck ?_ (TP.dec (fun hc => ?_) fun hc => ?_))
      · rw [wrap_i64 (by omega) (by omega)]; simp only [Bool.and_eq_true, decide_eq_true_eq]; omega
      · dsimp only at hc
        have hc : i < belowN n := by omega
        refine TP.bind (P := fun v => ClimbP T x i (belowN n) p.dropLast v.1) ?_ fun v hv => ?_
        · rw [tlI h0 hq]
          exact climb_ok hT x hx m i (belowN n) _ (by omega) (by omega) hc hp.dropLast (by omega) _ _ _ _ _
        obtain ⟨⟨s, b, ⟨⟩⟩, z⟩ := v
        obtain ⟨hv1, hv2, hv3⟩ := hv
        dsimp only at hv1 hv2 hv3
        refine TP.bindM (node_ok _ _ (by dsimp only; omega) (by omega) _ _ _ _ _) fun _ => TP.some ?_
        refine ⟨?_, fun e => ?_, ?_⟩
        · dsimp only; rw [hv1, depthV_left h2 hc]
          exact decide_eq_decide.2 ⟨fun h => by omega, fun h => by omega⟩
        · rw [depthV_left h2 hc] at e
          dsimp only
          rw [climbV_left h2 hc, ← hv2 (by omega)]
        · exact Nat.le_of_eq (hashV_size hT _)
      · dsimp only at hc
        have hc : ¬ i < belowN n := by omega
        refine TP.bind (P := fun v => ClimbP T x (i - belowN n) (n - belowN n) p.dropLast v.1) ?_ fun v hv => ?_
        · rw [tlI h0 hq, show IntKind.wrap .i64 ((i : Int) - (belowN n : Int)) = ((i - belowN n : Nat) : Int) by rw [wrap_i64 (by omega) (by omega)]; omega, show IntKind.wrap .i64 ((n : Int) - (belowN n : Int)) = ((n - belowN n : Nat) : Int) by rw [wrap_i64 (by omega) (by omega)]; omega]
          exact climb_ok hT x hx m (i - belowN n) (n - belowN n) _ (by omega) (by omega) (by omega) hp.dropLast (by omega) _ _ _ _ _
        obtain ⟨⟨s, b, ⟨⟩⟩, z⟩ := v
        obtain ⟨hv1, hv2, hv3⟩ := hv
        dsimp only at hv1 hv2 hv3
        refine TP.bindM (node_ok _ _ (by omega) (by dsimp only; omega) _ _ _ _ _) fun _ => TP.some ?_
        refine ⟨?_, fun e => ?_, ?_⟩
        · dsimp only; rw [hv1, depthV_right h2 hc]
          exact decide_eq_decide.2 ⟨fun h => by omega, fun h => by omega⟩
        · rw [depthV_right h2 hc] at e
          dsimp only
          rw [climbV_right h2 hc, ← hv2 (by omega)]
        · exact Nat.le_of_eq (hashV_size hT _)
/-- What Climb answers. -/
noncomputable def ClimbA (T : Tab) (x : ByteArray) (i n : Int) (p : List ByteArray) : ByteArray × Int × Unit :=
  if n < 1 ∨ n > 65536 ∨ i < 0 ∨ i ≥ n then (⟨#[]⟩, 21, ()) else if p.length > 16 ∨ x.size ≠ 32 ∨ sumsB p = false then (⟨#[]⟩, 20, ()) else if p.length ≠ depthV i.toNat n.toNat then (⟨#[]⟩, 20, ()) else (climbV T x i.toNat n.toNat p, 0, ())
theorem Climb_ok (hT : Tok T) (x : ByteArray) (i n : Int) (p : List ByteArray) (hq : p.length ≤ 1000000000) (t f1 f2 c N) : TP (fun k => merkle_Climb.f k x i n p t f1 f2 c T N) (fun v => v.1 = ClimbA T x i n p) := by
  refine TP.step (fun k => rfl) (TP.dec (fun h => TP.some ?_) fun h1 => TP.dec (fun h => TP.some ?_) fun h2 => TP.dec (fun h => TP.some ?_) fun h3 => TP.dec (fun h => TP.some ?_) fun h4 => TP.dec (fun h => TP.some ?_) fun h5 => ?_)
  · unfold ClimbA; rw [if_pos (by omega)]
  · unfold ClimbA; rw [if_pos (by omega)]
  · unfold ClimbA; rw [if_pos (by omega)]
  · unfold ClimbA; rw [if_pos (by omega)]
  · unfold ClimbA; rw [if_neg (by omega), if_pos (by omega)]
  · refine TP.bindM (sums_ok [x] (by simp)) fun _ => TP.not (fun h => TP.some ?_) fun h6 => ?_
    · have : x.size ≠ 32 := by
        intro e; have h : sumsB [x] = false := h
        rw [(sumsB_iff _).2 (S32.one e)] at h; cases h
      unfold ClimbA; rw [if_neg (by omega), if_pos (Or.inr (Or.inl this))]
    have hx : x.size = 32 := (sumsB_iff [x]).1 h6 x (List.mem_singleton.2 rfl)
    refine TP.bindM (sums_ok p hq) fun _ => TP.not (fun h => TP.some ?_) fun h7 => ?_
    · unfold ClimbA; rw [if_neg (by omega), if_pos (Or.inr (Or.inr h))]
    have hp : S32 p := (sumsB_iff p).1 h7
    obtain ⟨a, rfl⟩ := Int.eq_ofNat_of_zero_le (by omega : 0 ≤ i)
    obtain ⟨b, rfl⟩ := Int.eq_ofNat_of_zero_le (by omega : 0 ≤ n)
    refine TP.step (fun k => rfl) (TP.bind (climb_ok hT x hx b a b p (Nat.le_refl _) (by omega) (by omega) hp hq _ _ _ _ _) fun v hv => ?_)
    have hno : ¬ (p.length > 16 ∨ x.size ≠ 32 ∨ sumsB p = false) := by
      rintro (h | h | h)
      · omega
      · exact h hx
      · rw [(sumsB_iff p).2 hp] at h; cases h
    obtain ⟨⟨s, o, ⟨⟩⟩, z⟩ := v
    obtain ⟨hv1, hv2, hv3⟩ := hv
    dsimp only at hv1 hv2 hv3
    refine TP.not (fun h => TP.some ?_) fun h => TP.some ?_
    · have h : o = false := h
      rw [hv1] at h
      unfold ClimbA; rw [if_neg (by omega), if_neg hno, if_pos (by rw [Int.toNat_natCast, Int.toNat_natCast]; exact of_decide_eq_false h)]
    · have h : o = true := h
      rw [hv1] at h
      have := of_decide_eq_true h
      unfold ClimbA; rw [if_neg (by omega), if_neg hno, if_neg (by rw [Int.toNat_natCast, Int.toNat_natCast]; exact fun e => e this)]
      dsimp only
      rw [hv2 this]; rfl
end
end Go.Proofs.Ytioagphpiflplaa.Pure
