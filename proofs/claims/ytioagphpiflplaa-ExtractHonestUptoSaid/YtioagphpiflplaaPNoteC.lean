/- Plain laws: what a mill notes of a climb's texts. -/
import Derived.Test.YtioagphpiflplaaPMerkC
import Derived.Test.YtioagphpiflplaaPNoteA
namespace Go.Proofs.Ytioagphpiflplaa.Pure
open Go Go.Proofs.Ytioagphpiflplaa.E Go.Proofs.Ytioagphpiflplaa.Eng
set_option linter.unusedVariables false
set_option linter.unusedSimpArgs false

section
variable {T : Tab}
theorem climb_noted (hT : Tok T) (x : ByteArray) (hx : x.size = 32) : ∀ (m i n : Nat) (p : List ByteArray), n ≤ m → m ≤ 1000000000 → i < n → S32 p → p.length ≤ 1000000000 → p.length = depthV i n → ∀ {W : List ByteArray}, p.length + W.length ≤ 20000 → ∀ {t f1 N}, Noted T W t f1 N → ∀ f2 c, TP (fun k => merkle_climb.f k x (i : Int) (n : Int) p t f1 f2 c T N) (fun v => v.1 = (climbV T x i n p, true, ()) ∧ NS T (climbW T x i n p ++ W) v.2 ∧ (climbW T x i n p).length = p.length)
  | m, i, n, p, hm, hb, hi, hp, hq, hd, W, hW, t, f1, N, hN, f2, c => by
    refine TP.step (fun k => rfl) (TP.eqI (fun h => TP.some ?_) fun h1 => TP.eqI (fun h => ?_) fun h0 => ?_)
    · rw [depthV_one (by omega)] at hd
      rw [climbV_one (by omega), climbW_one (by omega)]
      exact ⟨by rw [hd]; rfl, hN, hd.symm⟩
    · have h2 : 2 ≤ n := by omega
      by_cases hc : i < belowN n
      · rw [depthV_left h2 hc] at hd; omega
      · rw [depthV_right h2 hc] at hd; omega
    · have h2 : 2 ≤ n := by omega
      have hlt := below_lt h2
      have hpos := below_pos n
      have h0 : p.length ≠ 0 := by omega
      have hl := hp.last h0
      have hdl : p.dropLast.length = p.length - 1 := List.length_dropLast
      cases m with
      | zero => omega
      | succ m =>
      refine TP.bindM (split_ok h2 (by omega)) fun _ => TP.optE (lastI h0 hq) (TP.ck ?_ (TP.dec (fun hc => ?_) fun hc => ?_))
      · rw [wrap_i64 (by omega) (by omega)]; simp only [Bool.and_eq_true, decide_eq_true_eq]; omega
      · dsimp only at hc
        have hc : i < belowN n := by omega
        rw [depthV_left h2 hc] at hd
        have hz := climbV_size hT hx i (belowN n) p.dropLast
        refine TP.bindN (v := (climbV T x i (belowN n) p.dropLast, true, ())) (R := fun s => NS T (climbW T x i (belowN n) p.dropLast ++ W) s ∧ (climbW T x i (belowN n) p.dropLast).length = p.dropLast.length) ?_ fun s hs => ?_
        · rw [tlI h0 hq]
          exact climb_noted hT x hx m i (belowN n) _ (by omega) (by omega) hc hp.dropLast (by omega) (by omega) (by omega) hN _ _
        refine TP.bindN (node_noted _ _ (by dsimp only; omega) (by omega) (by rw [List.length_append]; omega) hs.1 _ _) fun s2 hs2 => TP.some ?_
        rw [climbV_left h2 hc, climbW_left h2 hc]
        exact ⟨rfl, hs2, by rw [List.length_cons, hs.2]; omega⟩
      · dsimp only at hc
        have hc : ¬ i < belowN n := by omega
        rw [depthV_right h2 hc] at hd
        have hz := climbV_size hT hx (i - belowN n) (n - belowN n) p.dropLast
        refine TP.bindN (v := (climbV T x (i - belowN n) (n - belowN n) p.dropLast, true, ())) (R := fun s => NS T (climbW T x (i - belowN n) (n - belowN n) p.dropLast ++ W) s ∧ (climbW T x (i - belowN n) (n - belowN n) p.dropLast).length = p.dropLast.length) ?_ fun s hs => ?_
        · rw [tlI h0 hq, show IntKind.wrap .i64 ((i : Int) - (belowN n : Int)) = ((i - belowN n : Nat) : Int) by rw [wrap_i64 (by omega) (by omega)]; omega, show IntKind.wrap .i64 ((n : Int) - (belowN n : Int)) = ((n - belowN n : Nat) : Int) by rw [wrap_i64 (by omega) (by omega)]; omega]
          exact climb_noted hT x hx m (i - belowN n) (n - belowN n) _ (by omega) (by omega) (by omega) hp.dropLast (by omega) (by omega) (by omega) hN _ _
        refine TP.bindN (node_noted _ _ (by omega) (by dsimp only; omega) (by rw [List.length_append]; omega) hs.1 _ _) fun s2 hs2 => TP.some ?_
        rw [climbV_right h2 hc, climbW_right h2 hc]
        exact ⟨rfl, hs2, by rw [List.length_cons, hs.2]; omega⟩
theorem Climb_noted (hT : Tok T) (x : ByteArray) (hx : x.size = 32) (i n : Nat) (p : List ByteArray) (hn : n ≤ 65536) (hi : i < n) (hp : S32 p) (hd : p.length = depthV i n) {W : List ByteArray} (hW : p.length + W.length ≤ 20000) {t f1 N} (hN : Noted T W t f1 N) (f2 c) :
    TP (fun k => merkle_Climb.f k x (i : Int) (n : Int) p t f1 f2 c T N) (fun v => v.1 = (climbV T x i n p, 0, ()) ∧ NS T (climbW T x i n p ++ W) v.2 ∧ (climbW T x i n p).length = p.length) := by
  have hd' := depth_le 16 i n (by omega)
  refine TP.step (fun k => rfl) (TP.dec (fun h => by omega) fun _ => TP.dec (fun h => by omega) fun _ => TP.dec (fun h => by omega) fun _ => TP.dec (fun h => by omega) fun _ => TP.dec (fun h => by omega) fun _ => ?_)
  refine TP.bindM (sums_ok [x] (by simp)) fun _ => TP.not (fun h => ?_) fun _ => TP.bindM (sums_ok p (by omega)) fun _ => TP.not (fun h => ?_) fun _ => ?_
  · have h : sumsB [x] = false := h
    rw [(sumsB_iff [x]).2 (S32.one hx)] at h; cases h
  · have h : sumsB p = false := h
    rw [(sumsB_iff p).2 hp] at h; cases h
  refine TP.step (fun k => rfl) (TP.bindN (climb_noted hT x hx n i n p (Nat.le_refl _) (by omega) hi hp (by omega) hd hW hN _ _) fun s hs => TP.no rfl (TP.some ⟨rfl, hs⟩))
end
end Go.Proofs.Ytioagphpiflplaa.Pure
