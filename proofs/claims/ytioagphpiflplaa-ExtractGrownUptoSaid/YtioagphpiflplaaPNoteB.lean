/- Plain laws: what a mill notes of a growth's texts. -/
import Derived.Test.YtioagphpiflplaaPBoth
import Derived.Test.YtioagphpiflplaaPNoteR
namespace Go.Proofs.Ytioagphpiflplaa.Pure
open Go Go.Proofs.Ytioagphpiflplaa.E Go.Proofs.Ytioagphpiflplaa.Eng
set_option linter.unusedVariables false
set_option linter.unusedSimpArgs false

section
variable {T : Tab}
theorem both_noted (hT : Tok T) : ∀ (m a n : Nat) (w : Bool) (old : ByteArray) (p : List ByteArray), n ≤ m → m ≤ 1000000000 → 1 ≤ a → a ≤ n → (w = true → old.size = 32) → S32 p → p.length ≤ 1000000000 → p.length = longV a n w → ∀ {W : List ByteArray}, 2 * p.length + W.length ≤ 20000 → ∀ {t f1 N}, Noted T W t f1 N → ∀ f2 c,
    TP (fun k => merkle_both.f k (a : Int) (n : Int) w old p t f1 f2 c T N) (fun v => v.1 = ((bothV T a n w old p).1, (bothV T a n w old p).2, true, ()) ∧ NS T (bothW T a n w old p ++ W) v.2 ∧ (bothW T a n w old p).length ≤ 2 * p.length)
  | m, a, n, w, old, p, hm, hb, h1, ha, ho, hp, hq, hd, W, hW, t, f1, N, hN, f2, c => by
    refine TP.step (fun k => rfl) (TP.eqI (fun h => TP.cond (fun hw => TP.some ?_) fun hw => TP.neI (fun h0 => ?_) fun h0 => ?_) fun hn => TP.eqI (fun h => ?_) fun h0 => ?_)
    · have h : a = n := by omega
      subst h; subst hw
      rw [longV_all] at hd
      rw [bothV_all, bothW_all]
      exact ⟨by rw [hd]; rfl, hN, Nat.zero_le _⟩
    · have h : a = n := by omega
      subst h; subst hw
      rw [longV_part] at hd; omega
    · have h : a = n := by omega
      subst h; subst hw
      have h0 : p.length = 1 := by omega
      obtain ⟨x, rfl⟩ := List.length_eq_one_iff.1 h0
      rw [bothV_part, bothW_all]
      exact TP.optE (v := x) rfl (TP.optE (v := x) rfl (TP.some ⟨rfl, hN, Nat.zero_le _⟩))
    · have hne : a ≠ n := by omega
      have h2 : 2 ≤ n := by omega
      by_cases hc : a ≤ belowN n
      · rw [longV_left h2 hne hc] at hd; omega
      · rw [longV_right h2 hne hc] at hd; omega
    · have hne : a ≠ n := by omega
      have h2 : 2 ≤ n := by omega
      have hlt := below_lt h2
      have hpos := below_pos n
      have h0 : p.length ≠ 0 := by omega
      have hl := hp.last h0
      have hdl : p.dropLast.length = p.length - 1 := List.length_dropLast
      cases m with
      | zero => omega
      | succ m =>
      refine TP.bindM (split_ok h2 (by omega)) fun _ => TP.optE (lastI h0 hq) (TP.ck ?_ (TP.dec (fun hc => ?_) fun hc => ?_))
      · rw [wrap_i64 (by omega) (by omega)]; simp only [Bool.and_eq_true, decide_eq_true_eq]; omega
      · dsimp only at hc
        have hc : a ≤ belowN n := by omega
        rw [longV_left h2 hne hc] at hd
        obtain ⟨z1, z2⟩ := bothV_size hT _ a (belowN n) w old p.dropLast (Nat.le_refl _) h1 hc ho hp.dropLast (by omega)
        refine TP.bindN (v := ((bothV T a (belowN n) w old p.dropLast).1, (bothV T a (belowN n) w old p.dropLast).2, true, ())) (R := fun s => NS T (bothW T a (belowN n) w old p.dropLast ++ W) s ∧ (bothW T a (belowN n) w old p.dropLast).length ≤ 2 * p.dropLast.length) ?_ fun s hs => ?_
        · rw [tlI h0 hq]
          exact both_noted hT m a (belowN n) w old _ (by omega) (by omega) h1 hc ho hp.dropLast (by omega) (by omega) (by omega) hN _ _
        refine TP.bindN (node_noted _ _ (by dsimp only; omega) (by omega) (by rw [List.length_append]; omega) hs.1 _ _) fun s2 hs2 => TP.some ?_
        rw [bothV_left h2 hne hc, bothW_left h2 hne hc]
        exact ⟨rfl, hs2, by rw [List.length_cons]; omega⟩
      · dsimp only at hc
        have hc : ¬ a ≤ belowN n := by omega
        rw [longV_right h2 hne hc] at hd
        obtain ⟨z1, z2⟩ := bothV_size hT _ (a - belowN n) (n - belowN n) false ⟨#[]⟩ p.dropLast (Nat.le_refl _) (by omega) (by omega) (fun h => by cases h) hp.dropLast (by omega)
        refine TP.bindN (v := ((bothV T (a - belowN n) (n - belowN n) false ⟨#[]⟩ p.dropLast).1, (bothV T (a - belowN n) (n - belowN n) false ⟨#[]⟩ p.dropLast).2, true, ())) (R := fun s => NS T (bothW T (a - belowN n) (n - belowN n) false ⟨#[]⟩ p.dropLast ++ W) s ∧ (bothW T (a - belowN n) (n - belowN n) false ⟨#[]⟩ p.dropLast).length ≤ 2 * p.dropLast.length) ?_ fun s hs => ?_
        · rw [tlI h0 hq, show IntKind.wrap .i64 ((a : Int) - (belowN n : Int)) = ((a - belowN n : Nat) : Int) by rw [wrap_i64 (by omega) (by omega)]; omega, show IntKind.wrap .i64 ((n : Int) - (belowN n : Int)) = ((n - belowN n : Nat) : Int) by rw [wrap_i64 (by omega) (by omega)]; omega]
          exact both_noted hT m (a - belowN n) (n - belowN n) false ⟨#[]⟩ _ (by omega) (by omega) (by omega) (by omega) (fun h => by cases h) hp.dropLast (by omega) (by omega) (by omega) hN _ _
        refine TP.bindN (node_noted _ _ (by omega) (by dsimp only; omega) (by rw [List.length_append]; omega) hs.1 _ _) fun s2 hs2 => TP.bindN (node_noted _ _ (by omega) (by dsimp only; omega) (by rw [List.length_cons, List.length_append]; omega) hs2 _ _) fun s3 hs3 => TP.some ?_
        rw [bothV_right h2 hne hc, bothW_right h2 hne hc]
        exact ⟨rfl, hs3, by rw [List.length_cons, List.length_cons]; omega⟩
/-- A growth that is believed, of one leaf at least. -/
theorem grown_noted (hT : Tok T) (a : Nat) (x : ByteArray) (n : Nat) (y : ByteArray) (p : List ByteArray) (h1 : 1 ≤ a) (ha : a ≤ n) (hn : n ≤ 65536) (hx : x.size = 32) (hy : y.size = 32) (hp : S32 p) (hd : p.length = longV a n true) (he : bothV T a n true x p = (x, y)) {W : List ByteArray} (hW : 2 * p.length + W.length ≤ 20000) {t f1 N} (hN : Noted T W t f1 N) (f2 c) :
    TP (fun k => merkle_Grown.f k ((a : Int), x, ()) ((n : Int), y, ()) p t f1 f2 c T N) (fun v => v.1 = (0, ()) ∧ NS T (bothW T a n true x p ++ W) v.2) := by
  have hd' := long_le 16 a n true (by omega)
  refine TP.step (fun k => rfl) (TP.dec (fun h => by dsimp only at h; omega) fun _ => TP.dec (fun h => by dsimp only at h; omega) fun _ => ?_)
  refine TP.bindM (sums_ok [x, y] (by simp)) fun _ => TP.not (fun h => ?_) fun _ => TP.dec (fun h => by omega) fun _ => TP.bindM (sums_ok p (by omega)) fun _ => TP.not (fun h => ?_) fun _ => ?_
  · have h : sumsB [x, y] = false := h
    rw [show sumsB [x, y] = true from (sumsB_iff [x, y]).2 ((S32.one hx).app (S32.one hy))] at h; cases h
  · have h : sumsB p = false := h
    rw [(sumsB_iff p).2 hp] at h; cases h
  have hB := both_noted hT n a n true x p (Nat.le_refl _) (by omega) h1 ha (fun _ => hx) hp (by omega) hd hW hN
  rw [he] at hB
  refine TP.step (fun k => rfl) (TP.eqI (fun h => by dsimp only at h; omega) fun _ => TP.bindN (v := (x, y, true, ())) (R := fun s => NS T (bothW T a n true x p ++ W) s ∧ (bothW T a n true x p).length ≤ 2 * p.length) (hB _ _) fun s hs => ?_)
  exact TP.no rfl (TP.neT (fun h => absurd rfl h) fun _ => TP.neT (fun h => absurd rfl h) fun _ => TP.some ⟨rfl, hs.1⟩)
end
end Go.Proofs.Ytioagphpiflplaa.Pure
