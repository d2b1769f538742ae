/- Plain laws: which growths are believed. -/
import Derived.Test.YtfbpkpnnglhbcaaPMerkS
namespace Go.Proofs.Ytfbpkpnnglhbcaa.Pure
open Go Go.Proofs.Ytfbpkpnnglhbcaa.E Go.Proofs.Ytfbpkpnnglhbcaa.Eng
set_option linter.unusedVariables false
set_option linter.unusedSimpArgs false
section
variable {T : Tab}
def BothP (T : Tab) (a n : Nat) (w : Bool) (old : ByteArray) (p : List ByteArray) (v : ByteArray × ByteArray × Bool × Unit) : Prop := v.2.2.1 = decide (p.length = longV a n w) ∧ (p.length = longV a n w → (v.1, v.2.1) = bothV T a n w old p) ∧ v.1.size ≤ 32 ∧ v.2.1.size ≤ 32
theorem both_ok (hT : Tok T) : ∀ (m : Nat) (a n : Nat) (w : Bool) (old : ByteArray) (p : List ByteArray), n ≤ m → m ≤ 1000000000 → 1 ≤ a → a ≤ n → old.size ≤ 32 → S32 p → p.length ≤ 1000000000 → ∀ t f1 f2 c N, TP (fun k => merkle_both.f k (a : Int) (n : Int) w old p t f1 f2 c T N) (fun v => BothP T a n w old p v.1)
 | m, a, n, w, old, p, hm, hb, h1, ha, ho, hp, hq, t, f1, f2, c, N => by
  refine TP.step (fun k => rfl) (TP.eqI (fun h => TP.cond (fun hw => TP.some ?_) fun hw => TP.neI (fun h0 => TP.some ?_) fun h0 => ?_) fun hn => TP.eqI (fun h => TP.some ?_) fun h0 => ?_)
  ·have h : a = n := by omega
   subst h; subst hw
   refine ⟨?_, fun _ => (bothV_all _ _ _).symm, ho, ho⟩
   dsimp only
   rw [longV_all]
   by_cases h0 : p.length = 0
   ·rw [h0]; rfl
   ·rw [decide_eq_false h0]; exact beq_false_of_ne (by omega)
  ·have h : a = n := by omega
   subst h; subst hw
   refine ⟨?_, fun e => ?_, Nat.zero_le _, Nat.zero_le _⟩
   ·dsimp only; rw [longV_part, decide_eq_false (by omega)]
   ·rw [longV_part] at e; omega
  ·have h : a = n := by omega
   subst h; subst hw
   have h0 : p.length = 1 := by omega
   obtain ⟨x, rfl⟩ := List.length_eq_one_iff.1 h0
   refine TP.optE (v := x) rfl (TP.optE (v := x) rfl (TP.some ⟨?_, fun _ => ?_, ?_, ?_⟩))
   ·dsimp only; rw [longV_part]; rfl
   ·dsimp only; rw [bothV_part]; rfl
   ·exact Nat.le_of_eq (hp x (List.mem_singleton.2 rfl))
   ·exact Nat.le_of_eq (hp x (List.mem_singleton.2 rfl))
  ·have hne : a ≠ n := by omega
   have h2 : 2 ≤ n := by omega
   have hd : longV a n w ≠ 0 := by
    by_cases hc : a ≤ belowN n
    ·rw [longV_left h2 hne hc]; omega
    ·rw [longV_right h2 hne hc]; omega
   exact ⟨by dsimp only; rw [decide_eq_false (by omega)], fun e => absurd e (by omega), Nat.zero_le _, Nat.zero_le _⟩
  ·have hne : a ≠ n := by omega
   have h2 : 2 ≤ n := by omega
   have hlt := below_lt h2
   have hpos := below_pos n
   have h0 : p.length ≠ 0 := by omega
   have hl := hp.last h0
   have hdl : p.dropLast.length = p.length - 1 := List.length_dropLast
   cases m with
   | zero => omega
   | succ m =>
   refine TP.bindM (split_ok h2 (by omega)) fun _ => TP.optE (lastI h0 hq) (TP.ck ?_ (TP.dec (fun hc => ?_) fun hc => ?_))
   ·rw [wrap_i64 (by omega) (by omega)]; simp only [Bool.and_eq_true, decide_eq_true_eq]; omega
   ·dsimp only at hc
    have hc : a ≤ belowN n := by omega
    refine TP.bind (P := fun v => BothP T a (belowN n) w old p.dropLast v.1) ?_ fun v hv => ?_
    ·rw [tlI h0 hq]
     exact both_ok hT m a (belowN n) w old _ (by omega) (by omega) h1 hc ho hp.dropLast (by omega) _ _ _ _ _
    obtain ⟨⟨s, r, b, ⟨⟩⟩, z⟩ := v
    obtain ⟨hv1, hv2, hv3, hv4⟩ := hv
    dsimp only at hv1 hv2 hv3 hv4
    refine TP.bindM (node_ok _ _ (by dsimp only; omega) (by omega) _ _ _ _ _) fun _ => TP.some ?_
    refine ⟨?_, fun e => ?_, hv3, Nat.le_of_eq (hashV_size hT _)⟩
    ·dsimp only; rw [hv1, longV_left h2 hne hc]
     exact decide_eq_decide.2 ⟨fun h => by omega, fun h => by omega⟩
    ·rw [longV_left h2 hne hc] at e
     dsimp only
     rw [bothV_left h2 hne hc, ← hv2 (by omega)]
   ·dsimp only at hc
    have hc : ¬ a ≤ belowN n := by omega
    refine TP.bind (P := fun v => BothP T (a - belowN n) (n - belowN n) false ⟨#[]⟩ p.dropLast v.1) ?_ fun v hv => ?_
    ·rw [tlI h0 hq, show IntKind.wrap .i64 ((a : Int) - (belowN n : Int)) = ((a - belowN n : Nat) : Int) by rw [wrap_i64 (by omega) (by omega)]; omega, show IntKind.wrap .i64 ((n : Int) - (belowN n : Int)) = ((n - belowN n : Nat) : Int) by rw [wrap_i64 (by omega) (by omega)]; omega]
     exact both_ok hT m (a - belowN n) (n - belowN n) false ⟨#[]⟩ _ (by omega) (by omega) (by omega) (by omega) (Nat.zero_le _) hp.dropLast (by omega) _ _ _ _ _
    obtain ⟨⟨s, r, b, ⟨⟩⟩, z⟩ := v
    obtain ⟨hv1, hv2, hv3, hv4⟩ := hv
    dsimp only at hv1 hv2 hv3 hv4
    refine TP.bindM (node_ok _ _ (by omega) (by dsimp only; omega) _ _ _ _ _) fun _ => TP.bindM (node_ok _ _ (by omega) (by dsimp only; omega) _ _ _ _ _) fun _ => TP.some ?_
    refine ⟨?_, fun e => ?_, Nat.le_of_eq (hashV_size hT _), Nat.le_of_eq (hashV_size hT _)⟩
    ·dsimp only; rw [hv1, longV_right h2 hne hc]
     exact decide_eq_decide.2 ⟨fun h => by omega, fun h => by omega⟩
    ·rw [longV_right h2 hne hc] at e
     dsimp only
     rw [bothV_right h2 hne hc, ← hv2 (by omega)]
noncomputable def GrownA (T : Tab) (a : Int) (x : ByteArray) (n : Int) (y : ByteArray) (p : List ByteArray) : Int :=
 if a < 0 ∨ a > n ∨ n > 65536 then 21 else if x.size ≠ 32 ∨ y.size ≠ 32 then 19 else if p.length > 17 ∨ sumsB p = false then 20 else
 if a = 0 then (if x ≠ noneV T ∨ (n = 0 ∧ y ≠ x) then 19 else if p.length > 0 then 20 else 0) else
 if p.length ≠ longV a.toNat n.toNat true then 20 else if bothV T a.toNat n.toNat true x p ≠ (x, y) then 19 else 0
theorem grown_ok (hT : Tok T) (a : Int) (x : ByteArray) (n : Int) (y : ByteArray) (p : List ByteArray) (hq : p.length ≤ 1000000000) (t f1 f2 c N) : TP (fun k => merkle_Grown.f k (a, x, ()) (n, y, ()) p t f1 f2 c T N) (fun v => v.1 = (GrownA T a x n y p, ())) := by
 refine TP.step (fun k => rfl) (TP.dec (fun h => TP.some ?_) fun h1 => TP.dec (fun h => TP.some ?_) fun h2 => TP.dec (fun h => TP.some ?_) fun h3 => ?_)
 ·unfold GrownA; rw [if_pos (Or.inl h)]
 ·unfold GrownA; rw [if_pos (Or.inr (Or.inl h))]
 ·unfold GrownA; rw [if_pos (Or.inr (Or.inr h))]
 dsimp only at h1 h2 h3
 have g1 : ¬ (a < 0 ∨ a > n ∨ n > 65536) := by omega
 refine TP.bindM (sums_ok [x, y] (by simp)) fun _ => TP.not (fun h => TP.some ?_) fun h4 => ?_
 ·have h : sumsB [x, y] = false := h
  have : x.size ≠ 32 ∨ y.size ≠ 32 := by
   by_cases e1 : x.size = 32
   ·refine Or.inr fun e2 => ?_
    have h' : sumsB [x, y] = true := (sumsB_iff [x, y]).2 ((S32.one e1).app (S32.one e2))
    rw [h'] at h; cases h
   ·exact Or.inl e1
  unfold GrownA; rw [if_neg g1, if_pos this]
 have hs : S32 [x, y] := (sumsB_iff _).1 h4
 have hx : x.size = 32 := hs x (by simp)
 have hy : y.size = 32 := hs y (by simp)
 have g2 : ¬ (x.size ≠ 32 ∨ y.size ≠ 32) := by omega
 refine TP.dec (fun h => TP.some ?_) fun h5 => TP.bindM (sums_ok p hq) fun _ => TP.not (fun h => TP.some ?_) fun h6 => ?_
 ·unfold GrownA; rw [if_neg g1, if_neg g2, if_pos (Or.inl (by omega))]
 ·unfold GrownA; rw [if_neg g1, if_neg g2, if_pos (Or.inr h)]
 have hp : S32 p := (sumsB_iff p).1 h6
 have g3 : ¬ (p.length > 17 ∨ sumsB p = false) := by
  rintro (h | h)
  ·omega
  ·rw [(sumsB_iff p).2 hp] at h; cases h
 unfold GrownA
 rw [if_neg g1, if_neg g2, if_neg g3]
 refine TP.step (fun k => rfl) (TP.eqI (fun h => TP.bindM (pnone_ok _ _ _ _ _) fun _ => ?_) fun h7 => ?_)
 ·dsimp only at h
  rw [if_pos h]
  refine TP.neT (fun h => TP.some ?_) fun h8 => TP.eqI (fun h9 => TP.neT (fun h => TP.some ?_) fun h => TP.dec (fun h => TP.some ?_) fun h => TP.some ?_) fun h9 => TP.dec (fun h => TP.some ?_) fun h => TP.some ?_
  ·rw [if_pos (Or.inl h)]
  all_goals dsimp only at h h8 h9
  ·rw [if_pos (Or.inr ⟨h9, h⟩)]
  ·rw [if_neg (by rintro (e | e); (· exact e h8); exact e.2 (by assumption)), if_pos (by omega)]
  ·rw [if_neg (by rintro (e | e); (· exact e h8); exact e.2 (by assumption)), if_neg (by omega)]
  ·rw [if_neg (by rintro (e | e); (· exact e h8); exact h9 e.1), if_pos (by omega)]
  ·rw [if_neg (by rintro (e | e); (· exact e h8); exact h9 e.1), if_neg (by omega)]
 ·dsimp only at h7
  rw [if_neg h7]
  obtain ⟨a, rfl⟩ := Int.eq_ofNat_of_zero_le (by omega : 0 ≤ a)
  obtain ⟨n, rfl⟩ := Int.eq_ofNat_of_zero_le (by omega : 0 ≤ n)
  refine TP.bind (both_ok hT n a n true x p (Nat.le_refl _) (by omega) (by omega) (by omega) (by omega) hp hq _ _ _ _ _) fun v hv => ?_
  obtain ⟨⟨s, r, b, ⟨⟩⟩, z⟩ := v
  obtain ⟨hv1, hv2, hv3, hv4⟩ := hv
  dsimp only at hv1 hv2 hv3 hv4
  rw [Int.toNat_natCast, Int.toNat_natCast]
  refine TP.not (fun h => TP.some ?_) fun h8 => ?_
  ·have h : b = false := h
   rw [hv1] at h
   rw [if_pos (of_decide_eq_false h)]
  ·have h8 : b = true := h8
   rw [hv1] at h8
   have h8 := of_decide_eq_true h8
   rw [if_neg (fun e => e h8), ← hv2 h8]
   refine TP.neT (fun h => TP.some ?_) fun h9 => TP.neT (fun h => TP.some ?_) fun h => TP.some ?_
   ·rw [if_pos (fun e => h (Prod.mk.inj e).1)]
   ·rw [if_pos (fun e => h (Prod.mk.inj e).2)]
   ·dsimp only at h9 h
    rw [if_neg (fun e => e (by rw [h9, h]))]
end
end Go.Proofs.Ytfbpkpnnglhbcaa.Pure
