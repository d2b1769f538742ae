/- Plain laws: chapter 7: the root, as the document has it. -/
import Derived.Test.YtoceopdoedmgoaaPMerkR
namespace Go.Proofs.Ytoceopdoedmgoaa.Pure
open Go Go.Proofs.Ytoceopdoedmgoaa.E Go.Proofs.Ytoceopdoedmgoaa.Eng
set_option linter.unusedVariables false
set_option linter.unusedSimpArgs false

section
variable {T : Tab}
theorem lbelow_loop {n : Nat} (hn : 2 ≤ n) (hb : n ≤ 1000000000) : ∀ (m j : Nat), j + m = Nat.log2 (n - 1) → TP (fun k => chartularylaw07_below.l0 k n ((2 ^ j : Nat) : Int)) (fun v => v.1 = ((belowN n : Int), ()))
  | m, j, h => by
    have hle : 2 ^ j ≤ belowN n := Nat.pow_le_pow_right (by decide) (by omega)
    have hlt := below_lt hn
    have e2 : IntKind.wrap .i64 (2 * ((2 ^ j : Nat) : Int)) = ((2 ^ (j + 1) : Nat) : Int) := by rw [Nat.pow_succ]; exact wdbl' (by omega)
    have hiff : j + 1 ≤ Nat.log2 (n - 1) ↔ 2 ^ (j + 1) ≤ n - 1 := Nat.le_log2 (by omega)
    refine TP.step (fun k => rfl) (TP.dec (fun hc => ?_) fun hc => ?_)
    · rw [e2] at hc
      have : j + 1 ≤ Nat.log2 (n - 1) := hiff.2 (by have := Int.ofNat_lt.1 hc; omega)
      cases m with
      | zero => omega
      | succ m =>
        rw [e2]
        exact lbelow_loop hn hb m (j + 1) (by omega)
    · rw [e2] at hc
      have : ¬ j + 1 ≤ Nat.log2 (n - 1) := fun h => hc (Int.ofNat_lt.2 (by have := hiff.1 h; omega))
      refine TP.some ?_
      show (((2 ^ j : Nat) : Int), ()) = _
      rw [show j = Nat.log2 (n - 1) by omega]; rfl
theorem lbelow_ok {n : Nat} (hn : 2 ≤ n) (hb : n ≤ 1000000000) : TP (fun k => chartularylaw07_below.f k (n : Int)) (fun v => v.1 = ((belowN n : Int), ())) := TP.step (fun k => rfl) (lbelow_loop hn hb _ 0 (Nat.zero_add _))
theorem lroot_ok (hT : Tok T) : ∀ (m : Nat) (l : List ByteArray), l.length ≤ m → m ≤ 1000000000 → S32 l → ∀ t f1 f2 n N, TP (fun k => chartularylaw07_Root.f k l t f1 f2 n T N) (fun v => v.1 = (rootV T l, ()))
  | m, l, hm, hb, hl, t, f1, f2, n, N => by
    refine TP.step (fun k => rfl) (TP.eqI (fun h => TP.bindM (pnone_ok _ _ _ _ _) fun _ => TP.some ?_) fun h0 => TP.eqI (fun h => ?_) fun h1 => ?_)
    · rw [rootV_nil (by omega)]
    · obtain ⟨x, rfl⟩ := List.length_eq_one_iff.1 (by omega : l.length = 1)
      exact TP.optE (v := x) rfl (TP.some (by rw [rootV_one rfl]; rfl))
    · have h2 : 2 ≤ l.length := by omega
      have hlt := below_lt h2
      have hp := below_pos l.length
      cases m with
      | zero => omega
      | succ m =>
      refine TP.bindM (lbelow_ok h2 (by omega)) fun _ => ?_
      refine TP.ck (by dsimp only; simp only [Bool.and_eq_true, decide_eq_true_eq]; omega) ?_
      refine TP.bindM (lroot_ok hT m _ (by dsimp only; rw [tkI, List.length_take]; omega) (by omega) ((hl.take _).drop _) _ _ _ _ _) fun _ => ?_
      refine TP.ck (by dsimp only; simp only [Bool.and_eq_true, decide_eq_true_eq]; omega) ?_
      refine TP.bindM (lroot_ok hT m _ (by dsimp only; rw [dkI, List.length_drop]; omega) (by omega) ((hl.take _).drop _) _ _ _ _ _) fun _ => ?_
      have e1 := rootV_size hT (hl.take (belowN l.length))
      have e2 := rootV_size hT (hl.drop (belowN l.length))
      refine TP.bindM (node_ok _ _ (by dsimp only; rw [tkI]; omega) (by dsimp only; rw [dkI]; omega) _ _ _ _ _) fun _ => TP.some ?_
      dsimp only
      rw [tkI, dkI, ← rootV_two h2]
theorem lroot_is (hT : Tok T) (l : List ByteArray) (hb : l.length ≤ 1000000000) (hl : S32 l) (t f1 f2 n N) : TP (fun k => chartularylaw07_Root.f k l t f1 f2 n T N) (fun v => v.1 = (rootV T l, ())) := lroot_ok hT _ l (Nat.le_refl _) hb hl t f1 f2 n N
end
end Go.Proofs.Ytoceopdoedmgoaa.Pure
