/- Plain laws: the front: the roots of the powers of two that a number has. -/
import Derived.Test.YtoceopdoedmgoaaPLawR
namespace Go.Proofs.Ytoceopdoedmgoaa.Pure
open Go Go.Proofs.Ytoceopdoedmgoaa.E Go.Proofs.Ytoceopdoedmgoaa.Eng
set_option linter.unusedVariables false
set_option linter.unusedSimpArgs false

theorem belowN_pow {n d : Nat} (h1 : 2 ^ d < n) (h2 : n ≤ 2 ^ (d + 1)) : belowN n = 2 ^ d := by
  unfold belowN
  have hp : 0 < 2 ^ d := Nat.pow_pos (by decide)
  have a1 : d ≤ Nat.log2 (n - 1) := (Nat.le_log2 (by omega)).2 (by omega)
  have a2 : Nat.log2 (n - 1) < d + 1 := (Nat.log2_lt (by omega)).2 (by omega)
  rw [show Nat.log2 (n - 1) = d by omega]

section
variable (T : Tab)
/-- The roots, the greatest first: of each power of two below 2^d. -/
noncomputable def frV : Nat → List ByteArray → List ByteArray
  | 0, _ => []
  | d + 1, l => if 2 ^ d ≤ l.length then rootV T (l.take (2 ^ d)) :: frV d (l.drop (2 ^ d)) else frV d l
/-- What roots come to, from the last on. -/
noncomputable def foldV : List ByteArray → ByteArray
  | [] => noneV T
  | [x] => x
  | x :: y :: r => nodeV T x (foldV (y :: r))
end
section
variable {T : Tab}
theorem frV_nil : ∀ d, frV T d [] = []
  | 0 => rfl
  | d + 1 => by
    have hp : 0 < 2 ^ d := Nat.pow_pos (by decide)
    rw [frV, if_neg (by simp only [List.length_nil]; omega)]; exact frV_nil d
theorem foldV_cons {x : ByteArray} {r : List ByteArray} (h : r ≠ []) : foldV T (x :: r) = nodeV T x (foldV T r) := by
  cases r with
  | nil => exact absurd rfl h
  | cons y r => rfl
theorem frV_ne : ∀ (d : Nat) (l : List ByteArray), l ≠ [] → l.length < 2 ^ d → frV T d l ≠ []
  | 0, l, h, hl => absurd (List.eq_nil_of_length_eq_zero (by simpa using hl)) h
  | d + 1, l, h, hl => by
    rw [frV]
    split
    · simp
    · exact frV_ne d l h (by omega)
/-- They come to the root of all. -/
theorem fold_fr : ∀ (d : Nat) (l : List ByteArray), l.length < 2 ^ d → foldV T (frV T d l) = rootV T l
  | 0, l, hl => by
    have := List.eq_nil_of_length_eq_zero (by simpa using hl : l.length = 0)
    subst this
    rw [rootV_nil rfl]; rfl
  | d + 1, l, hl => by
    rw [frV]
    split
    · rename_i h
      have hdl : (l.drop (2 ^ d)).length < 2 ^ d := by rw [List.length_drop]; rw [Nat.pow_succ] at hl; omega
      by_cases he : l.drop (2 ^ d) = []
      · rw [he, frV_nil]
        have : l.length ≤ 2 ^ d := by have := congrArg List.length he; rw [List.length_drop] at this; simp at this; omega
        rw [List.take_of_length_le this]; rfl
      · have hne := frV_ne (T := T) d _ he hdl
        rw [foldV_cons hne, fold_fr d _ hdl]
        have h1 : 0 < (l.drop (2 ^ d)).length := List.length_pos_iff.2 he
        rw [List.length_drop] at h1
        have hp : 0 < 2 ^ d := Nat.pow_pos (by decide)
        conv => rhs; rw [rootV_two (by omega), belowN_pow (d := d) (by omega) (by omega)]
    · exact fold_fr d l (by omega)
/-- The last one is of the least power that the number has. -/
theorem fr_last (j p : Nat) : ∀ (d : Nat) (l : List ByteArray), l.length = 2 ^ j * (2 * p + 1) → l.length < 2 ^ d → frV T d l = frV T d (l.take (2 ^ j * (2 * p))) ++ [rootV T (l.drop (2 ^ j * (2 * p)))]
  | 0, l, h, hl => by
    have hp : 0 < 2 ^ j := Nat.pow_pos (by decide)
    have : 0 < 2 ^ j * (2 * p + 1) := Nat.mul_pos hp (by omega)
    simp at hl
    rw [hl] at h; simp at h; omega
  | d + 1, l, h, hl => by
    have hp : 0 < 2 ^ j := Nat.pow_pos (by decide)
    have hpd : 0 < 2 ^ d := Nat.pow_pos (by decide)
    have hsp : 2 ^ j * (2 * p + 1) = 2 ^ j * (2 * p) + 2 ^ j := by rw [Nat.mul_add, Nat.mul_one]
    by_cases h1 : 2 ^ d ≤ l.length
    · by_cases hjd : j < d
      · obtain ⟨e, he⟩ : ∃ e, 2 ^ d = 2 ^ j * (2 * e) := ⟨2 ^ (d - j - 1), by
          rw [← Nat.mul_assoc, Nat.mul_comm (2 ^ j) 2, Nat.mul_assoc, ← Nat.pow_add, Nat.mul_comm, ← Nat.pow_succ]; congr 1; omega⟩
        have hle : 2 ^ j * (2 * e) ≤ 2 ^ j * (2 * p + 1) := by rw [← he, ← h]; exact h1
        have hep : e ≤ p := by have := Nat.le_of_mul_le_mul_left hle hp; omega
        have hle2 : 2 ^ j * (2 * e) ≤ 2 ^ j * (2 * p) := Nat.mul_le_mul_left _ (by omega)
        have hdrop : (l.drop (2 ^ d)).length = 2 ^ j * (2 * (p - e) + 1) := by
          rw [List.length_drop, h, he, ← Nat.mul_sub]; congr 1; omega
        have hsub : 2 ^ j * (2 * (p - e)) = 2 ^ j * (2 * p) - 2 ^ d := by rw [he, ← Nat.mul_sub]; congr 1; omega
        have ih := fr_last j (p - e) d (l.drop (2 ^ d)) hdrop (by rw [List.length_drop]; rw [Nat.pow_succ] at hl; omega)
        rw [frV, if_pos h1, ih, frV, if_pos (by rw [List.length_take, h]; omega)]
        rw [List.cons_append]
        congr 1
        · rw [List.take_take, Nat.min_eq_left (by omega)]
        · congr 1
          · rw [hsub, List.drop_take]
          · have e9 : 2 ^ d + (2 ^ j * (2 * p) - 2 ^ d) = 2 ^ j * (2 * p) := Nat.add_sub_of_le (by rw [he]; exact hle2)
            rw [hsub, List.drop_drop, e9]
      · have hjd : d ≤ j := by omega
        have hpw : 2 ^ d ≤ 2 ^ j := Nat.pow_le_pow_right (by decide) hjd
        have hp0 : p = 0 := by
          rcases Nat.eq_zero_or_pos p with h0 | h0
          · exact h0
          · have : 2 ^ j * 3 ≤ 2 ^ j * (2 * p + 1) := Nat.mul_le_mul_left _ (by omega)
            rw [Nat.pow_succ] at hl; omega
        subst hp0
        simp only [Nat.mul_zero, List.take_zero, List.drop_zero, frV_nil, List.nil_append, Nat.zero_add, Nat.mul_one] at h ⊢
        rw [Nat.pow_succ] at hl
        have hj : 2 ^ j < 2 ^ (d + 1) := by rw [Nat.pow_succ]; omega
        have hjd2 : j = d := by have := (Nat.pow_lt_pow_iff_right (a := 2) (by decide)).1 hj; omega
        subst hjd2
        rw [frV, if_pos h1, List.take_of_length_le (by omega), List.drop_eq_nil_of_le (by omega), frV_nil]
    · have ih := fr_last j p d l h (by omega)
      rw [frV, if_neg h1, ih, frV, if_neg (by rw [List.length_take]; omega)]
theorem fr_s32 (hT : Tok T) : ∀ (d : Nat) (l : List ByteArray), S32 l → S32 (frV T d l)
  | 0, l, h => fun x hx => by simp [frV] at hx
  | d + 1, l, h => by
    rw [frV]
    split
    · intro x hx
      rcases List.mem_cons.1 hx with rfl | hx
      · exact rootV_size hT (h.take _)
      · exact fr_s32 hT d _ (h.drop _) x hx
    · exact fr_s32 hT d l h
theorem fr_len : ∀ (d : Nat) (l : List ByteArray), (frV T d l).length ≤ d
  | 0, l => by simp [frV]
  | d + 1, l => by
    rw [frV]
    split
    · have := fr_len d (l.drop (2 ^ d)); simp only [List.length_cons]; omega
    · have := fr_len d l; omega
end
theorem odd_bit (q : Nat) (h : q < 2 ^ 40) : IntKind.wrap .i64 ((BitVec.ofInt (IntKind.bits .i64) (q : Int) &&& BitVec.ofInt (IntKind.bits .i64) 1).toNat : Int) = ((q % 2 : Nat) : Int) := by
  have e : (BitVec.ofInt (IntKind.bits .i64) (q : Int) &&& BitVec.ofInt (IntKind.bits .i64) 1).toNat = q % 2 := by
    show (BitVec.ofInt 64 (q : Int) &&& BitVec.ofInt 64 1).toNat = q % 2
    rw [BitVec.toNat_and, BitVec.toNat_ofInt, BitVec.toNat_ofInt]
    have e1 : ((q : Int) % ((2 ^ 64 : Nat) : Int)).toNat = q := by omega
    have e2 : ((1 : Int) % ((2 ^ 64 : Nat) : Int)).toNat = 1 := by decide
    rw [e1, e2, Nat.and_one_is_mod]
  rw [e, wrap_i64 (by omega) (by omega)]
section
variable {T : Tab}
theorem froot_loop (hT : Tok T) (S : List ByteArray) (hS : S32 S) (hb : S.length ≤ 1000) (sz : Int) : ∀ (i : Nat) (out : ByteArray), i < S.length → out = foldV T (S.drop i) → out.size = 32 → ∀ t f1 f2 n N,
    TP (fun k => merkle_Front_Root.l0 k out ((i : Int) - 1) sz S t f1 f2 n T N) (fun v => v.1 = (foldV T S, ()) ∧ v.2.1 = ((), sz, S, ()))
  | 0, out, hi, ho, hsz, t, f1, f2, n, N => by
    refine TP.step (fun k => rfl) (TP.dec (fun h => absurd h (by simp)) fun _ => TP.some ⟨by rw [ho, List.drop_zero], rfl⟩)
  | i + 1, out, hi, ho, hsz, t, f1, f2, n, N => by
    have e1 : (((i + 1 : Nat) : Int) - 1) = (i : Int) := by omega
    rw [e1]
    have hx : (S[i]).size = 32 := hS _ (List.getElem_mem (by omega))
    refine TP.step (fun k => rfl) (TP.dec (fun _ => ?_) fun h => absurd (by omega) h)
    refine TP.ck (by simp only [Bool.and_eq_true, decide_eq_true_eq]; omega) (TP.optE (rdo_at (by omega)) (TP.bindM (node_ok _ _ (by omega) (by omega) _ _ _ _ _) fun s => ?_))
    rw [show IntKind.wrap .i64 ((i : Int) - 1) = (i : Int) - 1 from wrap_i64 (by omega) (by omega)]
    refine froot_loop hT S hS hb sz i _ (by omega) ?_ (hashV_size hT _) _ _ _ _ _
    show nodeV T S[i] out = _
    rw [List.drop_eq_getElem_cons (by omega : i < S.length), foldV_cons (by intro e; have := congrArg List.length e; rw [List.length_drop] at this; simp at this; omega), ho]
theorem froot_ok (hT : Tok T) (S : List ByteArray) (hS : S32 S) (hb : S.length ≤ 1000) (sz : Int) (t f1 f2 n N) : TP (fun k => merkle_Front_Root.f k sz S t f1 f2 n T N) (fun v => v.1 = (foldV T S, ()) ∧ v.2.1 = ((), sz, S, ())) := by
  refine TP.step (fun k => rfl) (TP.eqI (fun h => ?_) fun h => ?_)
  · have := List.eq_nil_of_length_eq_zero (by omega : S.length = 0)
    subst this
    exact TP.bindM (pnone_ok _ _ _ _ _) fun _ => TP.some ⟨rfl, rfl⟩
  · have h0 : S.length - 1 < S.length := by omega
    have e1 : IntKind.wrap .i64 ((S.length : Int) - 1) = ((S.length - 1 : Nat) : Int) := by rw [wrap_i64 (by omega) (by omega)]; omega
    have e2 : IntKind.wrap .i64 ((S.length : Int) - 2) = ((S.length - 1 : Nat) : Int) - 1 := by rw [wrap_i64 (by omega) (by omega)]; omega
    rw [e1, e2]
    refine TP.ck (by simp only [Bool.and_eq_true, decide_eq_true_eq]; omega) (TP.optE (rdo_at h0) ?_)
    refine froot_loop hT S hS hb sz (S.length - 1) _ h0 ?_ (hS _ (List.getElem_mem h0)) _ _ _ _ _
    rw [List.drop_eq_getElem_cons h0, List.drop_eq_nil_of_le (by omega)]; rfl
theorem fadd_loop (hT : Tok T) (l : List ByteArray) (hl : S32 l) (hb : l.length < 2 ^ 6) (sz : Int) : ∀ (m j q : Nat), q ≤ m → 1 ≤ q → l.length = 2 ^ j * q → ∀ S, S = frV T 6 (l.take (2 ^ j * (q - 1))) ++ [rootV T (l.drop (2 ^ j * (q - 1)))] → ∀ t f1 f2 n N,
    TP (fun k => merkle_Front_Add.l0 k (q : Int) sz S t f1 f2 n T N) (fun v => v.2.1 = ((), sz, frV T 6 l, ()))
  | 0, j, q, hq, h1, h, S, hS, t, f1, f2, n, N => by omega
  | m + 1, j, q, hq, h1, h, S, hS, t, f1, f2, n, N => by
    have hpj : 0 < 2 ^ j := Nat.pow_pos (by decide)
    have hql : q ≤ l.length := by rw [h]; exact Nat.le_mul_of_pos_left _ hpj
    have hb' : l.length < 64 := hb
    rw [show (fun k => merkle_Front_Add.l0 k (q : Int) sz S t f1 f2 n T N) = (fun k => merkle_Front_Add.l0 k (q : Int) sz S t f1 f2 n T N) from rfl]
    refine TP.step (fun k => rfl) (TP.eqI (fun he => ?_) fun he => ?_)
    · rw [odd_bit q (by omega)] at he
      obtain ⟨p, rfl⟩ : ∃ p, q = 2 * p := ⟨q / 2, by omega⟩
      obtain ⟨r, rfl⟩ : ∃ r, p = r + 1 := ⟨p - 1, by omega⟩
      have e0 : 2 * (r + 1) - 1 = 2 * r + 1 := by omega
      rw [e0] at hS
      have hle : 2 ^ j * (2 * r + 1) ≤ l.length := by rw [h]; exact Nat.mul_le_mul_left _ (by omega)
      have hsp : 2 ^ j * (2 * r + 1) = 2 ^ j * (2 * r) + 2 ^ j := by rw [Nat.mul_add, Nat.mul_one]
      have hsp2 : 2 ^ j * (2 * (r + 1)) = 2 ^ j * (2 * r) + 2 ^ j + 2 ^ j := by rw [Nat.mul_add 2, Nat.mul_add (2 ^ j)]; omega
      have hk := fr_last (T := T) j r 6 (l.take (2 ^ j * (2 * r + 1))) (by rw [List.length_take]; omega) (by rw [List.length_take]; omega)
      rw [List.take_take, Nat.min_eq_left (by omega)] at hk
      have hdt : (l.take (2 ^ j * (2 * r + 1))).drop (2 ^ j * (2 * r)) = (l.drop (2 ^ j * (2 * r))).take (2 ^ j) := by rw [hsp, List.drop_take]; congr 1; omega
      rw [hdt] at hk
      rw [hk] at hS
      have hA := fr_len (T := T) 6 (l.take (2 ^ j * (2 * r)))
      generalize hAe : frV T 6 (l.take (2 ^ j * (2 * r))) = A at hS hA
      generalize hxe : rootV T ((l.drop (2 ^ j * (2 * r))).take (2 ^ j)) = x at hS
      generalize hye : rootV T (l.drop (2 ^ j * (2 * r + 1))) = y at hS
      have hx : x.size = 32 := by rw [← hxe]; exact rootV_size hT ((hl.drop _).take _)
      have hy : y.size = 32 := by rw [← hye]; exact rootV_size hT (hl.drop _)
      have hSl : S.length = A.length + 2 := by rw [hS]; simp
      have e1 : IntKind.wrap .i64 ((S.length : Int) - 2) = (A.length : Int) := by rw [wrap_i64 (by omega) (by omega)]; omega
      have e2 : IntKind.wrap .i64 ((S.length : Int) - 1) = ((A.length + 1 : Nat) : Int) := by rw [wrap_i64 (by omega) (by omega)]; omega
      have g1 : rdo S (A.length : Int) = some x := by rw [rdo_at (by omega)]; subst hS; simp
      have g2 : rdo S ((A.length + 1 : Nat) : Int) = some y := by rw [rdo_at (by omega)]; subst hS; simp
      rw [e1, e2]
      refine TP.ck (by simp only [Bool.and_eq_true, decide_eq_true_eq]; omega) (TP.ck (by simp only [Bool.and_eq_true, decide_eq_true_eq]; omega) (TP.optE g1 (TP.ck (by simp only [Bool.and_eq_true, decide_eq_true_eq]; omega) (TP.optE g2 (TP.bindM (node_ok _ _ (by omega) (by omega) _ _ _ _ _) fun s => ?_)))))
      have e3 : ((A.length : Int) - 0 : Int).toNat = A.length := by omega
      rw [e3]
      refine TP.ck (by rw [decide_eq_true_eq, List.length_take]; simp only [List.length_cons, List.length_nil]; omega) (TP.ck rfl ?_)
      have e4 : Int.fdiv ((2 * (r + 1) : Nat) : Int) (2 ^ (min (1 : Int).toNat (IntKind.bits .i64))) = ((r + 1 : Nat) : Int) := by
        show Int.fdiv ((2 * (r + 1) : Nat) : Int) 2 = _
        rw [Int.fdiv_eq_ediv_of_nonneg _ (by decide)]; omega
      rw [e4]
      have hpw : 2 ^ (j + 1) * (r + 1 - 1) = 2 ^ j * (2 * r) := by rw [Nat.pow_succ, Nat.mul_assoc]; rfl
      refine fadd_loop hT l hl hb sz m (j + 1) (r + 1) (by omega) (by omega) (by rw [h, Nat.pow_succ, Nat.mul_assoc]) _ ?_ _ _ _ _ _
      rw [hpw, hAe]
      have e5 : S.take A.length = A := by rw [hS, List.append_assoc, List.take_left']; rfl
      rw [e5]
      congr 1
      show [nodeV T x y] = _
      have hlen : (l.drop (2 ^ j * (2 * r))).length = 2 ^ (j + 1) := by rw [List.length_drop, h, Nat.pow_succ]; omega
      have hp2 : 2 ^ j < 2 ^ (j + 1) := by rw [Nat.pow_succ]; omega
      rw [rootV_two (l := l.drop (2 ^ j * (2 * r))) (by rw [hlen, Nat.pow_succ]; omega), hlen, belowN_pow hp2 (Nat.le_refl _), hxe, List.drop_drop, ← hsp, hye]
    · rw [odd_bit q (by omega)] at he
      obtain ⟨p, rfl⟩ : ∃ p, q = 2 * p + 1 := ⟨q / 2, by omega⟩
      refine TP.some ?_
      rw [hS, show 2 * p + 1 - 1 = 2 * p by omega, ← fr_last (T := T) j p 6 l h hb]
theorem fadd_ok (hT : Tok T) (l : List ByteArray) (hl : S32 l) (hb : l.length < 2 ^ 6) (i : Nat) (hi : i < l.length) (t f1 f2 n N) : TP (fun k => merkle_Front_Add.f k l[i] (i : Int) (frV T 6 (l.take i)) t f1 f2 n T N) (fun v => v.2.1 = ((), ((i + 1 : Nat) : Int), frV T 6 (l.take (i + 1)), ())) := by
  have hb' : l.length < 64 := hb
  have hA := fr_len (T := T) 6 (l.take i)
  have e1 : IntKind.wrap .i64 ((i : Int) + 1) = ((i + 1 : Nat) : Int) := by rw [wrap_i64 (by omega) (by omega)]; rfl
  refine TP.step (fun k => rfl) (TP.ck (by rw [decide_eq_true_eq]; simp only [List.length_cons, List.length_nil]; omega) ?_)
  rw [e1]
  have hlen : (l.take (i + 1)).length = i + 1 := by rw [List.length_take]; omega
  refine fadd_loop hT (l.take (i + 1)) (hl.take _) (by omega) _ (i + 1) 0 (i + 1) (Nat.le_refl _) (by omega) (by rw [hlen]; simp) _ ?_ _ _ _ _ _
  have e2 : 2 ^ 0 * (i + 1 - 1) = i := by simp
  rw [e2, List.take_take, Nat.min_eq_left (by omega)]
  congr 1
  rw [List.drop_take, List.drop_eq_getElem_cons hi, show i + 1 - i = 1 by omega]
  rw [rootV_one (by simp; omega)]; rfl
end
end Go.Proofs.Ytoceopdoedmgoaa.Pure
