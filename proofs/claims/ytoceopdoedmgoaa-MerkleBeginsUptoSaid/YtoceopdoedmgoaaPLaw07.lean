/- Plain laws: chapter 7: what the document says, as plain functions; the example. -/
import Derived.Test.YtoceopdoedmgoaaPLawR
import Derived.Test.YtoceopdoedmgoaaPGrow
namespace Go.Proofs.Ytoceopdoedmgoaa.Pure
open Go Go.Proofs.Ytoceopdoedmgoaa.E Go.Proofs.Ytoceopdoedmgoaa.Eng
set_option linter.unusedVariables false
set_option linter.unusedSimpArgs false

section
variable {T : Tab}
theorem lpath_ok (hT : Tok T) : ∀ (m : Nat) (l : List ByteArray), l.length ≤ m → m ≤ 1000000000 → S32 l → ∀ (i : Nat), i < l.length → ∀ t f1 f2 n N, TP (fun k => chartularylaw07_Path.f k l (i : Int) t f1 f2 n T N) (fun v => v.1 = (pathV T l i, ()))
  | m, l, hm, hb, hl, i, hi, t, f1, f2, n, N => by
    refine TP.step (fun k => rfl) (TP.dec (fun h => TP.some ?_) fun h1 => ?_)
    · rw [pathV_one (by omega)]
    · have h2 : 2 ≤ l.length := by omega
      have hlt := below_lt h2
      have hp := below_pos l.length
      cases m with
      | zero => omega
      | succ m =>
      have hd : l.length ≤ 1000000000 := by omega
      have hr (q : List ByteArray) (i : Nat) (h : q.length ≤ m) (hq : S32 q) : (pathV T q i).length ≤ 100 := by
        rw [(pathV_s32 hT m q h hq i).2]; exact Nat.le_trans (depth_le 64 i _ (by omega)) (by decide)
      refine TP.bindM (lbelow_ok h2 (by omega)) fun _ => TP.dec (fun hc => ?_) fun hc => ?_
      · dsimp only at hc
        have hc : i < belowN l.length := by omega
        refine TP.ck (by dsimp only; simp only [Bool.and_eq_true, decide_eq_true_eq]; omega) ?_
        refine TP.bindM (lpath_ok hT m _ (by dsimp only; rw [tkI, List.length_take]; omega) (by omega) ((hl.take _).drop _) i (by dsimp only; rw [tkI, List.length_take]; omega) _ _ _ _ _) fun _ => ?_
        refine TP.ck (by dsimp only; simp only [Bool.and_eq_true, decide_eq_true_eq]; omega) ?_
        refine TP.bindM (lroot_is hT _ (by dsimp only; rw [dkI, List.length_drop]; omega) ((hl.take _).drop _) _ _ _ _ _) fun _ => ?_
        refine TP.ck (by apply decide_eq_true; dsimp only; rw [tkI]; have := hr _ i (by rw [List.length_take]; omega) (hl.take (belowN l.length)); simp only [List.length_cons, List.length_nil]; omega) (TP.some ?_)
        dsimp only
        rw [tkI, dkI, ← pathV_left h2 hc]
      · dsimp only at hc
        have hc : ¬ i < belowN l.length := by omega
        refine TP.ck (by dsimp only; simp only [Bool.and_eq_true, decide_eq_true_eq]; omega) ?_
        refine TP.bindM (v := (pathV T (l.drop (belowN l.length)) (i - belowN l.length), ())) ?_ fun _ => ?_
        · dsimp only
          rw [dkI, show IntKind.wrap .i64 ((i : Int) - (belowN l.length : Int)) = ((i - belowN l.length : Nat) : Int) by rw [wrap_i64 (by omega) (by omega)]; omega]
          exact lpath_ok hT m _ (by rw [List.length_drop]; omega) (by omega) (hl.drop _) (i - belowN l.length) (by rw [List.length_drop]; omega) _ _ _ _ _
        refine TP.ck (by dsimp only; simp only [Bool.and_eq_true, decide_eq_true_eq]; omega) ?_
        refine TP.bindM (lroot_is hT _ (by dsimp only; rw [tkI, List.length_take]; omega) ((hl.take _).drop _) _ _ _ _ _) fun _ => ?_
        refine TP.ck (by apply decide_eq_true; dsimp only; have := hr _ (i - belowN l.length) (by rw [List.length_drop]; omega) (hl.drop (belowN l.length)); simp only [List.length_cons, List.length_nil]; omega) (TP.some ?_)
        dsimp only
        rw [tkI, ← pathV_right h2 hc]
theorem lproof_ok (hT : Tok T) : ∀ (m : Nat) (l : List ByteArray), l.length ≤ m → m ≤ 1000000000 → S32 l → ∀ (a : Nat) (w : Bool), 1 ≤ a → a ≤ l.length → ∀ t f1 f2 n N, TP (fun k => chartularylaw07_proof.f k l (a : Int) w t f1 f2 n T N) (fun v => v.1 = (growV T l a w, ()))
  | m, l, hm, hb, hl, a, w, h1, ha, t, f1, f2, n, N => by
    refine TP.step (fun k => rfl) (TP.eqI (fun h => TP.cond (fun hw => TP.some ?_) fun hw => TP.eqI (fun _ => TP.bindM (lroot_is hT l (by omega) hl _ _ _ _ _) fun _ => TP.some ?_) fun h0 => absurd h h0) fun h0 => TP.eqI (fun h => absurd h h0) fun _ => ?_)
    · have h : a = l.length := by omega
      subst h; subst hw
      rw [growV_all]
    · have h : a = l.length := by omega
      subst h; subst hw
      rw [growV_part]
    · have h2 : 2 ≤ l.length := by omega
      have hn : a ≠ l.length := by omega
      have hlt := below_lt h2
      have hp := below_pos l.length
      cases m with
      | zero => omega
      | succ m =>
      have hd : l.length ≤ 1000000000 := by omega
      have hr (q : List ByteArray) (a : Nat) (w : Bool) (h : q.length ≤ m) (hq : S32 q) (h1 : 1 ≤ a) (ha : a ≤ q.length) : (growV T q a w).length ≤ 100 := by
        rw [(growV_s32 hT m q h hq a w h1 ha).2]; exact Nat.le_trans (long_le 64 a _ w (by omega)) (by decide)
      refine TP.bindM (lbelow_ok h2 (by omega)) fun _ => TP.dec (fun hc => ?_) fun hc => ?_
      · dsimp only at hc
        have hc : a ≤ belowN l.length := by omega
        refine TP.ck (by dsimp only; simp only [Bool.and_eq_true, decide_eq_true_eq]; omega) ?_
        refine TP.bindM (lproof_ok hT m _ (by dsimp only; rw [tkI, List.length_take]; omega) (by omega) ((hl.take _).drop _) a w h1 (by dsimp only; rw [tkI, List.length_take]; omega) _ _ _ _ _) fun _ => ?_
        refine TP.ck (by dsimp only; simp only [Bool.and_eq_true, decide_eq_true_eq]; omega) ?_
        refine TP.bindM (lroot_is hT _ (by dsimp only; rw [dkI, List.length_drop]; omega) ((hl.take _).drop _) _ _ _ _ _) fun _ => ?_
        refine TP.ck (by apply decide_eq_true; dsimp only; rw [tkI]; have := hr _ a w (by rw [List.length_take]; omega) (hl.take (belowN l.length)) h1 (by rw [List.length_take]; omega); simp only [List.length_cons, List.length_nil]; omega) (TP.some ?_)
        dsimp only
        rw [tkI, dkI, ← growV_left h2 hn hc]
      · dsimp only at hc
        have hc : ¬ a ≤ belowN l.length := by omega
        refine TP.ck (by dsimp only; simp only [Bool.and_eq_true, decide_eq_true_eq]; omega) ?_
        refine TP.bindM (v := (growV T (l.drop (belowN l.length)) (a - belowN l.length) false, ())) ?_ fun _ => ?_
        · dsimp only
          rw [dkI, show IntKind.wrap .i64 ((a : Int) - (belowN l.length : Int)) = ((a - belowN l.length : Nat) : Int) by rw [wrap_i64 (by omega) (by omega)]; omega]
          exact lproof_ok hT m _ (by rw [List.length_drop]; omega) (by omega) (hl.drop _) (a - belowN l.length) false (by omega) (by rw [List.length_drop]; omega) _ _ _ _ _
        refine TP.ck (by dsimp only; simp only [Bool.and_eq_true, decide_eq_true_eq]; omega) ?_
        refine TP.bindM (lroot_is hT _ (by dsimp only; rw [tkI, List.length_take]; omega) ((hl.take _).drop _) _ _ _ _ _) fun _ => ?_
        refine TP.ck (by apply decide_eq_true; dsimp only; have := hr _ (a - belowN l.length) false (by rw [List.length_drop]; omega) (hl.drop (belowN l.length)) (by omega) (by rw [List.length_drop]; omega); simp only [List.length_cons, List.length_nil]; omega) (TP.some ?_)
        dsimp only
        rw [tkI, ← growV_right h2 hn hc]

theorem lgrowth_ok (hT : Tok T) (l : List ByteArray) (hb : l.length ≤ 1000000000) (hl : S32 l) (a : Nat) (ha : a ≤ l.length) (t f1 f2 n N) : TP (fun k => chartularylaw07_Growth.f k l (a : Int) t f1 f2 n T N) (fun v => v.1 = ((GrowthA T l a).1, ())) := by
  refine TP.step (fun k => rfl) (TP.eqI (fun h => TP.some ?_) fun h3 => ?_)
  · unfold GrowthA; rw [if_neg (by omega), if_pos (by omega)]
  · refine TP.bindM (lproof_ok hT _ l (Nat.le_refl _) hb hl a true (by omega) ha _ _ _ _ _) fun _ => TP.some ?_
    unfold GrowthA; rw [if_neg (by omega), if_neg (by omega)]; rfl
theorem lsums_loop (l : List ByteArray) (hb : l.length ≤ 1000000000) : ∀ (m i : Nat), i + m = l.length → TP (fun k => chartularylaw07_sums.l0 k l (i : Int)) (fun v => v.1 = ((l.drop i).all (fun x => x.size == 32), ()))
  | 0, i, h => TP.step (fun k => rfl) (TP.dec (fun h' => absurd h' (by omega)) fun _ => TP.some (by rw [List.drop_eq_nil_of_le (by omega)]; rfl))
  | m + 1, i, h => by
    have hi : i < l.length := by omega
    refine TP.step (fun k => rfl) (TP.dec (fun h' => ?_) fun h' => absurd (by omega : (i : Int) < l.length) h')
    refine TP.optE (rdo_at hi) (TP.neI (fun hn => TP.some ?_) fun hn => ?_)
    · rw [List.drop_eq_getElem_cons hi, List.all_cons, beq_false_of_ne (by omega)]; rfl
    · have e : IntKind.wrap .i64 ((i : Int) + 1) = ((i + 1 : Nat) : Int) := by rw [wrap_i64 (by omega) (by omega)]; rfl
      rw [e]
      refine TP.mono (lsums_loop l hb m (i + 1) (by omega)) fun v hv => ?_
      rw [hv, List.drop_eq_getElem_cons hi, List.all_cons, show (l[i].size == 32) = true from beq_iff_eq.2 (by omega)]; rfl
theorem lsums_ok (l : List ByteArray) (hb : l.length ≤ 1000000000) : TP (fun k => chartularylaw07_sums.f k l) (fun v => v.1 = (sumsB l, ())) := TP.step (fun k => rfl) (lsums_loop l hb l.length 0 (Nat.zero_add _))
theorem same_loop (l : List ByteArray) (hb : l.length ≤ 1000000000) : ∀ (m i : Nat), i + m = l.length → TP (fun k => chartularylaw07_same.l0 k l l (i : Int)) (fun v => v.1 = (true, ()))
  | 0, i, h => TP.step (fun k => rfl) (TP.dec (fun h' => absurd h' (by omega)) fun _ => TP.some rfl)
  | m + 1, i, h => by
    have hi : i < l.length := by omega
    refine TP.step (fun k => rfl) (TP.dec (fun h' => ?_) fun h' => absurd (by omega : (i : Int) < l.length) h')
    refine TP.optE (rdo_at hi) (TP.optE (rdo_at hi) (TP.neT (fun hn => absurd rfl hn) fun hn => ?_))
    have e : IntKind.wrap .i64 ((i : Int) + 1) = ((i + 1 : Nat) : Int) := by rw [wrap_i64 (by omega) (by omega)]; rfl
    rw [e]
    exact same_loop l hb m (i + 1) (by omega)
theorem same_ok (l : List ByteArray) (hb : l.length ≤ 1000000000) : TP (fun k => chartularylaw07_same.f k l l) (fun v => v.1 = (true, ())) :=
  TP.step (fun k => rfl) (TP.neI (fun h => absurd rfl h) fun _ => same_loop l hb l.length 0 (Nat.zero_add _))
theorem ldepth_loop : ∀ (m n i c : Nat), n ≤ m → m ≤ 1000000000 → i < n → c + m ≤ 2000000000 → TP (fun k => chartularylaw07_Depth.l0 k (i : Int) (n : Int) (c : Int)) (fun v => v.1 = (((c + depthV i n : Nat) : Int), ()))
  | m, n, i, c, hm, hb, hi, hc => by
    refine TP.step (fun k => rfl) (TP.dec (fun h => ?_) fun h => TP.some ?_)
    · have h2 : 2 ≤ n := by omega
      have hlt := below_lt h2
      have hpos := below_pos n
      have ec : IntKind.wrap .i64 ((c : Int) + 1) = ((c + 1 : Nat) : Int) := by rw [wrap_i64 (by omega) (by omega)]; rfl
      cases m with
      | zero => omega
      | succ m =>
      refine TP.bindM (lbelow_ok h2 (by omega)) fun _ => TP.dec (fun hc => ?_) fun hc => ?_
      · dsimp only at hc
        rw [ec]
        refine TP.mono (ldepth_loop m (belowN n) i (c + 1) (by omega) (by omega) (by omega) (by omega)) fun v hv => ?_
        rw [hv, depthV_left h2 (by omega)]; congr 2; omega
      · dsimp only at hc
        rw [ec, show IntKind.wrap .i64 ((i : Int) - (belowN n : Int)) = ((i - belowN n : Nat) : Int) by rw [wrap_i64 (by omega) (by omega)]; omega, show IntKind.wrap .i64 ((n : Int) - (belowN n : Int)) = ((n - belowN n : Nat) : Int) by rw [wrap_i64 (by omega) (by omega)]; omega]
        refine TP.mono (ldepth_loop m (n - belowN n) (i - belowN n) (c + 1) (by omega) (by omega) (by omega) (by omega)) fun v hv => ?_
        rw [hv, depthV_right h2 (by omega)]; congr 2; omega
    · rw [depthV_one (by omega)]; rfl
theorem ldepth_ok (i n : Nat) (hi : i < n) (hb : n ≤ 1000000000) : TP (fun k => chartularylaw07_Depth.f k (i : Int) (n : Int)) (fun v => v.1 = ((depthV i n : Int), ())) := by
  refine TP.step (fun k => rfl) (TP.mono (ldepth_loop n n i 0 (Nat.le_refl _) hb hi (by omega)) fun v hv => ?_)
  rw [hv, Nat.zero_add]
theorem lclimb_ok (hT : Tok T) (x : ByteArray) (hx : x.size = 32) : ∀ (m : Nat) (i n : Nat) (p : List ByteArray), n ≤ m → m ≤ 1000000000 → i < n → S32 p → p.length ≤ 1000000000 → p.length = depthV i n → ∀ t f1 f2 c N, TP (fun k => chartularylaw07_Climb.f k x (i : Int) (n : Int) p t f1 f2 c T N) (fun v => v.1 = (climbV T x i n p, ()))
  | m, i, n, p, hm, hb, hi, hp, hq, hd, t, f1, f2, c, N => by
    refine TP.step (fun k => rfl) (TP.eqI (fun h => TP.some ?_) fun h1 => TP.eqI (fun h => TP.some ?_) fun h0 => ?_)
    · rw [climbV_one (by omega) x i p]
    · have h2 : 2 ≤ n := by omega
      have hd' : depthV i n ≠ 0 := by
        by_cases hc : i < belowN n
        · rw [depthV_left h2 hc]; omega
        · rw [depthV_right h2 hc]; omega
      omega
    · have h2 : 2 ≤ n := by omega
      have hlt := below_lt h2
      have hpos := below_pos n
      have h0 : p.length ≠ 0 := by omega
      have hl := hp.last h0
      have hdl : p.dropLast.length = p.length - 1 := List.length_dropLast
      have hz (j k : Nat) (q : List ByteArray) : (climbV T x j k q).size ≤ 32 := by
        rw [climbV]; split
        · omega
        · split <;> exact Nat.le_of_eq (hashV_size hT _)
      cases m with
      | zero => omega
      | succ m =>
      refine TP.step (fun k => rfl) (TP.bindM (lbelow_ok h2 (by omega)) fun _ => TP.optE (lastI h0 hq) (TP.ck ?_ (TP.dec (fun hc => ?_) fun hc => ?_)))
      · rw [wrap_i64 (by omega) (by omega)]; simp only [Bool.and_eq_true, decide_eq_true_eq]; omega
      · dsimp only at hc
        have hc : i < belowN n := by omega
        rw [depthV_left h2 hc] at hd
        refine TP.bindM (v := (climbV T x i (belowN n) p.dropLast, ())) ?_ fun _ => ?_
        · rw [tlI h0 hq]
          exact lclimb_ok hT x hx m i (belowN n) _ (by omega) (by omega) hc hp.dropLast (by omega) (by omega) _ _ _ _ _
        refine TP.bindM (node_ok _ _ (Nat.le_trans (hz _ _ _) (by decide)) (by omega) _ _ _ _ _) fun _ => TP.some ?_
        rw [climbV_left h2 hc]
      · dsimp only at hc
        have hc : ¬ i < belowN n := by omega
        rw [depthV_right h2 hc] at hd
        refine TP.bindM (v := (climbV T x (i - belowN n) (n - belowN n) p.dropLast, ())) ?_ fun _ => ?_
        · rw [tlI h0 hq, show IntKind.wrap .i64 ((i : Int) - (belowN n : Int)) = ((i - belowN n : Nat) : Int) by rw [wrap_i64 (by omega) (by omega)]; omega, show IntKind.wrap .i64 ((n : Int) - (belowN n : Int)) = ((n - belowN n : Nat) : Int) by rw [wrap_i64 (by omega) (by omega)]; omega]
          exact lclimb_ok hT x hx m (i - belowN n) (n - belowN n) _ (by omega) (by omega) (by omega) hp.dropLast (by omega) (by omega) _ _ _ _ _
        refine TP.bindM (node_ok _ _ (by omega) (Nat.le_trans (hz _ _ _) (by decide)) _ _ _ _ _) fun _ => TP.some ?_
        rw [climbV_right h2 hc]
theorem llong_ok : ∀ (m a n : Nat) (w : Bool), n ≤ m → m ≤ 1000000000 → 1 ≤ a → a ≤ n → TP (fun k => chartularylaw07_Long.f k (a : Int) (n : Int) w) (fun v => v.1 = ((longV a n w : Int), ()))
  | m, a, n, w, hm, hb, h1, ha => by
    have hl (a n : Nat) (w : Bool) (h : n ≤ 1000000000) : IntKind.wrap .i64 (1 + ((longV a n w : Nat) : Int)) = ((1 + longV a n w : Nat) : Int) := by
      have := long_le 30 a n w (by omega)
      rw [wrap_i64 (by omega) (by omega)]; rfl
    refine TP.step (fun k => rfl) (TP.eqI (fun h => TP.cond (fun hw => TP.some ?_) fun hw => TP.eqI (fun _ => TP.some ?_) fun h0 => absurd h h0) fun hn => TP.eqI (fun h => absurd h hn) fun _ => TP.dec (fun h => absurd h (by omega)) fun _ => ?_)
    · have h : a = n := by omega
      subst h; subst hw
      rw [longV_all]; rfl
    · have h : a = n := by omega
      subst h; subst hw
      rw [longV_part]; rfl
    · have hne : a ≠ n := by omega
      have h2 : 2 ≤ n := by omega
      have hlt := below_lt h2
      have hpos := below_pos n
      cases m with
      | zero => omega
      | succ m =>
      refine TP.bindM (lbelow_ok h2 (by omega)) fun _ => TP.dec (fun hc => ?_) fun hc => ?_
      · dsimp only at hc
        refine TP.bindM (llong_ok m a (belowN n) w (by omega) (by omega) h1 (by omega)) fun _ => TP.some ?_
        dsimp only
        rw [hl _ _ _ (by omega), longV_left h2 hne (by omega)]
      · dsimp only at hc
        refine TP.bindM (v := ((longV (a - belowN n) (n - belowN n) false : Int), ())) ?_ fun _ => TP.some ?_
        · dsimp only
          rw [show IntKind.wrap .i64 ((a : Int) - (belowN n : Int)) = ((a - belowN n : Nat) : Int) by rw [wrap_i64 (by omega) (by omega)]; omega, show IntKind.wrap .i64 ((n : Int) - (belowN n : Int)) = ((n - belowN n : Nat) : Int) by rw [wrap_i64 (by omega) (by omega)]; omega]
          exact llong_ok m (a - belowN n) (n - belowN n) false (by omega) (by omega) (by omega) (by omega)
        · dsimp only
          rw [hl _ _ _ (by omega), longV_right h2 hne (by omega)]
theorem lboth_ok (hT : Tok T) : ∀ (m : Nat) (a n : Nat) (w : Bool) (old : ByteArray) (p : List ByteArray), n ≤ m → m ≤ 1000000000 → 1 ≤ a → a ≤ n → old.size ≤ 32 → S32 p → p.length ≤ 1000000000 → p.length = longV a n w → ∀ t f1 f2 c N, TP (fun k => chartularylaw07_Both.f k (a : Int) (n : Int) w old p t f1 f2 c T N) (fun v => v.1 = ((bothV T a n w old p).1, (bothV T a n w old p).2, ()) ∧ (bothV T a n w old p).1.size ≤ 32 ∧ (bothV T a n w old p).2.size ≤ 32)
  | m, a, n, w, old, p, hm, hb, h1, ha, ho, hp, hq, hd, t, f1, f2, c, N => by
    refine TP.step (fun k => rfl) (TP.eqI (fun h => TP.cond (fun hw => TP.some ?_) fun hw => TP.eqI (fun h0 => ?_) fun h0 => ?_) fun hn => TP.eqI (fun h => ?_) fun h0 => ?_)
    · have h : a = n := by omega
      subst h; subst hw
      rw [bothV_all]; exact ⟨rfl, ho, ho⟩
    · have h : a = n := by omega
      subst h; subst hw
      rw [longV_part] at hd; omega
    · have h : a = n := by omega
      subst h; subst hw
      refine TP.step (fun k => rfl) (TP.optE (lastI (by omega) hq) (TP.eqI (fun _ => TP.some ?_) fun h => absurd rfl h))
      rw [bothV_part]
      have := hp.last (by omega)
      exact ⟨rfl, by dsimp only; omega, by dsimp only; omega⟩
    · have hne : a ≠ n := by omega
      have h2 : 2 ≤ n := by omega
      by_cases hc : a ≤ belowN n
      · rw [longV_left h2 hne hc] at hd; omega
      · rw [longV_right h2 hne hc] at hd; omega
    · have hne : a ≠ n := by omega
      have h2 : 2 ≤ n := by omega
      have hlt := below_lt h2
      have hpos := below_pos n
      have h0 : p.length ≠ 0 := by omega
      have hl := hp.last h0
      have hdl : p.dropLast.length = p.length - 1 := List.length_dropLast
      cases m with
      | zero => omega
      | succ m =>
      refine TP.step (fun k => rfl) (TP.optE (lastI h0 hq) (TP.eqI (fun h => absurd h hn) fun _ => TP.dec (fun h => absurd h (by omega)) fun _ => TP.ck ?_ (TP.bindM (lbelow_ok h2 (by omega)) fun _ => TP.dec (fun hc => ?_) fun hc => ?_)))
      · rw [wrap_i64 (by omega) (by omega)]; simp only [Bool.and_eq_true, decide_eq_true_eq]; omega
      · dsimp only at hc
        have hc : a ≤ belowN n := by omega
        rw [longV_left h2 hne hc] at hd
        refine TP.bind (P := fun v => v.1 = ((bothV T a (belowN n) w old p.dropLast).1, (bothV T a (belowN n) w old p.dropLast).2, ()) ∧ (bothV T a (belowN n) w old p.dropLast).1.size ≤ 32 ∧ (bothV T a (belowN n) w old p.dropLast).2.size ≤ 32) ?_ fun v hv => ?_
        · rw [tlI h0 hq]
          exact lboth_ok hT m a (belowN n) w old _ (by omega) (by omega) h1 hc ho hp.dropLast (by omega) (by omega) _ _ _ _ _
        obtain ⟨⟨s, r, ⟨⟩⟩, z⟩ := v
        obtain ⟨hv1, hv2, hv3⟩ := hv
        have es := congrArg (fun v => v.1) hv1
        have er := congrArg (fun v => v.2.1) hv1
        dsimp only at es er
        subst es; subst er
        refine TP.bindM (node_ok _ _ (by dsimp only; omega) (by omega) _ _ _ _ _) fun _ => TP.some ?_
        rw [bothV_left h2 hne hc]
        exact ⟨rfl, hv2, Nat.le_of_eq (hashV_size hT _)⟩
      · dsimp only at hc
        have hc : ¬ a ≤ belowN n := by omega
        rw [longV_right h2 hne hc] at hd
        refine TP.bind (P := fun v => v.1 = ((bothV T (a - belowN n) (n - belowN n) false ⟨#[]⟩ p.dropLast).1, (bothV T (a - belowN n) (n - belowN n) false ⟨#[]⟩ p.dropLast).2, ()) ∧ (bothV T (a - belowN n) (n - belowN n) false ⟨#[]⟩ p.dropLast).1.size ≤ 32 ∧ (bothV T (a - belowN n) (n - belowN n) false ⟨#[]⟩ p.dropLast).2.size ≤ 32) ?_ fun v hv => ?_
        · rw [tlI h0 hq, show IntKind.wrap .i64 ((a : Int) - (belowN n : Int)) = ((a - belowN n : Nat) : Int) by rw [wrap_i64 (by omega) (by omega)]; omega, show IntKind.wrap .i64 ((n : Int) - (belowN n : Int)) = ((n - belowN n : Nat) : Int) by rw [wrap_i64 (by omega) (by omega)]; omega]
          exact lboth_ok hT m (a - belowN n) (n - belowN n) false ⟨#[]⟩ _ (by omega) (by omega) (by omega) (by omega) (Nat.zero_le _) hp.dropLast (by omega) (by omega) _ _ _ _ _
        obtain ⟨⟨s, r, ⟨⟩⟩, z⟩ := v
        obtain ⟨hv1, hv2, hv3⟩ := hv
        have es := congrArg (fun v => v.1) hv1
        have er := congrArg (fun v => v.2.1) hv1
        dsimp only at es er
        subst es; subst er
        refine TP.bindM (node_ok _ _ (by omega) (by dsimp only; omega) _ _ _ _ _) fun _ => TP.bindM (node_ok _ _ (by omega) (by dsimp only; omega) _ _ _ _ _) fun _ => TP.some ?_
        rw [bothV_right h2 hne hc]
        exact ⟨rfl, Nat.le_of_eq (hashV_size hT _), Nat.le_of_eq (hashV_size hT _)⟩
end

/-- A text's leaf, cut. -/
noncomputable def leafC (s : ByteArray) : ByteArray := leafV [] (if s.size > 100 then s.extract 0 100 else s)
theorem leaves_loop (l : List ByteArray) (hb : l.length ≤ 1000000000) : ∀ (m i : Nat) (out : List ByteArray), i + m = l.length → out = (l.take i).map leafC → i ≤ 40 → ∀ t f1 f2 n N, TP (fun k => chartularylaw07_Leaves.l0 k l out (i : Int) t f1 f2 n [] N) (fun v => v.1 = ((l.take 40).map leafC, ()))
  | m, i, out, h, ho, h4, t, f1, f2, n, N => by
    refine TP.step (fun k => rfl) (TP.dec (fun h1 => TP.dec (fun h2 => ?_) fun h2 => TP.some ?_) fun h1 => TP.some ?_)
    · have hi : i < l.length := by omega
      have hlen : out.length = i := by rw [ho, List.length_map, List.length_take]; omega
      cases m with
      | zero => omega
      | succ m =>
      have e : IntKind.wrap .i64 ((i : Int) + 1) = ((i + 1 : Nat) : Int) := by rw [wrap_i64 (by omega) (by omega)]; rfl
      refine TP.optE (rdo_at hi) (TP.dec (fun h3 => TP.ck (by simp only [Bool.and_eq_true, decide_eq_true_eq]; omega) ?_) fun h3 => ?_)
      · refine TP.bindM (leaf_ok _ (by rw [ByteArray.size_extract]; show min 100 _ - 0 ≤ _; omega) _ _ _ _ _) fun _ => TP.ck (by apply decide_eq_true; simp only [List.length_cons, List.length_nil]; omega) ?_
        rw [e]
        refine leaves_loop l hb m (i + 1) _ (by omega) ?_ (by omega) _ _ _ _ _
        dsimp only
        rw [List.take_succ_eq_append_getElem hi, List.map_append, ho]
        unfold leafC
        simp only [List.map_cons, List.map_nil]
        rw [if_pos (by omega)]; rfl
      · refine TP.bindM (leaf_ok _ (by omega) _ _ _ _ _) fun _ => TP.ck (by apply decide_eq_true; simp only [List.length_cons, List.length_nil]; omega) ?_
        rw [e]
        refine leaves_loop l hb m (i + 1) _ (by omega) ?_ (by omega) _ _ _ _ _
        dsimp only
        rw [List.take_succ_eq_append_getElem hi, List.map_append, ho]
        unfold leafC
        simp only [List.map_cons, List.map_nil]
        rw [if_neg (by omega)]
    · rw [ho, show i = 40 by omega]
    · rw [ho, List.take_of_length_le (by omega), List.take_of_length_le (by omega)]
noncomputable def leavesV (l : List ByteArray) : List ByteArray := (l.take 40).map leafC
theorem leavesV_len (l : List ByteArray) : (leavesV l).length ≤ 40 := by unfold leavesV; rw [List.length_map, List.length_take]; omega
theorem leavesV_s32 (l : List ByteArray) : S32 (leavesV l) := fun x hx => by
  obtain ⟨y, _, rfl⟩ := List.mem_map.1 hx
  exact hashV_size tok_nil _
theorem leaves_ok (l : List ByteArray) (hb : l.length ≤ 1000000000) (t f1 f2 n N) : TP (fun k => chartularylaw07_Leaves.f k l t f1 f2 n [] N) (fun v => v.1 = (leavesV l, ())) :=
  TP.step (fun k => rfl) (leaves_loop l hb l.length 0 [] (Nat.zero_add _) rfl (by omega) _ _ _ _ _)
theorem new_ok : Runs (fun k => mill_New.f k) (((), ()), (((), (), (ByteArray.empty, (ByteArray.empty, ())), false, false, 0, ()), ([], ()), ([], ()), ())) := Runs.step (fun k => rfl) Runs.some
theorem awake_ok : TP (fun k => chartularylaw07_awake.f k) (fun v => v.1 = (true, ())) := by
  have b2 : belowN 2 = 1 := by decide
  have b3 : belowN 3 = 2 := by decide
  refine TP.step (fun k => rfl) (TP.bindR new_ok (TP.bindM (leaf_ok _ (by decide) _ _ _ _ _) fun _ => TP.bindM (leaf_ok _ (by decide) _ _ _ _ _) fun _ => TP.bindM (leaf_ok _ (by decide) _ _ _ _ _) fun _ => ?_))
  dsimp only
  generalize ha : leafV [] (⟨#[97]⟩ : ByteArray) = a
  generalize hb : leafV [] (⟨#[98]⟩ : ByteArray) = b
  generalize hc : leafV [] (⟨#[99]⟩ : ByteArray) = c
  have sa : a.size = 32 := ha ▸ hashV_size tok_nil _
  have sb : b.size = 32 := hb ▸ hashV_size tok_nil _
  have sc : c.size = 32 := hc ▸ hashV_size tok_nil _
  have hl : S32 [a, b, c] := (S32.one sa).app ((S32.one sb).app (S32.one sc))
  have e1 : rootV [] [a, b] = nodeV [] a b := by rw [rootV_two (l := [a, b]) (Nat.le_refl _), show [a, b].length = 2 from rfl, b2]; rw [rootV_one rfl, rootV_one rfl]; rfl
  have e2 : pathV [] [a, b, c] 2 = [nodeV [] a b] := by
    rw [pathV_right (l := [a, b, c]) (by show 2 ≤ 3; omega) (by show ¬ 2 < belowN 3; rw [b3]; omega), show [a, b, c].length = 3 from rfl, b3, pathV_one (by show 1 < 2; omega)]
    show [rootV [] [a, b]] = _
    rw [e1]
  have e3 : rootV [] [a, b, c] = nodeV [] (nodeV [] a b) c := by
    rw [rootV_two (l := [a, b, c]) (by show 2 ≤ 3; omega), show [a, b, c].length = 3 from rfl, b3]
    show nodeV [] (rootV [] [a, b]) (rootV [] [c]) = _
    rw [e1, rootV_one rfl]; rfl
  have hp := path_ok (T := []) tok_nil 3 [a, b, c] (Nat.le_refl _) (by decide) hl 2 (by show 2 < 3; omega)
  rw [e2] at hp
  have hn : (nodeV [] a b).size = 32 := hashV_size tok_nil _
  refine TP.bindM (hp _ _ _ _ _) fun _ => TP.eqI (fun _ => TP.eqI (fun _ => TP.optE (v := nodeV [] a b) rfl (TP.eqI (fun _ => TP.optE (v := nodeV [] a b) rfl (TP.optE (v := a) rfl (TP.optE (v := b) rfl ?_))) fun h => ?_)) fun h => absurd rfl h) fun h => absurd rfl h
  · refine TP.bindM (node_ok _ _ (by omega) (by omega) _ _ _ _ _) fun _ => TP.eqT (fun _ => ?_) fun h => absurd rfl h
    refine TP.bindM (root_is tok_nil [a, b, c] (by show 3 ≤ _; omega) hl _ _ _ _ _) fun _ => TP.optE (v := nodeV [] a b) rfl (TP.optE (v := c) rfl ?_)
    refine TP.bindM (node_ok _ _ (by omega) (by omega) _ _ _ _ _) fun _ => TP.some ?_
    dsimp only
    rw [e3, beq_text, decide_eq_true rfl]
  · exact absurd (by rw [hn]; rfl) h
theorem awake_end {g : Nat → Option ((Bool × Unit) × Unit)} (h : ∀ k, g k = (chartularylaw07_awake.f k).bind fun r => some ((r.1.1, ()), ())) : TP g (fun v => v.1.1 = true) := by
  have : g = fun k => (chartularylaw07_awake.f k).bind fun r => some ((r.1.1, ()), ()) := funext h
  rw [this]
  exact TP.bindM awake_ok fun _ => TP.some rfl
end Go.Proofs.Ytoceopdoedmgoaa.Pure
