/- Plain laws of chapter 8: a tree that is built as the document says. -/
import Derived.Test.YtdeboaknhkffpaaPWalk
namespace Go.Proofs.Ytdeboaknhkffpaa.Pure
open Go Go.Proofs.Ytdeboaknhkffpaa.E Go.Proofs.Ytdeboaknhkffpaa.Eng
set_option linter.unusedVariables false
set_option linter.unusedSimpArgs false

noncomputable def buildV (T : Tab) (pick : List Int) (a n : Nat) (leaf nodes : List ByteArray) (bad : Bool) : ByteArray × List ByteArray × List ByteArray × Bool :=
  if pickedB pick a (a + n : Nat) = false then ((nextV nodes bad).1, leaf, (nextV nodes bad).2.1, (nextV nodes bad).2.2) else
  if n < 2 then ((nextV leaf bad).1, (nextV leaf bad).2.1, nodes, (nextV leaf bad).2.2) else
  (nodeV T (buildV T pick a (belowN n) leaf nodes bad).1 (buildV T pick (a + belowN n) (n - belowN n) (buildV T pick a (belowN n) leaf nodes bad).2.1 (buildV T pick a (belowN n) leaf nodes bad).2.2.1 (buildV T pick a (belowN n) leaf nodes bad).2.2.2).1,
    (buildV T pick (a + belowN n) (n - belowN n) (buildV T pick a (belowN n) leaf nodes bad).2.1 (buildV T pick a (belowN n) leaf nodes bad).2.2.1 (buildV T pick a (belowN n) leaf nodes bad).2.2.2).2)
termination_by n
decreasing_by
  all_goals first
    | exact below_lt (n := n) (by omega)
    | (have := below_pos n; omega)
section
variable {T : Tab}
theorem buildV_out {pick : List Int} {a n : Nat} (h : pickedB pick a (a + n : Nat) = false) (leaf nodes bad) : buildV T pick a n leaf nodes bad = ((nextV nodes bad).1, leaf, (nextV nodes bad).2.1, (nextV nodes bad).2.2) := by rw [buildV, if_pos h]
theorem buildV_one {pick : List Int} {a n : Nat} (h : pickedB pick a (a + n : Nat) = true) (hn : n < 2) (leaf nodes bad) : buildV T pick a n leaf nodes bad = ((nextV leaf bad).1, (nextV leaf bad).2.1, nodes, (nextV leaf bad).2.2) := by rw [buildV, if_neg (by rw [h]; decide), if_pos hn]
theorem buildV_two {pick : List Int} {a n : Nat} (h : pickedB pick a (a + n : Nat) = true) (hn : 2 ≤ n) (leaf nodes bad) {r1 r2 : ByteArray × List ByteArray × List ByteArray × Bool} (h1 : buildV T pick a (belowN n) leaf nodes bad = r1) (h2 : buildV T pick (a + belowN n) (n - belowN n) r1.2.1 r1.2.2.1 r1.2.2.2 = r2) :
    buildV T pick a n leaf nodes bad = (nodeV T r1.1 r2.1, r2.2) := by
  subst h1; subst h2
  conv => lhs; rw [buildV, if_neg (by rw [h]; decide), if_neg (by omega)]
theorem nextV_bad (l : List ByteArray) : (nextV l true).2.2 = true := by cases l <;> rfl
theorem buildV_bad (pick : List Int) : ∀ (m a n : Nat) (leaf nodes : List ByteArray), n ≤ m → (buildV T pick a n leaf nodes true).2.2.2 = true
  | m, a, n, leaf, nodes, hm => by
    cases hp : pickedB pick a (a + n : Nat) with
    | false => rw [buildV_out hp]; exact nextV_bad _
    | true =>
      by_cases h2 : n < 2
      · rw [buildV_one hp h2]; exact nextV_bad _
      have h2 : 2 ≤ n := by omega
      have hlt := below_lt h2
      have hpos := below_pos n
      cases m with
      | zero => omega
      | succ m =>
        rw [buildV_two hp h2 leaf nodes true rfl rfl]
        have e1 := buildV_bad pick m a (belowN n) leaf nodes (by omega)
        rw [e1]
        exact buildV_bad pick m _ _ _ _ (by omega)
theorem build_walk (pick : List Int) : ∀ (m a n : Nat) (leaf nodes : List ByteArray), n ≤ m → (buildV T pick a n leaf nodes false).2.2.2 = (walkV T pick a n leaf nodes false).2.2.2 ∧ ((walkV T pick a n leaf nodes false).2.2.2 = false → buildV T pick a n leaf nodes false = walkV T pick a n leaf nodes false)
  | m, a, n, leaf, nodes, hm => by
    cases hp : pickedB pick a (a + n : Nat) with
    | false => rw [buildV_out hp, walkV_out hp]; exact ⟨rfl, fun _ => rfl⟩
    | true =>
      by_cases h2 : n < 2
      · rw [buildV_one hp h2, walkV_one hp h2]; exact ⟨rfl, fun _ => rfl⟩
      have h2 : 2 ≤ n := by omega
      have hlt := below_lt h2
      have hpos := below_pos n
      cases m with
      | zero => omega
      | succ m =>
        rw [buildV_two hp h2 leaf nodes false rfl rfl, walkV_two hp h2 leaf nodes rfl rfl]
        obtain ⟨i1, i2⟩ := build_walk pick m a (belowN n) leaf nodes (by omega)
        cases hb : (walkV T pick a (belowN n) leaf nodes false).2.2.2 with
        | true =>
          rw [hb] at i1
          rw [i1, walkV_bad]
          dsimp only
          rw [buildV_bad pick m _ _ _ _ (by omega)]
          exact ⟨rfl, fun h => by cases h⟩
        | false =>
          rw [i2 hb, hb]
          obtain ⟨j1, j2⟩ := build_walk pick m (a + belowN n) (n - belowN n) (walkV T pick a (belowN n) leaf nodes false).2.1 (walkV T pick a (belowN n) leaf nodes false).2.2.1 (by omega)
          dsimp only
          exact ⟨j1, fun h => by rw [j2 h]⟩
theorem buildV_sz (hT : Tok T) (pick : List Int) : ∀ (m a n : Nat) (leaf nodes : List ByteArray) (bad : Bool), n ≤ m → SzL leaf → SzL nodes → (buildV T pick a n leaf nodes bad).1.size ≤ 1048576 ∧ SzL (buildV T pick a n leaf nodes bad).2.1 ∧ SzL (buildV T pick a n leaf nodes bad).2.2.1 ∧ (buildV T pick a n leaf nodes bad).2.1.length ≤ leaf.length ∧ (buildV T pick a n leaf nodes bad).2.2.1.length ≤ nodes.length
  | m, a, n, leaf, nodes, bad, hm, hl, hn => by
    cases hp : pickedB pick a (a + n : Nat) with
    | false => rw [buildV_out hp]; exact ⟨(nextV_sz hn _).1, hl, (nextV_sz hn _).2, Nat.le_refl _, nextV_len _ _⟩
    | true =>
      by_cases h2 : n < 2
      · rw [buildV_one hp h2]; exact ⟨(nextV_sz hl _).1, (nextV_sz hl _).2, hn, nextV_len _ _, Nat.le_refl _⟩
      have h2 : 2 ≤ n := by omega
      have hlt := below_lt h2
      have hpos := below_pos n
      cases m with
      | zero => omega
      | succ m =>
        obtain ⟨r1, e1⟩ : ∃ r1, buildV T pick a (belowN n) leaf nodes bad = r1 := ⟨_, rfl⟩
        obtain ⟨r2, e2⟩ : ∃ r2, buildV T pick (a + belowN n) (n - belowN n) r1.2.1 r1.2.2.1 r1.2.2.2 = r2 := ⟨_, rfl⟩
        rw [buildV_two hp h2 leaf nodes bad e1 e2]
        have z1 := buildV_sz hT pick m a (belowN n) leaf nodes bad (by omega) hl hn
        rw [e1] at z1
        have z2 := buildV_sz hT pick m (a + belowN n) (n - belowN n) r1.2.1 r1.2.2.1 r1.2.2.2 (by omega) z1.2.1 z1.2.2.1
        rw [e2] at z2
        exact ⟨by dsimp only; rw [show (nodeV T r1.1 r2.1).size = 32 from hashV_size hT _]; omega, z2.2.1, z2.2.2.1, by dsimp only; omega, by dsimp only; omega⟩
theorem build_scan {Q} (a n : Nat) (pick : List Int) (hk : pick.length ≤ 1000000000) (hA : a + n ≤ 1000000000) (leaf nodes : List ByteArray) (bad tot : Bool) (t f1 f2 c N) (hend : TP (fun k => chartularylaw08_plain_build.l0 k (a : Int) (n : Int) tot (pick.length : Int) pick leaf nodes bad t f1 f2 c T N) Q) :
    ∀ (m i : Nat) (b : Bool), i + m = pick.length → (b || pickedB (pick.drop i) a (a + n : Nat)) = tot → TP (fun k => chartularylaw08_plain_build.l0 k (a : Int) (n : Int) b (i : Int) pick leaf nodes bad t f1 f2 c T N) Q
  | 0, i, b, h, hb => by
    have hi : i = pick.length := by omega
    subst hi
    rw [List.drop_length] at hb
    have : b = tot := by rw [← hb]; show b = (b || false); rw [Bool.or_false]
    subst this
    exact hend
  | m + 1, i, b, h, hb => by
    have hi : i < pick.length := by omega
    have e : IntKind.wrap .i64 ((i : Int) + 1) = ((i + 1 : Nat) : Int) := by rw [wrap_i64 (by omega) (by omega)]; rfl
    have ea : IntKind.wrap .i64 ((a : Int) + (n : Int)) = ((a + n : Nat) : Int) := by rw [wrap_i64 (by omega) (by omega)]; rfl
    have hd : pickedB (pick.drop i) a (a + n : Nat) = ((decide ((a : Int) ≤ pick[i]) && decide (pick[i] < ((a + n : Nat) : Int))) || pickedB (pick.drop (i + 1)) a (a + n : Nat)) := by rw [List.drop_eq_getElem_cons hi]; rfl
    refine TP.step (fun k => rfl) (TP.dec (fun h' => ?_) fun h' => absurd (by omega : (i : Int) < pick.length) h')
    rw [e]
    refine TP.cond (fun hbt => ?_) fun hbf => TP.optE (rdo_at hi) (TP.dec (fun h1 => TP.optE (rdo_at hi) ?_) fun h1 => ?_)
    · subst hbt
      exact build_scan a n pick hk hA leaf nodes bad tot t f1 f2 c N hend m (i + 1) true (by omega) (by rw [← hb, Bool.true_or, Bool.true_or])
    · subst hbf
      rw [ea]
      refine build_scan a n pick hk hA leaf nodes bad tot t f1 f2 c N hend m (i + 1) _ (by omega) ?_
      rw [← hb, hd, Bool.false_or, decide_eq_true (show (a : Int) ≤ pick[i] from h1), Bool.true_and]
    · subst hbf
      refine build_scan a n pick hk hA leaf nodes bad tot t f1 f2 c N hend m (i + 1) false (by omega) ?_
      rw [← hb, hd, Bool.false_or, Bool.false_or, decide_eq_false (show ¬ (a : Int) ≤ pick[i] from h1), Bool.false_and, Bool.false_or]
theorem build_pow {Q} (a n : Nat) (hn : 2 ≤ n) (hb : n ≤ 1000000000) (pick : List Int) (leaf nodes : List ByteArray) (bad : Bool) (t f1 f2 c N) (hend : TP (fun k => chartularylaw08_plain_build.l1 k (a : Int) (n : Int) (belowN n : Int) pick leaf nodes bad t f1 f2 c T N) Q) :
    ∀ (m j : Nat), j + m = Nat.log2 (n - 1) → TP (fun k => chartularylaw08_plain_build.l1 k (a : Int) (n : Int) ((2 ^ j : Nat) : Int) pick leaf nodes bad t f1 f2 c T N) Q
  | 0, j, h => by
    have : 2 ^ j = belowN n := by unfold belowN; rw [show j = Nat.log2 (n - 1) by omega]
    rw [this]; exact hend
  | m + 1, j, h => by
    have hle : 2 ^ j ≤ belowN n := Nat.pow_le_pow_right (by decide) (by omega)
    have hlt := below_lt hn
    have e2 : IntKind.wrap .i64 (2 * ((2 ^ j : Nat) : Int)) = ((2 ^ (j + 1) : Nat) : Int) := by rw [Nat.pow_succ]; exact wdbl' (by omega)
    have hj : 2 ^ (j + 1) ≤ n - 1 := (Nat.le_log2 (by omega)).1 (by omega)
    refine TP.step (fun k => rfl) (TP.dec (fun hc => ?_) fun hc => ?_)
    · rw [e2]
      exact build_pow a n hn hb pick leaf nodes bad t f1 f2 c N hend m (j + 1) (by omega)
    · rw [e2] at hc
      exact absurd (Int.ofNat_lt.2 (by omega)) hc
theorem drop_one (x : ByteArray) (r : List ByteArray) : (List.take ((List.length (x :: r) : Nat) : Int).toNat (x :: r)).drop (1 : Int).toNat = r := by rw [Int.toNat_natCast, List.take_length]; rfl
def BuildP (pick : List Int) (r : ByteArray × List ByteArray × List ByteArray × Bool) (v : chartularylaw08_plain_build.R) : Prop := ∃ z, v = ((r.1, ()), ((pick, r.2.1, r.2.2.1, r.2.2.2, ()), z))
theorem lbuild_ok (hT : Tok T) (pick : List Int) (hk : pick.length ≤ 1000000000) : ∀ (m a n : Nat) (leaf nodes : List ByteArray) (bad : Bool), n ≤ m → m ≤ 1000000 → 1 ≤ n → a + n ≤ 1000000000 → SzL leaf → SzL nodes → leaf.length ≤ 1000000000 → nodes.length ≤ 1000000000 →
    ∀ t f1 f2 c N, TP (fun k => chartularylaw08_plain_build.f k (a : Int) (n : Int) pick leaf nodes bad t f1 f2 c T N) (BuildP pick (buildV T pick a n leaf nodes bad))
  | m, a, n, leaf, nodes, bad, hm, hb, h1, ha, hl, hn, ll, ln, t, f1, f2, c, N => by
    refine TP.step (fun k => rfl) (build_scan a n pick hk ha leaf nodes bad (pickedB pick a (a + n : Nat)) t f1 f2 c N ?_ pick.length 0 false (Nat.zero_add _) (by rw [List.drop_zero, Bool.false_or]))
    refine TP.step (fun k => rfl) (TP.dec (fun h' => absurd h' (by omega)) fun _ => TP.not (fun hp => TP.eqI (fun h => TP.some ?_) fun h => ?_) fun hp => TP.eqI (fun h2 => TP.eqI (fun h => TP.some ?_) fun h => ?_) fun h2 => ?_)
    · rw [buildV_out hp, List.eq_nil_of_length_eq_zero (by omega : nodes.length = 0)]; exact ⟨_, rfl⟩
    · rw [buildV_out hp]
      cases nodes with
      | nil => exact absurd rfl h
      | cons x r =>
        refine TP.optE (v := x) rfl (TP.ck (by simp only [Bool.and_eq_true, decide_eq_true_eq, List.length_cons]; omega) (TP.some ?_))
        rw [drop_one]; exact ⟨_, rfl⟩
    · rw [buildV_one hp (by omega), List.eq_nil_of_length_eq_zero (by omega : leaf.length = 0)]; exact ⟨_, rfl⟩
    · rw [buildV_one hp (by omega)]
      cases leaf with
      | nil => exact absurd rfl h
      | cons x r =>
        refine TP.optE (v := x) rfl (TP.ck (by simp only [Bool.and_eq_true, decide_eq_true_eq, List.length_cons]; omega) (TP.some ?_))
        rw [drop_one]; exact ⟨_, rfl⟩
    · have h2 : 2 ≤ n := by omega
      have hlt := below_lt h2
      have hpos := below_pos n
      have hh := below_half h2
      have e2 : IntKind.wrap .i64 (2 * (belowN n : Int)) = ((belowN n * 2 : Nat) : Int) := wdbl' (by omega)
      cases m with
      | zero => omega
      | succ m =>
      refine build_pow a n h2 (by omega) pick leaf nodes bad _ _ _ _ _ ?_ _ 0 (Nat.zero_add _)
      obtain ⟨r1, e1⟩ : ∃ r1, buildV T pick a (belowN n) leaf nodes bad = r1 := ⟨_, rfl⟩
      obtain ⟨r2, er2⟩ : ∃ r2, buildV T pick (a + belowN n) (n - belowN n) r1.2.1 r1.2.2.1 r1.2.2.2 = r2 := ⟨_, rfl⟩
      rw [buildV_two hp h2 leaf nodes bad e1 er2]
      have z1 := buildV_sz hT pick _ a (belowN n) leaf nodes bad (Nat.le_refl _) hl hn
      rw [e1] at z1
      have z2 := buildV_sz hT pick _ (a + belowN n) (n - belowN n) r1.2.1 r1.2.2.1 r1.2.2.2 (Nat.le_refl _) z1.2.1 z1.2.2.1
      rw [er2] at z2
      have w1 := lbuild_ok hT pick hk m a (belowN n) leaf nodes bad (by omega) (by omega) hpos (by omega) hl hn ll ln
      rw [e1] at w1
      refine TP.step (fun k => rfl) (TP.dec (fun h' => ?_) fun _ => TP.bind (w1 _ _ _ _ _) fun v hv => ?_)
      · rw [e2] at h'; omega
      obtain ⟨z, rfl⟩ := hv
      have w2 := lbuild_ok hT pick hk m (a + belowN n) (n - belowN n) r1.2.1 r1.2.2.1 r1.2.2.2 (by omega) (by omega) (by omega) (by omega) z1.2.1 z1.2.2.1 (by omega) (by omega)
      rw [er2] at w2
      refine TP.bind (P := BuildP pick r2) ?_ fun v hv => ?_
      · dsimp only
        rw [show IntKind.wrap .i64 ((a : Int) + (belowN n : Int)) = ((a + belowN n : Nat) : Int) by rw [wrap_i64 (by omega) (by omega)]; rfl, show IntKind.wrap .i64 ((n : Int) - (belowN n : Int)) = ((n - belowN n : Nat) : Int) by rw [wrap_i64 (by omega) (by omega)]; omega]
        exact w2 _ _ _ _ _
      obtain ⟨z', rfl⟩ := hv
      exact TP.bindM (node_ok _ _ (by dsimp only; omega) (by dsimp only; omega) _ _ _ _ _) fun _ => TP.some ⟨_, rfl⟩
theorem lrising_loop (l : List Int) (n : Int) (hb : l.length ≤ 1000000000) : ∀ (m i : Nat), i + m = l.length → TP (fun k => chartularylaw08_rising.l0 k l n (i : Int)) (fun v => v.1 = (riseB l n m i, ()))
  | 0, i, h => TP.step (fun k => rfl) (TP.dec (fun h' => absurd h' (by omega)) fun _ => TP.some rfl)
  | m + 1, i, h => by
    have hi : i < l.length := by omega
    have e : IntKind.wrap .i64 ((i : Int) + 1) = ((i + 1 : Nat) : Int) := by rw [wrap_i64 (by omega) (by omega)]; rfl
    refine TP.step (fun k => rfl) (TP.dec (fun h' => ?_) fun h' => absurd (by omega : (i : Int) < l.length) h')
    refine TP.optE (rdo_getD hi) (TP.dec (fun h1 => TP.some ?_) fun h1 => TP.optE (rdo_getD hi) (TP.dec (fun h2 => TP.some ?_) fun h2 => TP.dec (fun h3 => ?_) fun h3 => ?_))
    · rw [riseB, if_pos (Or.inl h1)]
    · rw [riseB, if_pos (Or.inr (Or.inl h2))]
    · have e1 : IntKind.wrap .i64 ((i : Int) - 1) = ((i - 1 : Nat) : Int) := by rw [wrap_i64 (by omega) (by omega)]; omega
      rw [e1]
      refine TP.optE (rdo_getD (by omega)) (TP.optE (rdo_getD hi) (TP.dec (fun h4 => TP.some ?_) fun h4 => ?_))
      · rw [riseB, if_pos (Or.inr (Or.inr ⟨by omega, h4⟩))]
      · rw [e]
        refine TP.mono (lrising_loop l n hb m (i + 1) (by omega)) fun v hv => ?_
        rw [hv, riseB, if_neg]
        rintro (h | h | h)
        · exact h1 h
        · exact h2 h
        · exact h4 h.2
    · rw [e]
      refine TP.mono (lrising_loop l n hb m (i + 1) (by omega)) fun v hv => ?_
      rw [hv, riseB, if_neg]
      rintro (h | h | h)
      · exact h1 h
      · exact h2 h
      · omega
theorem lrising_ok (l : List Int) (n : Int) (hb : l.length ≤ 1000000000) : TP (fun k => chartularylaw08_rising.f k l n) (fun v => v.1 = (risingB l n, ())) := TP.step (fun k => rfl) (lrising_loop l n hb l.length 0 (Nat.zero_add _))
end
end Go.Proofs.Ytdeboaknhkffpaa.Pure
