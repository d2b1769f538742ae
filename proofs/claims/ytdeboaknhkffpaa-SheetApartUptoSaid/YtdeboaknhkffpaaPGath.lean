/- Plain laws of chapter 8: the roots beside picked places lead to the root. -/
import Derived.Test.YtdeboaknhkffpaaPBuild
namespace Go.Proofs.Ytdeboaknhkffpaa.Pure
open Go Go.Proofs.Ytdeboaknhkffpaa.E Go.Proofs.Ytdeboaknhkffpaa.Eng
set_option linter.unusedVariables false
set_option linter.unusedSimpArgs false

section
variable {T : Tab}
theorem gatherV_out {pick : List Int} {l : List ByteArray} {a : Nat} (h : pickedB pick a (a + l.length : Nat) = false) : gatherV T l a pick = [rootV T l] := by rw [gatherV, if_pos h]
theorem gatherV_one {pick : List Int} {l : List ByteArray} {a : Nat} (h : pickedB pick a (a + l.length : Nat) = true) (hl : l.length < 2) : gatherV T l a pick = [] := by rw [gatherV, if_neg (by rw [h]; decide), if_pos hl]
theorem gatherV_two {pick : List Int} {l : List ByteArray} {a : Nat} (h : pickedB pick a (a + l.length : Nat) = true) (hl : 2 ≤ l.length) : gatherV T l a pick = gatherV T (l.take (belowN l.length)) a pick ++ gatherV T (l.drop (belowN l.length)) (a + belowN l.length) pick := by
  conv => lhs; rw [gatherV, if_neg (by rw [h]; decide), if_neg (by omega)]
theorem gatherV_s32 (hT : Tok T) (pick : List Int) : ∀ (m : Nat) (l : List ByteArray), l.length ≤ m → S32 l → ∀ a, S32 (gatherV T l a pick)
  | m, l, hm, hl, a => by
    cases hp : pickedB pick a (a + l.length : Nat) with
    | false => rw [gatherV_out hp]; exact S32.one (rootV_size hT hl)
    | true =>
      by_cases h2 : l.length < 2
      · rw [gatherV_one hp h2]; exact fun x hx => nomatch hx
      have hlt := below_lt (n := l.length) (by omega)
      have hpos := below_pos l.length
      cases m with
      | zero => omega
      | succ m =>
        rw [gatherV_two hp (by omega)]
        exact (gatherV_s32 hT pick m _ (by rw [List.length_take]; omega) (hl.take _) _).app (gatherV_s32 hT pick m _ (by rw [List.length_drop]; omega) (hl.drop _) _)
theorem beside_scan {Q} (l : List ByteArray) (a : Nat) (pick : List Int) (hk : pick.length ≤ 1000000000) (hA : a + l.length ≤ 1000000000) (tot : Bool) (t f1 f2 c N) (hend : TP (fun k => chartularylaw08_beside.l0 k l (a : Int) pick tot (pick.length : Int) t f1 f2 c T N) Q) :
    ∀ (m i : Nat) (b : Bool), i + m = pick.length → (b || pickedB (pick.drop i) a (a + l.length : Nat)) = tot → TP (fun k => chartularylaw08_beside.l0 k l (a : Int) pick b (i : Int) t f1 f2 c T N) Q
  | 0, i, b, h, hb => by
    have hi : i = pick.length := by omega
    subst hi
    rw [List.drop_length] at hb
    have : b = tot := by rw [← hb]; show b = (b || false); rw [Bool.or_false]
    subst this
    exact hend
  | m + 1, i, b, h, hb => by
    have hi : i < pick.length := by omega
    have e : IntKind.wrap .i64 ((i : Int) + 1) = ((i + 1 : Nat) : Int) := by rw [wrap_i64 (by omega) (by omega)]; rfl
    have ea : IntKind.wrap .i64 ((a : Int) + (l.length : Int)) = ((a + l.length : Nat) : Int) := by rw [wrap_i64 (by omega) (by omega)]; rfl
    have hd : pickedB (pick.drop i) a (a + l.length : Nat) = ((decide ((a : Int) ≤ pick[i]) && decide (pick[i] < ((a + l.length : Nat) : Int))) || pickedB (pick.drop (i + 1)) a (a + l.length : Nat)) := by rw [List.drop_eq_getElem_cons hi]; rfl
    refine TP.step (fun k => rfl) (TP.dec (fun h' => ?_) fun h' => absurd (by omega : (i : Int) < pick.length) h')
    rw [e]
    refine TP.cond (fun hbt => ?_) fun hbf => TP.optE (rdo_at hi) (TP.dec (fun h1 => TP.optE (rdo_at hi) ?_) fun h1 => ?_)
    · subst hbt
      exact beside_scan l a pick hk hA tot t f1 f2 c N hend m (i + 1) true (by omega) (by rw [← hb, Bool.true_or, Bool.true_or])
    · subst hbf
      rw [ea]
      refine beside_scan l a pick hk hA tot t f1 f2 c N hend m (i + 1) _ (by omega) ?_
      rw [← hb, hd, Bool.false_or, decide_eq_true (show (a : Int) ≤ pick[i] from h1), Bool.true_and]
    · subst hbf
      refine beside_scan l a pick hk hA tot t f1 f2 c N hend m (i + 1) false (by omega) ?_
      rw [← hb, hd, Bool.false_or, Bool.false_or, decide_eq_false (show ¬ (a : Int) ≤ pick[i] from h1), Bool.false_and, Bool.false_or]
theorem beside_pow {Q} (l : List ByteArray) (a : Nat) (hn : 2 ≤ l.length) (hb : l.length ≤ 1000000000) (pick : List Int) (t f1 f2 c N) (hend : TP (fun k => chartularylaw08_beside.l1 k l (a : Int) pick (belowN l.length : Int) t f1 f2 c T N) Q) :
    ∀ (m j : Nat), j + m = Nat.log2 (l.length - 1) → TP (fun k => chartularylaw08_beside.l1 k l (a : Int) pick ((2 ^ j : Nat) : Int) t f1 f2 c T N) Q
  | 0, j, h => by
    have : 2 ^ j = belowN l.length := by unfold belowN; rw [show j = Nat.log2 (l.length - 1) by omega]
    rw [this]; exact hend
  | m + 1, j, h => by
    have hle : 2 ^ j ≤ belowN l.length := Nat.pow_le_pow_right (by decide) (by omega)
    have hlt := below_lt hn
    have e2 : IntKind.wrap .i64 (2 * ((2 ^ j : Nat) : Int)) = ((2 ^ (j + 1) : Nat) : Int) := by rw [Nat.pow_succ]; exact wdbl' (by omega)
    have hj : 2 ^ (j + 1) ≤ l.length - 1 := (Nat.le_log2 (by omega)).1 (by omega)
    refine TP.step (fun k => rfl) (TP.dec (fun hc => ?_) fun hc => ?_)
    · rw [e2]
      exact beside_pow l a hn hb pick t f1 f2 c N hend m (j + 1) (by omega)
    · rw [e2] at hc
      exact absurd (Int.ofNat_lt.2 (by omega)) hc
theorem beside_app (x : List ByteArray) (hx : x.length ≤ 1000000) (y : List ByteArray) (hy : y.length ≤ 1000000) : ∀ (m i : Nat), i + m = y.length → ∀ t f1 f2 c N, TP (fun k => chartularylaw08_beside.l2 k (x ++ y.take i) y (i : Int) t f1 f2 c T N) (fun v => v.1 = (x ++ y, ()))
  | 0, i, h, t, f1, f2, c, N => TP.step (fun k => rfl) (TP.dec (fun h' => absurd h' (by omega)) fun _ => TP.some (by rw [List.take_of_length_le (by omega)]))
  | m + 1, i, h, t, f1, f2, c, N => by
    have hi : i < y.length := by omega
    have e : IntKind.wrap .i64 ((i : Int) + 1) = ((i + 1 : Nat) : Int) := by rw [wrap_i64 (by omega) (by omega)]; rfl
    refine TP.step (fun k => rfl) (TP.dec (fun h' => ?_) fun h' => absurd (by omega : (i : Int) < y.length) h')
    refine TP.optE (rdo_at hi) (TP.ck (by apply decide_eq_true; simp only [List.length_cons, List.length_nil, List.length_append, List.length_take]; omega) ?_)
    rw [e, List.append_assoc, ← List.take_succ_eq_append_getElem hi]
    exact beside_app x hx y hy m (i + 1) (by omega) _ _ _ _ _
theorem beside_ok (hT : Tok T) (pick : List Int) (hk : pick.length ≤ 1000000000) : ∀ (m : Nat) (l : List ByteArray), l.length ≤ m → m ≤ 1000000 → 1 ≤ l.length → S32 l → ∀ (a : Nat), a + l.length ≤ 1000000000 → ∀ t f1 f2 n N, TP (fun k => chartularylaw08_beside.f k l (a : Int) pick t f1 f2 n T N) (fun v => v.1 = (gatherV T l a pick, ()))
  | m, l, hm, hb, h1, hl, a, ha, t, f1, f2, n, N => by
    refine TP.step (fun k => rfl) (beside_scan l a pick hk ha (pickedB pick a (a + l.length : Nat)) t f1 f2 n N ?_ pick.length 0 false (Nat.zero_add _) (by rw [List.drop_zero, Bool.false_or]))
    refine TP.step (fun k => rfl) (TP.dec (fun h' => absurd h' (by omega)) fun _ => TP.not (fun hp => ?_) fun hp => TP.eqI (fun h2 => TP.some ?_) fun h2 => ?_)
    · refine TP.bindM (lroot_is hT l (by omega) hl _ _ _ _ _) fun _ => TP.some ?_
      rw [gatherV_out hp]
    · rw [gatherV_one hp (by omega)]
    · have h2' : 2 ≤ l.length := by omega
      have hlt := below_lt h2'
      have hpos := below_pos l.length
      have hh := below_half h2'
      have e2 : IntKind.wrap .i64 (2 * (belowN l.length : Int)) = ((belowN l.length * 2 : Nat) : Int) := wdbl' (by omega)
      have e1 : (l.take (belowN l.length)).length = belowN l.length := by rw [List.length_take]; omega
      have e3 : (l.drop (belowN l.length)).length = l.length - belowN l.length := List.length_drop
      have ek : IntKind.wrap .i64 ((a : Int) + (belowN l.length : Int)) = ((a + belowN l.length : Nat) : Int) := by rw [wrap_i64 (by omega) (by omega)]; rfl
      cases m with
      | zero => omega
      | succ m =>
      refine beside_pow l a h2' (by omega) pick _ _ _ _ _ ?_ _ 0 (Nat.zero_add _)
      refine TP.step (fun k => rfl) (TP.dec (fun h' => ?_) fun _ => TP.ck (by simp only [Bool.and_eq_true, decide_eq_true_eq]; omega) ?_)
      · rw [e2] at h'; omega
      refine TP.bindM (v := (gatherV T (l.take (belowN l.length)) a pick, ())) ?_ fun _ => TP.ck (by simp only [Bool.and_eq_true, decide_eq_true_eq]; omega) ?_
      · rw [tkI]
        exact beside_ok hT pick hk m _ (by omega) (by omega) (by omega) (hl.take _) a (by omega) _ _ _ _ _
      refine TP.bindM (v := (gatherV T (l.drop (belowN l.length)) (a + belowN l.length) pick, ())) ?_ fun _ => ?_
      · rw [dkI, ek]
        exact beside_ok hT pick hk m _ (by omega) (by omega) (by omega) (hl.drop _) _ (by omega) _ _ _ _ _
      have g1 := gatherV_len (T := T) _ (l.take (belowN l.length)) (Nat.le_refl _) (by omega) a pick
      have g2 := gatherV_len (T := T) _ (l.drop (belowN l.length)) (Nat.le_refl _) (by omega) (a + belowN l.length) pick
      have hx := beside_app (T := T) (gatherV T (l.take (belowN l.length)) a pick) (by omega) (gatherV T (l.drop (belowN l.length)) (a + belowN l.length) pick) (by omega) _ 0 (Nat.zero_add _)
      rw [List.take_zero, List.append_nil, ← gatherV_two hp h2'] at hx
      exact hx _ _ _ _ _
/-- The leaves at picked places, within a part. -/
noncomputable def pickL (pick : List Int) (l : List ByteArray) (a : Nat) : List ByteArray := (pick.filter fun x => decide ((a : Int) ≤ x) && decide (x < ((a + l.length : Nat) : Int))).map fun x => l.getD (x.toNat - a) ⟨#[]⟩
/-- Strictly rising. -/
def Rising (l : List Int) : Prop := l.Pairwise (· < ·)
theorem riseB_prefix : ∀ (m i : Nat) (l : List Int) (n : Int), i + m = l.length → riseB l n m i = true → (∀ j, i ≤ j → j < l.length → 0 ≤ l.getD j 0 ∧ l.getD j 0 < n ∧ (0 < j → l.getD (j - 1) 0 < l.getD j 0))
  | 0, i, l, n, h, hr, j, hj, hl => by omega
  | m + 1, i, l, n, h, hr, j, hj, hl => by
    rw [riseB] at hr
    split at hr
    · cases hr
    · next hn =>
      by_cases e : j = i
      · subst e
        refine ⟨?_, ?_, fun h0 => ?_⟩
        · exact Int.not_lt.1 fun e => hn (Or.inl e)
        · exact Int.not_le.1 fun e => hn (Or.inr (Or.inl e))
        · exact Int.not_le.1 fun e => hn (Or.inr (Or.inr ⟨h0, e⟩))
      · exact riseB_prefix m (i + 1) l n (by omega) hr j (by omega) hl
theorem rising_pair {l : List Int} {n : Int} (h : risingB l n = true) : Rising l ∧ ∀ x ∈ l, 0 ≤ x ∧ x < n := by
  have hp := riseB_prefix l.length 0 l n (Nat.zero_add _) h
  have step : ∀ i (h1 : i + 1 < l.length), l[i] < l[i + 1] := fun i h1 => by
    have := (hp (i + 1) (Nat.zero_le _) h1).2.2 (by omega)
    rw [getD_at h1, getD_at (by omega : i + 1 - 1 < l.length)] at this
    exact this
  refine ⟨List.pairwise_iff_getElem.2 fun i j hi hj hij => ?_, fun x hx => ?_⟩
  · obtain ⟨d, rfl⟩ : ∃ d, j = i + 1 + d := ⟨j - i - 1, by omega⟩
    clear hij
    induction d with
    | zero => exact step i hj
    | succ d ih => exact Int.lt_trans (ih (by omega)) (step (i + 1 + d) hj)
  · obtain ⟨i, hi, rfl⟩ := List.getElem_of_mem hx
    have := hp i (Nat.zero_le _) hi
    rw [getD_at hi] at this
    exact ⟨this.1, this.2.1⟩
theorem filter_none {pick : List Int} {a b : Int} (h : pickedB pick a b = false) : (pick.filter fun x => decide (a ≤ x) && decide (x < b)) = [] := by
  rw [List.filter_eq_nil_iff]
  intro x hx hc
  have : pickedB pick a b = true := List.any_eq_true.2 ⟨x, hx, hc⟩
  rw [h] at this; cases this
theorem filter_split {pick : List Int} (hr : Rising pick) {a b c : Int} (hab : a ≤ b) (hbc : b ≤ c) : (pick.filter fun x => decide (a ≤ x) && decide (x < c)) = (pick.filter fun x => decide (a ≤ x) && decide (x < b)) ++ (pick.filter fun x => decide (b ≤ x) && decide (x < c)) := by
  induction pick with
  | nil => rfl
  | cons x r ih =>
    have hx := List.pairwise_cons.1 hr
    have ih := ih hx.2
    by_cases h1 : a ≤ x
    · by_cases h2 : x < b
      · rw [List.filter_cons_of_pos (by simp; omega), List.filter_cons_of_pos (by simp; omega), List.filter_cons_of_neg (by simp; omega), ih]; rfl
      · have hnil : (r.filter fun x => decide (a ≤ x) && decide (x < b)) = [] := by
          rw [List.filter_eq_nil_iff]
          intro y hy hc
          have := hx.1 y hy
          simp only [Bool.and_eq_true, decide_eq_true_eq] at hc
          omega
        by_cases h3 : x < c
        · rw [List.filter_cons_of_pos (by simp; omega), List.filter_cons_of_neg (by simp; omega), List.filter_cons_of_pos (by simp; omega), ih, hnil]; rfl
        · rw [List.filter_cons_of_neg (by simp; omega), List.filter_cons_of_neg (by simp; omega), List.filter_cons_of_neg (by simp; omega), ih]
    · rw [List.filter_cons_of_neg (by simp; omega), List.filter_cons_of_neg (by simp; omega), List.filter_cons_of_neg (by simp; omega), ih]
/-- What shows some leaves is rebuilt to the root, and used up. -/
theorem walk_gather (pick : List Int) (hr : Rising pick) : ∀ (m : Nat) (l : List ByteArray), l.length ≤ m → 1 ≤ l.length → ∀ (a : Nat) (A B : List ByteArray), walkV T pick a l.length (pickL pick l a ++ A) (gatherV T l a pick ++ B) false = (rootV T l, A, B, false)
  | m, l, hm, h1, a, A, B => by
    cases hp : pickedB pick a (a + l.length : Nat) with
    | false =>
      rw [walkV_out hp, gatherV_out hp]
      unfold pickL
      rw [filter_none hp]
      rfl
    | true =>
      by_cases h2 : l.length < 2
      · have h1 : l.length = 1 := by omega
        obtain ⟨x, rfl⟩ := List.length_eq_one_iff.1 h1
        rw [walkV_one hp h2, gatherV_one hp h2, rootV_one h1]
        have e : (pick.filter fun y => decide ((a : Int) ≤ y) && decide (y < ((a + [x].length : Nat) : Int))) = [(a : Int)] := by
          obtain ⟨y, hy, hc⟩ := List.any_eq_true.1 hp
          simp only [Bool.and_eq_true, decide_eq_true_eq, List.length_singleton] at hc
          have hya : y = (a : Int) := by omega
          subst hya
          clear hp h2 hm
          induction pick with
          | nil => cases hy
          | cons z r ih =>
            have hx := List.pairwise_cons.1 hr
            rcases List.mem_cons.1 hy with hz | hz
            · subst hz
              rw [List.filter_cons_of_pos (by simp; omega)]
              congr 1
              rw [List.filter_eq_nil_iff]
              intro y hy hc
              have := hx.1 y hy
              simp only [Bool.and_eq_true, decide_eq_true_eq, List.length_singleton] at hc
              omega
            · have := hx.1 _ hz
              rw [List.filter_cons_of_neg (by simp; omega)]
              exact ih hx.2 hz
        unfold pickL
        rw [e]
        simp only [List.map_cons, List.map_nil, Int.toNat_natCast, Nat.sub_self]
        rfl
      have h2 : 2 ≤ l.length := by omega
      have hlt := below_lt h2
      have hpos := below_pos l.length
      have tl := take_len h2
      have dl : (l.drop (belowN l.length)).length = l.length - belowN l.length := List.length_drop
      cases m with
      | zero => omega
      | succ m =>
        have hk1 : pickL pick l a = pickL pick (l.take (belowN l.length)) a ++ pickL pick (l.drop (belowN l.length)) (a + belowN l.length) := by
          unfold pickL
          rw [tl, dl, filter_split hr (a := (a : Int)) (b := ((a + belowN l.length : Nat) : Int)) (c := ((a + l.length : Nat) : Int)) (by omega) (by omega), List.map_append]
          congr 1
          · refine List.map_congr_left fun x hx => ?_
            have := (List.mem_filter.1 hx).2
            simp only [Bool.and_eq_true, decide_eq_true_eq] at this
            rw [List.getD_eq_getElem?_getD, List.getD_eq_getElem?_getD, List.getElem?_take, if_pos (by omega)]
          · rw [show (a + belowN l.length + (l.length - belowN l.length) : Nat) = a + l.length by omega]
            refine List.map_congr_left fun x hx => ?_
            have := (List.mem_filter.1 hx).2
            simp only [Bool.and_eq_true, decide_eq_true_eq] at this
            rw [List.getD_eq_getElem?_getD, List.getD_eq_getElem?_getD, List.getElem?_drop]
            congr 2; omega
        have w1 := walk_gather pick hr m (l.take (belowN l.length)) (by omega) (by omega) a (pickL pick (l.drop (belowN l.length)) (a + belowN l.length) ++ A) (gatherV T (l.drop (belowN l.length)) (a + belowN l.length) pick ++ B)
        rw [tl] at w1
        have w2 := walk_gather pick hr m (l.drop (belowN l.length)) (by omega) (by omega) (a + belowN l.length) A B
        rw [dl] at w2
        rw [hk1, gatherV_two hp h2, List.append_assoc, List.append_assoc, walkV_two hp h2 _ _ w1 w2, rootV_two (l := l) h2]
theorem sumsB32 (l : List ByteArray) : (l.all fun x => x.size == 32) = true ↔ S32 l := by
  unfold S32; rw [List.all_eq_true]; simp
end
end Go.Proofs.Ytdeboaknhkffpaa.Pure
