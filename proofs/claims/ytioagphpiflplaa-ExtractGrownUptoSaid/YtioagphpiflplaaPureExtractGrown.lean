/- Plain law: ExtractGrown. -/
import Derived.Test.YtioagphpiflplaaPAw21
import Derived.Test.YtioagphpiflplaaPNoteB
import Derived.Test.YtioagphpiflplaaESExtractGrown
namespace Go.Proofs.Ytioagphpiflplaa.Pure
open Go Go.Proofs.Ytioagphpiflplaa.E Go.Proofs.Ytioagphpiflplaa.Eng
set_option linter.unusedVariables false
set_option linter.unusedSimpArgs false

theorem found_ok {T : Tab} (t : ByteArray × ByteArray × Unit) (f1 f2 n N) : TP (fun k => extract_found.f k t f1 f2 n T N) (fun v => v.1 = (if f1 = true then (t.1, t.2.1, ()) else (ByteArray.empty, ByteArray.empty, ()), f1, ())) := by
  refine TP.step (fun k => rfl) (TP.bindM (twins_ok _ _ _ _ _) fun _ => TP.not (fun h => TP.some ?_) fun h => TP.some ?_)
  · have h : f1 = false := h
    subst h; rfl
  · have h : f1 = true := h
    subst h; rfl
theorem lsums_loop (l : List ByteArray) (hb : l.length ≤ 1000000000) : ∀ (m i : Nat), i + m = l.length → TP (fun k => chartularylaw21_sums.l0 k l (i : Int)) (fun v => v.1 = ((l.drop i).all (fun x => x.size == 32), ()))
  | 0, i, h => TP.step (fun k => rfl) (TP.dec (fun h' => absurd h' (by omega)) fun _ => TP.some (by rw [List.drop_eq_nil_of_le (by omega)]; rfl))
  | m + 1, i, h => by
    have hi : i < l.length := by omega
    refine TP.step (fun k => rfl) (TP.dec (fun h' => ?_) fun h' => absurd (by omega : (i : Int) < l.length) h')
    refine TP.optE (rdo_at hi) (TP.neI (fun hn => TP.some ?_) fun hn => ?_)
    · rw [List.drop_eq_getElem_cons hi, List.all_cons, beq_false_of_ne (by omega)]; rfl
    · have e : IntKind.wrap .i64 ((i : Int) + 1) = ((i + 1 : Nat) : Int) := by rw [wrap_i64 (by omega) (by omega)]; rfl
      rw [e]
      refine TP.mono (lsums_loop l hb m (i + 1) (by omega)) fun v hv => ?_
      rw [hv, List.drop_eq_getElem_cons hi, List.all_cons, show (l[i].size == 32) = true from beq_iff_eq.2 (by omega)]; rfl
theorem lsums_ok (l : List ByteArray) (hb : l.length ≤ 1000000000) : TP (fun k => chartularylaw21_sums.f k l) (fun v => v.1 = (sumsB l, ())) := TP.step (fun k => rfl) (lsums_loop l hb l.length 0 (Nat.zero_add _))
theorem same_dec_loop (a b : List ByteArray) (hl : a.length = b.length) (hb : a.length ≤ 1000000000) : ∀ (m i : Nat), i + m = a.length → TP (fun k => chartularylaw21_same.l0 k a b (i : Int)) (fun v => v.1.1 = true ↔ a.drop i = b.drop i)
  | 0, i, h => TP.step (fun k => rfl) (TP.dec (fun h' => absurd h' (by omega)) fun _ => TP.some ⟨fun _ => by rw [List.drop_eq_nil_of_le (by omega), List.drop_eq_nil_of_le (by omega)], fun _ => rfl⟩)
  | m + 1, i, h => by
    have hi : i < a.length := by omega
    have hj : i < b.length := by omega
    have e : IntKind.wrap .i64 ((i : Int) + 1) = ((i + 1 : Nat) : Int) := by rw [wrap_i64 (by omega) (by omega)]; rfl
    refine TP.step (fun k => rfl) (TP.dec (fun h' => ?_) fun h' => absurd (by omega : (i : Int) < a.length) h')
    refine TP.optE (rdo_at hi) (TP.optE (rdo_at hj) (TP.neT (fun hn => TP.some ⟨fun h => (by cases h), fun e => ?_⟩) fun hn => ?_))
    · rw [List.drop_eq_getElem_cons hi, List.drop_eq_getElem_cons hj] at e
      exact absurd (List.cons.inj e).1 hn
    · rw [e]
      refine TP.mono (same_dec_loop a b hl hb m (i + 1) (by omega)) fun v hv => hv.trans ?_
      rw [List.drop_eq_getElem_cons hi, List.drop_eq_getElem_cons hj, hn]
      exact ⟨fun e => by rw [e], fun e => (List.cons.inj e).2⟩
theorem same_dec (a b : List ByteArray) (hb : a.length ≤ 1000000000) : TP (fun k => chartularylaw21_same.f k a b) (fun v => v.1.1 = true ↔ a = b) :=
  TP.step (fun k => rfl) (TP.neI (fun h => TP.some ⟨fun h => (by cases h), fun e => absurd (by rw [e]) h⟩) fun h => TP.mono (same_dec_loop a b (by omega) hb a.length 0 (Nat.zero_add _)) fun v hv => by simpa using hv)
theorem prefix_loop (a b : List ByteArray) (hl : a.length ≤ b.length) (hb : a.length ≤ 1000000000) : ∀ (m i : Nat), i + m = a.length → TP (fun k => extract_prefix.l0 k a b (a.length : Int) (i : Int)) (fun v => v.1.1 = true ↔ a.drop i = (b.take a.length).drop i)
  | 0, i, h => TP.step (fun k => rfl) (TP.dec (fun h' => absurd h' (by omega)) fun _ => TP.some ⟨fun _ => by rw [List.drop_eq_nil_of_le (by omega), List.drop_eq_nil_of_le (by rw [List.length_take]; omega)], fun _ => rfl⟩)
  | m + 1, i, h => by
    have hi : i < a.length := by omega
    have hj : i < b.length := by omega
    have hj' : i < (b.take a.length).length := by rw [List.length_take]; omega
    have e : IntKind.wrap .i64 ((i : Int) + 1) = ((i + 1 : Nat) : Int) := by rw [wrap_i64 (by omega) (by omega)]; rfl
    have ge : (b.take a.length)[i] = b[i] := List.getElem_take ..
    refine TP.step (fun k => rfl) (TP.dec (fun h' => ?_) fun h' => absurd (by omega : (i : Int) < a.length) h')
    refine TP.optE (rdo_at hi) (TP.optE (rdo_at hj) (TP.neT (fun hn => TP.some ⟨fun h => (by cases h), fun e => ?_⟩) fun hn => ?_))
    · rw [List.drop_eq_getElem_cons hi, List.drop_eq_getElem_cons hj', ge] at e
      exact absurd (List.cons.inj e).1 hn
    · rw [e]
      refine TP.mono (prefix_loop a b hl hb m (i + 1) (by omega)) fun v hv => hv.trans ?_
      rw [List.drop_eq_getElem_cons hi, List.drop_eq_getElem_cons hj', ge, hn]
      exact ⟨fun e => by rw [e], fun e => (List.cons.inj e).2⟩
/-- Is the one a beginning of the other? -/
def Pre (a b : List ByteArray) : Prop := a.length ≤ b.length ∧ a = b.take a.length
theorem prefix_ok (a b : List ByteArray) (hb : a.length ≤ 1000000000) : TP (fun k => extract_prefix.f k a b) (fun v => v.1.1 = true ↔ Pre a b) :=
  TP.step (fun k => rfl) (TP.dec (fun h => TP.some ⟨fun h => (by cases h), fun e => absurd e.1 (by omega)⟩) fun h => TP.mono (prefix_loop a b (by omega) hb a.length 0 (Nat.zero_add _)) fun v hv => by
    rw [hv, List.drop_zero, List.drop_zero]
    exact ⟨fun e => ⟨by omega, e⟩, fun e => e.2⟩)
theorem GrownA_yes {T : Tab} {a : Int} {x : ByteArray} {n : Int} {y : ByteArray} {p : List ByteArray} (h : GrownA T a x n y p = 0) (h0 : a ≠ 0) : ¬ (a < 0 ∨ a > n ∨ n > 65536) ∧ S32 p ∧ p.length = longV a.toNat n.toNat true ∧ bothV T a.toNat n.toNat true x p = (x, y) := by
  unfold GrownA at h
  split at h
  · cases h
  · next h1 =>
    split at h
    · cases h
    · split at h
      · cases h
      · next h3 =>
        split at h
        · cases h
        · next h4 =>
          split at h
          · cases h
          · next h5 =>
            refine ⟨h1, ?_, Classical.byContradiction h4, Classical.byContradiction h5⟩
            refine (sumsB_iff p).1 ?_
            cases hs : sumsB p with
            | true => rfl
            | false => exact absurd (Or.inr hs) h3
abbrev WithR (T : Tab) : mill_With_has.R := (((), 0, ()), (((), (), (ByteArray.empty, (ByteArray.empty, ())), false, false, 0, ()), (T, ()), ([], ()), ()))
theorem sum_table {T : Tab} {l : List Row} (hv : Runs (fun k => mill_With_has.f k l) (WithR T)) (a : ByteArray) (ha : a.size ≤ 100000000) : TP (fun k => chartularylaw21_sum.f k l a) (fun v => v.1 = (hashV T a, ())) :=
  TP.step (fun k => rfl) (TP.or1 (TP.bindR hv (TP.neI (fun h => absurd rfl h) fun _ => TP.bindM (sum_ok a ha _ _ _ _ _) fun _ => TP.some rfl)))
theorem twins_table {T : Tab} (hT : Tok T) {l : List Row} (hv : Runs (fun k => mill_With_has.f k l) (WithR T)) (a b : ByteArray) (ha : a.size ≤ 100000000) (hb : b.size ≤ 100000000) (hne : a ≠ b) (he : hashV T a = hashV T b) : TP (fun k => chartularylaw21_twins.f k l (a, b, ())) (fun v => v.1.1 = true) := by
  have hs := hashV_size hT a
  refine TP.step (fun k => rfl) (TP.bindM (sum_table hv a ha) fun _ => TP.neT (fun _ => TP.neT (fun _ => TP.bindM (sum_table hv b hb) fun _ => TP.some ?_) fun h => ?_) fun h => absurd h hne)
  · dsimp only
    rw [he, beq_text, decide_eq_true rfl]
  · dsimp only at h
    rw [h] at hs; cases hs
theorem none_end {g : Nat → Option ((Bool × Unit) × Unit)} (h : ∀ k, g k = (chartularylaw21_awake.f k).bind fun r => some ((r.1.1, ()), ())) {e1 e2 : Nat → Option ((Bool × Unit) × Unit)} : TP (fun k => bif (seqB ByteArray.empty ByteArray.empty && (seqB ByteArray.empty ByteArray.empty && true)) then g k else e1 k) (fun v => v.1.1 = true) :=
  TP.yes (by rw [(seqB_iff ByteArray.empty ByteArray.empty).2 rfl]; rfl) (awake_end h)
abbrev NoneR : extract_Grown.R := (((ByteArray.empty, (ByteArray.empty, ())), false, ()), ())
theorem grown_j0 (l : List Row) (hb : l.length ≤ 1000000000) (hl : ∀ x ∈ l, RowOk x) (o y p : List ByteArray) (ho' : o.length ≤ 20) (hy' : y.length ≤ 20) (so : S32 o) (sy : S32 y) (hp : p.length ≤ 1000000000) :
    TP (fun k => chartularylaw21_ExtractGrown.j0 k l o y p) (fun v => v.1.1 = true) := by
  rcases rows_case l with ho | ⟨j, hj, ho⟩
  · obtain ⟨v, hv, T, hT, rfl⟩ := with_ok l hb hl ho
    have hv : Runs (fun k => mill_With_has.f k l) (WithR T) := hv
    by_cases hpre : Pre o y
    · have hG : TP (fun k => extract_Grown.f k l o y p) (fun v => v = NoneR) :=
        TP.step (fun k => rfl) (TP.or1 (TP.bindR hv (TP.neI (fun h => absurd rfl h) fun _ => TP.bind (prefix_ok o y (by omega)) fun v hq => TP.yes (hq.2 hpre) (TP.some rfl))))
      refine TP.step (fun k => rfl) (TP.bind hG fun v hq => ?_)
      subst hq
      refine TP.or1 (TP.bindR hv (TP.neI (fun h => absurd rfl h) fun _ => TP.dec (fun hle => TP.ck (by simp only [Bool.and_eq_true, decide_eq_true_eq]; omega) (TP.bind (same_dec o _ (by omega)) fun v hq => TP.yes (hq.2 hpre.2) ?_)) fun hle => absurd (by have := hpre.1; omega) hle))
      exact TP.yes rfl (none_end (e2 := fun _ => none) fun _ => rfl)
    · have zo := rootV_size hT so
      have zy := rootV_size hT sy
      have lo := (rootW_len (T := T) _ o (Nat.le_refl _)).1
      have ly := (rootW_len (T := T) _ y (Nat.le_refl _)).1
      by_cases hgood : GrownA T (o.length : Int) (rootV T o) (y.length : Int) (rootV T y) p = 0
      · have h0 : o.length ≠ 0 := fun h0 => hpre ⟨by omega, by rw [List.eq_nil_of_length_eq_zero h0]; rfl⟩
        obtain ⟨g1, sp, lp, he⟩ := GrownA_yes hgood (by omega)
        rw [Int.toNat_natCast, Int.toNat_natCast] at lp he
        have hd := long_le 16 o.length y.length true (by omega)
        have hG : TP (fun k => extract_Grown.f k l o y p) (fun v => ∃ a b, v = (((a, (b, ())), true, ()), ()) ∧ a ≠ b ∧ hashV T a = hashV T b ∧ a.size ≤ 100000000 ∧ b.size ≤ 100000000) := by
          refine TP.step (fun k => rfl) (TP.or1 (TP.bindR hv (TP.neI (fun h => absurd rfl h) fun _ => TP.bind (prefix_ok o y (by omega)) fun v hq => TP.cond (fun h => absurd (hq.1 h) hpre) fun _ => ?_)))
          refine TP.bindN (v := (rootV T o, ())) (R := NS T (rootW T o ++ [])) (root_noted hT _ o (Nat.le_refl _) (by omega) so (by simp; omega) (noted_nil T _) _ _) fun s hs => ?_
          refine TP.bindN (v := (rootV T y, ())) (R := NS T (rootW T y ++ (rootW T o ++ []))) (root_noted hT _ y (Nat.le_refl _) (by omega) sy (by rw [List.length_append]; simp; omega) hs _ _) fun s2 hs2 => ?_
          refine TP.bindN (v := (0, ())) (R := NS T (bothW T o.length y.length true (rootV T o) p ++ (rootW T y ++ (rootW T o ++ [])))) (grown_noted hT o.length (rootV T o) y.length (rootV T y) p (by omega) (by omega) (by omega) zo zy sp lp he (by simp only [List.length_append, List.length_nil]; omega) hs2 _ _) fun s3 hs3 => TP.neI (fun h => absurd rfl h) fun _ => ?_
          have hf : s3.1.2.2.2.1 = true := by
            cases hf : s3.1.2.2.2.1 with
            | true => rfl
            | false =>
              have hA := Noted.apart hs3 hf
              have e := both_inj hT hA _ o y true (rootV T o) p (Nat.le_refl _) (by omega) (by omega) so sy (fun _ => zo) sp lp (fun t h => List.mem_append_right _ (List.mem_append_right _ (List.mem_append_left _ h))) (fun t h => List.mem_append_right _ (List.mem_append_left _ h)) (fun t h => List.mem_append_left _ h) he
              exact absurd ⟨by omega, e⟩ hpre
          obtain ⟨w1, w2, w3⟩ := hs3.tws hf
          have hF := found_ok (T := T) (s3.1.2.2.1.1, (s3.1.2.2.1.2.1, ())) s3.1.2.2.2.1 s3.1.2.2.2.2.1 s3.1.2.2.2.2.2.1 s3.2.1.1
          rw [hf, if_pos rfl] at hF
          rw [hf]
          exact TP.bindM hF fun _ => TP.some ⟨_, _, rfl, hs3.tw hf, w1, w2, w3⟩
        refine TP.step (fun k => rfl) (TP.bind hG fun v hq => ?_)
        obtain ⟨a, b, rfl, hab, hhe, za, zb⟩ := hq
        have hGr := grown_ok hT (o.length : Int) (rootV T o) (y.length : Int) (rootV T y) p hp
        rw [hgood] at hGr
        refine TP.or1 (TP.bindR hv (TP.neI (fun h => absurd rfl h) fun _ => TP.dec (fun hle => TP.ck (by simp only [Bool.and_eq_true, decide_eq_true_eq]; omega) (TP.bind (same_dec o _ (by omega)) fun v hq => TP.cond (fun h => absurd ⟨by omega, hq.1 h⟩ hpre) fun _ => ?_)) fun hle => absurd (by omega) hle))
        refine TP.bindM (root_is hT o (by omega) so _ _ _ _ _) fun _ => TP.bindM (root_is hT y (by omega) sy _ _ _ _ _) fun _ => TP.bindM (hGr _ _ _ _ _) fun _ => TP.neI (fun h => absurd rfl h) fun _ => TP.yes rfl ?_
        exact TP.bind (twins_table hT hv a b za zb hab hhe) fun v hq => TP.yes hq (awake_end fun _ => rfl)
      · have hGr := grown_ok hT (o.length : Int) (rootV T o) (y.length : Int) (rootV T y) p hp
        have hG : TP (fun k => extract_Grown.f k l o y p) (fun v => v = NoneR) := by
          refine TP.step (fun k => rfl) (TP.or1 (TP.bindR hv (TP.neI (fun h => absurd rfl h) fun _ => TP.bind (prefix_ok o y (by omega)) fun v hq => TP.cond (fun h => absurd (hq.1 h) hpre) fun _ => ?_)))
          exact TP.bindM (root_is hT o (by omega) so _ _ _ _ _) fun _ => TP.bindM (root_is hT y (by omega) sy _ _ _ _ _) fun _ => TP.bindM (hGr _ _ _ _ _) fun _ => TP.neI (fun _ => TP.some rfl) fun h => absurd h hgood
        refine TP.step (fun k => rfl) (TP.bind hG fun v hq => ?_)
        subst hq
        refine TP.or1 (TP.bindR hv (TP.neI (fun h => absurd rfl h) fun _ => TP.dec (fun hle => TP.ck (by simp only [Bool.and_eq_true, decide_eq_true_eq]; omega) (TP.bind (same_dec o _ (by omega)) fun v hq => TP.cond (fun h => absurd ⟨by omega, hq.1 h⟩ hpre) fun _ => ?_)) fun hle => ?_))
        · exact TP.bindM (root_is hT o (by omega) so _ _ _ _ _) fun _ => TP.bindM (root_is hT y (by omega) sy _ _ _ _ _) fun _ => TP.bindM (hGr _ _ _ _ _) fun _ => TP.neI (fun _ => TP.yes rfl (none_end (e2 := fun _ => none) fun _ => rfl)) fun h => absurd h hgood
        · exact TP.bindM (root_is hT o (by omega) so _ _ _ _ _) fun _ => TP.bindM (root_is hT y (by omega) sy _ _ _ _ _) fun _ => TP.bindM (hGr _ _ _ _ _) fun _ => TP.neI (fun _ => TP.yes rfl (none_end (e2 := fun _ => none) fun _ => rfl)) fun h => absurd h hgood
  · have hG : TP (fun k => extract_Grown.f k l o y p) (fun v => v = NoneR) := by
      refine TP.step (fun k => rfl) (TP.or2 (fun k => bind_none (with_bad l hb j hj ho k)) (TP.bind (with_nil l hb hl j hj ho) fun v hq => ?_))
      subst hq
      exact TP.neI (fun _ => TP.some rfl) fun h => by cases h
    refine TP.step (fun k => rfl) (TP.bind hG fun v hq => ?_)
    subst hq
    refine TP.or2 (fun k => bind_none (with_bad l hb j hj ho k)) (TP.bind (with_nil l hb hl j hj ho) fun v hq => ?_)
    subst hq
    exact TP.neI (fun _ => TP.yes rfl (none_end (e2 := fun _ => none) fun _ => rfl)) fun h => by cases h
/-- The law. -/
theorem ExtractGrown : chartularylaw21_ExtractGrown.Pure := by
  intro l o y p w0 w1 w2 w3 hb
  have hrow (y : Row) : bulkT (.cons .bool (.cons .str (.cons .str (.cons .str .nil)))) y = 1 + ((y.2.1.size + 1) + ((y.2.2.1.size + 1) + ((y.2.2.2.1.size + 1) + 0))) := rfl
  have hsum : sumB (bulkT (.cons .bool (.cons .str (.cons .str (.cons .str .nil))))) l ≤ 1048576 := by
    refine Nat.le_trans ?_ hb
    show bulkT (.sl (.cons .bool (.cons .str (.cons .str (.cons .str .nil))))) l ≤ _
    omega
  have hl : l.length ≤ 1048576 := Nat.le_trans (sumB_len (bulkT (.cons .bool (.cons .str (.cons .str (.cons .str .nil))))) (fun y => by have h := hrow y; have h' : bulkT (.cons .bool (.cons .str (.cons .str (.cons .str .nil)))) y = _ := h; omega) l) hsum
  have hr : ∀ x ∈ l, RowOk x := fun x hx => by
    have h1 := sumB_ge (bulkT (.cons .bool (.cons .str (.cons .str (.cons .str .nil))))) l x hx
    have h2 : bulkT (.cons .bool (.cons .str (.cons .str (.cons .str .nil)))) x = _ := hrow x
    exact ⟨by omega, by omega⟩
  have hp : p.length ≤ 1048576 := Nat.le_trans (sumB_len (bulkT .str) (fun y => by simp [bulkT]) p) (by show bulkT (.sl .str) p ≤ _; omega)
  have hf : TP (fun k => chartularylaw21_few.f k l) (fun v => ∃ q, v = ((q, ()), ()) ∧ q.length ≤ 1000000000 ∧ ∀ x ∈ q, RowOk x) := by
    refine TP.step (fun k => rfl) (TP.dec (fun h => TP.ck (by simp only [Bool.and_eq_true, decide_eq_true_eq]; omega) (TP.some ⟨_, rfl, ?_, fun x hx => hr x (List.mem_of_mem_take (List.mem_of_mem_drop hx))⟩)) fun h => TP.some ⟨l, rfl, by omega, hr⟩)
    rw [List.length_drop, List.length_take]; omega
  refine TP.one (TP.step (fun k => rfl) (TP.bind hf fun v hq => ?_))
  obtain ⟨q, rfl, hql, hqr⟩ := hq
  refine TP.dec (fun _ => awake_end fun _ => rfl) fun h1 => TP.dec (fun _ => awake_end fun _ => rfl) fun h2 => TP.bindM (lsums_ok o (by omega)) fun _ => TP.not (fun _ => awake_end fun _ => rfl) fun h3 => TP.bindM (lsums_ok y (by omega)) fun _ => TP.not (fun _ => awake_end fun _ => rfl) fun h4 => ?_
  exact grown_j0 q hql hqr o y p (by omega) (by omega) ((sumsB_iff o).1 h3) ((sumsB_iff y).1 h4) (by omega)
end Go.Proofs.Ytioagphpiflplaa.Pure
