/- Plain law: MerkleBegins. -/
import Derived.Test.YtoceopdoedmgoaaPWith
import Derived.Test.YtoceopdoedmgoaaPLaw07
import Derived.Test.YtoceopdoedmgoaaESMerkleBegins
namespace Go.Proofs.Ytoceopdoedmgoaa.Pure
open Go Go.Proofs.Ytoceopdoedmgoaa.E Go.Proofs.Ytoceopdoedmgoaa.Eng
set_option linter.unusedVariables false
set_option linter.unusedSimpArgs false

theorem same_dec_loop (a b : List ByteArray) (hl : a.length = b.length) (hb : a.length ≤ 1000000000) : ∀ (m i : Nat), i + m = a.length → TP (fun k => chartularylaw07_same.l0 k a b (i : Int)) (fun v => v.1.1 = true ∨ a.drop i ≠ b.drop i)
  | 0, i, h => TP.step (fun k => rfl) (TP.dec (fun h' => absurd h' (by omega)) fun _ => TP.some (Or.inl rfl))
  | m + 1, i, h => by
    have hi : i < a.length := by omega
    have hj : i < b.length := by omega
    have e : IntKind.wrap .i64 ((i : Int) + 1) = ((i + 1 : Nat) : Int) := by rw [wrap_i64 (by omega) (by omega)]; rfl
    refine TP.step (fun k => rfl) (TP.dec (fun h' => ?_) fun h' => absurd (by omega : (i : Int) < a.length) h')
    refine TP.optE (rdo_at hi) (TP.optE (rdo_at hj) (TP.neT (fun hn => TP.some (Or.inr fun e => ?_)) fun hn => ?_))
    · rw [List.drop_eq_getElem_cons hi, List.drop_eq_getElem_cons hj] at e
      exact hn (List.cons.inj e).1
    · rw [e]
      refine TP.mono (same_dec_loop a b hl hb m (i + 1) (by omega)) fun v hv => hv.imp id fun h e => h ?_
      rw [List.drop_eq_getElem_cons hi, List.drop_eq_getElem_cons hj] at e
      exact (List.cons.inj e).2
theorem same_dec (a b : List ByteArray) (hb : a.length ≤ 1000000000) : TP (fun k => chartularylaw07_same.f k a b) (fun v => v.1.1 = true ∨ a ≠ b) :=
  TP.step (fun k => rfl) (TP.neI (fun h => TP.some (Or.inr fun e => h (by rw [e]))) fun h => TP.mono (same_dec_loop a b (by omega) hb a.length 0 (Nat.zero_add _)) fun v hv => by simpa using hv)
theorem GrownA_yes {T : Tab} {a : Int} {x : ByteArray} {n : Int} {y : ByteArray} {p : List ByteArray} (h : GrownA T a x n y p = 0) (h0 : a ≠ 0) : ¬ (a < 0 ∨ a > n ∨ n > 65536) ∧ S32 p ∧ p.length = longV a.toNat n.toNat true ∧ bothV T a.toNat n.toNat true x p = (x, y) := by
  unfold GrownA at h
  split at h
  · cases h
  · next h1 =>
    split at h
    · cases h
    · split at h
      · cases h
      · next h3 =>
        split at h
        · cases h
        · next h4 =>
          split at h
          · cases h
          · next h5 =>
            refine ⟨h1, ?_, Classical.byContradiction h4, Classical.byContradiction h5⟩
            refine (sumsB_iff p).1 ?_
            cases hs : sumsB p with
            | true => rfl
            | false => exact absurd (Or.inr hs) h3
theorem begins_j0 (l : List Row) (hb : l.length ≤ 1000000000) (hl : ∀ x ∈ l, RowOk x) (o y p : List ByteArray) (ho' : o.length ≤ 1000000000) (hy' : y.length ≤ 1000000000) (hp : p.length ≤ 1000000000) :
    TP (fun k => chartularylaw07_MerkleBegins.j0 k l o y p) (fun v => v.1.1 = true) := by
  rcases rows_case l with ho | ⟨j, hj, ho⟩
  · refine TP.step (fun k => rfl) (TP.or1 (TP.bind (with_ok l hb hl ho) fun v hv => ?_))
    obtain ⟨T, hT, rfl⟩ := hv
    refine TP.neI (fun h => absurd rfl h) fun _ => TP.dec (fun _ => awake_end fun _ => rfl) fun h1 => TP.dec (fun _ => awake_end fun _ => rfl) fun h2 => ?_
    refine TP.bindM (lsums_ok o (by omega)) fun _ => TP.not (fun _ => awake_end fun _ => rfl) fun h3 => TP.bindM (lsums_ok y (by omega)) fun _ => TP.not (fun _ => awake_end fun _ => rfl) fun h4 => ?_
    have so : S32 o := (sumsB_iff o).1 h3
    have sy : S32 y := (sumsB_iff y).1 h4
    have zo := rootV_size hT so
    have zy := rootV_size hT sy
    have lo := (rootW_len (T := T) _ o (Nat.le_refl _)).1
    have ly := (rootW_len (T := T) _ y (Nat.le_refl _)).1
    refine TP.bindN (v := (rootV T o, ())) (R := NS T (rootW T o ++ [])) (root_noted hT _ o (Nat.le_refl _) (by omega) so (by simp; omega) (noted_nil T _) _ _) fun s hs => ?_
    refine TP.bindN (v := (rootV T y, ())) (R := NS T (rootW T y ++ (rootW T o ++ []))) (root_noted hT _ y (Nat.le_refl _) (by omega) sy (by rw [List.length_append]; simp; omega) hs _ _) fun s2 hs2 => ?_
    by_cases hgood : GrownA T (o.length : Int) (rootV T o) (y.length : Int) (rootV T y) p = 0
    · by_cases h0 : o.length = 0
      · have hG := grown_ok hT (o.length : Int) (rootV T o) (y.length : Int) (rootV T y) p hp
        refine TP.bindM (hG _ _ _ _ _) fun _ => TP.bindM (twins_ok _ _ _ _ _) fun _ => TP.neI (fun _ => awake_end fun _ => rfl) fun _ => TP.dec (fun hle => TP.ck (by simp only [Bool.and_eq_true, decide_eq_true_eq]; omega) ?_) fun hle => absurd (by omega) hle
        refine TP.bind (same_dec o _ (by omega)) fun v hv => TP.yes ?_ (awake_end fun _ => rfl)
        rcases hv with hv | hv
        · exact hv
        · refine absurd ?_ hv
          rw [List.eq_nil_of_length_eq_zero h0]; rfl
      · obtain ⟨g1, sp, lp, he⟩ := GrownA_yes hgood (by omega)
        rw [Int.toNat_natCast, Int.toNat_natCast] at lp he
        have hd := long_le 16 o.length y.length true (by omega)
        refine TP.bindN (v := (0, ())) (R := NS T (bothW T o.length y.length true (rootV T o) p ++ (rootW T y ++ (rootW T o ++ [])))) (grown_noted hT o.length (rootV T o) y.length (rootV T y) p (by omega) (by omega) (by omega) zo zy sp lp he (by simp only [List.length_append, List.length_nil]; omega) hs2 _ _) fun s3 hs3 => ?_
        refine TP.bindM (twins_ok _ _ _ _ _) fun _ => TP.neI (fun h => absurd rfl h) fun _ => TP.dec (fun hle => TP.ck (by simp only [Bool.and_eq_true, decide_eq_true_eq]; omega) ?_) fun hle => absurd (by omega) hle
        refine TP.bind (same_dec o _ (by omega)) fun v hv => TP.cond (fun _ => awake_end fun _ => rfl) fun hne => ?_
        cases hf : s3.1.2.2.2.1 with
        | false =>
          have hA := Noted.apart hs3 hf
          have e := both_inj hT hA _ o y true (rootV T o) p (Nat.le_refl _) (by omega) (by omega) so sy (fun _ => zo) sp lp (fun t h => List.mem_append_right _ (List.mem_append_right _ (List.mem_append_left _ h))) (fun t h => List.mem_append_right _ (List.mem_append_left _ h)) (fun t h => List.mem_append_left _ h) he
          rcases hv with hv | hv
          · rw [hv] at hne; cases hne
          · exact absurd e hv
        | true =>
          have ht := hs3.tw hf
          exact TP.yes rfl (TP.neT (fun _ => awake_end fun _ => rfl) fun h => absurd h ht)
    · have hG := grown_ok hT (o.length : Int) (rootV T o) (y.length : Int) (rootV T y) p hp
      exact TP.bindM (hG _ _ _ _ _) fun _ => TP.bindM (twins_ok _ _ _ _ _) fun _ => TP.neI (fun _ => awake_end fun _ => rfl) fun h => absurd h hgood
  · refine TP.step (fun k => rfl) (TP.or2 (fun k => bind_none (with_bad l hb j hj ho k)) (TP.bind (with_nil l hb hl j hj ho) fun v hv => ?_))
    subst hv
    exact TP.neI (fun _ => awake_end fun _ => rfl) fun h => by cases h
/-- The law. -/
theorem MerkleBegins : chartularylaw07_MerkleBegins.Pure := by
  intro l o y p w0 w1 w2 w3 hb
  have hrow (y : Row) : bulkT (.cons .bool (.cons .str (.cons .str (.cons .str .nil)))) y = 1 + ((y.2.1.size + 1) + ((y.2.2.1.size + 1) + ((y.2.2.2.1.size + 1) + 0))) := rfl
  have hsum : sumB (bulkT (.cons .bool (.cons .str (.cons .str (.cons .str .nil))))) l ≤ 1048576 := by
    refine Nat.le_trans ?_ hb
    show bulkT (.sl (.cons .bool (.cons .str (.cons .str (.cons .str .nil))))) l ≤ _
    omega
  have hl : l.length ≤ 1048576 := Nat.le_trans (sumB_len (bulkT (.cons .bool (.cons .str (.cons .str (.cons .str .nil))))) (fun y => by have h := hrow y; have h' : bulkT (.cons .bool (.cons .str (.cons .str (.cons .str .nil)))) y = _ := h; omega) l) hsum
  have hr : ∀ x ∈ l, RowOk x := fun x hx => by
    have h1 := sumB_ge (bulkT (.cons .bool (.cons .str (.cons .str (.cons .str .nil))))) l x hx
    have h2 : bulkT (.cons .bool (.cons .str (.cons .str (.cons .str .nil)))) x = _ := hrow x
    exact ⟨by omega, by omega⟩
  have ho : o.length ≤ 1048576 := Nat.le_trans (sumB_len (bulkT .str) (fun y => by simp [bulkT]) o) (by show bulkT (.sl .str) o ≤ _; omega)
  have hy : y.length ≤ 1048576 := Nat.le_trans (sumB_len (bulkT .str) (fun y => by simp [bulkT]) y) (by show bulkT (.sl .str) y ≤ _; omega)
  have hp : p.length ≤ 1048576 := Nat.le_trans (sumB_len (bulkT .str) (fun y => by simp [bulkT]) p) (by show bulkT (.sl .str) p ≤ _; omega)
  refine TP.one (TP.step (fun k => rfl) (TP.dec (fun h => TP.ck (by simp only [Bool.and_eq_true, decide_eq_true_eq]; omega) ?_) fun h => ?_))
  · exact begins_j0 _ (by rw [List.length_drop, List.length_take]; omega) (fun x hx => hr x (List.mem_of_mem_take (List.mem_of_mem_drop hx))) _ _ _ (by omega) (by omega) (by omega)
  · exact begins_j0 _ (by omega) hr _ _ _ (by omega) (by omega) (by omega)
end Go.Proofs.Ytoceopdoedmgoaa.Pure
