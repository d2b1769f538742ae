/- Plain law: ExtractShows. -/
import Derived.Test.YtioagphpiflplaaPTw21
import Derived.Test.YtioagphpiflplaaP21f
import Derived.Test.YtioagphpiflplaaESExtractShows
namespace Go.Proofs.Ytioagphpiflplaa.Pure
open Go Go.Proofs.Ytioagphpiflplaa.E Go.Proofs.Ytioagphpiflplaa.Eng
set_option linter.unusedVariables false
set_option linter.unusedSimpArgs false

abbrev NoneS : extract_Shows.R := (((ByteArray.empty, (ByteArray.empty, ())), false, ()), ())
theorem facts_len {s : Show} (g : ShowSm s) : (factsV s).length ≤ 12 := by unfold factsV; rw [List.length_map]; exact g.l.2
theorem shows_j0 (l : List Row) (hb : l.length ≤ 1000000000) (hl : ∀ x ∈ l, RowOk x) (r x y : ByteArray) (hx : x.size ≤ 6000) (hy : y.size ≤ 6000) :
    TP (fun k => chartularylaw21_ExtractShows.j0 k l r x y) (fun v => v.1.1 = true) := by
  have rx := readV_run x (by omega)
  have ry := readV_run y (by omega)
  rcases rows_case l with ho | ⟨j, hj, ho⟩
  · obtain ⟨v, hv, T, hT, rfl⟩ := with_ok l hb hl ho
    have hv : Runs (fun k => mill_With_has.f k l) (WithR T) := hv
    by_cases bx : (readV x).1.2.1 = 0
    case neg =>
      have hG : TP (fun k => extract_Shows.f k l r x y) (fun v => v = NoneS) :=
        TP.step (fun k => rfl) (TP.or1 (TP.bindR hv (TP.neI (fun h => absurd rfl h) fun _ => TP.bindR rx (TP.neI (fun _ => TP.some rfl) fun h => absurd h bx))))
      refine TP.step (fun k => rfl) (TP.bind hG fun v hq => ?_)
      subst hq
      exact TP.or1 (TP.bindR hv (TP.bindR rx (TP.bindR ry (TP.neI (fun h => absurd rfl h) fun _ => TP.neI (fun _ => TP.yes rfl (none_end (e2 := fun _ => none) fun _ => rfl)) fun h => absurd h bx))))
    by_cases b_y : (readV y).1.2.1 = 0
    case neg =>
      have hG : TP (fun k => extract_Shows.f k l r x y) (fun v => v = NoneS) :=
        TP.step (fun k => rfl) (TP.or1 (TP.bindR hv (TP.neI (fun h => absurd rfl h) fun _ => TP.bindR rx (TP.neI (fun h => absurd bx h) fun _ => TP.bindR ry (TP.neI (fun _ => TP.some rfl) fun h => absurd h b_y)))))
      refine TP.step (fun k => rfl) (TP.bind hG fun v hq => ?_)
      subst hq
      exact TP.or1 (TP.bindR hv (TP.bindR rx (TP.bindR ry (TP.neI (fun h => absurd rfl h) fun _ => TP.neI (fun h => absurd bx h) fun _ => TP.neI (fun _ => TP.yes rfl (none_end (e2 := fun _ => none) fun _ => rfl)) fun h => absurd h b_y))))
    have ox := readV_ok x
    have oy := readV_ok y
    have cx := check_ok hT (readV x).1.1 ox ((readV x).1.1.2.2.2.2.2.2.2.1, (r, ()))
    have cy := check_ok hT (readV y).1.1 oy ((readV x).1.1.2.2.2.2.2.2.2.1, (r, ()))
    by_cases gx : (CheckA T ((readV x).1.1.2.2.2.2.2.2.2.1, (r, ())) (readV x).1.1).2.1 = 0
    case neg =>
      have hG : TP (fun k => extract_Shows.f k l r x y) (fun v => v = NoneS) :=
        TP.step (fun k => rfl) (TP.or1 (TP.bindR hv (TP.neI (fun h => absurd rfl h) fun _ => TP.bindR rx (TP.neI (fun h => absurd bx h) fun _ => TP.bindR ry (TP.neI (fun h => absurd b_y h) fun _ => TP.bindM (cx _ _ _ _ _) fun _ => TP.neI (fun _ => TP.some rfl) fun h => absurd h gx)))))
      refine TP.step (fun k => rfl) (TP.bind hG fun v hq => ?_)
      subst hq
      exact TP.or1 (TP.bindR hv (TP.bindR rx (TP.bindR ry (TP.neI (fun h => absurd rfl h) fun _ => TP.neI (fun h => absurd bx h) fun _ => TP.neI (fun h => absurd b_y h) fun _ => TP.bindM (cx _ _ _ _ _) fun _ => TP.bindM (cy _ _ _ _ _) fun _ => TP.neI (fun _ => TP.yes rfl (none_end (e2 := fun _ => none) fun _ => rfl)) fun h => absurd h gx))))
    by_cases gy : (CheckA T ((readV x).1.1.2.2.2.2.2.2.2.1, (r, ())) (readV y).1.1).2.1 = 0
    case neg =>
      have hG : TP (fun k => extract_Shows.f k l r x y) (fun v => v = NoneS) :=
        TP.step (fun k => rfl) (TP.or1 (TP.bindR hv (TP.neI (fun h => absurd rfl h) fun _ => TP.bindR rx (TP.neI (fun h => absurd bx h) fun _ => TP.bindR ry (TP.neI (fun h => absurd b_y h) fun _ => TP.bindM (cx _ _ _ _ _) fun _ => TP.neI (fun h => absurd gx h) fun _ => TP.bindM (cy _ _ _ _ _) fun _ => TP.neI (fun _ => TP.some rfl) fun h => absurd h gy)))))
      refine TP.step (fun k => rfl) (TP.bind hG fun v hq => ?_)
      subst hq
      exact TP.or1 (TP.bindR hv (TP.bindR rx (TP.bindR ry (TP.neI (fun h => absurd rfl h) fun _ => TP.neI (fun h => absurd bx h) fun _ => TP.neI (fun h => absurd b_y h) fun _ => TP.bindM (cx _ _ _ _ _) fun _ => TP.bindM (cy _ _ _ _ _) fun _ => TP.neI (fun h => absurd gx h) fun _ => TP.neI (fun _ => TP.yes rfl (none_end (e2 := fun _ => none) fun _ => rfl)) fun h => absurd h gy))))
    obtain ⟨sx, _, _, _, ex⟩ := CheckA_yes gx
    obtain ⟨sy, _, _, _, ey⟩ := CheckA_yes gy
    have fx := facts_len (showB_sm sx)
    have fy := facts_len (showB_sm sy)
    rw [ex] at cx
    rw [ey] at cy
    by_cases ag : AgL (factsV (readV x).1.1) (factsV (readV y).1.1)
    case neg =>
      have hG : TP (fun k => extract_Shows.f k l r x y) (fun v => v = NoneS) :=
        TP.step (fun k => rfl) (TP.or1 (TP.bindR hv (TP.neI (fun h => absurd rfl h) fun _ => TP.bindR rx (TP.neI (fun h => absurd bx h) fun _ => TP.bindR ry (TP.neI (fun h => absurd b_y h) fun _ => TP.bindM (cx _ _ _ _ _) fun _ => TP.neI (fun h => absurd rfl h) fun _ => TP.bindM (cy _ _ _ _ _) fun _ => TP.neI (fun h => absurd rfl h) fun _ => TP.bind (eag_ok _ _ (by dsimp only; omega) (by dsimp only; omega)) fun v hv => TP.not (fun _ => TP.some rfl) fun h => absurd (hv.1 h) ag)))))
      refine TP.step (fun k => rfl) (TP.bind hG fun v hq => ?_)
      subst hq
      exact TP.or1 (TP.bindR hv (TP.bindR rx (TP.bindR ry (TP.neI (fun h => absurd rfl h) fun _ => TP.neI (fun h => absurd bx h) fun _ => TP.neI (fun h => absurd b_y h) fun _ => TP.bindM (cx _ _ _ _ _) fun _ => TP.bindM (cy _ _ _ _ _) fun _ => TP.neI (fun h => absurd rfl h) fun _ => TP.neI (fun h => absurd rfl h) fun _ => TP.bind (lag_ok _ _ (by dsimp only; omega) (by dsimp only; omega)) fun v hv => TP.not (fun _ => TP.yes rfl (none_end (e2 := fun _ => none) fun _ => rfl)) fun h => absurd (hv.1 h) ag))))
    have hG : TP (fun k => extract_Shows.f k l r x y) (fun v => ∃ a b, v = (((a, (b, ())), true, ()), ()) ∧ a ≠ b ∧ hashV T a = hashV T b ∧ a.size ≤ 100000000 ∧ b.size ≤ 100000000) := by
      refine TP.step (fun k => rfl) (TP.or1 (TP.bindR hv (TP.neI (fun h => absurd rfl h) fun _ => TP.bindR rx (TP.neI (fun h => absurd bx h) fun _ => TP.bindR ry (TP.neI (fun h => absurd b_y h) fun _ => TP.bind (check_noted hT (readV x).1.1 ox ((readV x).1.1.2.2.2.2.2.2.2.1, (r, ())) gx (W := []) (by simp) (noted_nil T _) _ _) fun v1 h1 => ?_)))))
      obtain ⟨u1, z1⟩ := v1
      obtain ⟨rfl, V, hV, lV, _, iV⟩ := h1
      refine TP.neI (fun h => absurd rfl h) fun _ => TP.bind (check_noted hT (readV y).1.1 oy ((readV x).1.1.2.2.2.2.2.2.2.1, (r, ())) gy (W := V) (by rw [List.length_nil] at lV; omega) hV _ _) fun v2 h2 => ?_
      obtain ⟨u2, z2⟩ := v2
      obtain ⟨rfl, V2, hV2, lV2, sV2, iV2⟩ := h2
      refine TP.neI (fun h => absurd rfl h) fun _ => TP.bind (eag_ok _ _ (by dsimp only; omega) (by dsimp only; omega)) fun v hv => TP.not (fun h => ?_) fun _ => ?_
      · have := hv.2 ag
        rw [this] at h; cases h
      have hf : z2.1.2.2.2.1 = true := by
        cases hf : z2.1.2.2.2.1 with
        | true => rfl
        | false => exact absurd ag (believed_one hT (Noted.apart hV2 hf) gx gy (iV.up sV2) iV2)
      obtain ⟨w1, w2, w3⟩ := Noted.tws hV2 hf
      have hF := found_ok (T := T) (z2.1.2.2.1.1, (z2.1.2.2.1.2.1, ())) z2.1.2.2.2.1 z2.1.2.2.2.2.1 z2.1.2.2.2.2.2.1 z2.2.1.1
      rw [hf, if_pos rfl] at hF
      dsimp only
      rw [hf]
      exact TP.bindM hF fun _ => TP.some ⟨_, _, rfl, Noted.tw hV2 hf, w1, w2, w3⟩
    refine TP.step (fun k => rfl) (TP.bind hG fun v hq => ?_)
    obtain ⟨a, b, rfl, hab, hhe, za, zb⟩ := hq
    refine TP.or1 (TP.bindR hv (TP.bindR rx (TP.bindR ry (TP.neI (fun h => absurd rfl h) fun _ => TP.neI (fun h => absurd bx h) fun _ => TP.neI (fun h => absurd b_y h) fun _ => TP.bindM (cx _ _ _ _ _) fun _ => TP.bindM (cy _ _ _ _ _) fun _ => TP.neI (fun h => absurd rfl h) fun _ => TP.neI (fun h => absurd rfl h) fun _ => TP.bind (lag_ok _ _ (by dsimp only; omega) (by dsimp only; omega)) fun v hv' => TP.not (fun h => ?_) fun _ => TP.yes rfl ?_))))
    · have := hv'.2 ag
      rw [this] at h; cases h
    · exact TP.bind (twins_table hT hv a b za zb hab hhe) fun v hq => TP.yes hq (awake_end fun _ => rfl)
  · have hG : TP (fun k => extract_Shows.f k l r x y) (fun v => v = NoneS) := by
      refine TP.step (fun k => rfl) (TP.or2 (fun k => bind_none (with_bad l hb j hj ho k)) (TP.bind (with_nil l hb hl j hj ho) fun v hq => ?_))
      subst hq
      exact TP.neI (fun _ => TP.some rfl) fun h => by cases h
    refine TP.step (fun k => rfl) (TP.bind hG fun v hq => ?_)
    subst hq
    refine TP.or2 (fun k => bind_none (with_bad l hb j hj ho k)) (TP.bind (with_nil l hb hl j hj ho) fun v hq => ?_)
    subst hq
    exact TP.bindR rx (TP.bindR ry (TP.neI (fun _ => TP.yes rfl (none_end (e2 := fun _ => none) fun _ => rfl)) fun h => by cases h))
/-- The law. -/
theorem ExtractShows : chartularylaw21_ExtractShows.Pure := by
  intro l r x y w0 w1 w2 w3 hb
  have hrow (y : Row) : bulkT (.cons .bool (.cons .str (.cons .str (.cons .str .nil)))) y = 1 + ((y.2.1.size + 1) + ((y.2.2.1.size + 1) + ((y.2.2.2.1.size + 1) + 0))) := rfl
  have hsum : sumB (bulkT (.cons .bool (.cons .str (.cons .str (.cons .str .nil))))) l ≤ 1048576 := by
    refine Nat.le_trans ?_ hb
    show bulkT (.sl (.cons .bool (.cons .str (.cons .str (.cons .str .nil))))) l ≤ _
    omega
  have hl : l.length ≤ 1048576 := Nat.le_trans (sumB_len (bulkT (.cons .bool (.cons .str (.cons .str (.cons .str .nil))))) (fun y => by have h := hrow y; have h' : bulkT (.cons .bool (.cons .str (.cons .str (.cons .str .nil)))) y = _ := h; omega) l) hsum
  have hr : ∀ x ∈ l, RowOk x := fun x hx => by
    have h1 := sumB_ge (bulkT (.cons .bool (.cons .str (.cons .str (.cons .str .nil))))) l x hx
    have h2 : bulkT (.cons .bool (.cons .str (.cons .str (.cons .str .nil)))) x = _ := hrow x
    exact ⟨by omega, by omega⟩
  have hf : TP (fun k => chartularylaw21_few.f k l) (fun v => ∃ q, v = ((q, ()), ()) ∧ q.length ≤ 1000000000 ∧ ∀ x ∈ q, RowOk x) := by
    refine TP.step (fun k => rfl) (TP.dec (fun h => TP.ck (by simp only [Bool.and_eq_true, decide_eq_true_eq]; omega) (TP.some ⟨_, rfl, ?_, fun x hx => hr x (List.mem_of_mem_take (List.mem_of_mem_drop hx))⟩)) fun h => TP.some ⟨l, rfl, by omega, hr⟩)
    rw [List.length_drop, List.length_take]; omega
  refine TP.one (TP.step (fun k => rfl) (TP.bind hf fun v hq => ?_))
  obtain ⟨q, rfl, hql, hqr⟩ := hq
  refine TP.dec (fun _ => awake_end fun _ => rfl) fun h1 => TP.dec (fun _ => awake_end fun _ => rfl) fun h2 => ?_
  exact shows_j0 q hql hqr r x y (by omega) (by omega)
end Go.Proofs.Ytioagphpiflplaa.Pure
