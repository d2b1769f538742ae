/- Plain laws of chapter 17: what any query finds, by the program and by the document. -/
import Derived.Test.YtcjiipbppkdkaaaPSortMI
namespace Go.Proofs.Ytcjiipbppkdkaaa.Pure
open Go Go.Proofs.Ytcjiipbppkdkaaa.E Go.Proofs.Ytcjiipbppkdkaaa.Eng
set_option linter.unusedVariables false
set_option linter.unusedSimpArgs false

/-- In the order that a query asks for. -/
noncomputable def outV (cP : List Pap) (q : Qry) (l : List Int) : List Int := if q.2.1 = ⟨#[]⟩ then l else srtV (eI cP q.2.1 q.2.2.1) l
theorem outV_len (cP : List Pap) (q : Qry) (l : List Int) : (outV cP q l).length = l.length := by
  unfold outV; split
  · rfl
  · exact (srtV_ok (ordI _ _ _) l).2.2
theorem outV_put {cP : List Pap} {q : Qry} {P : List Int} {x : Int} {S S' : List Int} (h : q.2.1 ≠ ⟨#[]⟩) (hS : S = outV cP q P) (h1 : Sorted (eI cP q.2.1 q.2.2.1) S') (h2 : Same (eI cP q.2.1 q.2.2.1) (S ++ [x]) S') : S' = outV cP q (P ++ [x]) := by
  unfold outV at hS ⊢
  rw [if_neg h] at hS ⊢
  refine srtV_of (ordI _ _ _) h1 (Same.trans ?_ h2)
  rw [hS]
  exact (srtV_ok (ordI _ _ _) P).2.1.app (Same.refl _)
theorem take_end (q : Qry) (hm : ¬ q.2.2.2.1 < 0) (S : List Int) : TP (fun k => find_Run.j0 k S q.1 q.2.1 q.2.2.1 q.2.2.2.1) (fun v => v = ((S.take q.2.2.2.1.toNat, 0, ()), ())) := by
  have e : (bif decide (q.2.2.2.1 < (S.length : Int)) then q.2.2.2.1 else (S.length : Int)) = (if q.2.2.2.1 < (S.length : Int) then q.2.2.2.1 else (S.length : Int)) := by
    by_cases hc : q.2.2.2.1 < (S.length : Int)
    · rw [decide_eq_true hc, if_pos hc]; rfl
    · rw [decide_eq_false hc, if_neg hc]; rfl
  refine TP.step (fun k => rfl) (TP.ck ?_ (TP.some ?_))
  · rw [e]
    simp only [Bool.and_eq_true, decide_eq_true_eq]
    split <;> omega
  · rw [e]
    by_cases hc : q.2.2.2.1 < (S.length : Int)
    · rw [if_pos hc, Int.sub_zero]; rfl
    · rw [if_neg hc, Int.sub_zero, Int.toNat_natCast]
      show (((S.take S.length, 0, ()), ()) : find_Run.R) = _
      rw [List.take_length, List.take_of_length_le (by omega)]
section
variable (q : Qry) (l : List Pap) (hq : q.1.length ≤ 1000000000) (hl : PapsOk l) (h30 : l.length ≤ 30) (hm : ¬ q.2.2.2.1 < 0)
include hq hl h30 hm
theorem run2_l0 : ∀ (m i : Nat), i + m = l.length → ∀ (out : List Int), out.length ≤ i → InR l out →
    TP (fun k => find_Run.l0 k out l (l.length : Int) (i : Int) q.1 q.2.1 q.2.2.1 q.2.2.2.1 l) (fun v => v = (((outV l q (out ++ selI (allV q.1) i (l.drop i))).take q.2.2.2.1.toNat, 0, ()), ()))
  | 0, i, h, out, ho, hR => by
    rw [List.drop_of_length_le (by omega), show selI (allV q.1) i [] = [] from rfl, List.append_nil]
    refine TP.step (fun k => rfl) (TP.dec (fun h' => absurd h' (by omega)) fun _ => TP.neT (fun h => ?_) fun h => ?_)
    · refine TP.bind (sort_ok hl out hR (by omega)) fun v hv => ?_
      rw [hv]
      have e : outV l q out = srtV (eI l q.2.1 q.2.2.1) out := by unfold outV; rw [if_neg h]
      rw [e]
      exact take_end q hm _
    · have e : outV l q out = out := by unfold outV; rw [if_pos h]
      rw [e]
      exact take_end q hm out
  | m + 1, i, h, out, ho, hR => by
    have hi : i < l.length := by omega
    have hp := hl.2 _ (List.getElem_mem hi)
    have e : IntKind.wrap .i64 ((i : Int) + 1) = ((i + 1 : Nat) : Int) := by rw [wrap_i64 (by omega) (by omega)]; rfl
    rw [List.drop_eq_getElem_cons hi]
    unfold selI
    refine TP.step (fun k => rfl) (TP.dec (fun h' => TP.optE (rdo_at hi) ?_) fun h' => absurd (by omega : (i : Int) < l.length) h')
    refine run_l1 q l hq out i l[i] hp (by omega) (fun _ => trivial) _ 0 (Nat.zero_add _) (fun ha => ?_) fun ha => ?_
    · rw [List.drop_zero] at ha
      rw [if_pos ha, e]
      have nx := run2_l0 m (i + 1) (by omega) (out ++ [(i : Int)]) (by simp only [List.length_append, List.length_cons, List.length_nil]; omega) (fun z hz => by
        rcases List.mem_append.1 hz with hz | hz
        · exact hR z hz
        · rw [List.mem_singleton.1 hz]; omega)
      rw [List.append_assoc] at nx
      exact nx
    · rw [List.drop_zero] at ha
      rw [if_neg (by rw [ha]; decide), e]
      exact run2_l0 m (i + 1) (by omega) out (by omega) hR
end
/-- What a query finds. -/
noncomputable def foundV (q : Qry) (l : List Pap) : List Int := (outV l q (selI (allV q.1) 0 l)).take q.2.2.2.1.toNat
theorem check_most {q : Qry} (h : checkA q = 0) : ¬ q.2.2.2.1 < 0 := fun h0 => by
  unfold checkA at h; rw [if_pos (Or.inr h0)] at h; cases h
theorem run2_ok (q : Qry) (l : List Pap) (hq : QryOk q) (hl : PapsOk l) (h30 : l.length ≤ 30) : TP (fun k => find_Run.f k q l) (fun v => (checkA q ≠ 0 → v = (([], checkA q, ()), ())) ∧ (checkA q = 0 → v = ((foundV q l, 0, ()), ()))) := by
  refine TP.step (fun k => rfl) (TP.bindR (fcheck_ok q hq) (TP.neI (fun h => TP.some ⟨fun _ => rfl, fun e => absurd e h⟩) fun h => ?_))
  have h : checkA q = 0 := h
  refine TP.mono (run2_l0 q l hq.t.1 hl h30 (check_most h) l.length 0 (Nat.zero_add _) [] (Nat.le_refl _) (fun z hz => by cases hz)) fun v hv => ⟨fun e => absurd h e, fun _ => ?_⟩
  rw [hv, List.nil_append, List.drop_zero]; rfl

/-! ## The document -/
theorem ahead_ok (a b : Pap) (cB : ByteArray) (cD : Bool) (ha : a.2.2.1.length ≤ 1000000000) (hb : b.2.2.1.length ≤ 1000000000) : TP (fun k => chartularylaw17_ahead.f k a b cB cD) (fun v => v.1.1 = decide (cmpP cB cD a b < 0)) := by
  refine TP.step (fun k => rfl) (TP.bindR (lfield_ok a cB ha) (TP.bindR (lfield_ok b cB hb) (TP.dec (fun h1 => ?_) fun h1 => TP.dec (fun h2 => ?_) fun h2 => ?_)))
  · have h1 : fieldI cB 0 a.2.2.1 < 0 := h1
    refine TP.no (decide_eq_false (show ¬ fieldI cB 0 a.2.2.1 ≥ 0 by omega)) (TP.some ?_)
    unfold cmpP; rw [if_pos h1]
    split <;> rfl
  · have h1 : ¬ fieldI cB 0 a.2.2.1 < 0 := h1
    have h2 : fieldI cB 0 b.2.2.1 < 0 := h2
    refine TP.yes (decide_eq_true (show fieldI cB 0 a.2.2.1 ≥ 0 by omega)) (TP.some ?_)
    unfold cmpP; rw [if_neg h1, if_pos h2]
    exact decide_eq_true h2
  · have h1 : ¬ fieldI cB 0 a.2.2.1 < 0 := h1
    have h2 : ¬ fieldI cB 0 b.2.2.1 < 0 := h2
    obtain ⟨f, f1, f2⟩ := field_rdo a cB (by omega)
    obtain ⟨g, g1, g2⟩ := field_rdo b cB (by omega)
    refine TP.optE f1 (TP.optE g1 (TP.bindR (cmp_ok f.2.1 g.2.1) ?_))
    have hn := cmp_neg f.2.1 g.2.1
    unfold cmpP
    rw [if_neg h1, if_neg h2, ← f2, ← g2]
    cases cD with
    | true =>
      refine TP.some ?_
      show decide (cmpV f.2.1 g.2.1 > 0) = decide (cmpV g.2.1 f.2.1 < 0)
      by_cases hc : cmpV f.2.1 g.2.1 > 0
      · rw [decide_eq_true hc, decide_eq_true (by omega)]
      · rw [decide_eq_false hc, decide_eq_false (by omega)]
    | false => exact TP.some rfl
section
variable (q : Qry) (l : List Pap) (hq : q.1.length ≤ 1000000000) (hl : PapsOk l) (h30 : l.length ≤ 30)
include hq hl h30
omit hq hl h30 in
theorem lrun_l3 {Q} (A G : List Int) (i : Int) (hA : A.length + G.length ≤ 1000) (hc : TP (fun k => chartularylaw17_run.l0 k l (A ++ G) (IntKind.wrap .i64 (i + 1)) q.1 q.2.1 q.2.2.1 q.2.2.2.1) Q) : ∀ (m j : Nat), j + m = G.length → ∀ B, B = A ++ G.take j →
    TP (fun k => chartularylaw17_run.l3 k l B i G (j : Int) q.1 q.2.1 q.2.2.1 q.2.2.2.1) Q
  | 0, j, h, B, hB => by
    rw [List.take_of_length_le (by omega)] at hB
    subst hB
    exact TP.step (fun k => rfl) (TP.no (by apply decide_eq_false; omega) hc)
  | m + 1, j, h, B, hB => by
    have hj : j < G.length := by omega
    refine TP.step (fun k => rfl) (TP.yes (by apply decide_eq_true; omega) (TP.optE (rdo_at hj) (TP.ck ?_ ?_)))
    · apply decide_eq_true
      rw [hB]; simp only [List.length_append, List.length_take, List.length_cons, List.length_nil]; omega
    · rw [show IntKind.wrap .i64 ((j : Int) + 1) = ((j + 1 : Nat) : Int) by rw [wrap_i64 (by omega) (by omega)]; rfl]
      exact lrun_l3 A G i hA hc m (j + 1) (by omega) _ (by rw [hB, List.take_succ_eq_append_getElem hj, List.append_assoc])
omit hq hl h30 in
theorem lrun_end {Q} (L G S : List Int) (x j : Int) (hS : S = L ++ G) (hj : j = (L.length : Int)) (hL : S.length ≤ 900) (hc : TP (fun k => chartularylaw17_run.l0 k l (L ++ x :: G) (IntKind.wrap .i64 (x + 1)) q.1 q.2.1 q.2.2.1 q.2.2.2.1) Q) :
    TP (fun k => (ck (decide (0 ≤ j) && decide (j ≤ (S.length : Int)) && decide ((S.length : Int) ≤ (S.length : Int)))).bind fun _ =>
      (ck (decide ((([] : List Int).length + ((S.take (S.length : Int).toNat).drop j.toNat).length) * 8 ≤ 70368744177664))).bind fun _ =>
      (ck (decide (0 ≤ 0) && decide (0 ≤ j) && decide (j ≤ (S.length : Int)))).bind fun _ =>
      (ck (decide ((([] : List Int).length + ((S.take j.toNat).drop (0 : Int).toNat).length) * 8 ≤ 70368744177664))).bind fun _ =>
      (ck (decide (((([] : List Int) ++ ((S.take j.toNat).drop (0 : Int).toNat)).length + ([x] : List Int).length) * 8 ≤ 70368744177664))).bind fun _ =>
      chartularylaw17_run.l3 k l ((([] : List Int) ++ ((S.take j.toNat).drop (0 : Int).toNat)) ++ ([x] : List Int)) x (([] : List Int) ++ ((S.take (S.length : Int).toNat).drop j.toNat)) 0 q.1 q.2.1 q.2.2.1 q.2.2.2.1) Q := by
  have hl2 : S.length = L.length + G.length := by rw [hS, List.length_append]
  have e1 : (S.take j.toNat).drop (0 : Int).toNat = L := by
    rw [show (0 : Int).toNat = 0 from rfl, List.drop_zero, hS, show j.toNat = L.length by omega, List.take_left']; rfl
  have e2 : (S.take (S.length : Int).toNat).drop j.toNat = G := by
    rw [Int.toNat_natCast, List.take_length, hS, show j.toNat = L.length by omega, List.drop_left']; rfl
  rw [e1, e2]
  refine TP.ck (by simp only [Bool.and_eq_true, decide_eq_true_eq]; omega) (TP.ck (decide_eq_true (by simp only [List.length_nil]; omega)) (TP.ck (by simp only [Bool.and_eq_true, decide_eq_true_eq]; omega) (TP.ck (decide_eq_true (by simp only [List.length_nil]; omega)) (TP.ck (decide_eq_true (by simp only [List.nil_append, List.length_cons, List.length_nil]; omega)) ?_))))
  simp only [List.nil_append]
  have e3 : L ++ x :: G = (L ++ [x]) ++ G := by simp
  rw [e3] at hc
  exact lrun_l3 q l (L ++ [x]) G x (by simp only [List.length_append, List.length_cons, List.length_nil]; omega) hc _ 0 (Nat.zero_add _) _ (by simp)
omit hq h30 in
theorem lrun_l2 {Q} (hby : q.2.1 ≠ ⟨#[]⟩) (i : Nat) (hi : i < l.length) : ∀ (m : Nat) (L G S : List Int) (j : Int), L.length = m → S = L ++ G → j = (L.length : Int) → S.length ≤ 900 → InR l S → Sorted (eI l q.2.1 q.2.2.1) S → (∀ y ∈ G, eI l q.2.1 q.2.2.1 (i : Int) y = true) →
    (∀ S', Sorted (eI l q.2.1 q.2.2.1) S' → Same (eI l q.2.1 q.2.2.1) (S ++ [(i : Int)]) S' → S'.length = S.length + 1 → TP (fun k => chartularylaw17_run.l0 k l S' (IntKind.wrap .i64 ((i : Int) + 1)) q.1 q.2.1 q.2.2.1 q.2.2.2.1) Q) →
    TP (fun k => chartularylaw17_run.l2 k l S (i : Int) j q.1 q.2.1 q.2.2.1 q.2.2.2.1) Q
  | m, L, G, S, j, hm, hS, hj, hL, hR, hs, hG, hc => by
    have hl2 : S.length = L.length + G.length := by rw [hS, List.length_append]
    have ends : (∀ y ∈ L, eI l q.2.1 q.2.2.1 (i : Int) y = false) → TP (fun k => chartularylaw17_run.l0 k l (L ++ (i : Int) :: G) (IntKind.wrap .i64 ((i : Int) + 1)) q.1 q.2.1 q.2.2.1 q.2.2.2.1) Q := fun hLf => by
      rw [hS] at hs
      obtain ⟨h1, h2⟩ := Sorted.ins (ordI _ _ _) hs hG hLf
      exact hc _ h1 (by rw [hS]; exact h2) (by simp only [List.length_append, List.length_cons]; omega)
    refine TP.step (fun k => rfl) (TP.neT (fun _ => ?_) fun h => absurd h hby)
    rcases List.eq_nil_or_concat L with hN | ⟨L0, y, hN⟩
    · refine TP.dec (fun h => by rw [hN] at hj; simp at hj; omega) fun _ => ?_
      exact lrun_end q l L G S (i : Int) j hS hj hL (ends fun y hy => by rw [hN] at hy; cases hy)
    · rw [List.concat_eq_append] at hN
      have hl0 : L.length = L0.length + 1 := by rw [hN]; simp
      have w1 : IntKind.wrap .i64 (j - 1) = j - 1 := wi (by omega) (by omega)
      have e3 : S = L0 ++ y :: G := by rw [hS, hN]; simp
      have r1 : rdo S (j - 1) = some y := by rw [e3]; exact rdo_mid (by omega)
      have hy : 0 ≤ y ∧ y < (l.length : Int) := hR y (by rw [e3]; simp)
      obtain ⟨y1, y2⟩ := getP hy
      have hx : 0 ≤ (i : Int) ∧ (i : Int) < (l.length : Int) := by omega
      obtain ⟨x1, x2⟩ := getP hx
      refine TP.dec (fun _ => ?_) fun h => absurd (by omega) h
      rw [w1]
      refine TP.optE x1 (TP.optE r1 (TP.optE y1 (TP.bind (ahead_ok _ _ q.2.1 q.2.2.1 (hl.2 _ x2) (hl.2 _ y2)) fun v hv => ?_)))
      have hv : v.1.1 = eI l q.2.1 q.2.2.1 (i : Int) y := hv
      refine TP.cond (fun hg => ?_) fun hg => ?_
      · rw [hv] at hg
        cases m with
        | zero => omega
        | succ m =>
        refine lrun_l2 hby i hi m L0 (y :: G) S (j - 1) (by omega) e3 (by omega) hL hR hs (fun z hz => ?_) hc
        rcases List.mem_cons.1 hz with e | hz
        · rw [e]; exact hg
        · exact hG z hz
      · rw [hv] at hg
        refine lrun_end q l L G S (i : Int) j hS hj hL (ends ?_)
        have hsl : Sorted (eI l q.2.1 q.2.2.1) L := by rw [hS] at hs; exact hs.left
        rw [hN] at hsl ⊢
        exact hsl.last (ordI _ _ _) hg
omit h30 in
theorem lrun_l1 {Q} (S : List Int) (i : Nat) (hi : i < l.length)
    (hyes : allV q.1 l[i] = true → TP (fun k => chartularylaw17_run.l2 k l S (i : Int) (S.length : Int) q.1 q.2.1 q.2.2.1 q.2.2.2.1) Q)
    (hno : allV q.1 l[i] = false → TP (fun k => chartularylaw17_run.l0 k l S (IntKind.wrap .i64 ((i : Int) + 1)) q.1 q.2.1 q.2.2.1 q.2.2.2.1) Q) : ∀ (m j : Nat) (b : Bool), j + m = q.1.length → allV q.1 l[i] = (b && allV (q.1.drop j) l[i]) →
    TP (fun k => chartularylaw17_run.l1 k l S (i : Int) b (j : Int) q.1 q.2.1 q.2.2.1 q.2.2.2.1) Q
  | 0, j, b, h, hb => by
    have hd : allV (q.1.drop j) l[i] = true := by rw [List.drop_of_length_le (by omega)]; rfl
    rw [hd, Bool.and_true] at hb
    refine TP.step (fun k => rfl) (TP.dec (fun h' => absurd h' (by omega)) fun _ => TP.not (fun h => hno (by rw [hb]; exact h)) fun h => hyes (by rw [hb]; exact h))
  | m + 1, j, b, h, hb => by
    have hj : j < q.1.length := by omega
    have ej : IntKind.wrap .i64 ((j : Int) + 1) = ((j + 1 : Nat) : Int) := by rw [wrap_i64 (by omega) (by omega)]; rfl
    have e : allV (q.1.drop j) l[i] = (holdsV q.1[j] l[i] && allV (q.1.drop (j + 1)) l[i]) := by rw [List.drop_eq_getElem_cons hj]; rfl
    rw [e] at hb
    refine TP.step (fun k => rfl) (TP.dec (fun _ => TP.cond (fun h1 => TP.optE (rdo_at hj) (TP.optE (rdo_at hi) (TP.bindR (lholds_ok q.1[j] l[i] (hl.2 _ (List.getElem_mem hi))) ?_))) fun h1 => ?_) fun h' => absurd (by omega) h')
    · rw [ej]
      exact lrun_l1 S i hi hyes hno m (j + 1) _ (by omega) (by rw [hb, h1, Bool.true_and])
    · rw [ej]
      exact lrun_l1 S i hi hyes hno m (j + 1) false (by omega) (by rw [hb, h1]; rfl)
theorem lrun_l0 (hm : ¬ q.2.2.2.1 < 0) : ∀ (m i : Nat), i + m = l.length → ∀ (P S : List Int), S = outV l q P → P.length ≤ i → InR l P →
    TP (fun k => chartularylaw17_run.l0 k l S (i : Int) q.1 q.2.1 q.2.2.1 q.2.2.2.1) (fun v => v.1.1 = (outV l q (P ++ selI (allV q.1) i (l.drop i))).take q.2.2.2.1.toNat)
  | 0, i, h, P, S, hS, ho, hR => by
    rw [List.drop_of_length_le (by omega), show selI (allV q.1) i [] = [] from rfl, List.append_nil, ← hS]
    refine TP.step (fun k => rfl) (TP.dec (fun h' => absurd h' (by omega)) fun _ => TP.dec (fun h1 => TP.ck (by simp only [Bool.and_eq_true, decide_eq_true_eq]; omega) (TP.some ?_)) fun h1 => TP.some ?_)
    · show (S.take q.2.2.2.1.toNat).drop (0 : Int).toNat = _
      rw [show (0 : Int).toNat = 0 from rfl, List.drop_zero]
    · show S = S.take q.2.2.2.1.toNat
      rw [List.take_of_length_le (by omega)]
  | m + 1, i, h, P, S, hS, ho, hR => by
    have hi : i < l.length := by omega
    have hlS : S.length = P.length := by rw [hS]; exact outV_len l q P
    have ei : IntKind.wrap .i64 ((i : Int) + 1) = ((i + 1 : Nat) : Int) := by rw [wrap_i64 (by omega) (by omega)]; rfl
    have hRS : InR l S := by
      intro z hz
      rw [hS] at hz
      unfold outV at hz
      split at hz
      · exact hR z hz
      · exact hR z ((srtV_ok (ordI _ _ _) P).2.1.mem (ordI _ _ _) hz)
    have hR' : InR l (P ++ [(i : Int)]) := fun z hz => by
      rcases List.mem_append.1 hz with hz | hz
      · exact hR z hz
      · rw [List.mem_singleton.1 hz]; omega
    rw [List.drop_eq_getElem_cons hi]
    unfold selI
    refine TP.step (fun k => rfl) (TP.dec (fun h' => ?_) fun h' => absurd (by omega : (i : Int) < l.length) h')
    refine lrun_l1 q l hq hl S i hi (fun ha => ?_) (fun ha => ?_) _ 0 true (Nat.zero_add _) (by rw [List.drop_zero, Bool.true_and])
    · rw [if_pos ha]
      have nx : ∀ S', S' = outV l q (P ++ [(i : Int)]) → TP (fun k => chartularylaw17_run.l0 k l S' (IntKind.wrap .i64 ((i : Int) + 1)) q.1 q.2.1 q.2.2.1 q.2.2.2.1) (fun v => v.1.1 = (outV l q (P ++ (i : Int) :: selI (allV q.1) (i + 1) (l.drop (i + 1)))).take q.2.2.2.1.toNat) := fun S' h' => by
        rw [ei]
        have := lrun_l0 hm m (i + 1) (by omega) (P ++ [(i : Int)]) S' h' (by simp only [List.length_append, List.length_cons, List.length_nil]; omega) hR'
        rw [List.append_assoc] at this
        exact this
      by_cases hby : q.2.1 = ⟨#[]⟩
      · refine TP.step (fun k => rfl) (TP.neT (fun h => absurd hby h) fun _ => lrun_end q l S [] S (i : Int) (S.length : Int) (by simp) rfl (by omega) (nx _ ?_))
        rw [hS]; unfold outV; rw [if_pos hby, if_pos hby]
      · have hss : Sorted (eI l q.2.1 q.2.2.1) S := by rw [hS]; unfold outV; rw [if_neg hby]; exact (srtV_ok (ordI _ _ _) P).1
        exact lrun_l2 q l hl hby i hi S.length S [] S (S.length : Int) rfl (by simp) rfl (by omega) hRS hss (fun y hy => by cases hy) (fun S' q1 q2 q3 => nx S' (outV_put hby hS q1 q2))
    · rw [if_neg (by rw [ha]; decide), ei]
      exact lrun_l0 hm m (i + 1) (by omega) P S hS (by omega) hR
end
theorem lrun_ok (q : Qry) (l : List Pap) (hq : QryOk q) (hl : PapsOk l) (h30 : l.length ≤ 30) (hm : ¬ q.2.2.2.1 < 0) : TP (fun k => chartularylaw17_run.f k q l) (fun v => v.1.1 = foundV q l) := by
  refine TP.step (fun k => rfl) (TP.mono (lrun_l0 q l hq.t.1 hl h30 hm l.length 0 (Nat.zero_add _) [] [] ?_ (Nat.le_refl _) (fun z hz => by cases hz)) fun v hv => ?_)
  · unfold outV; split <;> rfl
  · rw [hv, List.nil_append, List.drop_zero]; rfl
/-! ## May all values be? -/
theorem lright_l1 (l : List Pap) (h30 : l.length ≤ 1000) (i : Nat) (hi : i < l.length) (hp : l[i].2.2.1.length ≤ 1000) (hc : TP (fun k => chartularylaw17_right.l0 k l (IntKind.wrap .i64 ((i : Int) + 1))) (fun _ => True)) : ∀ (m j : Nat), j + m = l[i].2.2.1.length →
    TP (fun k => chartularylaw17_right.l1 k l (i : Int) (j : Int)) (fun _ => True)
  | 0, j, h => TP.step (fun k => rfl) (TP.optE (rdo_at hi) (TP.no (by apply decide_eq_false; omega) hc))
  | m + 1, j, h => by
    have hj : j < l[i].2.2.1.length := by omega
    refine TP.step (fun k => rfl) (TP.optE (rdo_at hi) (TP.yes (by apply decide_eq_true; omega) (TP.optE (rdo_at hi) (TP.optE (rdo_at hj) (TP.bindR (right_ok _) (TP.not (fun _ => TP.some trivial) fun _ => ?_))))))
    rw [show IntKind.wrap .i64 ((j : Int) + 1) = ((j + 1 : Nat) : Int) by rw [wrap_i64 (by omega) (by omega)]; rfl]
    exact lright_l1 l h30 i hi hp hc m (j + 1) (by omega)
theorem lright_l0 (l : List Pap) (h30 : l.length ≤ 1000) (hp : ∀ p ∈ l, p.2.2.1.length ≤ 1000) : ∀ (m i : Nat), i + m = l.length → TP (fun k => chartularylaw17_right.l0 k l (i : Int)) (fun _ => True)
  | 0, i, h => TP.step (fun k => rfl) (TP.no (by apply decide_eq_false; omega) (TP.some trivial))
  | m + 1, i, h => by
    have hi : i < l.length := by omega
    refine TP.step (fun k => rfl) (TP.yes (by apply decide_eq_true; omega) ?_)
    refine lright_l1 l h30 i hi (hp _ (List.getElem_mem hi)) ?_ _ 0 (Nat.zero_add _)
    rw [show IntKind.wrap .i64 ((i : Int) + 1) = ((i + 1 : Nat) : Int) by rw [wrap_i64 (by omega) (by omega)]; rfl]
    exact lright_l0 l h30 hp m (i + 1) (by omega)
theorem lright_ok (l : List Pap) (h30 : l.length ≤ 1000) (hp : ∀ p ∈ l, p.2.2.1.length ≤ 1000) : TP (fun k => chartularylaw17_right.f k l) (fun _ => True) := TP.step (fun k => rfl) (lright_l0 l h30 hp _ 0 (Nat.zero_add _))
/-! ## Papers, cut -/
theorem papers_loop (l : List Pap) : ∀ (m i : Nat), 30 - i = m → i ≤ 30 → i ≤ l.length → ∀ (out : List Pap), out.length = i → (∀ p ∈ out, p.2.2.1.length ≤ 30) → TP (fun k => chartularylaw17_papers.l0 k l out (i : Int)) (fun v => v.1.1.length ≤ 30 ∧ ∀ p ∈ v.1.1, p.2.2.1.length ≤ 30)
  | m, i, h, h30, hx, out, ho, hz => by
    have hend : (((out, ()), ()) : chartularylaw17_papers.R).1.1.length ≤ 30 ∧ ∀ p ∈ (((out, ()), ()) : chartularylaw17_papers.R).1.1, p.2.2.1.length ≤ 30 := ⟨by dsimp only; omega, hz⟩
    refine TP.step (fun k => rfl) (TP.dec (fun h1 => TP.dec (fun h2 => ?_) fun h2 => TP.some hend) fun h1 => TP.some hend)
    have hi : i < l.length := by omega
    cases m with
    | zero => omega
    | succ m =>
    refine TP.optE (rdo_at hi) (TP.bind (pfew_ok l[i]) fun v hv => TP.ck (by apply decide_eq_true; simp only [List.length_cons, List.length_nil]; omega) ?_)
    rw [show IntKind.wrap .i64 ((i : Int) + 1) = ((i + 1 : Nat) : Int) by rw [wrap_i64 (by omega) (by omega)]; rfl]
    refine papers_loop l m (i + 1) (by omega) (by omega) (by omega) _ (by simp only [List.length_append, List.length_cons, List.length_nil]; omega) fun p hp => ?_
    rcases List.mem_append.1 hp with hp | hp
    · exact hz p hp
    · rw [List.mem_singleton.1 hp]; exact hv
theorem papers_ok (l : List Pap) : TP (fun k => chartularylaw17_papers.f k l) (fun v => v.1.1.length ≤ 30 ∧ ∀ p ∈ v.1.1, p.2.2.1.length ≤ 30) :=
  TP.step (fun k => rfl) (papers_loop l 30 0 rfl (by omega) (Nat.zero_le _) [] rfl fun p hp => nomatch hp)
end Go.Proofs.Ytcjiipbppkdkaaa.Pure
