/- Plain laws: the library's stable sorting, as it goes: places by their papers. -/
import Derived.Test.YtpidgdelfaidoaaP17c
import Derived.Test.YtpidgdelfaidoaaPSort
namespace Go.Proofs.Ytpidgdelfaidoaa.Pure
open Go Go.Proofs.Ytpidgdelfaidoaa.E Go.Proofs.Ytpidgdelfaidoaa.Eng
set_option linter.unusedVariables false
set_option linter.unusedSimpArgs false
variable {cP : List Pap} {cT : List Trm} {cB : ByteArray} {cD : Bool} {cM : Int}
theorem byName_ok (hF : PapsOk cP) {D : List Int} (hR : InR cP D) {a b : Int} (ha : a ∈ D) (hb : b ∈ D) : Runs (fun k => find_Run_1_v0.f k a b cP cT cB cD cM) ((cmpP cB cD (cP.getD a.toNat dPap) (cP.getD b.toNat dPap), ()), ()) := by
 obtain ⟨a1, a2⟩ := getP (hR a ha)
 obtain ⟨b1, b2⟩ := getP (hR b hb)
 exact TP.runs1 (TP.step (fun k => rfl) (TP.optE a1 (TP.optE b1 (TP.bind (compare_ok _ _ cB cD (hF.2 _ a2) (hF.2 _ b2)) fun v hv => TP.some hv))))
theorem half_ok (i j : Nat) (h : i + j ≤ 1000000) : IntKind.wrap .i64 (Int.fdiv (IntKind.wrap .u64 (IntKind.wrap .i64 ((i : Int) + (j : Int)))) (2 ^ (min (1 : Int).toNat (IntKind.bits .u64)))) = (((i + j) / 2 : Nat) : Int) := by
 rw [wi (i := (i : Int) + (j : Int)) (by omega) (by omega)]
 have e1 : IntKind.wrap .u64 ((i : Int) + (j : Int)) = (i : Int) + (j : Int) := by
  simp only [IntKind.wrap, IntKind.bits, IntKind.signed, Bool.false_and]
  simp; omega
 rw [e1]
 have e2 : Int.fdiv ((i : Int) + (j : Int)) (2 ^ (min (1 : Int).toNat (IntKind.bits .u64))) = (((i + j) / 2 : Nat) : Int) := by
  show Int.fdiv ((i : Int) + (j : Int)) 2 = _
  rw [Int.fdiv_eq_ediv_of_nonneg _ (by decide)]; omega
 rw [e2, wi (by omega) (by omega)]
/-! ## One put in -/
theorem ins_l1 {Q : slices_insertionSortCmpFunc_int_v0.R → Prop} {pre post : List Int} {x : Int} {b i : Int} (hF : PapsOk cP) : ∀ (m : Nat) (L G D : List Int) (j : Int), L.length = m → D = pre ++ (L ++ x :: (G ++ post)) → InR cP D → j = (pre.length + L.length : Nat) → Sorted (eI cP cB cD) (L ++ G) → (∀ y ∈ G, (eI cP cB cD) x y = true) → D.length ≤ 1000 →
  (∀ S, Sorted (eI cP cB cD) S → Same (eI cP cB cD) (L ++ G ++ [x]) S → S.length = (L ++ G).length + 1 → TP (fun k => slices_insertionSortCmpFunc_int_v0.l0 k (pre ++ (S ++ post)) (pre.length : Int) b (IntKind.wrap .i64 (i + 1)) cP cT cB cD cM) Q) →
  TP (fun k => slices_insertionSortCmpFunc_int_v0.l1 k D (pre.length : Int) b i j cP cT cB cD cM) Q
 | m, L, G, D, j, hm, hD, hR, hj, hs, hG, hb, hc => by
  have hlen : D.length = pre.length + L.length + 1 + G.length + post.length := by rw [hD]; simp; omega
  rcases List.eq_nil_or_concat L with hL | ⟨L0, y, hL⟩
  ·subst hL
   refine TP.step (fun k => rfl) (TP.dec (fun h => by simp at hj; omega) fun _ => ?_)
   obtain ⟨h1, h2⟩ := Sorted.ins (ordI cP cB cD) (a := []) (g := G) (x := x) hs hG (fun y hy => by cases hy)
   have := hc ([] ++ x :: G) h1 h2 (by simp)
   rw [hD]; simpa using this
  ·rw [List.concat_eq_append] at hL
   subst hL
   have hl0 : (L0 ++ [y]).length = L0.length + 1 := by simp
   have hj2 : j = ((pre ++ (L0 ++ [y])).length : Nat) := by rw [hj]; simp
   have hj1 : j - 1 = ((pre ++ L0).length : Nat) := by rw [hj]; simp; omega
   have e1 : D = (pre ++ (L0 ++ [y])) ++ x :: (G ++ post) := by rw [hD]; simp
   have e2 : D = (pre ++ L0) ++ y :: (x :: (G ++ post)) := by rw [hD]; simp
   have w1 : IntKind.wrap .i64 (j - 1) = j - 1 := wi (by omega) (by omega)
   have r1 : rdo D j = some x := by rw [e1]; exact rdo_mid hj2
   have r2 : rdo D (j - 1) = some y := by rw [e2]; exact rdo_mid hj1
   have c1 : (decide (0 ≤ j) && decide (j < (D.length : Int))) = true := ckI (by omega) (by omega)
   have c2 : (decide (0 ≤ j - 1) && decide (j - 1 < (D.length : Int))) = true := ckI (by omega) (by omega)
   refine TP.step (fun k => rfl) (TP.dec (fun _ => ?_) fun h => absurd (by omega) h)
   rw [w1]
   refine TP.ck c1 (TP.optE r1 (TP.ck c2 (TP.optE r2 (TP.bindR (byName_ok hF hR (by rw [e1]; simp) (by rw [e2]; simp)) ?_))))
   refine TP.dec (fun h => ?_) fun h => ?_
   ·have hxy : (eI cP cB cD) x y = true := decide_eq_true h
    refine TP.ck c2 (TP.optE r2 (TP.ck c1 (TP.optE r1 (TP.ck c1 ?_))))
    have s1 : D.set j.toNat y = (pre ++ L0) ++ y :: ([] ++ y :: (G ++ post)) := by
     rw [e1, set_mid hj2]; simp
    have s2 : (D.set j.toNat y).set (j - 1).toNat x = pre ++ (L0 ++ x :: ((y :: G) ++ post)) := by
     rw [s1, set_mid hj1]; simp
    refine TP.ck (ckI (by omega) (by rw [List.length_set]; omega)) ?_
    show TP (fun k => slices_insertionSortCmpFunc_int_v0.l1 k ((D.set j.toNat y).set (j - 1).toNat x) (pre.length : Int) b i (j - 1) cP cT cB cD cM) Q
    rw [s2]
    cases m with
    | zero => omega
    | succ m =>
    refine ins_l1 hF m L0 (y :: G) _ (j - 1) (by omega) rfl (fun z hz => hR z (by rw [hD]; grind)) (by rw [hj1]; simp) (by simpa using hs) (fun z hz => ?_) (by rw [hlen] at hb; simp at hb ⊢; omega) (fun S q1 q2 q3 => hc S q1 (by simpa using q2) (by simp at q3 ⊢; omega))
    rcases List.mem_cons.1 hz with e | hz
    ·rw [e]; exact hxy
    ·exact hG z hz
   ·have hxy : (eI cP cB cD) x y = false := decide_eq_false h
    obtain ⟨h1, h2⟩ := Sorted.ins (ordI cP cB cD) hs hG (hs.left.last (ordI cP cB cD) hxy)
    have := hc _ h1 h2 (by simp; omega)
    rw [hD]; simpa using this
theorem ins_l0 {pre post : List Int} (hF : PapsOk cP) : ∀ (U S : List Int) (b i : Int), InR cP (pre ++ (S ++ (U ++ post))) → b = (pre.length + S.length + U.length : Nat) → i = (pre.length + S.length : Nat) → Sorted (eI cP cB cD) S → (pre ++ (S ++ (U ++ post))).length ≤ 1000 →
  TP (fun k => slices_insertionSortCmpFunc_int_v0.l0 k (pre ++ (S ++ (U ++ post))) (pre.length : Int) b i cP cT cB cD cM) (fun v => ∃ S', v.1.1 = pre ++ (S' ++ post) ∧ Sorted (eI cP cB cD) S' ∧ Same (eI cP cB cD) (S ++ U) S' ∧ S'.length = S.length + U.length)
 | [], S, b, i, hR, hb, hi, hs, hl => TP.step (fun k => rfl) (TP.dec (fun h => by simp at hb; omega) fun _ => TP.some ⟨S, by simp, hs, by simpa using Same.refl S, by simp⟩)
 | x :: U, S, b, i, hR, hb, hi, hs, hl => by
  have hl' := hl
  simp only [List.length_append, List.length_cons] at hl' hb
  refine TP.step (fun k => rfl) (TP.dec (fun _ => ?_) fun h => absurd (by omega) h)
  refine ins_l1 hF (post := U ++ post) (x := x) S.length S [] _ i rfl (by simp) (fun z hz => hR z (by grind)) hi (by simpa using hs) (fun y hy => by cases hy) hl (fun S' q1 q2 q3 => ?_)
  simp only [List.append_nil] at q2 q3
  rw [wi (by omega) (by omega)]
  refine TP.mono (ins_l0 hF U S' b (i + 1) (fun z hz => hR z (by have hS : z ∈ S' → z ∈ S ++ [x] := fun h => q2.mem (ordI cP cB cD) h; grind)) (by omega) (by omega) q1 (by simp; omega)) fun v ⟨S2, p1, p2, p3, p4⟩ => ⟨S2, p1, p2, ?_, by simp only [List.length_cons]; omega⟩
  have := (q2.app (Same.refl U)).trans p3
  rwa [List.append_assoc] at this
theorem ins_ok {pre post : List Int} (hF : PapsOk cP) (U : List Int) (hR : InR cP (pre ++ (U ++ post))) (hl : (pre ++ (U ++ post)).length ≤ 1000) : TP (fun k => slices_insertionSortCmpFunc_int_v0.f k (pre ++ (U ++ post)) (pre.length : Int) (pre.length + U.length : Nat) cP cT cB cD cM) (fun v => ∃ S', v.1.1 = pre ++ (S' ++ post) ∧ Sorted (eI cP cB cD) S' ∧ Same (eI cP cB cD) U S' ∧ S'.length = U.length) := by
 have hl' := hl
 simp only [List.length_append] at hl'
 refine TP.step (body := fun k => slices_insertionSortCmpFunc_int_v0.l0 k (pre ++ (U ++ post)) (pre.length : Int) (pre.length + U.length : Nat) (IntKind.wrap .i64 ((pre.length : Int) + 1)) cP cT cB cD cM) (fun k => rfl) ?_
 rw [wi (by omega) (by omega)]
 cases U with
 | nil => exact TP.step (fun k => rfl) (TP.dec (fun h => absurd h (by simp; omega)) fun _ => TP.some ⟨[], by simp, List.Pairwise.nil, Same.refl _, rfl⟩)
 | cons x U =>
  have := ins_l0 (cT := cT) (cB := cB) (cD := cD) (cM := cM) (pre := pre) (post := post) hF U [x] ((pre.length + (x :: U).length : Nat) : Int) ((pre.length : Int) + 1) (fun z hz => hR z (by grind)) (by simp; omega) (by simp) (Sorted.one x) (by simpa using hl)
  have e : pre ++ ([x] ++ (U ++ post)) = pre ++ (x :: U ++ post) := by simp
  rw [e] at this
  exact TP.mono this fun v ⟨S', p1, p2, p3, p4⟩ => ⟨S', p1, p2, by simpa using p3, by simp at p4 ⊢; omega⟩
/-! ## Blocks exchanged -/
theorem swr_l0 {pre mid post : List Int} : ∀ (Xb Yb Xa Ya : List Int) (a b n i : Int), Xb.length = Yb.length → Xa.length = Ya.length → a = (pre.length : Int) → b = (pre.length + Ya.length + Xb.length + mid.length : Nat) → n = (Ya.length + Xb.length : Nat) → i = (Ya.length : Int) → (pre ++ (Ya ++ (Xb ++ (mid ++ (Xa ++ (Yb ++ post)))))).length ≤ 1000 →
  TP (fun k => slices_swapRangeCmpFunc_int_v0.l0 k (pre ++ (Ya ++ (Xb ++ (mid ++ (Xa ++ (Yb ++ post)))))) a b n i cP cT cB cD cM) (fun v => v.1.1 = pre ++ (Ya ++ (Yb ++ (mid ++ (Xa ++ (Xb ++ post))))))
 | [], [], Xa, Ya, a, b, n, i, h1, h2, ha, hb, hn, hi, hl => TP.step (fun k => rfl) (TP.dec (fun h => by simp at hn; omega) fun _ => TP.some rfl)
 | [], _ :: _, Xa, Ya, a, b, n, i, h1, h2, ha, hb, hn, hi, hl => by simp at h1
 | _ :: _, [], Xa, Ya, a, b, n, i, h1, h2, ha, hb, hn, hi, hl => by simp at h1
 | x :: Xb, y :: Yb, Xa, Ya, a, b, n, i, h1, h2, ha, hb, hn, hi, hl => by
  simp only [List.length_cons] at h1 hb hn
  generalize hD : pre ++ (Ya ++ (x :: Xb ++ (mid ++ (Xa ++ (y :: Yb ++ post))))) = D at hl
  have hlen : D.length = pre.length + Ya.length + 1 + Xb.length + mid.length + Xa.length + 1 + Yb.length + post.length := by rw [← hD]; simp; omega
  have w1 : IntKind.wrap .i64 (a + i) = a + i := wi (by omega) (by omega)
  have w2 : IntKind.wrap .i64 (b + i) = b + i := wi (by omega) (by omega)
  have p1 : a + i = ((pre ++ Ya).length : Nat) := by simp; omega
  have p2 : b + i = ((pre ++ (Ya ++ (x :: Xb ++ (mid ++ Xa)))).length : Nat) := by simp; omega
  have p2' : b + i = ((pre ++ (Ya ++ (y :: Xb ++ (mid ++ Xa)))).length : Nat) := by simp; omega
  have e1 : D = (pre ++ Ya) ++ x :: (Xb ++ (mid ++ (Xa ++ (y :: Yb ++ post)))) := by rw [← hD]; simp
  have e2 : D = (pre ++ (Ya ++ (x :: Xb ++ (mid ++ Xa)))) ++ y :: (Yb ++ post) := by rw [← hD]; simp
  have r1 : rdo D (a + i) = some x := by rw [e1]; exact rdo_mid p1
  have r2 : rdo D (b + i) = some y := by rw [e2]; exact rdo_mid p2
  refine TP.step (fun k => rfl) (TP.dec (fun _ => ?_) fun h => absurd (by omega) h)
  rw [w1, w2]
  refine TP.ck (ckI (by omega) (by omega)) (TP.optE r2 (TP.ck (ckI (by omega) (by omega)) (TP.optE r1 (TP.ck (ckI (by omega) (by omega)) (TP.ck (ckI (by omega) (by rw [List.length_set]; omega)) ?_)))))
  show TP (fun k => slices_swapRangeCmpFunc_int_v0.l0 k ((D.set (a + i).toNat y).set (b + i).toNat x) a b n (IntKind.wrap .i64 (i + 1)) cP cT cB cD cM) _
  have s1 : D.set (a + i).toNat y = (pre ++ (Ya ++ (y :: Xb ++ (mid ++ Xa)))) ++ y :: (Yb ++ post) := by rw [e1, set_mid p1]; simp
  have s2 : (D.set (a + i).toNat y).set (b + i).toNat x = pre ++ ((Ya ++ [y]) ++ (Xb ++ (mid ++ ((Xa ++ [x]) ++ (Yb ++ post))))) := by rw [s1, set_mid p2']; simp
  rw [s2, wi (by omega) (by omega)]
  refine TP.mono (swr_l0 Xb Yb (Xa ++ [x]) (Ya ++ [y]) a b n (i + 1) (by omega) (by simp; omega) ha (by simp; omega) (by simp; omega) (by simp; omega) (by simp at hl hlen ⊢; omega)) fun v hv => ?_
  rw [hv]; simp
theorem swr_ok {pre X mid Y post : List Int} (h : X.length = Y.length) (hl : (pre ++ (X ++ (mid ++ (Y ++ post)))).length ≤ 1000) (a b n : Int) (ha : a = (pre.length : Int)) (hb : b = (pre.length + X.length + mid.length : Nat)) (hn : n = (X.length : Int)) :
  TP (fun k => slices_swapRangeCmpFunc_int_v0.f k (pre ++ (X ++ (mid ++ (Y ++ post)))) a b n cP cT cB cD cM) (fun v => v.1.1 = pre ++ (Y ++ (mid ++ (X ++ post)))) :=
 TP.step (fun k => rfl) (TP.mono (swr_l0 (pre := pre) (mid := mid) (post := post) X Y [] [] a b n 0 h rfl ha (by simpa using hb) (by simpa using hn) rfl (by simpa using hl)) fun v hv => by simpa using hv)
theorem rot_l0 : ∀ (s : Nat) (pre X Y post : List Int) (m i j : Int), X.length + Y.length ≤ s → 1 ≤ X.length → 1 ≤ Y.length → (pre ++ (X ++ (Y ++ post))).length ≤ 1000 → m = (pre.length + X.length : Nat) → i = (X.length : Int) → j = (Y.length : Int) →
  TP (fun k => slices_rotateCmpFunc_int_v0.l0 k (pre ++ (X ++ (Y ++ post))) m i j cP cT cB cD cM) (fun v => v.1.1 = pre ++ (Y ++ (X ++ post)))
 | 0, pre, X, Y, post, m, i, j, hs, h1, h2, hl, hm, hi, hj => by omega
 | s + 1, pre, X, Y, post, m, i, j, hs, h1, h2, hl, hm, hi, hj => by
  have hl' := hl
  simp only [List.length_append] at hl'
  refine TP.step (fun k => rfl) (TP.neI (fun hne => TP.dec (fun hgt => ?_) fun hgt => ?_) fun he => ?_)
  ·-- the left one is longer
   obtain ⟨X1, X2, rfl, hX1⟩ : ∃ X1 X2, X = X1 ++ X2 ∧ X1.length = Y.length := ⟨X.take Y.length, X.drop Y.length, (List.take_append_drop _ _).symm, by rw [List.length_take]; omega⟩
   simp only [List.length_append] at hs h1 hl' hm hi
   rw [wi (by omega) (by omega)]
   have e : pre ++ (X1 ++ X2 ++ (Y ++ post)) = pre ++ (X1 ++ (X2 ++ (Y ++ post))) := by simp
   rw [e]
   refine TP.bind (swr_ok (pre := pre) (X := X1) (mid := X2) (Y := Y) (post := post) hX1 (by simp; omega) _ _ _ (by omega) (by omega) (by omega)) fun v hv => ?_
   rw [hv, wi (by omega) (by omega)]
   have e2 : pre ++ (Y ++ (X2 ++ (X1 ++ post))) = (pre ++ Y) ++ (X2 ++ (X1 ++ post)) := by simp
   rw [e2]
   refine TP.mono (rot_l0 s (pre ++ Y) X2 X1 post m (i - j) j (by omega) (by omega) (by omega) (by simp; omega) (by simp; omega) (by omega) (by omega)) fun v hv => ?_
   rw [hv]; simp
  ·obtain ⟨Y1, Y2, rfl, hY2⟩ : ∃ Y1 Y2, Y = Y1 ++ Y2 ∧ Y2.length = X.length := ⟨Y.take (Y.length - X.length), Y.drop (Y.length - X.length), (List.take_append_drop _ _).symm, by rw [List.length_drop]; omega⟩
   simp only [List.length_append] at hs h2 hl' hj
   rw [wi (i := m - i) (by omega) (by omega), wi (i := m + j) (by omega) (by omega), wi (i := m + j - i) (by omega) (by omega)]
   have e : pre ++ (X ++ (Y1 ++ Y2 ++ post)) = pre ++ (X ++ (Y1 ++ (Y2 ++ post))) := by simp
   rw [e]
   refine TP.bind (swr_ok (pre := pre) (X := X) (mid := Y1) (Y := Y2) (post := post) hY2.symm (by simp; omega) _ _ _ (by omega) (by omega) (by omega)) fun v hv => ?_
   rw [hv, wi (by omega) (by omega)]
   refine TP.mono (rot_l0 s pre Y2 Y1 (X ++ post) m i (j - i) (by omega) (by omega) (by omega) (by simp; omega) (by omega) (by omega) (by omega)) fun v hv => ?_
   rw [hv]; simp
  ·rw [wi (by omega) (by omega)]
   have e : pre ++ (X ++ (Y ++ post)) = pre ++ (X ++ ([] ++ (Y ++ post))) := by simp
   rw [e]
   refine TP.bind (swr_ok (pre := pre) (X := X) (mid := []) (Y := Y) (post := post) (by omega) (by simpa using hl) _ _ _ (by omega) (by simp; omega) (by omega)) fun v hv => TP.some ?_
   rw [hv]; simp
theorem rot_ok {pre X Y post : List Int} (h1 : 1 ≤ X.length) (h2 : 1 ≤ Y.length) (hl : (pre ++ (X ++ (Y ++ post))).length ≤ 1000) (a m b : Int) (ha : a = (pre.length : Int)) (hm : m = (pre.length + X.length : Nat)) (hb : b = (pre.length + X.length + Y.length : Nat)) :
  TP (fun k => slices_rotateCmpFunc_int_v0.f k (pre ++ (X ++ (Y ++ post))) a m b cP cT cB cD cM) (fun v => v.1.1 = pre ++ (Y ++ (X ++ post))) := by
 have hl' := hl
 simp only [List.length_append] at hl'
 refine TP.step (body := fun k => slices_rotateCmpFunc_int_v0.l0 k (pre ++ (X ++ (Y ++ post))) m (IntKind.wrap .i64 (m - a)) (IntKind.wrap .i64 (b - m)) cP cT cB cD cM) (fun k => rfl) ?_
 rw [wi (i := m - a) (by omega) (by omega), wi (i := b - m) (by omega) (by omega)]
 exact rot_l0 _ pre X Y post m _ _ (Nat.le_refl _) h1 h2 hl hm (by omega) (by omega)
end Go.Proofs.Ytpidgdelfaidoaa.Pure
