/- Plain laws: two sorted blocks merged where they lie; the whole sorting. -/
import Derived.Test.YtpidgdelfaidoaaPSortWI
namespace Go.Proofs.Ytpidgdelfaidoaa.Pure
open Go Go.Proofs.Ytpidgdelfaidoaa.E Go.Proofs.Ytpidgdelfaidoaa.Eng
set_option linter.unusedVariables false
set_option linter.unusedSimpArgs false
variable {cP : List Pap} {cT : List Trm} {cB : ByteArray} {cD : Bool} {cM : Int}
theorem rdo_nat {α : Type} (l : List α) (i : Nat) : rdo l (i : Int) = l[i]? := by unfold rdo; rw [if_pos (by omega), Int.toNat_natCast]
theorem get_mid {α : Type} {P R : List α} {x : α} {i : Nat} (h : i = P.length) : (P ++ x :: R)[i]? = some x := by
 subst h; rw [List.getElem?_append_right (Nat.le_refl _), Nat.sub_self]; rfl
theorem wadd1 (e : Nat) (h : e ≤ 10000) : IntKind.wrap .i64 ((e : Int) + 1) = ((e + 1 : Nat) : Int) := by rw [wi (by omega) (by omega)]; rfl
theorem wsubN {a b : Nat} (h : b ≤ a) (h' : a ≤ 10000) : IntKind.wrap .i64 ((a : Int) - (b : Int)) = ((a - b : Nat) : Int) := by rw [wi (by omega) (by omega)]; omega
theorem waddN {a b : Nat} (h' : a + b ≤ 10000) : IntKind.wrap .i64 ((a : Int) + (b : Int)) = ((a + b : Nat) : Int) := by rw [wi (by omega) (by omega)]; rfl
/-! ## Places sought -/
theorem sm_l0 {Q : slices_symMergeCmpFunc_int_v0.R → Prop} {D : List Int} {a lo hi : Nat} {x : Int} (hF : PapsOk cP) (hR : InR cP D) (hx : D[a]? = some x) (hD : D.length ≤ 1000) (hhi : hi ≤ D.length)
  (hc : ∀ e, lo ≤ e → e ≤ hi → (lo < e → ∃ y, D[e - 1]? = some y ∧ (eI cP cB cD) y x = true) → (e < hi → ∃ y, D[e]? = some y ∧ (eI cP cB cD) y x = false) → TP (fun k => slices_symMergeCmpFunc_int_v0.l2 k D (e : Int) (a : Int) cP cT cB cD cM) Q) :
  ∀ (s i j : Nat), j - i ≤ s → lo ≤ i → i ≤ j → j ≤ hi → (lo < i → ∃ y, D[i - 1]? = some y ∧ (eI cP cB cD) y x = true) → (j < hi → ∃ y, D[j]? = some y ∧ (eI cP cB cD) y x = false) → TP (fun k => slices_symMergeCmpFunc_int_v0.l0 k D (a : Int) (i : Int) (j : Int) cP cT cB cD cM) Q
 | s, i, j, hs, h1, h2, h3, F1, F2 => by
  refine TP.step (fun k => rfl) (TP.dec (fun hlt => ?_) fun hge => ?_)
  ·have hlt : i < j := by omega
   cases s with
   | zero => omega
   | succ s =>
   have hal : a < D.length := (List.getElem?_eq_some_iff.1 hx).1
   have hh : (i + j) / 2 < D.length := by omega
   have hy : D[(i + j) / 2]? = some D[(i + j) / 2] := List.getElem?_eq_getElem hh
   refine TP.ck rfl ?_
   rw [half_ok i j (by omega)]
   refine TP.ck (ckI (by omega) (by omega)) (TP.optE ((rdo_nat _ _).trans hy) (TP.ck (ckI (by omega) (by omega)) (TP.optE ((rdo_nat _ _).trans hx) (TP.bindR (byName_ok hF hR (List.mem_of_getElem? hy) (List.mem_of_getElem? hx)) ?_))))
   refine TP.dec (fun hc1 => ?_) fun hc1 => ?_
   ·rw [wadd1 _ (by omega)]
    exact sm_l0 hF hR hx hD hhi hc s _ j (by omega) (by omega) (by omega) h3 (fun _ => ⟨_, hy, decide_eq_true hc1⟩) F2
   ·exact sm_l0 hF hR hx hD hhi hc s i _ (by omega) h1 (by omega) (by omega) F1 (fun _ => ⟨_, hy, decide_eq_false hc1⟩)
  ·have : i = j := by omega
   subst this
   exact hc i h1 h3 F1 F2
theorem sm_l1 {Q : slices_symMergeCmpFunc_int_v0.R → Prop} {D : List Int} {a lo hi : Nat} {x : Int} (hF : PapsOk cP) (hR : InR cP D) (hx : D[a]? = some x) (hD : D.length ≤ 1000) (hhi : hi ≤ D.length)
  (hc : ∀ e, lo ≤ e → e ≤ hi → (lo < e → ∃ y, D[e - 1]? = some y ∧ (eI cP cB cD) x y = false) → (e < hi → ∃ y, D[e]? = some y ∧ (eI cP cB cD) x y = true) → TP (fun k => slices_symMergeCmpFunc_int_v0.l3 k D (e : Int) (a : Int) cP cT cB cD cM) Q) :
  ∀ (s i j : Nat), j - i ≤ s → lo ≤ i → i ≤ j → j ≤ hi → (lo < i → ∃ y, D[i - 1]? = some y ∧ (eI cP cB cD) x y = false) → (j < hi → ∃ y, D[j]? = some y ∧ (eI cP cB cD) x y = true) → TP (fun k => slices_symMergeCmpFunc_int_v0.l1 k D (a : Int) (i : Int) (j : Int) cP cT cB cD cM) Q
 | s, i, j, hs, h1, h2, h3, F1, F2 => by
  refine TP.step (fun k => rfl) (TP.dec (fun hlt => ?_) fun hge => ?_)
  ·have hlt : i < j := by omega
   cases s with
   | zero => omega
   | succ s =>
   have hal : a < D.length := (List.getElem?_eq_some_iff.1 hx).1
   have hh : (i + j) / 2 < D.length := by omega
   have hy : D[(i + j) / 2]? = some D[(i + j) / 2] := List.getElem?_eq_getElem hh
   refine TP.ck rfl ?_
   rw [half_ok i j (by omega)]
   refine TP.ck (ckI (by omega) (by omega)) (TP.optE ((rdo_nat _ _).trans hx) (TP.ck (ckI (by omega) (by omega)) (TP.optE ((rdo_nat _ _).trans hy) (TP.bindR (byName_ok hF hR (List.mem_of_getElem? hx) (List.mem_of_getElem? hy)) ?_))))
   refine TP.not (fun hc1 => ?_) fun hc1 => ?_
   ·rw [wadd1 _ (by omega)]
    exact sm_l1 hF hR hx hD hhi hc s _ j (by omega) (by omega) (by omega) h3 (fun _ => ⟨_, hy, hc1⟩) F2
   ·exact sm_l1 hF hR hx hD hhi hc s i _ (by omega) h1 (by omega) (by omega) F1 (fun _ => ⟨_, hy, hc1⟩)
  ·have : i = j := by omega
   subst this
   exact hc i h1 h3 F1 F2
theorem sm_l4 {Q : slices_symMergeCmpFunc_int_v0.R → Prop} {D : List Int} {a m b mid n p lo hi : Nat} (hF : PapsOk cP) (hR : InR cP D) (hD : D.length ≤ 1000) (hhi : hi ≤ D.length) (hp : ∀ c, lo ≤ c → c < hi → c ≤ p ∧ p - c < D.length) (hp2 : p ≤ 5000)
  (hc : ∀ e, lo ≤ e → e ≤ hi → (lo < e → ∃ x y, D[e - 1]? = some x ∧ D[p - (e - 1)]? = some y ∧ (eI cP cB cD) y x = false) → (e < hi → ∃ x y, D[e]? = some x ∧ D[p - e]? = some y ∧ (eI cP cB cD) y x = true) → TP (fun k => slices_symMergeCmpFunc_int_v0.l4 k D (a : Int) (m : Int) (b : Int) (mid : Int) (n : Int) (e : Int) (e : Int) (p : Int) cP cT cB cD cM) Q) :
  ∀ (s i j : Nat), j - i ≤ s → lo ≤ i → i ≤ j → j ≤ hi → (lo < i → ∃ x y, D[i - 1]? = some x ∧ D[p - (i - 1)]? = some y ∧ (eI cP cB cD) y x = false) → (j < hi → ∃ x y, D[j]? = some x ∧ D[p - j]? = some y ∧ (eI cP cB cD) y x = true) →
   TP (fun k => slices_symMergeCmpFunc_int_v0.l4 k D (a : Int) (m : Int) (b : Int) (mid : Int) (n : Int) (i : Int) (j : Int) (p : Int) cP cT cB cD cM) Q
 | s, i, j, hs, h1, h2, h3, F1, F2 => by
  by_cases hlt : i < j
  ·cases s with
   | zero => omega
   | succ s =>
   have hh : (i + j) / 2 < D.length := by omega
   obtain ⟨q1, q2⟩ := hp ((i + j) / 2) (by omega) (by omega)
   have hx : D[(i + j) / 2]? = some D[(i + j) / 2] := List.getElem?_eq_getElem hh
   have hy : D[p - (i + j) / 2]? = some D[p - (i + j) / 2] := List.getElem?_eq_getElem q2
   refine TP.step (fun k => rfl) (TP.yes (decide_eq_true (by omega)) (TP.ck rfl ?_))
   rw [half_ok i j (by omega), wsubN q1 (by omega)]
   refine TP.ck (ckI (by omega) (by omega)) (TP.optE ((rdo_nat _ _).trans hy) (TP.ck (ckI (by omega) (by omega)) (TP.optE ((rdo_nat _ _).trans hx) (TP.bindR (byName_ok hF hR (List.mem_of_getElem? hy) (List.mem_of_getElem? hx)) ?_))))
   refine TP.not (fun hc1 => ?_) fun hc1 => ?_
   ·rw [wadd1 _ (by omega)]
    exact sm_l4 hF hR hD hhi hp hp2 hc s _ j (by omega) (by omega) (by omega) h3 (fun _ => ⟨_, _, hx, hy, hc1⟩) F2
   ·exact sm_l4 hF hR hD hhi hp hp2 hc s i _ (by omega) h1 (by omega) (by omega) F1 (fun _ => ⟨_, _, hx, hy, hc1⟩)
  ·have : i = j := by omega
   subst this
   exact hc i h1 h3 F1 F2
/-! ## One moved over a block -/
theorem sm_l2 {x : Int} {R : List Int} : ∀ (B P : List Int) (i k0 : Int), k0 = (P.length : Int) → i = (P.length + B.length + 1 : Nat) → (P ++ x :: (B ++ R)).length ≤ 1000 → TP (fun k => slices_symMergeCmpFunc_int_v0.l2 k (P ++ x :: (B ++ R)) i k0 cP cT cB cD cM) (fun v => v.1.1 = P ++ (B ++ x :: R))
 | [], P, i, k0, hk, hi, hl => by
  simp only [List.length_append, List.length_cons, List.length_nil] at hl hi
  refine TP.step (body := fun k => bif decide (k0 < IntKind.wrap .i64 (i - 1)) then _ else _) (fun k => rfl) ?_
  rw [wi (i := i - 1) (by omega) (by omega)]
  exact TP.dec (fun h => by omega) fun _ => TP.some rfl
 | y :: B, P, i, k0, hk, hi, hl => by
  generalize hD : P ++ x :: (y :: B ++ R) = D at hl
  have hlen : D.length = P.length + 1 + 1 + B.length + R.length := by rw [← hD]; simp; omega
  simp only [List.length_cons] at hi
  have p1 : k0 + 1 = ((P ++ [x]).length : Nat) := by simp; omega
  have e1 : D = P ++ x :: (y :: (B ++ R)) := by rw [← hD]; simp
  have e2 : D = (P ++ [x]) ++ y :: (B ++ R) := by rw [← hD]; simp
  have r1 : rdo D k0 = some x := by rw [e1]; exact rdo_mid hk
  have r2 : rdo D (k0 + 1) = some y := by rw [e2]; exact rdo_mid p1
  refine TP.step (body := fun k => bif decide (k0 < IntKind.wrap .i64 (i - 1)) then _ else _) (fun k => rfl) ?_
  rw [wi (i := i - 1) (by omega) (by omega), wi (i := k0 + 1) (by omega) (by omega)]
  refine TP.yes (decide_eq_true (by omega)) ?_
  refine TP.ck (ckI (by omega) (by omega)) (TP.optE r2 (TP.ck (ckI (by omega) (by omega)) (TP.optE r1 (TP.ck (ckI (by omega) (by omega)) (TP.ck (ckI (by omega) (by rw [List.length_set]; omega)) ?_)))))
  show TP (fun k => slices_symMergeCmpFunc_int_v0.l2 k ((D.set k0.toNat y).set (k0 + 1).toNat x) i (k0 + 1) cP cT cB cD cM) _
  have s1 : D.set k0.toNat y = (P ++ [y]) ++ y :: (B ++ R) := by rw [e1, set_mid hk]; simp
  have s2 : (D.set k0.toNat y).set (k0 + 1).toNat x = (P ++ [y]) ++ x :: (B ++ R) := by rw [s1, set_mid (by rw [p1]; simp)]
  rw [s2]
  refine TP.mono (sm_l2 B (P ++ [y]) i (k0 + 1) (by simp; omega) (by simp; omega) (by simp at hl hlen ⊢; omega)) fun v hv => ?_
  rw [hv]; simp
theorem sm_l3 {x : Int} {P : List Int} : ∀ (s : Nat) (A R : List Int) (i k0 : Int), A.length = s → i = (P.length : Int) → k0 = (P.length + A.length : Nat) → (P ++ (A ++ x :: R)).length ≤ 1000 → TP (fun k => slices_symMergeCmpFunc_int_v0.l3 k (P ++ (A ++ x :: R)) i k0 cP cT cB cD cM) (fun v => v.1.1 = P ++ (x :: (A ++ R)))
 | s, A, R, i, k0, hs, hi, hk, hl => by
  rcases List.eq_nil_or_concat A with hA | ⟨A0, y, hA⟩
  ·subst hA
   exact TP.step (fun k => rfl) (TP.dec (fun h => by simp at hk; omega) fun _ => TP.some rfl)
  ·rw [List.concat_eq_append] at hA
   subst hA
   generalize hD : P ++ (A0 ++ [y] ++ x :: R) = D at hl
   have hlen : D.length = P.length + A0.length + 1 + 1 + R.length := by rw [← hD]; simp; omega
   simp only [List.length_append, List.length_cons, List.length_nil] at hk hs
   have p1 : k0 - 1 = ((P ++ A0).length : Nat) := by simp; omega
   have p2 : k0 = ((P ++ (A0 ++ [y])).length : Nat) := by simp; omega
   have e1 : D = (P ++ (A0 ++ [y])) ++ x :: R := by rw [← hD]; simp
   have e2 : D = (P ++ A0) ++ y :: (x :: R) := by rw [← hD]; simp
   have r1 : rdo D k0 = some x := by rw [e1]; exact rdo_mid p2
   have r2 : rdo D (k0 - 1) = some y := by rw [e2]; exact rdo_mid p1
   cases s with
   | zero => omega
   | succ s =>
   refine TP.step (fun k => rfl) (TP.yes (decide_eq_true (by omega)) ?_)
   rw [wi (i := k0 - 1) (by omega) (by omega)]
   refine TP.ck (ckI (by omega) (by omega)) (TP.optE r2 (TP.ck (ckI (by omega) (by omega)) (TP.optE r1 (TP.ck (ckI (by omega) (by omega)) (TP.ck (ckI (by omega) (by rw [List.length_set]; omega)) ?_)))))
   show TP (fun k => slices_symMergeCmpFunc_int_v0.l3 k ((D.set k0.toNat y).set (k0 - 1).toNat x) i (k0 - 1) cP cT cB cD cM) _
   have s1 : D.set k0.toNat y = (P ++ A0) ++ y :: (y :: R) := by rw [e1, set_mid p2]; simp
   have s2 : (D.set k0.toNat y).set (k0 - 1).toNat x = P ++ (A0 ++ x :: (y :: R)) := by rw [s1, set_mid p1]; simp
   rw [s2]
   refine TP.mono (sm_l3 s A0 (y :: R) i (k0 - 1) (by omega) hi (by omega) (by simp at hl hlen ⊢; omega)) fun v hv => ?_
   rw [hv]; simp
/-! ## Merged -/
theorem all_lt {B1 : List Int} {x : Int} (hs : Sorted (eI cP cB cD) B1) (h : ∀ B0 z, B1 = B0 ++ [z] → (eI cP cB cD) z x = true) : ∀ y ∈ B1, (eI cP cB cD) y x = true := fun y hy => by
 rcases List.eq_nil_or_concat B1 with hB | ⟨B0, z, hB⟩
 ·subst hB; cases hy
 ·rw [List.concat_eq_append] at hB
  have hz := h B0 z hB
  subst hB
  rcases List.mem_append.1 hy with hy | hy
  ·exact (ordI cP cB cD).trr (hs.cross y hy z (by simp)) hz
  ·rw [List.mem_singleton.1 hy]; exact hz
theorem all_ge {B2 : List Int} {x : Int} (hs : Sorted (eI cP cB cD) B2) (h : ∀ z B0, B2 = z :: B0 → (eI cP cB cD) z x = false) : ∀ y ∈ B2, (eI cP cB cD) y x = false := fun y hy => by
 cases B2 with
 | nil => cases hy
 | cons z B0 =>
  have hz := h z B0 rfl
  rcases List.mem_cons.1 hy with e | hy
  ·rw [e]; exact hz
  ·exact (ordI cP cB cD).tr x z y hz ((List.pairwise_cons.1 hs).1 y hy)
theorem all_le {A1 : List Int} {x : Int} (hs : Sorted (eI cP cB cD) A1) (h : ∀ A0 z, A1 = A0 ++ [z] → (eI cP cB cD) x z = false) : ∀ y ∈ A1, (eI cP cB cD) x y = false := fun y hy => by
 rcases List.eq_nil_or_concat A1 with hB | ⟨B0, z, hB⟩
 ·subst hB; cases hy
 ·rw [List.concat_eq_append] at hB
  have hz := h B0 z hB
  subst hB
  exact hs.last (ordI cP cB cD) hz y hy
theorem all_gt {A2 : List Int} {x : Int} (hs : Sorted (eI cP cB cD) A2) (h : ∀ z A0, A2 = z :: A0 → (eI cP cB cD) x z = true) : ∀ y ∈ A2, (eI cP cB cD) x y = true := fun y hy => by
 cases A2 with
 | nil => cases hy
 | cons z B0 =>
  have hz := h z B0 rfl
  rcases List.mem_cons.1 hy with e | hy
  ·rw [e]; exact hz
  ·exact (ordI cP cB cD).trl hz ((List.pairwise_cons.1 hs).1 y hy)
def Merged (cP : List Pap) (cB : ByteArray) (cD : Bool) (pre L post : List Int) (v : slices_symMergeCmpFunc_int_v0.R) : Prop := ∃ M, v.1.1 = pre ++ (M ++ post) ∧ Sorted (eI cP cB cD) M ∧ Same (eI cP cB cD) L M ∧ M.length = L.length
theorem split_at {α : Type} (l : List α) {n : Nat} (h : n ≤ l.length) : ∃ a b, l = a ++ b ∧ a.length = n := ⟨l.take n, l.drop n, (List.take_append_drop _ _).symm, by rw [List.length_take]; omega⟩
def SmOk (cP : List Pap) (cT : List Trm) (cB : ByteArray) (cD : Bool) (cM : Int) (s : Nat) : Prop := ∀ (pre A B post : List Int), InR cP (pre ++ (A ++ (B ++ post))) → A.length + B.length ≤ s → 1 ≤ A.length → 1 ≤ B.length → Sorted (eI cP cB cD) A → Sorted (eI cP cB cD) B → (pre ++ (A ++ (B ++ post))).length ≤ 1000 →
  TP (fun k => slices_symMergeCmpFunc_int_v0.f k (pre ++ (A ++ (B ++ post))) (pre.length : Nat) (pre.length + A.length : Nat) (pre.length + A.length + B.length : Nat) cP cT cB cD cM) (Merged cP cB cD pre (A ++ B) post)
theorem sm_j2 {s : Nat} (ih : SmOk cP cT cB cD cM s) (hF : PapsOk cP) (pre A B post : List Int) (hR : InR cP (pre ++ (A ++ (B ++ post)))) (hs : A.length + B.length ≤ s) (sA : Sorted (eI cP cB cD) A) (sB : Sorted (eI cP cB cD) B) (hl : (pre ++ (A ++ (B ++ post))).length ≤ 1000) (mid en b : Nat) (h1 : mid = pre.length) (h2 : en = pre.length + A.length) (h3 : b = pre.length + A.length + B.length) :
  TP (fun k => slices_symMergeCmpFunc_int_v0.j2 k (pre ++ (A ++ (B ++ post))) (b : Int) (mid : Int) (en : Int) cP cT cB cD cM) (Merged cP cB cD pre (A ++ B) post) := by
 subst h1; subst h2; subst h3
 refine TP.step (fun k => rfl) (TP.dec (fun c1 => TP.dec (fun c2 => ?_) fun c2 => ?_) fun c1 => ?_)
 ·exact TP.bind (ih pre A B post hR hs (by omega) (by omega) sA sB hl) fun v hv => TP.some hv
 ·have : B = [] := List.eq_nil_of_length_eq_zero (by omega)
  subst this
  exact TP.some ⟨A, by simp, sA, by simpa using Same.refl A, by simp⟩
 ·have : A = [] := List.eq_nil_of_length_eq_zero (by omega)
  subst this
  exact TP.some ⟨B, by simp, sB, by simpa using Same.refl B, by simp⟩
theorem sm_j1 {s : Nat} (ih : SmOk cP cT cB cD cM s) (hF : PapsOk cP) (pre A1 B1 A2 B2 post : List Int) (hR : InR cP (pre ++ (A1 ++ (B1 ++ (A2 ++ (B2 ++ post)))))) (hs1 : A1.length + B1.length ≤ s) (hs2 : A2.length + B2.length ≤ s) (sA1 : Sorted (eI cP cB cD) A1) (sB1 : Sorted (eI cP cB cD) B1) (sA2 : Sorted (eI cP cB cD) A2) (sB2 : Sorted (eI cP cB cD) B2) (hl : (pre ++ (A1 ++ (B1 ++ (A2 ++ (B2 ++ post))))).length ≤ 1000)
  (hx : ∀ x ∈ A1 ++ B1, ∀ y ∈ A2 ++ B2, (eI cP cB cD) y x = false) (a e mid en b : Nat) (h0 : a = pre.length) (h1 : e = pre.length + A1.length) (h2 : mid = pre.length + A1.length + B1.length) (h3 : en = mid + A2.length) (h4 : b = mid + A2.length + B2.length) :
  TP (fun k => slices_symMergeCmpFunc_int_v0.j1 k (pre ++ (A1 ++ (B1 ++ (A2 ++ (B2 ++ post))))) (a : Int) (b : Int) (mid : Int) (e : Int) (en : Int) cP cT cB cD cM) (Merged cP cB cD pre (A1 ++ B1 ++ (A2 ++ B2)) post) := by
 have hl' := hl
 simp only [List.length_append] at hl'
 have fin : ∀ M1, Sorted (eI cP cB cD) M1 → Same (eI cP cB cD) (A1 ++ B1) M1 → M1.length = A1.length + B1.length → TP (fun k => slices_symMergeCmpFunc_int_v0.j2 k (pre ++ (M1 ++ (A2 ++ (B2 ++ post)))) (b : Int) (mid : Int) (en : Int) cP cT cB cD cM) (Merged cP cB cD pre (A1 ++ B1 ++ (A2 ++ B2)) post) := by
  intro M1 p1 p2 p3
  have e1 : pre ++ (M1 ++ (A2 ++ (B2 ++ post))) = (pre ++ M1) ++ (A2 ++ (B2 ++ post)) := by simp
  rw [e1]
  refine TP.mono (sm_j2 ih hF (pre ++ M1) A2 B2 post (fun z hz => hR z (by have hM : z ∈ M1 → z ∈ A1 ++ B1 := fun h => p2.mem (ordI cP cB cD) h; grind)) hs2 sA2 sB2 (by simp only [List.length_append]; omega) mid en b (by simp only [List.length_append]; omega) (by simp only [List.length_append]; omega) (by simp only [List.length_append]; omega)) fun v ⟨M2, q1, q2, q3, q4⟩ => ?_
  refine ⟨M1 ++ M2, by rw [q1]; simp, p1.app q2 fun x hx1 y hy1 => hx x (p2.mem (ordI cP cB cD) hx1) y (q3.mem (ordI cP cB cD) hy1), p2.app q3, by simp only [List.length_append] at q4 ⊢; omega⟩
 refine TP.step (fun k => rfl) (TP.dec (fun c1 => TP.dec (fun c2 => ?_) fun c2 => ?_) fun c1 => ?_)
 ·have := ih pre A1 B1 (A2 ++ (B2 ++ post)) hR hs1 (by omega) (by omega) sA1 sB1 hl
  rw [← h0, ← (show e = a + A1.length by omega), ← (show mid = e + B1.length by omega)] at this
  refine TP.bind this fun v ⟨M1, q1, q2, q3, q4⟩ => ?_
  rw [q1]
  exact fin M1 q2 q3 (by simpa using q4)
 ·have : B1 = [] := List.eq_nil_of_length_eq_zero (by omega)
  subst this
  have := fin A1 sA1 (by simpa using Same.refl A1) (by simp)
  simpa using this
 ·have : A1 = [] := List.eq_nil_of_length_eq_zero (by omega)
  subst this
  have := fin B1 sB1 (by simpa using Same.refl B1) (by simp)
  simpa using this
theorem sm_main {s : Nat} (ih : SmOk cP cT cB cD cM s) (hF : PapsOk cP) (pre A B post : List Int) (hR : InR cP (pre ++ (A ++ (B ++ post)))) (hs : A.length + B.length ≤ s + 1) (hA : 2 ≤ A.length) (hB : 2 ≤ B.length) (sA : Sorted (eI cP cB cD) A) (sB : Sorted (eI cP cB cD) B) (hl : (pre ++ (A ++ (B ++ post))).length ≤ 1000) (a m b mid n s0 r0 : Nat)
  (h0 : a = pre.length) (h1 : m = a + A.length) (h2 : b = m + B.length) (h3 : mid = (a + b) / 2) (h4 : n = mid + m) (c1 : s0 ≤ r0) (c2 : a ≤ s0) (c3 : r0 ≤ m) (c4 : r0 ≤ mid) (c5 : s0 = a ∨ s0 + b = n) (c6 : r0 = m ∨ r0 = mid) (c7 : n ≤ s0 + b) :
  TP (fun k => slices_symMergeCmpFunc_int_v0.j0 k (pre ++ (A ++ (B ++ post))) (a : Int) (m : Int) (b : Int) (mid : Int) (n : Int) (s0 : Int) (r0 : Int) cP cT cB cD cM) (Merged cP cB cD pre (A ++ B) post) := by
 have hl' := hl
 simp only [List.length_append] at hl'
 refine TP.step (body := fun k => slices_symMergeCmpFunc_int_v0.l4 k (pre ++ (A ++ (B ++ post))) (a : Int) (m : Int) (b : Int) (mid : Int) (n : Int) (s0 : Int) (r0 : Int) (IntKind.wrap .i64 ((n : Int) - 1)) cP cT cB cD cM) (fun k => rfl) ?_
 rw [show IntKind.wrap .i64 ((n : Int) - 1) = ((n - 1 : Nat) : Int) by rw [wi (by omega) (by omega)]; omega]
 refine sm_l4 (lo := s0) (hi := r0) hF hR hl (by simp only [List.length_append]; omega) (fun c q1 q2 => by simp only [List.length_append]; omega) (by omega) (fun e he1 he2 F1 F2 => ?_) _ _ _ (Nat.le_refl _) (Nat.le_refl _) c1 (Nat.le_refl _) (fun h => by omega) (fun h => by omega)
 obtain ⟨A1, A2, rfl, hA1⟩ := split_at A (n := e - a) (by omega)
 obtain ⟨B1, B2, rfl, hB1⟩ := split_at B (n := n - e - m) (by omega)
 simp only [List.length_append] at h1 h2 hs hA hB hl'
 have gX1 : ∀ u ∈ A1, ∀ v ∈ B2, (eI cP cB cD) v u = false := by
  rcases Nat.eq_or_lt_of_le he1 with h | h
  ·rcases c5 with c5 | c5
   ·have : A1 = [] := List.eq_nil_of_length_eq_zero (by omega)
    intro u hu; rw [this] at hu; cases hu
   ·have : B2 = [] := List.eq_nil_of_length_eq_zero (by omega)
    intro u hu v hv; rw [this] at hv; cases hv
  ·obtain ⟨x, y, q1, q2, q3⟩ := F1 h
   intro u hu
   refine all_ge sB.right fun z B0 hz => ?_
   have e2 : pre ++ (A1 ++ A2 ++ (B1 ++ B2 ++ post)) = (pre ++ (A1 ++ (A2 ++ B1))) ++ z :: (B0 ++ post) := by rw [hz]; simp
   rw [e2, get_mid (by simp only [List.length_append]; omega)] at q2
   injection q2 with q2
   rw [← q2] at q3
   refine all_le sA.left (fun A0 w hw => ?_) u hu
   have e1 : pre ++ (A1 ++ A2 ++ (B1 ++ B2 ++ post)) = (pre ++ A0) ++ w :: (A2 ++ (B1 ++ B2 ++ post)) := by rw [hw]; simp
   rw [e1, get_mid (by rw [hw] at hA1; simp only [List.length_append, List.length_singleton] at hA1 ⊢; omega)] at q1
   injection q1 with q1; rw [q1]; exact q3
 have gX2 : ∀ u ∈ A2, ∀ v ∈ B1, (eI cP cB cD) v u = true := by
  rcases Nat.eq_or_lt_of_le he2 with h | h
  ·rcases c6 with c6 | c6
   ·have : A2 = [] := List.eq_nil_of_length_eq_zero (by omega)
    intro u hu; rw [this] at hu; cases hu
   ·have : B1 = [] := List.eq_nil_of_length_eq_zero (by omega)
    intro u hu v hv; rw [this] at hv; cases hv
  ·obtain ⟨x, y, q1, q2, q3⟩ := F2 h
   intro u hu
   refine all_lt sB.left fun B0 z hz => ?_
   have e2 : pre ++ (A1 ++ A2 ++ (B1 ++ B2 ++ post)) = (pre ++ (A1 ++ (A2 ++ B0))) ++ z :: (B2 ++ post) := by rw [hz]; simp
   rw [e2, get_mid (by rw [hz] at hB1 h2; simp only [List.length_append, List.length_singleton] at hB1 h2 ⊢; omega)] at q2
   injection q2 with q2
   rw [← q2] at q3
   refine all_gt sA.right (fun w A0 hw => ?_) u hu
   have e1 : pre ++ (A1 ++ A2 ++ (B1 ++ B2 ++ post)) = (pre ++ A1) ++ w :: (A0 ++ (B1 ++ B2 ++ post)) := by rw [hw]; simp
   rw [e1, get_mid (by simp only [List.length_append]; omega)] at q1
   injection q1 with q1; rw [q1]; exact q3
 have hx : ∀ x ∈ A1 ++ B1, ∀ y ∈ A2 ++ B2, (eI cP cB cD) y x = false := fun x hx y hy => by
  rcases List.mem_append.1 hx with hx | hx <;> rcases List.mem_append.1 hy with hy | hy
  ·exact sA.cross x hx y hy
  ·exact gX1 x hx y hy
  ·exact (ordI cP cB cD).anti _ _ (gX2 y hy x hx)
  ·exact sB.cross x hx y hy
 have hsame : Same (eI cP cB cD) (A1 ++ A2 ++ (B1 ++ B2)) (A1 ++ B1 ++ (A2 ++ B2)) := by
  have := ((Same.refl A1).app (Same.swap (ordI cP cB cD) (a := A2) (b := B1) gX2)).app (Same.refl B2)
  simpa using this
 have hen : IntKind.wrap .i64 ((n : Int) - (e : Int)) = ((n - e : Nat) : Int) := wsubN (by omega) (by omega)
 have fin : TP (fun k => slices_symMergeCmpFunc_int_v0.j1 k (pre ++ (A1 ++ (B1 ++ (A2 ++ (B2 ++ post))))) (a : Int) (b : Int) (mid : Int) (e : Int) ((n - e : Nat) : Int) cP cT cB cD cM) (Merged cP cB cD pre (A1 ++ A2 ++ (B1 ++ B2)) post) := by
  refine TP.mono (sm_j1 ih hF pre A1 B1 A2 B2 post (fun z hz => hR z (by grind)) (by omega) (by omega) sA.left sB.left sA.right sB.right (by simp only [List.length_append]; omega) hx a e mid (n - e) b h0 (by omega) (by omega) (by omega) (by omega)) fun v ⟨M, q1, q2, q3, q4⟩ => ⟨M, q1, q2, hsame.trans q3, by simp only [List.length_append] at q4 ⊢; omega⟩
 refine TP.step (body := fun k => bif decide ((e : Int) < (e : Int)) then _ else bif decide ((e : Int) < (m : Int)) then bif decide ((m : Int) < IntKind.wrap .i64 ((n : Int) - (e : Int))) then _ else _ else _) (fun k => rfl) (TP.no (decide_eq_false (by omega)) ?_)
 rw [hen]
 refine TP.dec (fun d1 => TP.dec (fun d2 => ?_) fun d2 => ?_) fun d1 => ?_
 ·have e1 : pre ++ (A1 ++ A2 ++ (B1 ++ B2 ++ post)) = (pre ++ A1) ++ (A2 ++ (B1 ++ (B2 ++ post))) := by simp
  rw [e1]
  refine TP.bind (rot_ok (pre := pre ++ A1) (X := A2) (Y := B1) (post := B2 ++ post) (by omega) (by omega) (by simp only [List.length_append]; omega) _ _ _ (by simp only [List.length_append]; omega) (by simp only [List.length_append]; omega) (by simp only [List.length_append]; omega)) fun v hv => ?_
  rw [hv]
  have e2 : (pre ++ A1) ++ (B1 ++ (A2 ++ (B2 ++ post))) = pre ++ (A1 ++ (B1 ++ (A2 ++ (B2 ++ post)))) := by simp
  rw [e2]; exact fin
 ·have : B1 = [] := List.eq_nil_of_length_eq_zero (by omega)
  subst this
  have e2 : pre ++ (A1 ++ A2 ++ ([] ++ B2 ++ post)) = pre ++ (A1 ++ ([] ++ (A2 ++ (B2 ++ post)))) := by simp
  rw [e2]; exact fin
 ·have : A2 = [] := List.eq_nil_of_length_eq_zero (by omega)
  subst this
  have e2 : pre ++ (A1 ++ [] ++ (B1 ++ B2 ++ post)) = pre ++ (A1 ++ (B1 ++ ([] ++ (B2 ++ post)))) := by simp
  rw [e2]; exact fin
theorem sm_ok (hF : PapsOk cP) : ∀ (s : Nat) (pre A B post : List Int), InR cP (pre ++ (A ++ (B ++ post))) → A.length + B.length ≤ s → 1 ≤ A.length → 1 ≤ B.length → Sorted (eI cP cB cD) A → Sorted (eI cP cB cD) B → (pre ++ (A ++ (B ++ post))).length ≤ 1000 →
  TP (fun k => slices_symMergeCmpFunc_int_v0.f k (pre ++ (A ++ (B ++ post))) (pre.length : Nat) (pre.length + A.length : Nat) (pre.length + A.length + B.length : Nat) cP cT cB cD cM) (Merged cP cB cD pre (A ++ B) post)
 | 0, pre, A, B, post, hR, hs, hA, hB, sA, sB, hl => by omega
 | s + 1, pre, A, B, post, hR, hs, hA, hB, sA, sB, hl => by
  have hl' := hl
  simp only [List.length_append] at hl'
  refine TP.step (body := fun k => bif (IntKind.wrap .i64 (((pre.length + A.length : Nat) : Int) - ((pre.length : Nat) : Int)) : Int) == 1 then _ else bif (IntKind.wrap .i64 (((pre.length + A.length + B.length : Nat) : Int) - ((pre.length + A.length : Nat) : Int)) : Int) == 1 then _ else _) (fun k => rfl) ?_
  rw [wsubN (by omega) (by omega), wsubN (by omega) (by omega)]
  refine TP.eqI (fun h1 => ?_) fun h1 => TP.eqI (fun h2 => ?_) fun h2 => ?_
  ·-- one on the left
   obtain ⟨x, rfl⟩ := List.length_eq_one_iff.1 (by omega : A.length = 1)
   simp only [List.length_singleton] at *
   have hx : (pre ++ ([x] ++ (B ++ post)))[pre.length]? = some x := by
    have e1 : pre ++ ([x] ++ (B ++ post)) = pre ++ x :: (B ++ post) := by simp
    rw [e1]; exact get_mid rfl
   refine sm_l0 (lo := pre.length + 1) (hi := pre.length + 1 + B.length) (x := x) hF hR hx (by simp only [List.length_append, List.length_singleton]; omega) (by simp only [List.length_append, List.length_singleton]; omega) (fun e he1 he2 F1 F2 => ?_) _ _ _ (Nat.le_refl _) (Nat.le_refl _) (by omega) (Nat.le_refl _) (fun h => by omega) (fun h => by omega)
   obtain ⟨B1, B2, rfl, hB1⟩ := split_at B (n := e - (pre.length + 1)) (by omega)
   simp only [List.length_append] at *
   have g1 : ∀ y ∈ B1, (eI cP cB cD) y x = true := all_lt sB.left fun B0 z hz => by
    obtain ⟨y, q1, q2⟩ := F1 (by rw [hz] at hB1; simp at hB1; omega)
    have e1 : pre ++ ([x] ++ (B1 ++ B2 ++ post)) = (pre ++ ([x] ++ B0)) ++ z :: (B2 ++ post) := by rw [hz]; simp
    rw [e1, get_mid (by rw [hz] at hB1; simp at hB1 ⊢; omega)] at q1
    injection q1 with q1; rw [q1]; exact q2
   have g2 : ∀ y ∈ B2, (eI cP cB cD) y x = false := all_ge sB.right fun z B0 hz => by
    obtain ⟨y, q1, q2⟩ := F2 (by rw [hz] at he2; simp at he2 ⊢; rw [hz]; simp; omega)
    have e1 : pre ++ ([x] ++ (B1 ++ B2 ++ post)) = (pre ++ ([x] ++ B1)) ++ z :: (B0 ++ post) := by rw [hz]; simp
    rw [e1, get_mid (by simp; omega)] at q1
    injection q1 with q1; rw [q1]; exact q2
   have e1 : pre ++ ([x] ++ (B1 ++ B2 ++ post)) = pre ++ x :: (B1 ++ (B2 ++ post)) := by simp
   rw [e1]
   refine TP.mono (sm_l2 B1 pre (e : Int) (pre.length : Nat) rfl (by omega) (by rw [← e1]; simp only [List.length_append, List.length_singleton]; omega)) fun v hv => ⟨B1 ++ x :: B2, by rw [hv]; simp, ?_, ?_, by simp only [List.length_append, List.length_cons, List.length_nil]; omega⟩
   ·exact sB.left.app (List.pairwise_cons.2 ⟨g2, sB.right⟩) fun y hy z hz => by
     rcases List.mem_cons.1 hz with e | hz
     ·rw [e]; exact (ordI cP cB cD).anti _ _ (g1 y hy)
     ·exact sB.cross y hy z hz
   ·have := (Same.swap (ordI cP cB cD) (a := [x]) (b := B1) (fun y hy z hz => by rw [List.mem_singleton.1 hy]; exact g1 z hz)).app (Same.refl B2)
    simpa using this
  ·-- one on the right
   obtain ⟨x, rfl⟩ := List.length_eq_one_iff.1 (by omega : B.length = 1)
   simp only [List.length_singleton] at *
   have hx : (pre ++ (A ++ ([x] ++ post)))[pre.length + A.length]? = some x := by
    have e1 : pre ++ (A ++ ([x] ++ post)) = (pre ++ A) ++ x :: post := by simp
    rw [e1]; exact get_mid (by simp)
   refine sm_l1 (lo := pre.length) (hi := pre.length + A.length) (x := x) hF hR hx (by simp only [List.length_append, List.length_singleton]; omega) (by simp only [List.length_append, List.length_singleton]; omega) (fun e he1 he2 F1 F2 => ?_) _ _ _ (Nat.le_refl _) (Nat.le_refl _) (by omega) (Nat.le_refl _) (fun h => by omega) (fun h => by omega)
   obtain ⟨A1, A2, rfl, hA1⟩ := split_at A (n := e - pre.length) (by omega)
   simp only [List.length_append] at *
   have g1 : ∀ y ∈ A1, (eI cP cB cD) x y = false := all_le sA.left fun A0 z hz => by
    obtain ⟨y, q1, q2⟩ := F1 (by rw [hz] at hA1; simp at hA1; omega)
    have e1 : pre ++ (A1 ++ A2 ++ ([x] ++ post)) = (pre ++ A0) ++ z :: (A2 ++ ([x] ++ post)) := by rw [hz]; simp
    rw [e1, get_mid (by rw [hz] at hA1; simp at hA1 ⊢; omega)] at q1
    injection q1 with q1; rw [q1]; exact q2
   have g2 : ∀ y ∈ A2, (eI cP cB cD) x y = true := all_gt sA.right fun z A0 hz => by
    obtain ⟨y, q1, q2⟩ := F2 (by rw [hz] at he2; simp at he2 ⊢; rw [hz]; simp; omega)
    have e1 : pre ++ (A1 ++ A2 ++ ([x] ++ post)) = (pre ++ A1) ++ z :: (A0 ++ ([x] ++ post)) := by rw [hz]; simp
    rw [e1, get_mid (by simp; omega)] at q1
    injection q1 with q1; rw [q1]; exact q2
   obtain ⟨p1, p2⟩ := Sorted.ins (ordI cP cB cD) sA g2 g1
   have e1 : pre ++ (A1 ++ A2 ++ ([x] ++ post)) = (pre ++ A1) ++ (A2 ++ x :: post) := by simp
   rw [e1]
   refine TP.mono (sm_l3 (P := pre ++ A1) A2.length A2 post (e : Int) _ rfl (by simp; omega) (by simp; omega) (by rw [← e1]; simp only [List.length_append, List.length_singleton]; omega)) fun v hv => ⟨A1 ++ x :: A2, by rw [hv]; simp, p1, p2, by simp only [List.length_append, List.length_cons, List.length_nil]; omega⟩
  ·-- both longer
   have ih : SmOk cP cT cB cD cM s := fun pre A B post => sm_ok hF s pre A B post
   refine TP.ck rfl ?_
   rw [half_ok pre.length (pre.length + A.length + B.length) (by omega)]
   generalize hmid : (pre.length + (pre.length + A.length + B.length)) / 2 = mid
   rw [waddN (a := mid) (b := pre.length + A.length) (by omega)]
   refine TP.dec (fun hgt => ?_) fun hgt => ?_
   ·rw [wsubN (by omega) (by omega)]
    exact sm_main ih hF pre A B post hR hs (by omega) (by omega) sA sB hl _ _ _ mid _ _ _ rfl rfl rfl hmid.symm rfl (by omega) (by omega) (by omega) (by omega) (.inr (by omega)) (.inr rfl) (by omega)
   ·exact sm_main ih hF pre A B post hR hs (by omega) (by omega) sA sB hl _ _ _ mid _ _ _ rfl rfl rfl hmid.symm rfl (by omega) (by omega) (by omega) (by omega) (.inl rfl) (.inl rfl) (by omega)
/-! ## All -/
theorem stable_ok (hF : PapsOk cP) (l : List Int) (hR : InR cP l) (hl : l.length < 40) : TP (fun k => slices_stableCmpFunc_int_v0.f k l (l.length : Int) cP cT cB cD cM) (fun v => v.1.1 = srtV (eI cP cB cD) l) := by
 have fin : ∀ (S : List Int), Sorted (eI cP cB cD) S → Same (eI cP cB cD) l S → S = srtV (eI cP cB cD) l := fun S h1 h2 => srtV_of (ordI cP cB cD) h1 h2
 refine TP.step (body := fun k => slices_stableCmpFunc_int_v0.l0 k l (l.length : Int) 20 0 20 cP cT cB cD cM) (fun k => rfl) (TP.step (fun k => rfl) (TP.dec (fun h => ?_) fun h => ?_))
 ·obtain ⟨X, Y, rfl, hX⟩ := split_at l (n := 20) (by omega)
  simp only [List.length_append] at hl h
  have i1 := ins_ok (cT := cT) (cB := cB) (cD := cD) (cM := cM) (pre := []) (post := Y) hF X hR (by simp; omega)
  simp only [List.nil_append, List.length_nil, Nat.zero_add, hX] at i1
  refine TP.bind i1 fun v ⟨X', p1, p2, p3, p4⟩ => ?_
  rw [p1]
  refine TP.step (fun k => rfl) (TP.dec (fun h2 => absurd h2 (by simp; rw [wi (by omega) (by omega)]; omega)) fun h2 => ?_)
  have hR' : InR cP (X' ++ (Y ++ [])) := fun z hz => hR z (by have hX : z ∈ X' → z ∈ X := fun h => p3.mem (ordI cP cB cD) h; grind)
  have i2 := ins_ok (cT := cT) (cB := cB) (cD := cD) (cM := cM) (pre := X') (post := []) hF Y hR' (by simp; omega)
  rw [List.append_nil, p4] at i2
  have e : (((X ++ Y).length : Nat) : Int) = ((20 + Y.length : Nat) : Int) := by simp [hX]
  rw [e]
  refine TP.bind i2 fun v ⟨Y', q1, q2, q3, q4⟩ => ?_
  rw [q1, List.append_nil]
  refine TP.step (fun k => rfl) (TP.dec (fun h3 => ?_) fun h3 => ?_)
  ·refine TP.step (fun k => rfl) (TP.dec (fun h4 => absurd h4 (by rw [wi (by omega) (by omega)]; omega)) fun h4 => ?_)
   refine TP.dec (fun h5 => ?_) fun h5 => absurd h3 (by rw [wi (by omega) (by omega)] at h5; omega)
   have := sm_ok (cT := cT) (cB := cB) (cD := cD) (cM := cM) hF (X'.length + Y'.length) [] X' Y' [] (fun z hz => hR' z (by have hY : z ∈ Y' → z ∈ Y := fun h => q3.mem (ordI cP cB cD) h; grind)) (Nat.le_refl _) (by omega) (by omega) p2 q2 (by simp; omega)
   simp only [List.nil_append, List.append_nil, List.length_nil, Nat.zero_add, p4, hX, q4] at this
   rw [show IntKind.wrap .i64 ((0 : Int) + 20) = ((20 : Nat) : Int) from rfl]
   refine TP.bind this fun v ⟨M, r1, r2, r3, r4⟩ => ?_
   rw [r1]
   refine TP.step (fun k => rfl) (TP.dec (fun h6 => absurd h6 (by rw [wi (by omega) (by omega)]; omega)) fun h6 => TP.some ?_)
   simp only [List.nil_append, List.append_nil]
   exact fin M r2 ((p3.app q3).trans r3)
  ·refine TP.some ?_
   have : Y = [] := List.eq_nil_of_length_eq_zero (by omega)
   subst this
   have : Y' = [] := List.eq_nil_of_length_eq_zero (by simpa using q4)
   subst this
   simp only [List.append_nil] at fin ⊢
   exact fin X' p2 p3
 ·have i1 := ins_ok (cT := cT) (cB := cB) (cD := cD) (cM := cM) (pre := []) (post := []) hF l (by simpa using hR) (by simp; omega)
  simp only [List.nil_append, List.length_nil, Nat.zero_add, List.append_nil] at i1
  refine TP.bind i1 fun v ⟨X', p1, p2, p3, p4⟩ => ?_
  rw [p1]
  exact TP.step (fun k => rfl) (TP.dec (fun h3 => by omega) fun h3 => TP.some (fin X' p2 p3))
theorem sort_ok (hF : PapsOk cP) (l : List Int) (hR : InR cP l) (hl : l.length < 40) : TP (fun k => slices_SortStableFunc__int_int_v0.f k l cP cT cB cD cM) (fun v => v.1.1 = srtV (eI cP cB cD) l) :=
 TP.step (body := fun k => (slices_stableCmpFunc_int_v0.f k l (l.length : Int) cP cT cB cD cM).bind fun r => some ((r.1.1, ()), ())) (fun k => rfl) (TP.bind (stable_ok hF l hR hl) fun v hv => TP.some hv)
end Go.Proofs.Ytpidgdelfaidoaa.Pure
