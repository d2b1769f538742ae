/- Plain laws of chapter 21: rebuilt trees of one root have one leaf at a place that both show; texts that are laid are one-to-one. -/
import Derived.Test.YtioagphpiflplaaP21c
import Derived.Test.YtioagphpiflplaaOWrite
namespace Go.Proofs.Ytioagphpiflplaa.Pure
open Go Go.Proofs.Ytioagphpiflplaa.E Go.Proofs.Ytioagphpiflplaa.Eng
set_option linter.unusedVariables false
set_option linter.unusedSimpArgs false

/-- How many places lie from one on to ahead of another one. -/
def cntP (pick : List Int) (a b : Int) : Nat := (pick.filter fun y => decide (a ≤ y) && decide (y < b)).length
theorem cnt_split {pick : List Int} (hr : Rising pick) {a b c : Int} (hab : a ≤ b) (hbc : b ≤ c) : cntP pick a c = cntP pick a b + cntP pick b c := by
  unfold cntP; rw [filter_split hr hab hbc, List.length_append]
theorem cnt_self (pick : List Int) (a : Int) : cntP pick a a = 0 := by
  unfold cntP
  rw [List.filter_eq_nil_iff.2 (fun x _ => by simp only [Bool.and_eq_true, decide_eq_true_eq]; omega)]; rfl
theorem cnt_at : ∀ (pick : List Int), Rising pick → (∀ x ∈ pick, 0 ≤ x) → ∀ (j : Nat) (h : j < pick.length), cntP pick 0 pick[j] = j
  | [], _, _, j, h => absurd h (Nat.not_lt_zero _)
  | z :: r, hr, h0, j, h => by
    have hx := List.pairwise_cons.1 hr
    cases j with
    | zero =>
      unfold cntP
      rw [List.filter_eq_nil_iff.2 (fun x hx' => ?_)]
      · rfl
      · rcases List.mem_cons.1 hx' with rfl | hx'
        · simp
        · have := hx.1 x hx'
          simp only [List.getElem_cons_zero, Bool.and_eq_true, decide_eq_true_eq]; omega
    | succ j =>
      have hj : j < r.length := by simpa using h
      have hz := hx.1 _ (List.getElem_mem hj)
      have ih := cnt_at r hx.2 (fun x hx => h0 x (List.mem_cons_of_mem _ hx)) j hj
      unfold cntP at ih ⊢
      have h0' := h0 z (List.mem_cons_self ..)
      rw [List.getElem_cons_succ, List.filter_cons_of_pos (by simp only [Bool.and_eq_true, decide_eq_true_eq]; omega), List.length_cons, ih]
theorem picked_mem {pick : List Int} {a b i : Int} (hi : i ∈ pick) (h1 : a ≤ i) (h2 : i < b) : pickedB pick a b = true := List.any_eq_true.2 ⟨i, hi, by simp only [Bool.and_eq_true, decide_eq_true_eq]; omega⟩
section
variable {T : Tab}
theorem walk_use (pick : List Int) (hr : Rising pick) : ∀ (m a n : Nat) (leaf nodes : List ByteArray) (s : ByteArray) (A X : List ByteArray), n ≤ m → 1 ≤ n → walkV T pick a n leaf nodes false = (s, A, X, false) → ∃ c, leaf = c ++ A ∧ c.length = cntP pick a (a + n : Nat)
  | m, a, n, leaf, nodes, s, A, X, hm, h1, h => by
    cases hp : pickedB pick a (a + n : Nat) with
    | false =>
      obtain ⟨_, rfl⟩ := walk_out_inv hp h
      exact ⟨[], rfl, by unfold cntP; rw [filter_none hp]; rfl⟩
    | true =>
      by_cases h2 : n < 2
      · obtain ⟨rfl, _⟩ := walk_one_inv hp h2 h
        have : n = 1 := by omega
        subst this
        exact ⟨[s], rfl, by unfold cntP; rw [filter_one hr hp]; rfl⟩
      have h2 : 2 ≤ n := by omega
      have hlt := below_lt h2
      have hpos := below_pos n
      cases m with
      | zero => omega
      | succ m =>
        obtain ⟨u, B, Y, w, h3, h4, _⟩ := walk_inv hp h2 h
        obtain ⟨c1, q1, q2⟩ := walk_use pick hr m _ _ _ _ _ _ _ (by omega) hpos h3
        obtain ⟨c2, p1, p2⟩ := walk_use pick hr m _ _ _ _ _ _ _ (by omega) (by omega) h4
        refine ⟨c1 ++ c2, by rw [q1, p1, List.append_assoc], ?_⟩
        rw [List.length_append, q2, p2, cnt_split hr (a := (a : Int)) (b := ((a + belowN n : Nat) : Int)) (c := ((a + n : Nat) : Int)) (by omega) (by omega), show a + belowN n + (n - belowN n) = a + n by omega]
theorem walk_at (hT : Tok T) {W : List ByteArray} (hW : Apart T W) (P Q : List Int) (hP : Rising P) (hQ : Rising Q) (i : Nat) (iP : (i : Int) ∈ P) (iQ : (i : Int) ∈ Q) : ∀ (m a n : Nat) (lA nA lB nB : List ByteArray) (s : ByteArray) (A X B Y : List ByteArray), n ≤ m → 1 ≤ n → a ≤ i → i < a + n → S32 lA → S32 nA → S32 lB → S32 nB →
    walkV T P a n lA nA false = (s, A, X, false) → walkV T Q a n lB nB false = (s, B, Y, false) → (∀ t ∈ walkW T P a n lA nA, t ∈ W) → (∀ t ∈ walkW T Q a n lB nB, t ∈ W) →
    ∃ x, lA[cntP P a i]? = some x ∧ lB[cntP Q a i]? = some x
  | m, a, n, lA, nA, lB, nB, s, A, X, B, Y, hm, h1, h3, h4, sA, tA, sB, tB, hA, hB, wA, wB => by
    have pP : pickedB P a (a + n : Nat) = true := picked_mem iP (by omega) (by omega)
    have pQ : pickedB Q a (a + n : Nat) = true := picked_mem iQ (by omega) (by omega)
    by_cases h2 : n < 2
    · have : i = a := by omega
      subst this
      obtain ⟨rfl, _⟩ := walk_one_inv pP h2 hA
      obtain ⟨rfl, _⟩ := walk_one_inv pQ h2 hB
      exact ⟨s, by rw [cnt_self]; rfl, by rw [cnt_self]; rfl⟩
    have h2 : 2 ≤ n := by omega
    have hlt := below_lt h2
    have hpos := below_pos n
    cases m with
    | zero => omega
    | succ m =>
      obtain ⟨u, A1, X1, w, a1, a2, a3⟩ := walk_inv pP h2 hA
      obtain ⟨u', B1, Y1, w', b1, b2, b3⟩ := walk_inv pQ h2 hB
      rw [walkW_two pP h2 a1 a2] at wA
      rw [walkW_two pQ h2 b1 b2] at wB
      obtain ⟨z1, z2, z3⟩ := walk_good hT P _ _ _ _ _ _ _ _ (Nat.le_refl _) sA tA a1
      obtain ⟨y1, y2, y3⟩ := walk_good hT Q _ _ _ _ _ _ _ _ (Nat.le_refl _) sB tB b1
      obtain ⟨e1, e2⟩ := hW.node (wA _ (List.mem_cons_self ..)) (wB _ (List.mem_cons_self ..)) (by rw [z1, y1]) (a3.symm.trans b3)
      subst e1; subst e2
      by_cases hc : i < a + belowN n
      · exact walk_at hT hW P Q hP hQ i iP iQ m a (belowN n) lA nA lB nB u A1 X1 B1 Y1 (by omega) hpos h3 hc sA tA sB tB a1 b1 (fun t h => wA t (List.mem_cons_of_mem _ (List.mem_append_right _ h))) (fun t h => wB t (List.mem_cons_of_mem _ (List.mem_append_right _ h)))
      · obtain ⟨x, g1, g2⟩ := walk_at hT hW P Q hP hQ i iP iQ m (a + belowN n) (n - belowN n) A1 X1 B1 Y1 w A X B Y (by omega) (by omega) (by omega) (by omega) z2 z3 y2 y3 a2 b2 (fun t h => wA t (List.mem_cons_of_mem _ (List.mem_append_left _ h))) (fun t h => wB t (List.mem_cons_of_mem _ (List.mem_append_left _ h)))
        obtain ⟨c, c1, c2⟩ := walk_use P hP _ _ _ _ _ _ _ _ (Nat.le_refl _) hpos a1
        obtain ⟨d, d1, d2⟩ := walk_use Q hQ _ _ _ _ _ _ _ _ (Nat.le_refl _) hpos b1
        refine ⟨x, ?_, ?_⟩
        · rw [cnt_split hP (a := (a : Int)) (b := ((a + belowN n : Nat) : Int)) (c := (i : Int)) (by omega) (by omega), ← c2, c1, List.getElem?_append_right (by omega), Nat.add_sub_cancel_left]
          exact g1
        · rw [cnt_split hQ (a := (a : Int)) (b := ((a + belowN n : Nat) : Int)) (c := (i : Int)) (by omega) (by omega), ← d2, d1, List.getElem?_append_right (by omega), Nat.add_sub_cancel_left]
          exact g2
end
theorem numB_list (n : Nat) : (numB n).data.toList = UInt8.ofNat (digs n).length :: digs n := by unfold numB ofL; simp
theorem bytes_ext {a b : ByteArray} (h : a.data.toList = b.data.toList) : a = b := by cases a; cases b; congr 1; exact Array.toList_inj.1 h
theorem numB_inj {n m : Nat} (hn : n < 72057594037927936) (hm : m < 72057594037927936) {x y : ByteArray} (h : numB n ++ x = numB m ++ y) : n = m ∧ x = y := by
  have h1 : (numB n ++ x).data.toList = (numB m ++ y).data.toList := by rw [h]
  rw [ByteArray.data_append, ByteArray.data_append, Array.toList_append, Array.toList_append, numB_list, numB_list] at h1
  simp only [List.cons_append, List.cons.injEq] at h1
  obtain ⟨h2, h3⟩ := h1
  have l1 := digs_len 7 n (by omega)
  have l2 := digs_len 7 m (by omega)
  have h4 : (digs n).length = (digs m).length := by
    have := congrArg UInt8.toNat h2
    simp at this
    omega
  obtain ⟨h5, h6⟩ := List.append_inj h3 h4
  have : (n : Int) = (m : Int) := by rw [← accum_digs n, ← accum_digs m, h5]
  exact ⟨by omega, bytes_ext h6⟩
theorem textO_inj {a b x y : ByteArray} (ha : a.size ≤ 1000000) (hb : b.size ≤ 1000000) (h : textO a ++ x = textO b ++ y) : a = b ∧ x = y := by
  unfold textO at h
  rw [bapp_assoc, bapp_assoc] at h
  obtain ⟨h1, h2⟩ := numB_inj (by omega) (by omega) h
  exact app_inj h2 h1
theorem textO_inj' {a b : ByteArray} (ha : a.size ≤ 1000000) (hb : b.size ≤ 1000000) (h : textO a = textO b) : a = b := (textO_inj (x := ⟨#[]⟩) (y := ⟨#[]⟩) ha hb (by rw [h])).1
theorem numO_eq {n : Int} (h0 : 0 ≤ n) (h1 : n < 72057594037927936) : numO n = numB n.toNat := by unfold numO; rw [if_neg (by omega)]
theorem numO_inj {n m : Int} (h0 : 0 ≤ n) (h1 : n < 72057594037927936) (g0 : 0 ≤ m) (g1 : m < 72057594037927936) {x y : ByteArray} (h : numO n ++ x = numO m ++ y) : n = m ∧ x = y := by
  rw [numO_eq h0 h1, numO_eq g0 g1] at h
  obtain ⟨h2, h3⟩ := numB_inj (by omega) (by omega) h
  exact ⟨by omega, h3⟩
theorem numO_ne {n : Int} (h0 : 0 ≤ n) (h1 : n < 72057594037927936) : numO n ≠ ⟨#[]⟩ := by rw [numO_eq h0 h1]; exact numB_ne
def NumR (n : Int) : Prop := 0 ≤ n ∧ n < 72057594037927936
theorem paperT_inj {i i' : ByteArray} {c c' b b' k k' : Int} {r r' : ByteArray} (hi : i.size ≤ 1000000) (hi' : i'.size ≤ 1000000) (hc : NumR c) (hc' : NumR c') (hb : NumR b) (hb' : NumR b') (hk : NumR k) (hk' : NumR k') (hr : r.size ≤ 1000000) (hr' : r'.size ≤ 1000000)
    (h : paperT i c b k r = paperT i' c' b' k' r') : i = i' ∧ k = k' ∧ r = r' := by
  unfold paperT at h
  simp only [bapp_assoc] at h
  obtain ⟨h1, h⟩ := textO_inj hi hi' h
  obtain ⟨_, h⟩ := numO_inj hc.1 hc.2 hc'.1 hc'.2 h
  obtain ⟨_, h⟩ := numO_inj hb.1 hb.2 hb'.1 hb'.2 h
  obtain ⟨h2, h⟩ := numO_inj hk.1 hk.2 hk'.1 hk'.2 h
  exact ⟨h1, h2, textO_inj' hr hr' h⟩
theorem fieldT_inj {i i' a a' b b' c c' : ByteArray} (hi : i.size ≤ 1000000) (hi' : i'.size ≤ 1000000) (ha : a.size ≤ 1000000) (ha' : a'.size ≤ 1000000) (hb : b.size ≤ 1000000) (hb' : b'.size ≤ 1000000) (hc : c.size ≤ 1000000) (hc' : c'.size ≤ 1000000)
    (h : fieldT i a b c = fieldT i' a' b' c') : i = i' ∧ a = a' ∧ c = c' := by
  unfold fieldT at h
  simp only [bapp_assoc] at h
  obtain ⟨_, h⟩ := app_inj h rfl
  obtain ⟨h1, h⟩ := textO_inj hi hi' h
  obtain ⟨h2, h⟩ := textO_inj ha ha' h
  obtain ⟨_, h⟩ := textO_inj hb hb' h
  exact ⟨h1, h2, textO_inj' hc hc' h⟩
theorem leafT_inj {a b : ByteArray} (h : leafT a = leafT b) : a = b := (app_inj h rfl).2
theorem sleafT_inj {a a' b b' : ByteArray} (ha : a.size ≤ 1000000) (ha' : a'.size ≤ 1000000) (hb : b.size ≤ 1000000) (hb' : b'.size ≤ 1000000) (h : leafT (textO a ++ textO b) = leafT (textO a' ++ textO b')) : a = a' ∧ b = b' := by
  obtain ⟨h1, h2⟩ := textO_inj ha ha' (leafT_inj h)
  exact ⟨h1, textO_inj' hb hb' h2⟩
end Go.Proofs.Ytioagphpiflplaa.Pure
