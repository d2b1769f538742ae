/- The document's side: what it says of a proof that may be. -/
import Derived.Test.YtfegehfdbcnepaaPH19
import Derived.Test.YtfegehfdbcnepaaPH19b
import Derived.Test.YtfegehfdbcnepaaQShow
namespace Go.Proofs.Ytfegehfdbcnepaa.Q
open Go.RowKit Go.Proofs.Ytfegehfdbcnepaa.PAll Go.Proofs.YtfegehfdbcnepaaW.PrintWords Go.Proofs.YtfegehfdbcnepaaW.PrintLast
set_option linter.unusedVariables false
set_option linter.unusedSimpArgs false
theorem lsums_loop (l : List ByteArray) (most : Int) (hl : l.length ≤ 1152921504606846976) : ∀ (m k i : Nat), l.length - i = m → m < k → i ≤ l.length →
    chartularylaw19_sums.l0 k l most (i : Int) = some ((l.drop i).all (fun a => decide (a.size = 32)) && decide ((l.length : Int) ≤ most)) := by
  intro m
  induction m with
  | zero =>
    intro k i hm hk hi
    obtain ⟨k, rfl⟩ : ∃ q, k = q + 1 := ⟨k - 1, by omega⟩
    rw [chartularylaw19_sums.l0, if_neg (by omega), List.drop_of_length_le (by omega)]
    rfl
  | succ m ih =>
    intro k i hm hk hi
    obtain ⟨k, rfl⟩ : ∃ q, k = q + 1 := ⟨k - 1, by omega⟩
    have hlt : i < l.length := by omega
    rw [chartularylaw19_sums.l0, if_pos (by omega), if_pos (by omega), rd_getElem l i hlt, List.drop_eq_getElem_cons hlt]
    by_cases h : l[i].size = 32
    · rw [if_pos (by omega), wrap64_id (by omega) (by omega), show ((i : Int) + 1) = ((i + 1 : Nat) : Int) from by omega, ih k (i + 1) (by omega) (by omega) (by omega), List.all_cons, decide_eq_true h, Bool.true_and]
    · rw [if_neg (by omega), List.all_cons, decide_eq_false h, Bool.false_and, Bool.false_and]
theorem lsums_ok (k : Nat) (l : List ByteArray) (most : Int) (hk : l.length < k) (hl : l.length ≤ 1152921504606846976) : chartularylaw19_sums.f k l most = some (sumsB l most) := by
  have h := lsums_loop l most hl l.length k 0 (by omega) hk (by omega)
  unfold chartularylaw19_sums.f sumsB
  rw [show (0 : Int) = ((0 : Nat) : Int) from rfl, h, List.drop_zero]
theorem sumsB_len {l : List ByteArray} {most : Int} (h : sumsB l most = true) : (∀ a ∈ l, a.size = 32) ∧ (l.length : Int) ≤ most := by
  unfold sumsB at h
  simp only [Bool.and_eq_true, decide_eq_true_eq, List.all_eq_true] at h
  exact h
/-- What a field that may stand in a proof has. -/
theorem itemB_iff {t : It} {cnt : Int} (h : itemB t cnt = true) : 0 ≤ t.f0 ∧ t.f0 < cnt ∧ wordB t.f1 16 = true ∧
    ((t.f2 = true ∧ t.f5.size = 32 ∧ L t.f3 = [] ∧ L t.f4 = []) ∨ (t.f2 = false ∧ L t.f5 = [] ∧ t.f3.size = 16 ∧ t.f4.size ≤ 208)) := by
  unfold itemB at h
  simp only [Bool.and_eq_true, decide_eq_true_eq] at h
  obtain ⟨h0, h1, h2, h3⟩ := h
  refine ⟨by omega, by omega, h2, ?_⟩
  cases hf : t.f2 with
  | true =>
    rw [hf, if_pos rfl] at h3
    simp only [Bool.and_eq_true, decide_eq_true_eq, List.isEmpty_iff] at h3
    exact Or.inl ⟨rfl, h3.1, h3.2.1, h3.2.2⟩
  | false =>
    rw [hf, if_neg (by decide)] at h3
    simp only [Bool.and_eq_true, decide_eq_true_eq] at h3
    exact Or.inr ⟨rfl, h3.1, h3.2.1, h3.2.2⟩
theorem riseI_step {cnt : Int} {l : List It} {i : Nat} (hi : i < l.length) (h : riseI cnt (prevI l i) (l.drop i) = true) :
    itemB l[i] cnt = true ∧ (∀ hp : 0 < i, (l[i - 1]).f0 < (l[i]).f0 ∧ Op.bytesLess (l[i - 1]).f1.toList (l[i]).f1.toList = true) ∧ riseI cnt (prevI l (i + 1)) (l.drop (i + 1)) = true := by
  have hpv : prevI l (i + 1) = some l[i] := by unfold prevI; rw [if_neg (by omega)]; simp [hi]
  rw [List.drop_eq_getElem_cons hi, riseI_cons] at h
  rw [hpv]
  simp only [Bool.and_eq_true] at h
  obtain ⟨h1, h2, h3⟩ := h
  refine ⟨h1, fun hp => ?_, h3⟩
  have hq : prevI l i = some l[i - 1] := by unfold prevI; rw [if_neg (by omega)]; simp [show i - 1 < l.length from by omega]
  rw [hq] at h2
  simp only [Bool.and_eq_true, decide_eq_true_eq] at h2
  exact ⟨by omega, h2.2⟩
theorem lright_loop (cnt : Int) (l : List It) (hl : l.length ≤ 1000) (id : ByteArray) (cl born : Int) (nodes path : List ByteArray) (seq size : Int) (hn : sumsB nodes 12 = true) (hp : sumsB path 16 = true) : ∀ (m k i : Nat), l.length - i = m → 3 * m + 100 < k → i ≤ l.length →
    riseI cnt (prevI l i) (l.drop i) = true → chartularylaw19_right.l0 k true (i : Int) id cl born cnt l nodes seq size path = some true := by
  have hn2 := sumsB_len hn
  have hp2 := sumsB_len hp
  intro m
  induction m with
  | zero =>
    intro k i hm hk hi hr
    obtain ⟨k, rfl⟩ : ∃ q, k = q + 1 := ⟨k - 1, by omega⟩
    rw [chartularylaw19_right.l0, if_neg (by omega), if_pos rfl, lsums_ok k nodes 12 (by omega) (by omega), bind_some', if_pos hn, lsums_ok k path 16 (by omega) (by omega), bind_some', hp]
  | succ m ih =>
    intro k i hm hk hi hr
    obtain ⟨k, rfl⟩ : ∃ q, k = q + 3 := ⟨k - 3, by omega⟩
    have hlt : i < l.length := by omega
    have hw : wrap64 ((i : Int) + 1) = ((i + 1 : Nat) : Int) := by unfold wrap64; omega
    obtain ⟨hb, hprev, hnext⟩ := riseI_step hlt hr
    obtain ⟨b0, b1, b2, b3⟩ := itemB_iff hb
    have hsz := wordB_size b2
    have ihs := ih k (i + 1) (by omega) (by omega) (by omega) hnext
    have j4 : chartularylaw19_right.j4 (k + 1) true (i : Int) id cl born cnt l nodes seq size path (l[i]).f0 (l[i]).f1 (l[i]).f2 (l[i]).f3 (l[i]).f4 (l[i]).f5 = some true := by
      rw [chartularylaw19_right.j4, hw]
      rcases Nat.eq_zero_or_pos i with h0 | h0
      · rw [if_neg (by omega), ihs]
      · have hw2 : wrap64 ((i : Int) - 1) = ((i - 1 : Nat) : Int) := by unfold wrap64; omega
        obtain ⟨q1, q2⟩ := hprev h0
        rw [if_pos (by omega), if_pos rfl, hw2, if_pos (by omega), if_pos (by omega), rd_item l (i - 1) (by omega), if_pos q1, q2, ihs]
    rw [chartularylaw19_right.l0, if_pos (by omega), if_pos (by omega), if_pos rfl, rd_item l i hlt, if_pos b0, if_pos b1, isName_ok (k + 2) _ (by omega) (by omega), bind_some', b2]
    rw [chartularylaw19_right.j3]
    rcases b3 with ⟨c0, c1, c2, c3⟩ | ⟨c0, c1, c2, c3⟩
    · rw [if_pos c0, if_pos rfl, if_pos (by omega), toList_eq, if_pos c2, toList_eq, c3]
      exact j4
    · rw [if_neg (by rw [c0]; decide), if_pos rfl, toList_eq, if_pos c1, if_pos (by omega), decide_eq_true (by omega)]
      exact j4
theorem lright_ok (k : Nat) (hk : 4000 ≤ k) (id : ByteArray) (cl born cnt : Int) (l : List It) (nodes : List ByteArray) (seq size : Int) (path : List ByteArray) (h : rightS id cl born cnt l nodes seq size path) :
    chartularylaw19_right.f k id cl born cnt l nodes seq size path = some true := by
  obtain ⟨h1, ⟨h2, h3⟩, ⟨h4, h5⟩, ⟨h6, h7⟩, ⟨h8, h9⟩, ⟨h10, h11⟩, ⟨h12, h13⟩, h14, h15, h16⟩ := h
  obtain ⟨k, rfl⟩ : ∃ q, k = q + 2 := ⟨k - 2, by omega⟩
  have hs := wordB_size h1
  unfold chartularylaw19_right.f
  rw [isID_ok (k + 2) id (by omega) (by omega), bind_some', if_pos h1, if_pos (by omega), if_pos (by omega), if_pos (by omega), if_pos (by omega), if_pos (by omega), decide_eq_true (by omega),
    chartularylaw19_right.j0, if_pos rfl, if_pos (by omega), if_pos (by omega), if_pos (by omega), if_pos (by omega), if_pos (by omega), decide_eq_true (by omega), chartularylaw19_right.j1]
  exact lright_loop cnt l (by omega) id cl born nodes path seq size h15 h16 l.length k 0 (by omega) (by omega) (by omega) (by rw [List.drop_zero]; exact h14)
/-! ## Its bytes -/
theorem itemL_size {t : It} {cnt : Int} (h : itemB t cnt = true) : (itemL t).size ≤ 300 := by
  obtain ⟨b0, b1, b2, b3⟩ := itemB_iff h
  have hsz := wordB_size b2
  have s0 := numI_size t.f0
  have s1 := textB_size t.f1
  have s3 := textB_size t.f3
  have s4 := textB_size t.f4
  have s5 := textB_size t.f5
  unfold itemL flagL
  rcases b3 with ⟨c0, c1, c2, c3⟩ | ⟨c0, c1, c2, c3⟩
  · rw [c0, if_pos rfl, if_pos rfl]
    simp only [ByteArray.size_append, size_B, List.length_cons, List.length_nil]
    omega
  · rw [c0, if_neg (by decide), if_neg (by decide)]
    simp only [ByteArray.size_append, size_B, List.length_cons, List.length_nil]
    omega
theorem wrap_succ (i : Nat) (h : i < 1152921504606846976) : wrap64 ((i : Int) + 1) = ((i + 1 : Nat) : Int) := by unfold wrap64; omega
theorem sz0 : (⟨#[0]⟩ : ByteArray).size = 1 := rfl
theorem sz1 : (⟨#[1]⟩ : ByteArray).size = 1 := rfl
theorem lbytes_loop (cnt : Int) (l : List It) (hl : l.length ≤ 1000) (id : ByteArray) (cl born : Int) (nodes path : List ByteArray) (seq size : Int) (hn : sumsB nodes 12 = true) (hp : sumsB path 16 = true) : ∀ (m k i : Nat) (s : ByteArray), l.length - i = m → m + 100 < k → i ≤ l.length →
    riseI cnt (prevI l i) (l.drop i) = true → s.size + 300 * m ≤ 1000000000 →
    chartularylaw19_bytes.l0 k s (i : Int) id cl born cnt l nodes seq size path = some (s ++ (itemsL (l.drop i) ++ ((numI nodes.length ++ textsB nodes) ++ (numI seq ++ (numI size ++ (numI path.length ++ textsB path)))))) := by
  have hn2 := sumsB_len hn
  have hp2 := sumsB_len hp
  have rm : ∀ q : List ByteArray, (∀ a ∈ q, a.size = 32) → (q.length : Int) ≤ 16 → room q ≤ 640 ∧ (textsB q).size ≤ 640 := by
    intro q h1 h2
    have s3 := room_le q 32 (fun a ha => by rw [h1 a ha]; exact Nat.le_refl _)
    have s4 : q.length * (32 + 8) ≤ 16 * 40 := Nat.mul_le_mul (by omega) (by omega)
    have s5 := textsB_size q
    exact ⟨by omega, by omega⟩
  obtain ⟨n1, n2⟩ := rm nodes hn2.1 (by omega)
  obtain ⟨n3, n4⟩ := rm path hp2.1 (by omega)
  have z1 := numI_size (nodes.length : Int)
  have z2 := numI_size (path.length : Int)
  have z3 := numI_size seq
  have z4 := numI_size size
  intro m
  induction m with
  | zero =>
    intro k i s hm hk hi hr hs
    obtain ⟨k, rfl⟩ : ∃ q, k = q + 1 := ⟨k - 1, by omega⟩
    rw [chartularylaw19_bytes.l0, if_neg (by omega), List.drop_of_length_le (by omega)]
    rw [list_ok k nodes (by omega) (by omega) (by omega), bind_some', if_pos (by simp only [ByteArray.size_append]; omega), octet_num k (by omega), bind_some', if_pos (by simp only [ByteArray.size_append]; omega), octet_num k (by omega), bind_some', if_pos (by simp only [ByteArray.size_append]; omega),
      list_ok k path (by omega) (by omega) (by omega), bind_some', if_pos (by simp only [ByteArray.size_append]; omega)]
    rw [show itemsL [] = B [] from rfl, B_nil_append]
    simp only [BA_assoc]
  | succ m ih =>
    intro k i s hm hk hi hr hs
    obtain ⟨k, rfl⟩ : ∃ q, k = q + 1 := ⟨k - 1, by omega⟩
    have hlt : i < l.length := by omega
    obtain ⟨hb, hprev, hnext⟩ := riseI_step hlt hr
    have hsz := wordB_size (itemB_iff hb).2.2.1
    have hiz := itemL_size hb
    have s0 := numI_size (l[i]).f0
    have s1 := textB_size (l[i]).f1
    have s3 := textB_size (l[i]).f3
    have s4 := textB_size (l[i]).f4
    have s5 := textB_size (l[i]).f5
    have ihs := ih k (i + 1) (s ++ itemL l[i]) (by omega) (by omega) (by omega) hnext (by rw [ByteArray.size_append]; omega)
    rw [chartularylaw19_bytes.l0, if_pos (by omega), if_pos (by omega), rd_item l i hlt, octet_num k (by omega), bind_some', if_pos (by omega), octet_text' k (by omega) _ (by omega), bind_some', if_pos (by simp only [ByteArray.size_append, sz0, sz1]; omega), wrap_succ i (by omega), List.drop_eq_getElem_cons hlt]
    have fin : s ++ itemL l[i] ++ (itemsL (l.drop (i + 1)) ++ ((numI nodes.length ++ textsB nodes) ++ (numI seq ++ (numI size ++ (numI path.length ++ textsB path))))) =
        s ++ (itemsL (l[i] :: l.drop (i + 1)) ++ ((numI nodes.length ++ textsB nodes) ++ (numI seq ++ (numI size ++ (numI path.length ++ textsB path))))) := by
      simp only [itemsL, BA_assoc]
    rw [← fin, ← ihs]
    rcases (itemB_iff hb).2.2.2 with ⟨c0, c1, c2, c3⟩ | ⟨c0, c1, c2, c3⟩
    · rw [if_pos c0, if_pos (by simp only [ByteArray.size_append, sz0, sz1]; omega), octet_text' k (by omega) _ (by omega), bind_some', if_pos (by simp only [ByteArray.size_append, sz0, sz1]; omega)]
      congr 1
      unfold itemL flagL
      rw [c0, if_pos rfl, if_pos rfl]
      simp only [BA_assoc]
      rfl
    · rw [if_neg (by rw [c0]; decide), if_pos (by simp only [ByteArray.size_append, sz0, sz1]; omega), octet_text' k (by omega) _ (by omega), bind_some', if_pos (by simp only [ByteArray.size_append, sz0, sz1]; omega), octet_text' k (by omega) _ (by omega), bind_some', if_pos (by simp only [ByteArray.size_append, sz0, sz1]; omega)]
      congr 1
      unfold itemL flagL
      rw [c0, if_neg (by decide), if_neg (by decide)]
      simp only [BA_assoc]
      rfl
theorem lbytes_ok (k : Nat) (hk : 4000 ≤ k) (id : ByteArray) (cl born cnt : Int) (l : List It) (nodes : List ByteArray) (seq size : Int) (path : List ByteArray) (h : rightS id cl born cnt l nodes seq size path) :
    chartularylaw19_bytes.f k id cl born cnt l nodes seq size path = some (showL id cl born cnt l nodes seq size path) := by
  obtain ⟨h1, ⟨h2, h3⟩, ⟨h4, h5⟩, ⟨h6, h7⟩, ⟨h8, h9⟩, ⟨h10, h11⟩, ⟨h12, h13⟩, h14, h15, h16⟩ := h
  have hs := wordB_size h1
  have s1 := textB_size id
  have s2 := numI_size cl
  have s3 := numI_size born
  have s4 := numI_size cnt
  have s5 := numI_size (l.length : Int)
  unfold chartularylaw19_bytes.f
  rw [octet_text' k (by omega) _ (by omega), bind_some', octet_num k (by omega), bind_some', if_pos (by omega), octet_num k (by omega), bind_some', if_pos (by simp only [ByteArray.size_append, sz0, sz1]; omega), octet_num k (by omega), bind_some', if_pos (by simp only [ByteArray.size_append, sz0, sz1]; omega),
    octet_num k (by omega), bind_some', if_pos (by simp only [ByteArray.size_append, sz0, sz1]; omega)]
  have g := lbytes_loop cnt l (by omega) id cl born nodes path seq size h15 h16 l.length k 0 (textB id ++ numI cl ++ numI born ++ numI cnt ++ numI (l.length : Int)) (by omega) (by omega) (by omega) (by rw [List.drop_zero]; exact h14) (by simp only [ByteArray.size_append, sz0, sz1]; omega)
  rw [List.drop_zero] at g
  rw [show (0 : Int) = ((0 : Nat) : Int) from rfl, g]
  unfold showL
  simp only [BA_assoc]
/-! ## Nothing is nothing -/
theorem same_nothing (k : Nat) (hk : 10 ≤ k) : chartularylaw19_same.f k (⟨#[]⟩ : ByteArray) 0 0 0 ([] : List It) ([] : List ByteArray) 0 0 ([] : List ByteArray) (⟨#[]⟩ : ByteArray) 0 0 0 ([] : List It) ([] : List ByteArray) 0 0 ([] : List ByteArray) = some true := by
  obtain ⟨k, rfl⟩ : ∃ q, k = q + 10 := ⟨k - 10, by omega⟩
  have hsl : ∀ q, chartularylaw19_sameList.f (q + 1) [] [] = some true := by
    intro q
    unfold chartularylaw19_sameList.f
    rw [if_pos rfl, chartularylaw19_sameList.l0, if_neg (by simp)]
  unfold chartularylaw19_same.f
  rw [if_pos rfl, if_pos rfl, if_pos rfl, if_pos rfl, if_pos rfl, if_pos rfl, chartularylaw19_same.j0, if_neg (by simp), chartularylaw19_same.l0, if_neg (by simp), hsl, bind_some', if_pos rfl]
  rfl
end Go.Proofs.Ytfegehfdbcnepaa.Q
