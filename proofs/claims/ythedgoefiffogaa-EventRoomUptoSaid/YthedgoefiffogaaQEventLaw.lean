/- The helpers of layer event's statements in plain lists: what is cut off. -/
import Derived.Test.YthedgoefiffogaaQEvent
import Derived.Test.YthedgoefiffogaaPH14
namespace Go.Proofs.Ythedgoefiffogaa.Q
open Go.RowKit Go.Proofs.Ythedgoefiffogaa.PAll Go.Proofs.YthedgoefiffogaaW.PrintWords Go.Proofs.YthedgoefiffogaaW.PrintLast
set_option linter.unusedVariables false
set_option linter.unusedSimpArgs false
def cutB (a : ByteArray) : ByteArray := if 300 < a.size then a.extract 0 300 else a
theorem cutB_size (a : ByteArray) : (cutB a).size ≤ 300 := by
  unfold cutB
  split
  · rw [ByteArray.size_extract]; omega
  · omega
theorem cut_ok (a : ByteArray) : chartularylaw14_cut.f a = some (cutB a) := by
  unfold chartularylaw14_cut.f cutB
  by_cases h : 300 < a.size
  · rw [if_pos (by omega), if_pos (by decide), if_pos (by omega), if_pos h]
  · rw [if_neg (by omega), if_neg h]
def cutH (l : List ByteArray) : List ByteArray := (l.take 20).map cutB
theorem cutH_length (l : List ByteArray) : (cutH l).length ≤ 20 := by unfold cutH; simp; omega
theorem cutH_size (l : List ByteArray) : ∀ a ∈ cutH l, a.size ≤ 300 := by
  intro a h
  obtain ⟨b, _, rfl⟩ := List.mem_map.1 h
  exact cutB_size b
def cutS (s : S60) : S60 := ⟨cutB s.f0, cutB s.f1, cutB s.f2, s.f3⟩
def cutSs (l : List S60) : List S60 := (l.take 20).map cutS
theorem cutSs_length (l : List S60) : (cutSs l).length ≤ 20 := by unfold cutSs; simp; omega
theorem cutSs_size (l : List S60) : ∀ s ∈ cutSs l, s.f0.size ≤ 300 ∧ s.f1.size ≤ 300 ∧ s.f2.size ≤ 300 := by
  intro a h
  obtain ⟨b, _, rfl⟩ := List.mem_map.1 h
  exact ⟨cutB_size _, cutB_size _, cutB_size _⟩
theorem few_l1 (id : ByteArray) (a b c : Int) (l : List S60) (gone : Bool) (h : List ByteArray) (hl : h.length ≤ 8796093022200) (id' : ByteArray) (a' b' c' : Int) (l' : List S60) (gone' : Bool) :
    ∀ (m k i : Nat) (acc : List ByteArray), min h.length 20 - i = m → m < k → i ≤ h.length → i ≤ 20 → acc.length = i →
    chartularylaw14_FewEntry.l1 k (i : Int) id a b c l gone h id' a' b' c' l' gone' acc = some (id', a', b', c', l', gone', acc ++ ((h.take 20).drop i).map cutB) := by
  intro m
  induction m with
  | zero =>
    intro k i acc hm hk hi h30 ha
    obtain ⟨k, rfl⟩ : ∃ q, k = q + 1 := ⟨k - 1, by omega⟩
    rw [chartularylaw14_FewEntry.l1, List.drop_of_length_le (by rw [List.length_take]; omega)]
    by_cases hh : (i : Int) < (h.length : Int)
    · rw [if_pos hh, if_neg (by omega)]; simp
    · rw [if_neg hh]; simp
  | succ m ih =>
    intro k i acc hm hk hi h30 ha
    obtain ⟨k, rfl⟩ : ∃ q, k = q + 1 := ⟨k - 1, by omega⟩
    have hlt : i < h.length := by omega
    rw [chartularylaw14_FewEntry.l1, if_pos (by omega), if_pos (by omega), if_pos (by omega), rd_getElem h i hlt, cut_ok, bind_some', if_pos (by omega), wrap64_id (by omega) (by omega), show ((i : Int) + 1) = ((i + 1 : Nat) : Int) from by omega]
    rw [ih k (i + 1) _ (by omega) (by omega) (by omega) (by omega) (by rw [List.length_append, ha]; rfl)]
    have h2 : i < (h.take 20).length := by rw [List.length_take]; omega
    rw [List.drop_eq_getElem_cons h2]
    simp
theorem few_l0 (id : ByteArray) (a b c : Int) (l : List S60) (gone : Bool) (h : List ByteArray) (hl : h.length ≤ 8796093022200) (hl2 : l.length ≤ 8796093022200) (id' : ByteArray) (a' b' c' : Int) (gone' : Bool) :
    ∀ (m k i : Nat) (acc : List S60), min l.length 20 - i = m → m + m + 40 < k → i ≤ l.length → i ≤ 20 → acc.length = i →
    chartularylaw14_FewEntry.l0 k (i : Int) id a b c l gone h id' a' b' c' acc gone' = some (id', a', b', c', acc ++ ((l.take 20).drop i).map cutS, gone', cutH h) := by
  intro m
  induction m with
  | zero =>
    intro k i acc hm hk hi h30 ha
    obtain ⟨k, rfl⟩ : ∃ q, k = q + 2 := ⟨k - 2, by omega⟩
    have key := few_l1 id a b c l gone h hl id' a' b' c' acc gone' (min h.length 20) k 0 [] (by omega) (by omega) (by omega) (by omega) rfl
    rw [List.drop_zero] at key
    rw [chartularylaw14_FewEntry.l0, List.drop_of_length_le (by rw [List.length_take]; omega)]
    rw [List.map_nil, List.append_nil]
    by_cases hh : (i : Int) < (l.length : Int)
    · rw [if_pos hh, chartularylaw14_FewEntry.j1, if_neg (by simp; omega)]; exact key
    · rw [if_neg hh, chartularylaw14_FewEntry.j1, if_neg (by decide)]; exact key
  | succ m ih =>
    intro k i acc hm hk hi h30 ha
    obtain ⟨k, rfl⟩ : ∃ q, k = q + 2 := ⟨k - 2, by omega⟩
    have hlt : i < l.length := by omega
    rw [chartularylaw14_FewEntry.l0, if_pos (by omega), chartularylaw14_FewEntry.j1, if_pos (by simp; omega), if_pos (by omega), if_pos (by omega), rd_slip l i hlt, cut_ok, bind_some', cut_ok, bind_some', cut_ok, bind_some', if_pos (by omega),
      wrap64_id (by omega) (by omega), show ((i : Int) + 1) = ((i + 1 : Nat) : Int) from by omega]
    rw [ih k (i + 1) _ (by omega) (by omega) (by omega) (by omega) (by rw [List.length_append, ha]; rfl)]
    have h2 : i < (l.take 20).length := by rw [List.length_take]; omega
    rw [List.drop_eq_getElem_cons h2]
    simp [cutS]
theorem few_ok (k : Nat) (hk : 200 ≤ k) (kind : Int) (id : ByteArray) (a b c : Int) (l : List S60) (gone : Bool) (h : List ByteArray) (seq idx : Int) (name : ByteArray) (size : Int) (root : ByteArray) (now : Int)
    (hl : h.length ≤ 8796093022200) (hl2 : l.length ≤ 8796093022200) :
    chartularylaw14_Few.f k kind id a b c l gone h seq idx name size root now = some (kind, cutB id, a, b, c, cutSs l, gone, cutH h, seq, idx, cutB name, size, cutB root, now) := by
  have key := few_l0 id a b c l gone h hl hl2 (cutB id) a b c gone (min l.length 20) k 0 [] (by omega) (by omega) (by omega) (by omega) rfl
  rw [List.drop_zero, List.nil_append] at key
  unfold chartularylaw14_Few.f chartularylaw14_FewEntry.f
  rw [cut_ok, bind_some', show (0 : Int) = ((0 : Nat) : Int) from rfl, key, bind_some']
  dsimp only
  rw [cut_ok, bind_some', cut_ok, bind_some']
  rfl
theorem awake_eventB : eventB 3 (⟨#[]⟩ : ByteArray) 0 0 0 [] false [] 5 0 (⟨#[]⟩ : ByteArray) 0 (⟨#[]⟩ : ByteArray) 0 = true := by
  unfold eventB
  rw [if_neg (by decide), if_neg (by decide), if_pos rfl]
  decide
theorem numL_small (n : Nat) (h0 : 0 < n) (h : n < 256) : numL n = [1, UInt8.ofNat n] := by
  unfold numL
  rw [digs_pos h0, show n / 256 = 0 from by omega, digs_zero, Nat.mod_eq_of_lt h]
  rfl
theorem awake_eventL : L (eventL 3 (⟨#[]⟩ : ByteArray) 0 0 0 [] false [] 5 0 (⟨#[]⟩ : ByteArray) 0 (⟨#[]⟩ : ByteArray) 0) = [1, 3, 1, 5] := by
  unfold eventL
  rw [if_neg (by decide), if_neg (by decide), if_pos rfl, L_append, (numI_some (n := 3) (by omega) (by omega)).1, (numI_some (n := 5) (by omega) (by omega)).1, L_B, L_B]
  rw [show (3 : Int).toNat = 3 from rfl, show (5 : Int).toNat = 5 from rfl, numL_small 3 (by omega) (by omega), numL_small 5 (by omega) (by omega)]
  rfl
theorem law_awake (k : Nat) (hk : 1010 ≤ k) : chartularylaw14_awake.f k = some true := by
  unfold chartularylaw14_awake.f
  rw [bytes_ok k _ _ _ _ _ _ _ _ _ _ _ _ _ _ hk (by decide) (by decide) (by decide) (by intro s hs; cases hs) (by intro s hs; cases hs) (by decide), if_pos awake_eventB, bind_some', toList_eq, awake_eventL]
  rfl
end Go.Proofs.Ythedgoefiffogaa.Q
