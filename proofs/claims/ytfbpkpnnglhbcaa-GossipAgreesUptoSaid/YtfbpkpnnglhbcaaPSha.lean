/- Plain laws: SHA-256 comes to 32 bytes, whatever it sums. Nothing is said of which. -/
import Derived.Test.YtfbpkpnnglhbcaaPComb
namespace Go.Proofs.Ytfbpkpnnglhbcaa.Pure
open Go Go.Proofs.Ytfbpkpnnglhbcaa.E Go.Proofs.Ytfbpkpnnglhbcaa.Eng
set_option linter.unusedVariables false
set_option linter.unusedSimpArgs false
theorem wrap_u64_ge (n : Int) : 0 ≤ IntKind.wrap .u64 n := by
 simp only [IntKind.wrap, IntKind.bits, IntKind.signed, Bool.false_and]
 simp; exact Int.emod_nonneg _ (by decide)
theorem rdo_in {α : Type} {l : List α} {i : Int} {n : Nat} (hn : l.length = n) (h0 : 0 ≤ i) (h : i < n) : ∃ v, rdo l i = some v := by
 obtain ⟨m, rfl⟩ := Int.eq_ofNat_of_zero_le h0
 exact ⟨_, rdo_at (by omega)⟩
theorem bto_in {s : ByteArray} {i : Int} (h0 : 0 ≤ i) (h : i < s.size) : ∃ v, bto s i = some v := by
 obtain ⟨m, rfl⟩ := Int.eq_ofNat_of_zero_le h0
 exact ⟨_, bto_at (by rw [Array.length_toList, ByteArray.size_data]; omega)⟩
theorem rot_tot (x n : Int) : TP (fun k => bits_RotateLeft32.f k x n) (fun _ => True) :=
 TP.step (fun k => rfl) (TP.ck (by rw [decide_eq_false (Int.not_lt.2 (wrap_u64_ge _))]; rfl) (TP.some trivial))
theorem turn_tot (x n : Int) : TP (fun k => sha_turn.f k x n) (fun _ => True) :=
 TP.step (fun k => rfl) (TP.bind (rot_tot _ _) fun _ _ => TP.some trivial)
theorem words_l1 : ∀ (m : Nat) (i : Int), 16 ≤ i → i + m = 64 → ∀ o2 o3, TP (fun k => sha_words.l1 k i o2 o3) (fun _ => True)
 | 0, i, h0, h1, o2, o3 => TP.step (fun k => rfl) (TP.dec (fun h => absurd h (by omega)) fun _ => TP.some trivial)
 | m + 1, i, h0, h1, o2, o3 => by
  have w (j : Int) (hj : j ≤ i) (hk : -100 ≤ j) : IntKind.wrap .i64 j = j := wrap_i64 (by omega) (by omega)
  have e15 := w (i - 15) (by omega) (by omega)
  have e2 := w (i - 2) (by omega) (by omega)
  have e16 := w (i - 16) (by omega) (by omega)
  have e7 := w (i - 7) (by omega) (by omega)
  have e1 : IntKind.wrap .i64 (i + 1) = i + 1 := wrap_i64 (by omega) (by omega)
  refine TP.step (fun k => rfl) (TP.dec (fun h => ?_) fun h => absurd (by omega : i < 64) h)
  refine TP.ck (by rw [e15, Bool.and_eq_true]; exact ⟨decide_eq_true (by omega), decide_eq_true (by omega)⟩) (TP.opt (rdo_in (n := 64) rfl (by omega) (by omega)) fun _ => ?_)
  refine TP.ck (by rw [e2, Bool.and_eq_true]; exact ⟨decide_eq_true (by omega), decide_eq_true (by omega)⟩) (TP.opt (rdo_in (n := 64) rfl (by omega) (by omega)) fun _ => ?_)
  refine TP.ck (by rw [e16, Bool.and_eq_true]; exact ⟨decide_eq_true (by omega), decide_eq_true (by omega)⟩) (TP.opt (rdo_in (n := 64) rfl (by omega) (by omega)) fun _ => ?_)
  refine TP.bind (turn_tot _ _) fun _ _ => TP.bind (turn_tot _ _) fun _ _ => TP.ck rfl ?_
  refine TP.ck (by rw [e7, Bool.and_eq_true]; exact ⟨decide_eq_true (by omega), decide_eq_true (by omega)⟩) (TP.opt (rdo_in (n := 64) rfl (by omega) (by omega)) fun _ => ?_)
  refine TP.bind (turn_tot _ _) fun _ _ => TP.bind (turn_tot _ _) fun _ _ => TP.ck rfl ?_
  refine TP.ck (by rw [Bool.and_eq_true]; exact ⟨decide_eq_true (by omega), decide_eq_true (by omega)⟩) ?_
  rw [e1]
  exact words_l1 m (i + 1) (by omega) (by omega) _ _
theorem words_l0 (s : ByteArray) (hs : s.size = 64) : ∀ (m : Nat) (i : Int), 0 ≤ i → i + m = 16 → ∀ o2 o3, TP (fun k => sha_words.l0 k s i o2 o3) (fun _ => True)
 | 0, i, h0, h1, o2, o3 => TP.step (fun k => rfl) (TP.dec (fun h => absurd h (by omega)) fun _ => words_l1 48 16 (by omega) (by omega) _ _)
 | m + 1, i, h0, h1, o2, o3 => by
  have w (j : Int) (hj : j ≤ 100) (hk : 0 ≤ j) : IntKind.wrap .i64 j = j := wrap_i64 (by omega) (by omega)
  have e0 := w (4 * i) (by omega) (by omega)
  have e1 := w (4 * i + 1) (by omega) (by omega)
  have e2 := w (4 * i + 2) (by omega) (by omega)
  have e3 := w (4 * i + 3) (by omega) (by omega)
  have e4 := w (i + 1) (by omega) (by omega)
  refine TP.step (fun k => rfl) (TP.dec (fun h => ?_) fun h => absurd (by omega : i < 16) h)
  refine TP.opt (by rw [e0]; exact bto_in (by omega) (by omega)) fun _ => TP.ck rfl ?_
  refine TP.opt (by rw [e0, e1]; exact bto_in (by omega) (by omega)) fun _ => TP.ck rfl ?_
  refine TP.opt (by rw [e0, e2]; exact bto_in (by omega) (by omega)) fun _ => TP.ck rfl ?_
  refine TP.opt (by rw [e0, e3]; exact bto_in (by omega) (by omega)) fun _ => ?_
  refine TP.ck (by rw [Bool.and_eq_true]; exact ⟨decide_eq_true (by omega), decide_eq_true (by omega)⟩) ?_
  rw [e4]
  exact words_l0 s hs m (i + 1) (by omega) (by omega) _ _
theorem words_tot (s : ByteArray) (hs : s.size = 64) : TP (fun k => sha_words.f k s) (fun _ => True) := TP.step (fun k => rfl) (words_l0 s hs 16 0 (by omega) (by omega) _ _)
theorem rounds_tot : TP (fun k => sha_rounds.f k) (fun _ => True) := TP.step (fun k => rfl) (TP.some trivial)
def KeepO (r : ByteArray) (b : Bool) (v : sha_State_mix.R) : Prop := v.2.1.2.1 = r ∧ v.2.1.2.2.2.1 = b
theorem mix_l1 : ∀ (m : Nat) (i : Int), 0 ≤ i → i + m = 8 → ∀ h r n b o6, TP (fun k => sha_State_mix.l1 k i h r n b o6) (KeepO r b)
 | 0, i, h0, h1, h, r, n, b, o6 => TP.step (fun k => rfl) (TP.dec (fun h => absurd h (by omega)) fun _ => TP.some ⟨rfl, rfl⟩)
 | m + 1, i, h0, h1, h, r, n, b, o6 => by
  have e1 : IntKind.wrap .i64 (i + 1) = i + 1 := wrap_i64 (by omega) (by omega)
  have hi : (decide (0 ≤ i) && decide (i < (8 : Int))) = true := by rw [Bool.and_eq_true]; exact ⟨decide_eq_true (by omega), decide_eq_true (by omega)⟩
  refine TP.step (fun k => rfl) (TP.dec (fun h => ?_) fun h => absurd (by omega : i < 8) h)
  refine TP.ck hi (TP.opt (rdo_in (n := 8) rfl (by omega) (by omega)) fun _ => ?_)
  refine TP.ck hi (TP.opt (rdo_in (n := 8) rfl (by omega) (by omega)) fun _ => TP.ck hi ?_)
  rw [e1]
  exact mix_l1 m (i + 1) (by omega) (by omega) _ _ _ _ _
theorem mix_l0 : ∀ (m : Nat) (i : Int), 0 ≤ i → i + m = 64 → ∀ h r n b o4 o5 o6, TP (fun k => sha_State_mix.l0 k i h r n b o4 o5 o6) (KeepO r b)
 | 0, i, h0, h1, h, r, n, b, o4, o5, o6 => TP.step (fun k => rfl) (TP.dec (fun h => absurd h (by omega)) fun _ => mix_l1 8 0 (by omega) (by omega) _ _ _ _ _)
 | m + 1, i, h0, h1, h, r, n, b, o4, o5, o6 => by
  have e1 : IntKind.wrap .i64 (i + 1) = i + 1 := wrap_i64 (by omega) (by omega)
  have hi : (decide (0 ≤ i) && decide (i < (64 : Int))) = true := by rw [Bool.and_eq_true]; exact ⟨decide_eq_true (by omega), decide_eq_true (by omega)⟩
  refine TP.step (fun k => rfl) (TP.dec (fun h => ?_) fun h => absurd (by omega : i < 64) h)
  refine TP.bind (turn_tot _ _) fun _ _ => TP.bind (turn_tot _ _) fun _ _ => TP.bind (turn_tot _ _) fun _ _ => ?_
  refine TP.ck hi (TP.opt (rdo_in (n := 64) rfl (by omega) (by omega)) fun _ => ?_)
  refine TP.ck hi (TP.opt (rdo_in (n := 64) rfl (by omega) (by omega)) fun _ => ?_)
  refine TP.bind (turn_tot _ _) fun _ _ => TP.bind (turn_tot _ _) fun _ _ => TP.bind (turn_tot _ _) fun _ _ => ?_
  rw [e1]
  exact mix_l0 m (i + 1) (by omega) (by omega) _ _ _ _ _ _ _
theorem mix_tot (s : ByteArray) (hs : s.size = 64) (h r n b) : TP (fun k => sha_State_mix.f k s h r n b) (KeepO r b) :=
 TP.step (fun k => rfl) (TP.bind (words_tot s hs) fun _ _ => TP.bind rounds_tot fun _ _ => mix_l0 64 0 (by omega) (by omega) _ _ _ _ _ _ _)
def KeepW (m : Nat) (b : Bool) (v : sha_State_Write.R) : Prop := v.2.1.2.1.size ≤ m ∧ v.2.1.2.2.2.1 = b
theorem write_l0 : ∀ (m : Nat) (s : ByteArray), s.size ≤ m → ∀ h r n b, TP (fun k => sha_State_Write.l0 k s h r n b) (KeepW m b)
 | 0, s, hs, h, r, n, b => TP.step (fun k => rfl) (TP.dec (fun h => absurd h (by omega)) fun _ => TP.some ⟨hs, rfl⟩)
 | m + 1, s, hs, h, r, n, b => by
  refine TP.step (fun k => rfl) (TP.dec (fun h => ?_) fun _ => TP.some ⟨hs, rfl⟩)
  have h64 : 64 ≤ s.size := by omega
  refine TP.ck (by simp only [Bool.and_eq_true, decide_eq_true_eq]; omega) ?_
  refine TP.bind (mix_tot _ (by rw [ByteArray.size_extract]; show min 64 s.size - 0 = 64; omega) _ _ _ _) fun v hv => ?_
  refine TP.ck (by simp only [Bool.and_eq_true, decide_eq_true_eq]; omega) ?_
  have e := hv.2
  refine TP.mono (write_l0 m (s.extract (64 : Int).toNat (s.size : Int).toNat) (by rw [ByteArray.size_extract, Int.toNat_natCast]; show min s.size s.size - 64 ≤ m; omega) _ _ _ _) fun w hw => ⟨Nat.le_succ_of_le hw.1, hw.2.trans e⟩
theorem write_tot (s : ByteArray) (h r n) (hs : s.size + r.size ≤ 1000000000) : TP (fun k => sha_State_Write.f k s h r n true) (KeepW (r.size + s.size) true) :=
 TP.step (fun k => rfl) (TP.ck (by apply decide_eq_true; omega) (write_l0 _ _ (by rw [ByteArray.size_append]; omega) _ _ _ _))
theorem tmod64 (n : Nat) : Int.tmod (n : Int) 64 = ((n % 64 : Nat) : Int) := rfl
theorem strOf_size (l : List Int) : (strOf l).size = l.length := by show ((l.map _).toArray).size = _; simp
theorem sum_l2 : ∀ (m : Nat) (i : Int), 0 ≤ i → i + m = 8 → ∀ (x : List Int), (x.length : Int) = 4 * i → ∀ hh h r n b, TP (fun k => sha_State_Sum.l2 k x hh i h r n b) (fun v => v.1.1.size = 32)
 | 0, i, h0, h1, x, hx, hh, h, r, n, b => TP.step (fun k => rfl) (TP.dec (fun h => absurd h (by omega)) fun _ => TP.some (by show (strOf x).size = 32; rw [strOf_size]; omega))
 | m + 1, i, h0, h1, x, hx, hh, h, r, n, b => by
  have e1 : IntKind.wrap .i64 (i + 1) = i + 1 := wrap_i64 (by omega) (by omega)
  refine TP.step (fun k => rfl) (TP.dec (fun h => ?_) fun h => absurd (by omega : i < 8) h)
  refine TP.opt (rdo_in (n := 8) rfl (by omega) (by omega)) fun _ => TP.ck rfl (TP.ck rfl (TP.ck rfl (TP.ck (by apply decide_eq_true; simp only [List.length_cons, List.length_nil]; omega) ?_)))
  rw [e1]
  exact sum_l2 m (i + 1) (by omega) (by omega) _ (by rw [List.length_append]; simp only [List.length_cons, List.length_nil]; omega) _ _ _ _ _
theorem sum_l1 (e1 : ByteArray) (he : e1.size ≤ 100000000) : ∀ (m : Nat) (i : Int), 0 ≤ i → i + m = 8 → ∀ (x : List Int), (x.length : Int) ≤ 1000 + i → ∀ h r n b e0 e2, TP (fun k => sha_State_Sum.l1 k x i h r n b e0 e1 e2 true) (fun v => v.1.1.size = 32)
 | 0, i, h0, h1, x, hx, h, r, n, b, e0, e2 => TP.step (fun k => rfl) (TP.dec (fun h => absurd h (by omega)) fun _ => TP.bind (write_tot _ _ _ _ (by rw [strOf_size]; omega)) fun _ _ => sum_l2 8 0 (by omega) (by omega) [] rfl _ _ _ _ _)
 | m + 1, i, h0, h1, x, hx, h, r, n, b, e0, e2 => by
  have w1 : IntKind.wrap .i64 (i + 1) = i + 1 := wrap_i64 (by omega) (by omega)
  have w2 : IntKind.wrap .i64 (8 * i) = 8 * i := wrap_i64 (by omega) (by omega)
  have w3 : IntKind.wrap .i64 (56 - 8 * i) = 56 - 8 * i := wrap_i64 (by omega) (by omega)
  refine TP.step (fun k => rfl) (TP.dec (fun h => ?_) fun h => absurd (by omega : i < 8) h)
  refine TP.ck (by rw [w2, w3, decide_eq_false (by omega)]; rfl) (TP.ck (by apply decide_eq_true; simp only [List.length_cons, List.length_nil]; omega) ?_)
  rw [w1]
  exact sum_l1 e1 he m (i + 1) (by omega) (by omega) _ (by rw [List.length_append]; simp only [List.length_cons, List.length_nil]; omega) _ _ _ _ _ _
theorem sum_l0 (e1 : ByteArray) (he : e1.size ≤ 100000000) : ∀ (m : Nat) (x : List Int), x.length + m ≤ 1000 → m < 64 → (e1.size + x.length + m) % 64 = 56 → ∀ h r n b e0 e2, TP (fun k => sha_State_Sum.l0 k x h r n b e0 e1 e2 true) (fun v => v.1.1.size = 32) := by
 intro m
 induction m with
 | zero =>
  intro x h1 h2 h3 h r n b e0 e2
  have w : IntKind.wrap .i64 ((e1.size : Int) + (x.length : Int)) = ((e1.size + x.length : Nat) : Int) := by rw [wrap_i64 (by omega) (by omega)]; omega
  refine TP.step (fun k => rfl) (TP.ck rfl (TP.cond (fun hc => ?_) fun _ => sum_l1 e1 he 8 0 (by omega) (by omega) x (by omega) _ _ _ _ _ _))
  rw [w] at hc
  have : Int.tmod ((e1.size + x.length : Nat) : Int) 64 = 56 := by rw [tmod64]; omega
  rw [this] at hc; cases hc
 | succ m ih =>
  intro x h1 h2 h3 h r n b e0 e2
  have w : IntKind.wrap .i64 ((e1.size : Int) + (x.length : Int)) = ((e1.size + x.length : Nat) : Int) := by rw [wrap_i64 (by omega) (by omega)]; omega
  refine TP.step (fun k => rfl) (TP.ck rfl (TP.cond (fun _ => ?_) fun hc => ?_))
  ·refine TP.ck (by apply decide_eq_true; simp only [List.length_cons, List.length_nil]; omega) ?_
   exact ih _ (by rw [List.length_append]; simp only [List.length_cons, List.length_nil]; omega) (by omega) (by rw [List.length_append]; simp only [List.length_cons, List.length_nil]; omega) _ _ _ _ _ _
  ·rw [w] at hc
   have : Int.tmod ((e1.size + x.length : Nat) : Int) 64 ≠ 56 := by rw [tmod64]; omega
   rw [bne_eq_false_iff_eq] at hc; exact absurd hc this
theorem sum_tot (h) (r : ByteArray) (hr : r.size ≤ 100000000) (n) : TP (fun k => sha_State_Sum.f k h r n true) (fun v => v.1.1.size = 32) := by
 refine TP.step (fun k => rfl) ?_
 exact sum_l0 r hr ((119 - (r.size + 1) % 64 + 1) % 64) [128] (by show 1 + _ ≤ _; omega) (by omega) (by show (r.size + 1 + _) % 64 = 56; omega) _ _ _ _ _ _
theorem sha_tot (s : ByteArray) (hs : s.size ≤ 100000000) : TP (fun k => sha_Sum.f k s) (fun v => v.1.1.size = 32) := by
 refine TP.step (fun k => rfl) (TP.bind (f := fun k => sha_New.f k) (P := fun v => v.2.1.2.1 = ByteArray.empty ∧ v.2.1.2.2.2.1 = true) (TP.step (fun k => rfl) (TP.some ⟨rfl, rfl⟩)) fun v hv => ?_)
 obtain ⟨h1, h2⟩ := hv
 refine TP.bind (P := KeepW (0 + s.size) true) ?_ fun w hw => ?_
 ·rw [h1, h2]
  exact write_tot s _ _ _ (by show s.size + 0 ≤ _; omega)
 ·refine TP.bind (P := fun v => v.1.1.size = 32) ?_ fun x hx => TP.some hx
  rw [hw.2]
  exact sum_tot _ _ (by have := hw.1; omega) _
end Go.Proofs.Ytfbpkpnnglhbcaa.Pure
