/- PaperWords: which texts are IDs, and names. No condition. -/
import Derived.Test.YtabdmnoejoiboaaPL05PaperWords
import Derived.Test.YtabdmnoejoiboaaQPaperWord
import Derived.Test.YtabdmnoejoiboaaQValueB0
import Derived.Test.YtabdmnoejoiboaaPPaper
namespace Go.Proofs.Ytabdmnoejoiboaa.Pure
open Go.RowKit Go.Proofs.Ytabdmnoejoiboaa.PAll Go.Proofs.YtabdmnoejoiboaaW.PrintWords Go.Proofs.YtabdmnoejoiboaaW.PrintLast Go.Proofs.Ytabdmnoejoiboaa.Q
set_option linter.unusedVariables false
set_option linter.unusedSimpArgs false
def isSign (n : Int) : Prop := (97 ≤ n ∧ n ≤ 122) ∨ (65 ≤ n ∧ n ≤ 90) ∨ (48 ≤ n ∧ n ≤ 57) ∨ n = 45 ∨ n = 95 ∨ n = 46
theorem sign_iff (n : Int) : signB n = true ↔ isSign n := by
  have h := sign_ok n
  unfold paper_sign.f at h
  unfold isSign
  repeat' split at h
  all_goals (injection h with h; rw [← h])
  all_goals first | (exact ⟨fun _ => by omega, fun _ => rfl⟩) | (rw [beq_iff_eq]; omega)
set_option maxHeartbeats 8000000 in
theorem lword_step (k : Nat) (a : ByteArray) (m i : Int) (h0 : 0 ≤ i) (h1 : i < (a.size : Int)) (c : Int) (hc : bt a i = c) :
    chartularylaw05_word.l0 (k + 1) a m i = if signB c = true then chartularylaw05_word.l0 k a m (wrap64 (i + 1)) else some false := by
  rw [chartularylaw05_word.l0, if_pos h1, if_pos h0, hc]
  have hs := sign_iff c
  unfold isSign at hs
  generalize chartularylaw05_word.l0 k a m (wrap64 (i + 1)) = X
  by_cases h : signB c = true
  · rw [if_pos h]
    have := hs.1 h
    repeat' split
    all_goals first | rfl | (exfalso; omega)
  · rw [if_neg h]
    have : ¬ ((97 ≤ c ∧ c ≤ 122) ∨ (65 ≤ c ∧ c ≤ 90) ∨ (48 ≤ c ∧ c ≤ 57) ∨ c = 45 ∨ c = 95 ∨ c = 46) := fun e => h (hs.2 e)
    repeat' split
    all_goals first | rfl | (exfalso; omega)
theorem lword_loop (a : ByteArray) (m : Int) (ha : a.size ≤ 1152921504606846976) : ∀ (q k i : Nat), (L a).length - i = q → q < k → i ≤ (L a).length →
    chartularylaw05_word.l0 k a m (i : Int) = some (((L a).drop i).all (fun c => signB (c.toNat : Int)) && (decide (0 < a.size) && decide ((a.size : Int) ≤ m))) := by
  have hsz := size_L a
  intro q
  induction q with
  | zero =>
    intro k i hm hk hi
    obtain ⟨k, rfl⟩ : ∃ z, k = z + 1 := ⟨k - 1, by omega⟩
    rw [chartularylaw05_word.l0, if_neg (by omega), List.drop_of_length_le (by omega)]
    by_cases h : a.size = 0
    · rw [if_neg (by omega), decide_eq_false (by omega)]; rfl
    · rw [if_pos (by omega), decide_eq_true (show 0 < a.size by omega)]
      simp
  | succ q ih =>
    intro k i hm hk hi
    obtain ⟨k, rfl⟩ : ∃ z, k = z + 1 := ⟨k - 1, by omega⟩
    have hlt : i < (L a).length := by omega
    rw [lword_step k a m (i : Int) (by omega) (by omega) _ (bt_L a i hlt), List.drop_eq_getElem_cons hlt]
    by_cases h : signB (((L a)[i]).toNat : Int) = true
    · rw [if_pos h, show wrap64 ((i : Int) + 1) = ((i + 1 : Nat) : Int) from by unfold wrap64; omega, ih k (i + 1) (by omega) (by omega) (by omega), List.all_cons, h, Bool.true_and]
    · rw [if_neg h, List.all_cons, Bool.eq_false_iff.2 h, Bool.false_and, Bool.false_and]
theorem lword_ok (k : Nat) (a : ByteArray) (m : Int) (hk : a.size + 3 ≤ k) (ha : a.size ≤ 1152921504606846976) : chartularylaw05_word.f k a m = some (wordB a m) := by
  have hsz := size_L a
  have h := lword_loop a m ha (L a).length k 0 rfl (by omega) (by omega)
  unfold chartularylaw05_word.f wordB
  refine h.trans ?_
  rw [List.drop_zero]
  congr 1
  by_cases h1 : L a = []
  · rw [if_pos h1, decide_eq_false (by rw [hsz, h1]; decide), Bool.false_and, Bool.and_false]
  · have hp : 0 < a.size := by rw [hsz]; exact List.length_pos_iff.2 h1
    rw [if_neg h1, decide_eq_true hp, Bool.true_and]
    by_cases h2 : (a.size : Int) > m
    · rw [if_pos h2, decide_eq_false (by omega), Bool.and_false]
    · rw [if_neg h2, decide_eq_true (by omega), Bool.and_true]
/-! ## The example -/
theorem w01 : wrap64 (0 + 1) = 1 := by unfold wrap64; omega
def fld : S37 := ⟨(⟨#[120]⟩ : ByteArray), ⟨1, true, 0, 0, (⟨#[]⟩ : ByteArray)⟩⟩
theorem rd_fld : rd_T37 [fld] 0 = fld := rfl
theorem clean_fld : value_Clean.f fld.f1.f0 fld.f1.f1 fld.f1.f2 fld.f1.f3 fld.f1.f4 = some (1, true, 0, 0, (⟨#[]⟩ : ByteArray)) := rfl
theorem right_fld : value_Right.f 1 true 0 0 (⟨#[]⟩ : ByteArray) = some true := by
  rw [right_ok 1 true 0 0 _ (by decide) (by decide)]
  unfold rightV
  rw [(sameV_iff ..).2 (show (_ : V5) = cleanV 1 true 0 0 ⟨#[]⟩ from rfl)]
  rfl
theorem tidy_fld (k : Nat) (id : ByteArray) (c : Int) : paper_Tidy.f (k + 2) id c [fld] = some (id, c, [fld]) := by
  unfold paper_Tidy.f
  rw [paper_Tidy.l0, if_pos (by decide), if_pos (by decide), if_pos (by decide), rd_fld, clean_fld, bind_some', if_pos (by decide), w01, paper_Tidy.l0, if_neg (show ¬ (1 : Int) < (([fld] : List S37).length : Int) from by decide)]
  rfl
theorem name_fld (k : Nat) (hk : 10 ≤ k) : paper_IsName.f k fld.f0 = some true := by
  rw [isName_ok k _ (by show 1 + 3 ≤ k; omega) (by decide)]; rfl
theorem id_a (k : Nat) (hk : 10 ≤ k) : paper_IsID.f k (⟨#[97]⟩ : ByteArray) = some true := by
  rw [isID_ok k _ (by show 1 + 3 ≤ k; omega) (by decide)]; rfl
theorem check_fld (k : Nat) (hk : 20 ≤ k) : paper_Check.f (k + 3) (⟨#[97]⟩ : ByteArray) 2 [fld] = some 0 := by
  unfold paper_Check.f
  rw [id_a (k + 3) (by omega), bind_some', if_pos rfl, if_neg (by decide), paper_Check.j0, if_neg (by decide), if_neg (by decide), if_neg (by decide), paper_Check.l0, if_pos (by decide), if_pos (by decide), if_pos (by decide), rd_fld,
    name_fld (k + 1) (by omega), bind_some', if_pos rfl, clean_fld, bind_some', right_fld, bind_some', if_pos rfl, w01, paper_Check.l0, if_neg (show ¬ (1 : Int) < (([fld] : List S37).length : Int) from by decide)]
  obtain ⟨k, rfl⟩ : ∃ q, k = q + 2 := ⟨k - 2, by omega⟩
  rw [tidy_fld k, bind_some', paper_Check.l1, if_neg (by decide)]
theorem value_fld (k : Nat) (hk : 20 ≤ k) : value_Bytes.f k fld.f1.f0 fld.f1.f1 fld.f1.f2 fld.f1.f3 fld.f1.f4 = some (B [1, 1, 1]) := by
  have hr : rightV 1 true 0 0 (⟨#[]⟩ : ByteArray) = true := by
    have := right_fld
    rw [right_ok 1 true 0 0 _ (by decide) (by decide)] at this
    exact Option.some.inj this
  show value_Bytes.f k 1 true 0 0 (⟨#[]⟩ : ByteArray) = _
  rw [valbytes_ok k hk 1 true 0 0 _ (by decide) (by decide), if_pos hr]
  congr 1
  apply L_inj
  unfold valL
  rw [if_pos rfl, L_append, (numI_some (n := 1) (by omega) (by omega)).1, L_B, show (1 : Int).toNat = 1 from rfl, numL_one 1 (by omega) (by omega)]
  rfl
theorem text_one (a : ByteArray) (x : List UInt8) (h : L a = x) (n : Nat) (hn : a.size = n) (h0 : 0 < n) (h1 : n < 256) : L (numI a.size ++ a) = 1 :: UInt8.ofNat n :: x := by
  rw [L_append, (numI_some (n := (a.size : Int)) (by omega) (by omega)).1, L_B, Int.toNat_natCast, hn, numL_one n h0 h1, h]
  rfl
theorem bytes_fld (k : Nat) (hk : 60 ≤ k) : ∃ s, paper_Bytes.f k (⟨#[97]⟩ : ByteArray) 2 [fld] = some (s, 0) ∧ L s = [1, 1, 97, 1, 2, 1, 1, 1, 1, 120, 1, 3, 1, 1, 1] := by
  obtain ⟨k, rfl⟩ : ∃ q, k = q + 3 := ⟨k - 3, by omega⟩
  have n2 := numI_size 2
  have n1 := numI_size 1
  have na := numI_size (((⟨#[97]⟩ : ByteArray).size : Nat) : Int)
  have nx := numI_size (((fld.f0).size : Nat) : Int)
  have e97 : (⟨#[97]⟩ : ByteArray).size = 1 := rfl
  have e120 : (fld.f0).size = 1 := rfl
  have e111 : (B [1, 1, 1]).size = 3 := rfl
  have n111 := numI_size (((B [1, 1, 1]).size : Nat) : Int)
  unfold paper_Bytes.f
  rw [check_fld k (by omega), bind_some', if_pos rfl, show k + 3 = (k + 1) + 2 from rfl, tidy_fld (k + 1), bind_some']
  dsimp only
  rw [show (⟨#[]⟩ : ByteArray) = B [] from rfl, w_text (k + 1 + 2) (by omega) (B []) false _ (by rw [e97, size_B]; decide), bind_some', B_nil_append]
  dsimp only
  rw [w_num (k + 1 + 2) (by omega) _ 2 (by rw [ByteArray.size_append]; omega) (by omega) (by omega), bind_some']
  dsimp only
  rw [show (([fld].length : Nat) : Int) = 1 from rfl, w_num (k + 1 + 2) (by omega) _ 1 (by simp only [ByteArray.size_append]; omega) (by omega) (by omega), bind_some']
  dsimp only
  rw [paper_Bytes.l0, if_pos (by decide), if_pos (by decide), if_pos (by decide), rd_fld, w_text (k + 1 + 1) (by omega) _ false _ (by simp only [ByteArray.size_append]; omega), bind_some', value_fld (k + 1 + 1) (by omega), bind_some']
  dsimp only
  rw [w_text (k + 1 + 1) (by omega) _ false _ (by simp only [ByteArray.size_append]; omega), bind_some', w01, paper_Bytes.l0, if_neg (by decide), w_all, bind_some']
  refine ⟨_, rfl, ?_⟩
  dsimp only
  rw [L_append, L_append, L_append, L_append, text_one _ [97] rfl 1 rfl (by omega) (by omega), text_one fld.f0 [120] rfl 1 rfl (by omega) (by omega), text_one (B [1, 1, 1]) [1, 1, 1] rfl 3 rfl (by omega) (by omega),
    (numI_some (n := 2) (by omega) (by omega)).1, (numI_some (n := 1) (by omega) (by omega)).1, L_B, L_B, show (2 : Int).toNat = 2 from rfl, show (1 : Int).toNat = 1 from rfl, numL_one 2 (by omega) (by omega), numL_one 1 (by omega) (by omega)]
  rfl
theorem words_awake (k : Nat) (hk : 60 ≤ k) : chartularylaw05_awake.f k = some true := by
  obtain ⟨s, h, hs⟩ := bytes_fld k hk
  unfold chartularylaw05_awake.f
  rw [show ([(⟨(⟨#[120]⟩ : ByteArray), (⟨1, true, 0, 0, (⟨#[]⟩ : ByteArray)⟩ : S35)⟩ : S37)] : List S37) = [fld] from rfl, h, bind_some']
  dsimp only
  rw [if_pos rfl, toList_eq, hs]
  rfl
theorem words_j0 (s : ByteArray) (hs : s.size ≤ 100) : chartularylaw05_PaperWords.j0 201 s = some true := by
  rw [chartularylaw05_PaperWords.j0, isID_ok 200 s (by omega) (by omega), bind_some', lword_ok 200 s 24 (by omega) (by omega), bind_some', if_pos (by simp), isName_ok 200 s (by omega) (by omega), bind_some', lword_ok 200 s 16 (by omega) (by omega),
    bind_some', if_pos (by simp), words_awake 200 (by omega)]
  rfl
/-- PaperWords, in plain lists. -/
theorem PaperWords : chartularylaw05_PaperWords.Pure := by
  intro s hs
  refine ⟨201, ?_⟩
  unfold chartularylaw05_PaperWords.f
  by_cases h : (s.size : Int) > 100
  · rw [if_pos h, if_pos (by decide), if_pos (by omega)]
    exact words_j0 _ (by rw [ByteArray.size_extract]; omega)
  · rw [if_neg h]
    exact words_j0 s (by omega)
end Go.Proofs.Ytabdmnoejoiboaa.Pure
