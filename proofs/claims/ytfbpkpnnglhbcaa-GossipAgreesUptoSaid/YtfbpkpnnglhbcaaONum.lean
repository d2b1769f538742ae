/- Plain laws: numbers and texts as octets. -/
import Derived.Test.YtfbpkpnnglhbcaaPBase
namespace Go.Proofs.Ytfbpkpnnglhbcaa.Pure
open Go Go.Proofs.Ytfbpkpnnglhbcaa.E Go.Proofs.Ytfbpkpnnglhbcaa.Eng
set_option linter.unusedVariables false
set_option linter.unusedSimpArgs false
def digs (n : Nat) : List UInt8 := if h : n = 0 then [] else digs (n / 256) ++ [UInt8.ofNat (n % 256)]
termination_by n
decreasing_by omega
theorem digs_zero : digs 0 = [] := by unfold digs; simp
theorem digs_pos {n : Nat} (h : n ≠ 0) : digs n = digs (n / 256) ++ [UInt8.ofNat (n % 256)] := by rw [digs, dif_neg h]
theorem digs_len : ∀ (m n : Nat), n < 256 ^ m → (digs n).length ≤ m
 | 0, n, h => by
  have h0 : n = 0 := by simpa using h
  rw [h0, digs_zero]; simp
 | m + 1, n, h => by
  by_cases h0 : n = 0
  ·subst h0; rw [digs_zero]; simp
  ·rw [digs_pos h0, List.length_append]
   have := digs_len m (n / 256) (by rw [Nat.pow_succ] at h; omega)
   simp; omega
def ofL (l : List UInt8) : ByteArray := ⟨l.toArray⟩
theorem ofL_size (l : List UInt8) : (ofL l).size = l.length := by simp [ofL, ← ByteArray.size_data]
theorem ofL_app (l r : List UInt8) : ofL l ++ ofL r = ofL (l ++ r) := by
 have : (ofL l ++ ofL r).data = (ofL (l ++ r)).data := by rw [ByteArray.data_append]; simp [ofL]
 cases h1 : ofL l ++ ofL r; cases h2 : ofL (l ++ r)
 rw [h1, h2] at this; simp only at this; rw [this]
theorem strOf_one (n : Int) : strOf [n] = ofL [UInt8.ofNat n.toNat] := rfl
theorem wrap_u8_mod (n : Nat) : IntKind.wrap .u8 (n : Int) = ((n % 256 : Nat) : Int) := by
 simp only [IntKind.wrap, IntKind.bits, IntKind.signed, Bool.false_and]
 simp
def numB (n : Nat) : ByteArray := ofL (UInt8.ofNat (digs n).length :: digs n)
def headed (l : List UInt8) : ByteArray := ofL (UInt8.ofNat l.length :: l)
theorem octet_loop : ∀ (m n : Nat), n < 256 ^ m → m ≤ 7 → ∀ L : List UInt8, L.length + m ≤ 200 →
  Runs (fun k => octet_Num.l0 k (n : Int) (ofL L)) ((headed (digs n ++ L), ()), ()) := by
 have fin : ∀ L : List UInt8, L.length ≤ 200 → Runs (fun k => octet_Num.l0 k 0 (ofL L)) ((headed L, ()), ()) := fun L hL => by
  refine Runs.step (fun k => rfl) (Runs.ck ?_ (Runs.some' ?_))
  ·apply decide_eq_true
   rw [ofL_size, strOf_one, ofL_size]; simp; omega
  ·rw [ofL_size, wrap_u8_mod, strOf_one, ofL_app]
   have : (L.length % 256) = L.length := by omega
   rw [this]; rfl
 intro m
 induction m with
 | zero =>
  intro n h hm L hL
  have h0 : n = 0 := by simpa using h
  subst h0
  rw [digs_zero]; exact fin L (by omega)
 | succ m ih =>
  intro n h hm L hL
  by_cases h0 : n = 0
  ·subst h0; rw [digs_zero]; exact fin L (by omega)
  ·have hlt : n / 256 < 256 ^ m := by rw [Nat.pow_succ] at h; omega
   have := ih (n / 256) hlt (by omega) (UInt8.ofNat (n % 256) :: L) (by simp; omega)
   refine Runs.step (fun k => rfl) (Runs.yes (by apply decide_eq_true; omega) (Runs.ck ?_ (Runs.ck (by rfl) ?_)))
   ·apply decide_eq_true
    rw [ofL_size, strOf_one, ofL_size]; simp; omega
   ·rw [wrap_u8_mod, strOf_one, ofL_app, digs_pos h0, List.append_assoc]
    have e1 : Int.fdiv (n : Int) (2 ^ (min (8 : Int).toNat (IntKind.bits .i64))) = ((n / 256 : Nat) : Int) := by
     show Int.fdiv (n : Int) 256 = _
     rw [Int.fdiv_eq_ediv_of_nonneg _ (by decide)]; omega
    rw [e1]; exact this
theorem octet_num {x : Int} (h0 : 0 ≤ x) (h : x < 72057594037927936) : Runs (fun k => octet_Num.f k x) ((numB x.toNat, ()), ()) := by
 refine Runs.step (fun k => rfl) (Runs.no (by apply decide_eq_false; omega) (Runs.no (by apply decide_eq_false; omega) ?_))
 have := octet_loop 7 x.toNat (by show x.toNat < 72057594037927936; omega) (by omega) [] (by simp)
 rw [List.append_nil, show ((x.toNat : Nat) : Int) = x by omega] at this; exact this
theorem numB_size {n : Nat} (h : n < 72057594037927936) : (numB n).size ≤ 8 ∧ 1 ≤ (numB n).size := by
 have := digs_len 7 n h
 unfold numB; rw [ofL_size]; simp; omega
theorem numB_ne {n : Nat} : numB n ≠ ⟨#[]⟩ := by
 intro h
 have := congrArg ByteArray.size h
 unfold numB at this; rw [ofL_size] at this
 have h0 : (⟨#[]⟩ : ByteArray).size = 0 := rfl
 rw [h0] at this; simp at this
theorem bapp_assoc (a b c : ByteArray) : a ++ b ++ c = a ++ (b ++ c) := by
 have : (a ++ b ++ c).data = (a ++ (b ++ c)).data := by simp only [ByteArray.data_append, Array.append_assoc]
 cases h1 : a ++ b ++ c; cases h2 : a ++ (b ++ c)
 rw [h1, h2] at this; simp only at this; rw [this]
theorem octet_text {t : ByteArray} (h : t.size ≤ 1048576) : Runs (fun k => octet_Text.f k t) ((numB t.size ++ t, ()), ()) := by
 have hn := octet_num (x := (t.size : Int)) (by omega) (by omega)
 have := numB_size (n := t.size) (by omega)
 refine Runs.step (fun k => rfl) (Runs.bind hn (Runs.ck ?_ (Runs.some' ?_)))
 ·apply decide_eq_true; dsimp only; rw [Int.toNat_natCast]; omega
 ·dsimp only; rw [Int.toNat_natCast]
end Go.Proofs.Ytfbpkpnnglhbcaa.Pure
