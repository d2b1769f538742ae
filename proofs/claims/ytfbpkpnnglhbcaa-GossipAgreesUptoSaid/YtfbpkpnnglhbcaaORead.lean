/- Plain laws: the reader of octets. -/
import Derived.Test.YtfbpkpnnglhbcaaPBase
namespace Go.Proofs.Ytfbpkpnnglhbcaa.Pure
open Go Go.Proofs.Ytfbpkpnnglhbcaa.E Go.Proofs.Ytfbpkpnnglhbcaa.Eng
set_option linter.unusedVariables false
set_option linter.unusedSimpArgs false
def rest (s : ByteArray) (at_ : Nat) : ByteArray := s.extract at_ s.size
def rawV (s : ByteArray) (a : Nat) (e n : Int) : ByteArray × Nat × Int :=
 if e ≠ 0 then (⟨#[]⟩, a, e) else if n < 0 then (⟨#[]⟩, a, 1) else if n > (s.size : Int) - a then (⟨#[]⟩, a, 2) else (s.extract a (a + n.toNat), a + n.toNat, 0)
theorem rawV_err {s : ByteArray} {a : Nat} {e n : Int} (h : e ≠ 0) : rawV s a e n = (⟨#[]⟩, a, e) := by unfold rawV; rw [if_pos h]
theorem rawV_neg {s : ByteArray} {a : Nat} {e n : Int} (h : e = 0) (h1 : n < 0) : rawV s a e n = (⟨#[]⟩, a, 1) := by unfold rawV; rw [if_neg (by simpa using h), if_pos h1]
theorem rawV_out {s : ByteArray} {a : Nat} {e n : Int} (h : e = 0) (h1 : ¬ n < 0) (h2 : n > (s.size : Int) - a) : rawV s a e n = (⟨#[]⟩, a, 2) := by unfold rawV; rw [if_neg (by simpa using h), if_neg h1, if_pos h2]
theorem rawV_in {s : ByteArray} {a : Nat} {e n : Int} (h : e = 0) (h1 : ¬ n < 0) (h2 : ¬ n > (s.size : Int) - a) : rawV s a e n = (s.extract a (a + n.toNat), a + n.toNat, 0) := by unfold rawV; rw [if_neg (by simpa using h), if_neg h1, if_neg h2]
theorem rawV_le {s : ByteArray} {a : Nat} (h : a ≤ s.size) (e n : Int) : (rawV s a e n).2.1 ≤ s.size := by
 unfold rawV; split
 ·exact h
 ·split
  ·exact h
  ·split
   ·exact h
   ·show a + n.toNat ≤ s.size; omega
theorem err_ok (s : ByteArray) (a e : Int) : Runs (fun k => octet_Reader_Err.f k s a e) ((e, ()), ()) := Runs.step (fun k => rfl) Runs.some
theorem fail_ok (n : Int) (s : ByteArray) (a e : Int) : Runs (fun k => octet_Reader_Fail.f k n s a e) ((), ((s, a, (if e = 0 then n else e), ()), ())) := by
 refine Runs.step (fun k => rfl) (Runs.cond (fun h => ?_) (fun h => ?_))
 ·have : e = 0 := by simpa using h
  exact Runs.some' (by rw [if_pos this])
 ·have : e ≠ 0 := by simpa using h
  exact Runs.some' (by rw [if_neg this])
theorem reader_raw {s : ByteArray} (hs : s.size ≤ 30000000) {a : Nat} (h : a ≤ s.size) (e n : Int) :
  Runs (fun k => octet_Reader_Raw.f k n s (a : Int) e) (((rawV s a e n).1, ()), ((s, ((rawV s a e n).2.1 : Int), (rawV s a e n).2.2, ()), ())) := by
 refine Runs.step (fun k => rfl) (Runs.bind (err_ok _ _ _) (Runs.cond (fun h1 => ?_) (fun h1 => ?_)))
 ·have he : e ≠ 0 := by simpa using h1
  exact Runs.some' (by rw [rawV_err he])
 ·have he : e = 0 := by simpa using h1
  refine Runs.dec (fun h2 => Runs.bind (fail_ok _ _ _ _) (Runs.some' ?_)) (fun h2 => ?_)
  ·rw [rawV_neg he h2]; simp only [if_pos he]
  ·rw [wrap_i64 (n := (s.size : Int) - a) (by omega) (by omega)]
   refine Runs.dec (fun h3 => Runs.bind (fail_ok _ _ _ _) (Runs.some' ?_)) (fun h3 => ?_)
   ·rw [rawV_out he h2 h3]; simp only [if_pos he]
   ·rw [wrap_i64 (n := (a : Int) + n) (by omega) (by omega), wrap_i64 (n := (a : Int) + n - n) (by omega) (by omega)]
    have e1 : (a : Int) + n - n = a := by omega
    rw [e1]
    refine Runs.ck (by simp; omega) (Runs.some' ?_)
    rw [rawV_in he h2 h3]
    have e2 : ((a : Int) + n).toNat = a + n.toNat := by omega
    have e3 : (a : Int) + n = ((a + n.toNat : Nat) : Int) := by omega
    simp only [e2, Int.toNat_natCast, he]
    rw [e3]
theorem or_byte {x t : Int} (h0 : 0 ≤ x) (h1 : x < 281474976710656) (h2 : 0 ≤ t) (h3 : t < 256) :
  IntKind.wrap .i64 ((BitVec.ofInt (IntKind.bits .i64) (IntKind.wrap .i64 (x * 2 ^ (min (8 : Int).toNat (IntKind.bits .i64)))) ||| BitVec.ofInt (IntKind.bits .i64) (IntKind.wrap .i64 t)).toNat : Int) = 256 * x + t := by
 obtain ⟨n, rfl⟩ := Int.eq_ofNat_of_zero_le h0
 obtain ⟨m, rfl⟩ := Int.eq_ofNat_of_zero_le h2
 have e0 : (n : Int) * 2 ^ (min (8 : Int).toNat (IntKind.bits .i64)) = ((n * 256 : Nat) : Int) := by
  have e : (2 : Int) ^ (min (8 : Int).toNat (IntKind.bits .i64)) = 256 := rfl
  rw [e]; omega
 rw [e0, wrap_i64 (n := ((n * 256 : Nat) : Int)) (by omega) (by omega), wrap_i64 (n := (m : Int)) (by omega) (by omega)]
 have e1 : (BitVec.ofInt (IntKind.bits .i64) ((n * 256 : Nat) : Int) ||| BitVec.ofInt (IntKind.bits .i64) (m : Int)).toNat = 256 * n + m := by
  rw [BitVec.toNat_or, BitVec.toNat_ofInt, BitVec.toNat_ofInt]
  show ((((n * 256 : Nat) : Int) % (2 ^ 64 : Nat)).toNat ||| (((m : Nat) : Int) % (2 ^ 64 : Nat)).toNat) = _
  have e2 : ((((n * 256 : Nat) : Int) % (2 ^ 64 : Nat)).toNat) = 2 ^ 8 * n := by omega
  have e3 : ((((m : Nat) : Int) % (2 ^ 64 : Nat)).toNat) = m := by omega
  rw [e2, e3, ← Nat.two_pow_add_eq_or_of_lt (by omega)]
 rw [e1, wrap_i64 (by omega) (by omega)]
 omega
def accum (x : Int) : List UInt8 → Int
 | [] => x
 | b :: r => accum (256 * x + (b.toNat : Int)) r
def finV (x lim : Int) : Int × Int := if x > lim then (0, 3) else (x, 0)
def numV (s : ByteArray) (a : Nat) (e lim : Int) : Int × Nat × Int :=
 match (rawV s a e 1).1.data.toList with
 | [] => (0, (rawV s a e 1).2.1, (rawV s a e 1).2.2)
 | t :: _ => if 7 < t.toNat then (0, (rawV s a e 1).2.1, 4) else
  if (rawV s (rawV s a e 1).2.1 0 t.toNat).2.2 ≠ 0 then (0, (rawV s (rawV s a e 1).2.1 0 t.toNat).2) else
  if (rawV s (rawV s a e 1).2.1 0 t.toNat).1.data.toList.head? = some 0 then (0, (rawV s (rawV s a e 1).2.1 0 t.toNat).2.1, 4) else
  ((finV (accum 0 (rawV s (rawV s a e 1).2.1 0 t.toNat).1.data.toList) lim).1, (rawV s (rawV s a e 1).2.1 0 t.toNat).2.1, (finV (accum 0 (rawV s (rawV s a e 1).2.1 0 t.toNat).1.data.toList) lim).2)
theorem byte_lt (b : UInt8) : (b.toNat : Int) < 256 := by have := b.toNat_lt; omega
theorem reader_loop {L : List UInt8} (hL : L.length ≤ 7) (lim : Int) (s : ByteArray) (a : Int) : ∀ (m i : Nat) (x : Int), i + m = L.length → 0 ≤ x → x + 1 ≤ ((256 ^ i : Nat) : Int) → (i = 0 → L.head? ≠ some 0) →
  Runs (fun k => octet_Reader_Num.l0 k lim x (L.map fun b => (b.toNat : Int)) ((L.map fun b => (b.toNat : Int)).length : Int) (i : Int) s a 0)
   (((finV (accum x (L.drop i)) lim).1, ()), ((s, a, (finV (accum x (L.drop i)) lim).2, ()), ())) := by
 intro m
 induction m with
 | zero =>
  intro i x hi hx hb hh
  rw [List.drop_of_length_le (by omega)]
  refine Runs.step (fun k => rfl) (Runs.no (by simp; omega) (Runs.bind (err_ok _ _ _) (Runs.no (by rfl) (Runs.dec (fun h => Runs.bind (fail_ok _ _ _ _) (Runs.some' ?_)) (fun h => Runs.some' ?_)))))
  ·rw [show finV (accum x []) lim = (0, 3) from if_pos h]; rfl
  ·rw [show finV (accum x []) lim = (x, 0) from if_neg h]
 | succ m ih =>
  intro i x hi hx hb hh
  have hlt : i < L.length := by omega
  have hb2 : x < 281474976710656 := by
   have : 256 ^ i ≤ 256 ^ 6 := Nat.pow_le_pow_right (by decide) (by omega)
   have e6 : 256 ^ 6 = 281474976710656 := rfl
   omega
  have hd : L.drop i = L[i] :: L.drop (i + 1) := List.drop_eq_getElem_cons hlt
  have hby := byte_lt L[i]
  have hnx : Runs (fun k => octet_Reader_Num.l0 k lim (IntKind.wrap .i64 ((BitVec.ofInt (IntKind.bits .i64) (IntKind.wrap .i64 (x * 2 ^ (min (8 : Int).toNat (IntKind.bits .i64)))) ||| BitVec.ofInt (IntKind.bits .i64) (IntKind.wrap .i64 (L[i].toNat : Int))).toNat : Int)) (L.map fun b => (b.toNat : Int)) ((L.map fun b => (b.toNat : Int)).length : Int) (IntKind.wrap .i64 ((i : Int) + 1)) s a 0)
    (((finV (accum x (L.drop i)) lim).1, ()), ((s, a, (finV (accum x (L.drop i)) lim).2, ()), ())) := by
   rw [or_byte hx hb2 (by omega) hby, wrap_i64 (n := (i : Int) + 1) (by omega) (by omega), hd]
   have := ih (i + 1) (256 * x + (L[i].toNat : Int)) (by omega) (by omega) (by rw [Nat.pow_succ]; omega) (by omega)
   simpa [accum] using this
  refine Runs.step (fun k => rfl) (Runs.yes (by simp; omega) (Runs.opt (v := (L[i].toNat : Int)) (by rw [rdo_at (by simpa using hlt)]; simp) (Runs.cond (fun h1 => ?_) (fun h1 => ?_))))
  ·have h0 : i = 0 := by simp at h1; omega
   refine Runs.no ?_ (Runs.ck (by rfl) hnx)
   subst h0
   have := hh rfl
   cases L with
   | nil => simp at hlt
   | cons b r =>
    simp only [List.head?_cons, ne_eq, Option.some.injEq] at this
    simp only [List.getElem_cons_zero, beq_eq_false_iff_ne, ne_eq]
    intro h; apply this
    have : b.toNat = 0 := by omega
    exact UInt8.toNat_inj.mp this
  ·exact Runs.ck (by rfl) hnx
theorem toList_nil {b : ByteArray} (h : b.data.toList = []) : b = ⟨#[]⟩ := by
 cases b; congr 1; exact Array.toList_inj.1 h
theorem rawV_one {s : ByteArray} {a : Nat} {e n : Int} {t : UInt8} {r : List UInt8} (h : (rawV s a e n).1.data.toList = t :: r) : (rawV s a e n).2.2 = 0 := by
 by_cases he : e ≠ 0
 ·rw [rawV_err he] at h; simp at h
 ·have he : e = 0 := by simpa using he
  by_cases h1 : n < 0
  ·rw [rawV_neg he h1] at h; simp at h
  ·by_cases h2 : n > (s.size : Int) - a
   ·rw [rawV_out he h1 h2] at h; simp at h
   ·rw [rawV_in he h1 h2]
theorem rawV_bad {s : ByteArray} {a : Nat} {e n : Int} (h : (rawV s a e n).2.2 ≠ 0) : (rawV s a e n).1 = ⟨#[]⟩ := by
 by_cases he : e ≠ 0
 ·rw [rawV_err he]
 ·have he : e = 0 := by simpa using he
  by_cases h1 : n < 0
  ·rw [rawV_neg he h1]
  ·by_cases h2 : n > (s.size : Int) - a
   ·rw [rawV_out he h1 h2]
   ·rw [rawV_in he h1 h2] at h; simp at h
theorem rawV_len {s : ByteArray} {a : Nat} {e : Int} {n : Nat} : (rawV s a e n).1.data.toList.length ≤ n := by
 have hsz : ∀ b : ByteArray, b.data.toList.length = b.size := fun b => by simp [← ByteArray.size_data]
 rw [hsz]
 by_cases he : e ≠ 0
 ·rw [rawV_err he]; exact Nat.zero_le n
 ·have he : e = 0 := by simpa using he
  by_cases h2 : (n : Int) > (s.size : Int) - a
  ·rw [rawV_out he (by omega) h2]; exact Nat.zero_le n
  ·rw [rawV_in he (by omega) h2]; simp only [ByteArray.size_extract]; omega
theorem bytesOf_eq (b : ByteArray) : bytesOf b = b.data.toList.map fun b => (b.toNat : Int) := rfl
theorem reader_num {s : ByteArray} (hs : s.size ≤ 30000000) {a : Nat} (h : a ≤ s.size) (e lim : Int) :
  Runs (fun k => octet_Reader_Num.f k lim s (a : Int) e) (((numV s a e lim).1, ()), ((s, ((numV s a e lim).2.1 : Int), (numV s a e lim).2.2, ()), ())) := by
 refine Runs.step (fun k => rfl) (Runs.bind (reader_raw hs h e 1) ?_)
 have hle := rawV_le h e 1
 cases hr : (rawV s a e 1).1.data.toList with
 | nil =>
  refine Runs.yes (by rw [toList_nil hr]; exact beq_self_eq_true _) (Runs.some' ?_)
  have : numV s a e lim = (0, (rawV s a e 1).2.1, (rawV s a e 1).2.2) := by unfold numV; rw [hr]
  rw [this]
 | cons t r =>
  have hlt : t.toNat < 256 := t.toNat_lt
  have he0 := rawV_one hr
  refine Runs.no (by rw [beq_text]; apply decide_eq_false; intro h; rw [h] at hr; simp at hr) (Runs.opt (v := (t.toNat : Int)) (by
   have := bto_at (s := (rawV s a e 1).1) (i := 0) (by rw [hr]; simp)
   simp only [hr] at this; exact this) ?_)
  rw [wrap_i64 (n := (t.toNat : Int)) (by omega) (by omega)]
  refine Runs.dec (fun h7 => ?_) (fun h7 => ?_)
  ·refine Runs.bind (fail_ok _ _ _ _) (Runs.some' ?_)
   have : numV s a e lim = (0, (rawV s a e 1).2.1, 4) := by unfold numV; rw [hr]; simp only; rw [if_pos (by omega)]
   rw [this, he0]; rfl
  ·rw [he0]
   refine Runs.bind (reader_raw hs hle 0 _) ?_
   rw [bytesOf_eq]
   by_cases hb : (rawV s (rawV s a e 1).2.1 0 t.toNat).2.2 ≠ 0
   ·have hnil := rawV_bad hb
    have : numV s a e lim = (0, (rawV s (rawV s a e 1).2.1 0 t.toNat).2) := by unfold numV; rw [hr]; simp only; rw [if_neg (by omega), if_pos hb]
    rw [this, hnil]
    refine Runs.step (fun k => rfl) (Runs.no (by rfl) (Runs.bind (err_ok _ _ _) (Runs.yes (by simpa using hb) Runs.some)))
   ·have hb0 : (rawV s (rawV s a e 1).2.1 0 t.toNat).2.2 = 0 := by simpa using hb
    by_cases hh : (rawV s (rawV s a e 1).2.1 0 t.toNat).1.data.toList.head? = some 0
    ·have : numV s a e lim = (0, (rawV s (rawV s a e 1).2.1 0 t.toNat).2.1, 4) := by unfold numV; rw [hr]; simp only; rw [if_neg (by omega), if_neg hb, if_pos hh]
     rw [this, hb0]
     cases hL : (rawV s (rawV s a e 1).2.1 0 t.toNat).1.data.toList with
     | nil => rw [hL] at hh; cases hh
     | cons b q =>
      rw [hL] at hh; simp at hh; subst hh
      exact Runs.step (fun k => rfl) (Runs.yes (by simp) (Runs.opt (v := (0 : Int)) (by simp [rdo]) (Runs.yes (by rfl) (Runs.yes (by rfl) (Runs.bind (fail_ok _ _ _ _) (Runs.some' rfl))))))
    ·have : numV s a e lim = ((finV (accum 0 (rawV s (rawV s a e 1).2.1 0 t.toNat).1.data.toList) lim).1, (rawV s (rawV s a e 1).2.1 0 t.toNat).2.1, (finV (accum 0 (rawV s (rawV s a e 1).2.1 0 t.toNat).1.data.toList) lim).2) := by
      unfold numV; rw [hr]; simp only; rw [if_neg (by omega), if_neg hb, if_neg hh]
     rw [this, hb0]
     have := reader_loop (L := (rawV s (rawV s a e 1).2.1 0 t.toNat).1.data.toList) (Nat.le_trans rawV_len (by omega)) lim s ((rawV s (rawV s a e 1).2.1 0 t.toNat).2.1 : Int) _ 0 0 (Nat.zero_add _) (by omega) (by simp) (fun _ => hh)
     simpa using this
theorem numV_le {s : ByteArray} {a : Nat} (h : a ≤ s.size) (e lim : Int) : (numV s a e lim).2.1 ≤ s.size := by
 have h1 := rawV_le h e 1
 unfold numV
 split
 ·exact h1
 ·split
  ·exact h1
  ·have h2 := rawV_le h1 0 (Int.ofNat (UInt8.toNat (by assumption)))
   split
   ·exact rawV_le h1 _ _
   ·split
    ·exact rawV_le h1 _ _
    ·exact rawV_le h1 _ _
def textV (s : ByteArray) (a : Nat) (e lim : Int) : ByteArray × Nat × Int := rawV s (numV s a e lim).2.1 (numV s a e lim).2.2 (numV s a e lim).1
theorem reader_text {s : ByteArray} (hs : s.size ≤ 30000000) {a : Nat} (h : a ≤ s.size) (e lim : Int) :
  Runs (fun k => octet_Reader_Text.f k lim s (a : Int) e) (((textV s a e lim).1, ()), ((s, ((textV s a e lim).2.1 : Int), (textV s a e lim).2.2, ()), ())) :=
 Runs.step (fun k => rfl) (Runs.bind (reader_num hs h e lim) (Runs.bind (reader_raw hs (numV_le h e lim) _ _) Runs.some))
theorem left_ok {s : ByteArray} (hs : s.size ≤ 30000000) {a : Nat} (ha : a ≤ s.size) (e : Int) : Runs (fun k => octet_Reader_Left.f k s (a : Int) e) (((if e = 0 then ((s.size - a : Nat) : Int) else 0), ()), ()) := by
 refine Runs.step (fun k => rfl) (Runs.bind (err_ok _ _ _) (Runs.cond (fun h => ?_) (fun h => ?_)))
 ·have he : e ≠ 0 := by simpa using h
  exact Runs.some' (by rw [if_neg he])
 ·have he : e = 0 := by simpa using h
  exact Runs.some' (by rw [if_pos he, wrap_i64 (by omega) (by omega), Int.ofNat_sub ha])
def flagV (r : ByteArray × Nat × Int) : Bool × Nat × Int := if !(Op.bytesLess r.1.toList (⟨#[1]⟩ : ByteArray).toList || r.1.toList == (⟨#[1]⟩ : ByteArray).toList) then (false, r.2.1, (if r.2.2 = 0 then 4 else r.2.2)) else (r.1.toList == (⟨#[1]⟩ : ByteArray).toList, r.2)
theorem end_ok {s : ByteArray} (hs : s.size ≤ 30000000) {a : Nat} (ha : a ≤ s.size) (e : Int) :
  Runs (fun k => octet_Reader_End.f k s (a : Int) e) (((if e = 0 ∧ a < s.size then 4 else e), ()), ((s, (a : Int), (if e = 0 ∧ a < s.size then 4 else e), ()), ())) := by
 refine Runs.step (fun k => rfl) (Runs.bind (left_ok hs ha e) (Runs.dec (fun h => Runs.bind (fail_ok _ _ _ _) (Runs.bind (err_ok _ _ _) (Runs.some' ?_))) (fun h => Runs.bind (err_ok _ _ _) (Runs.some' ?_))))
 ·dsimp only at h
  by_cases he : e = 0
  ·rw [if_pos he] at h
   have hc : e = 0 ∧ a < s.size := ⟨he, by omega⟩
   rw [if_pos hc]; simp only [if_pos he]
  ·rw [if_neg he] at h; omega
 ·have hc : ¬ (e = 0 ∧ a < s.size) := by
   rintro ⟨he, hlt⟩
   dsimp only at h
   rw [if_pos he] at h; omega
  rw [if_neg hc]
end Go.Proofs.Ytfbpkpnnglhbcaa.Pure
