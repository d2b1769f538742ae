/- Plain laws: the reader of octets, and the document's. -/
import Derived.Test.YtnlanlhhcgdjiaaPBase
namespace Go.Proofs.Ytnlanlhhcgdjiaa.Pure
open Go Go.Proofs.Ytnlanlhhcgdjiaa.E Go.Proofs.Ytnlanlhhcgdjiaa.Eng
set_option linter.unusedVariables false
set_option linter.unusedSimpArgs false

/-- What is left of a text. -/
def rest (s : ByteArray) (at_ : Nat) : ByteArray := s.extract at_ s.size
theorem rest_size {s : ByteArray} {a : Nat} : (rest s a).size = s.size - a := by simp [rest, ByteArray.size_extract]
def rawV (s : ByteArray) (a : Nat) (e n : Int) : ByteArray × Nat × Int :=
  if e ≠ 0 then (⟨#[]⟩, a, e) else if n < 0 then (⟨#[]⟩, a, 1) else if n > (s.size : Int) - a then (⟨#[]⟩, a, 2) else (s.extract a (a + n.toNat), a + n.toNat, 0)
theorem rawV_err {s : ByteArray} {a : Nat} {e n : Int} (h : e ≠ 0) : rawV s a e n = (⟨#[]⟩, a, e) := by unfold rawV; rw [if_pos h]
theorem rawV_neg {s : ByteArray} {a : Nat} {e n : Int} (h : e = 0) (h1 : n < 0) : rawV s a e n = (⟨#[]⟩, a, 1) := by unfold rawV; rw [if_neg (by simpa using h), if_pos h1]
theorem rawV_out {s : ByteArray} {a : Nat} {e n : Int} (h : e = 0) (h1 : ¬ n < 0) (h2 : n > (s.size : Int) - a) : rawV s a e n = (⟨#[]⟩, a, 2) := by unfold rawV; rw [if_neg (by simpa using h), if_neg h1, if_pos h2]
theorem rawV_in {s : ByteArray} {a : Nat} {e n : Int} (h : e = 0) (h1 : ¬ n < 0) (h2 : ¬ n > (s.size : Int) - a) : rawV s a e n = (s.extract a (a + n.toNat), a + n.toNat, 0) := by unfold rawV; rw [if_neg (by simpa using h), if_neg h1, if_neg h2]
theorem rawV_le {s : ByteArray} {a : Nat} (h : a ≤ s.size) (e n : Int) : (rawV s a e n).2.1 ≤ s.size := by
  unfold rawV; split
  · exact h
  · split
    · exact h
    · split
      · exact h
      · show a + n.toNat ≤ s.size; omega
theorem err_ok (s : ByteArray) (a e : Int) : Runs (fun k => octet_Reader_Err.f k s a e) ((e, ()), ()) := Runs.step (fun k => rfl) Runs.some
theorem fail_ok (n : Int) (s : ByteArray) (a e : Int) : Runs (fun k => octet_Reader_Fail.f k n s a e) ((), ((s, a, (if e = 0 then n else e), ()), ())) := by
  refine Runs.step (fun k => rfl) (Runs.cond (fun h => ?_) (fun h => ?_))
  · have : e = 0 := by simpa using h
    exact Runs.some' (by rw [if_pos this])
  · have : e ≠ 0 := by simpa using h
    exact Runs.some' (by rw [if_neg this])
theorem reader_raw {s : ByteArray} (hs : s.size ≤ 30000000) {a : Nat} (h : a ≤ s.size) (e n : Int) :
    Runs (fun k => octet_Reader_Raw.f k n s (a : Int) e) (((rawV s a e n).1, ()), ((s, ((rawV s a e n).2.1 : Int), (rawV s a e n).2.2, ()), ())) := by
  refine Runs.step (fun k => rfl) (Runs.bind (err_ok _ _ _) (Runs.cond (fun h1 => ?_) (fun h1 => ?_)))
  · have he : e ≠ 0 := by simpa using h1
    exact Runs.some' (by rw [rawV_err he])
  · have he : e = 0 := by simpa using h1
    refine Runs.dec (fun h2 => Runs.bind (fail_ok _ _ _ _) (Runs.some' ?_)) (fun h2 => ?_)
    · rw [rawV_neg he h2]; simp only [if_pos he]
    · rw [wrap_i64 (n := (s.size : Int) - a) (by omega) (by omega)]
      refine Runs.dec (fun h3 => Runs.bind (fail_ok _ _ _ _) (Runs.some' ?_)) (fun h3 => ?_)
      · rw [rawV_out he h2 h3]; simp only [if_pos he]
      · rw [wrap_i64 (n := (a : Int) + n) (by omega) (by omega), wrap_i64 (n := (a : Int) + n - n) (by omega) (by omega)]
        have e1 : (a : Int) + n - n = a := by omega
        rw [e1]
        refine Runs.ck (by simp; omega) (Runs.some' ?_)
        rw [rawV_in he h2 h3]
        have e2 : ((a : Int) + n).toNat = a + n.toNat := by omega
        have e3 : (a : Int) + n = ((a + n.toNat : Nat) : Int) := by omega
        simp only [e2, Int.toNat_natCast, he]
        rw [e3]
theorem rest_take {s : ByteArray} {a m : Nat} (h : a + m ≤ s.size) : (rest s a).extract 0 m = s.extract a (a + m) := by
  unfold rest
  rw [ByteArray.extract_extract]
  congr 1; omega
theorem rest_drop {s : ByteArray} {a m : Nat} (h : a + m ≤ s.size) : (rest s a).extract m (rest s a).size = rest s (a + m) := by
  rw [rest_size]
  unfold rest
  rw [ByteArray.extract_extract]
  congr 1; omega
theorem plain_raw {s : ByteArray} (hs : s.size ≤ 30000000) {a : Nat} (h : a ≤ s.size) (e n : Int) :
    Runs (fun k => chartularylaw01_plain_raw.f k n (rest s a) e) (((rawV s a e n).1, ()), ((rest s (rawV s a e n).2.1, (rawV s a e n).2.2, ()), ())) := by
  have j1 : ∀ e' : Int, e' ≠ 0 → Runs (fun k => chartularylaw01_plain_raw.j1 k n (rest s a) e') (((⟨#[]⟩ : ByteArray), ()), ((rest s a, e', ()), ())) := fun e' he =>
    Runs.step (fun k => rfl) (Runs.yes (by simpa using he) Runs.some)
  have j0 : ∀ e' : Int, e' ≠ 0 → Runs (fun k => chartularylaw01_plain_raw.j0 k n (rest s a) e') (((⟨#[]⟩ : ByteArray), ()), ((rest s a, e', ()), ())) := fun e' he =>
    Runs.step (fun k => rfl) (Runs.no (by simpa using he) (j1 e' he))
  refine Runs.step (fun k => rfl) (Runs.cond (fun h1 => ?_) (fun h1 => ?_))
  · have he : e = 0 := by simpa using h1
    refine Runs.dec (fun h2 => ?_) (fun h2 => ?_)
    · exact (j0 1 (by decide)).of_eq (by rw [rawV_neg he h2])
    · refine Runs.step (fun k => rfl) (Runs.yes h1 (Runs.dec (fun h3 => ?_) (fun h3 => ?_)))
      · rw [rest_size] at h3
        exact (j1 2 (by decide)).of_eq (by rw [rawV_out he h2 (by omega)])
      · rw [rest_size] at h3
        have h4 : a + n.toNat ≤ s.size := by omega
        refine Runs.step (fun k => rfl) (Runs.no (by simpa using he) (Runs.ck ?_ (Runs.ck ?_ (Runs.some' ?_))))
        · simp only [rest_size, Bool.and_eq_true, decide_eq_true_eq]; omega
        · simp only [rest_size, Bool.and_eq_true, decide_eq_true_eq]; omega
        · rw [rawV_in he h2 (by omega)]
          have e1 : ((rest s a).size : Int).toNat = (rest s a).size := by omega
          rw [e1, rest_drop h4, he]
          show ((ByteArray.extract (rest s a) 0 n.toNat, ()), _) = _
          rw [rest_take h4]
  · have he : e ≠ 0 := by simpa using h1
    exact (j0 e he).of_eq (by rw [rawV_err he])
end Go.Proofs.Ytnlanlhhcgdjiaa.Pure
