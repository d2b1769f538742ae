/- Plain laws: a number's bytes, by octet and by the document. -/
import Derived.Test.YtnlanlhhcgdjiaaPReads
namespace Go.Proofs.Ytnlanlhhcgdjiaa.Pure
open Go Go.Proofs.Ytnlanlhhcgdjiaa.E Go.Proofs.Ytnlanlhhcgdjiaa.Eng
set_option linter.unusedVariables false
set_option linter.unusedSimpArgs false

/-- A number's bytes, the greatest first. -/
def digs (n : Nat) : List UInt8 := if h : n = 0 then [] else digs (n / 256) ++ [UInt8.ofNat (n % 256)]
termination_by n
decreasing_by omega
theorem digs_zero : digs 0 = [] := by unfold digs; simp
theorem digs_pos {n : Nat} (h : n ≠ 0) : digs n = digs (n / 256) ++ [UInt8.ofNat (n % 256)] := by rw [digs, dif_neg h]
theorem accum_app (l r : List UInt8) : ∀ x, accum x (l ++ r) = accum (accum x l) r := by
  induction l with
  | nil => intro x; rfl
  | cons b l ih => intro x; exact ih _
theorem accum_digs (n : Nat) : accum 0 (digs n) = (n : Int) := by
  induction n using Nat.strongRecOn with
  | ind n ih =>
    by_cases h : n = 0
    · subst h; rw [digs_zero]; rfl
    · rw [digs_pos h, accum_app, ih (n / 256) (by omega)]
      show 256 * ((n / 256 : Nat) : Int) + ((UInt8.ofNat (n % 256)).toNat : Int) = n
      rw [UInt8.toNat_ofNat']
      omega
theorem digs_len : ∀ (m n : Nat), n < 256 ^ m → (digs n).length ≤ m
  | 0, n, h => by
    have h0 : n = 0 := by simpa using h
    rw [h0, digs_zero]; simp
  | m + 1, n, h => by
    by_cases h0 : n = 0
    · subst h0; rw [digs_zero]; simp
    · rw [digs_pos h0, List.length_append]
      have := digs_len m (n / 256) (by rw [Nat.pow_succ] at h; omega)
      simp; omega
theorem digs_head (n : Nat) : (digs n).head? ≠ some 0 := by
  induction n using Nat.strongRecOn with
  | ind n ih =>
    by_cases h : n = 0
    · subst h; rw [digs_zero]; simp
    · rw [digs_pos h]
      by_cases h1 : n / 256 = 0
      · rw [h1, digs_zero]
        simp only [List.nil_append, List.head?_cons, ne_eq, Option.some.injEq]
        intro h2
        have h3 := congrArg UInt8.toNat h2
        rw [UInt8.toNat_ofNat'] at h3
        have : (0 : UInt8).toNat = 0 := rfl
        omega
      · have := ih (n / 256) (by omega)
        have hne : digs (n / 256) ≠ [] := by rw [digs_pos h1]; simp
        cases hd : digs (n / 256) with
        | nil => exact absurd hd hne
        | cons b r => rw [hd] at this; simpa using this

def ofL (l : List UInt8) : ByteArray := ⟨l.toArray⟩
theorem ofL_size (l : List UInt8) : (ofL l).size = l.length := by simp [ofL, ← ByteArray.size_data]
theorem ofL_app (l r : List UInt8) : ofL l ++ ofL r = ofL (l ++ r) := by
  have : (ofL l ++ ofL r).data = (ofL (l ++ r)).data := by rw [ByteArray.data_append]; simp [ofL]
  cases h1 : ofL l ++ ofL r; cases h2 : ofL (l ++ r)
  rw [h1, h2] at this; simp only at this; rw [this]
theorem strOf_one (n : Int) : strOf [n] = ofL [UInt8.ofNat n.toNat] := rfl
theorem wrap_u8_mod (n : Nat) : IntKind.wrap .u8 (n : Int) = ((n % 256 : Nat) : Int) := by
  simp only [IntKind.wrap, IntKind.bits, IntKind.signed, Bool.false_and]
  simp
/-- A number as it is written. -/
def numB (n : Nat) : ByteArray := ofL (UInt8.ofNat (digs n).length :: digs n)
def headed (l : List UInt8) : ByteArray := ofL (UInt8.ofNat l.length :: l)
theorem octet_loop : ∀ (m n : Nat), n < 256 ^ m → m ≤ 7 → ∀ L : List UInt8, L.length + m ≤ 200 →
    Runs (fun k => octet_Num.l0 k (n : Int) (ofL L)) ((headed (digs n ++ L), ()), ()) := by
  have fin : ∀ L : List UInt8, L.length ≤ 200 → Runs (fun k => octet_Num.l0 k 0 (ofL L)) ((headed L, ()), ()) := fun L hL => by
    refine Runs.step (fun k => rfl) (Runs.ck ?_ (Runs.some' ?_))
    · apply decide_eq_true
      rw [ofL_size, strOf_one, ofL_size]; simp; omega
    · rw [ofL_size, wrap_u8_mod, strOf_one, ofL_app]
      have : (L.length % 256) = L.length := by omega
      rw [this]; rfl
  intro m
  induction m with
  | zero =>
    intro n h hm L hL
    have h0 : n = 0 := by simpa using h
    subst h0
    rw [digs_zero]; exact fin L (by omega)
  | succ m ih =>
    intro n h hm L hL
    by_cases h0 : n = 0
    · subst h0; rw [digs_zero]; exact fin L (by omega)
    · have hlt : n / 256 < 256 ^ m := by rw [Nat.pow_succ] at h; omega
      have := ih (n / 256) hlt (by omega) (UInt8.ofNat (n % 256) :: L) (by simp; omega)
      refine Runs.step (fun k => rfl) (Runs.yes (by apply decide_eq_true; omega) (Runs.ck ?_ (Runs.ck (by rfl) ?_)))
      · apply decide_eq_true
        rw [ofL_size, strOf_one, ofL_size]; simp; omega
      · rw [wrap_u8_mod, strOf_one, ofL_app, digs_pos h0, List.append_assoc]
        have e1 : Int.fdiv (n : Int) (2 ^ (min (8 : Int).toNat (IntKind.bits .i64))) = ((n / 256 : Nat) : Int) := by
          show Int.fdiv (n : Int) 256 = _
          rw [Int.fdiv_eq_ediv_of_nonneg _ (by decide)]; omega
        rw [e1]; exact this
theorem octet_num {x : Int} (h0 : 0 ≤ x) (h : x < 72057594037927936) : Runs (fun k => octet_Num.f k x) ((numB x.toNat, ()), ()) := by
  refine Runs.step (fun k => rfl) (Runs.no (by apply decide_eq_false; omega) (Runs.no (by apply decide_eq_false; omega) ?_))
  have := octet_loop 7 x.toNat (by show x.toNat < 72057594037927936; omega) (by omega) [] (by simp)
  rw [List.append_nil, show ((x.toNat : Nat) : Int) = x by omega] at this; exact this
theorem octet_num_none {n : Int} (h : n < 0 ∨ n ≥ 72057594037927936) : Runs (fun k => octet_Num.f k n) (((⟨#[]⟩ : ByteArray), ()), ()) := by
  refine Runs.step (fun k => rfl) (Runs.dec (fun _ => Runs.some) (fun h1 => Runs.yes (by apply decide_eq_true; omega) Runs.some))

theorem law_num_loop : ∀ (m n : Nat), n < 256 ^ m → m ≤ 7 → ∀ L : List UInt8, L.length + m ≤ 200 →
    Runs (fun k => chartularylaw01_num.l0 k (n : Int) (ofL L)) ((headed (digs n ++ L), ()), ()) := by
  have fin : ∀ L : List UInt8, L.length ≤ 200 → Runs (fun k => chartularylaw01_num.l0 k 0 (ofL L)) ((headed L, ()), ()) := fun L hL => by
    refine Runs.step (fun k => rfl) (Runs.ck ?_ (Runs.some' ?_))
    · apply decide_eq_true
      rw [ofL_size, strOf_one, ofL_size]; simp; omega
    · rw [ofL_size, wrap_u8_mod, strOf_one, ofL_app]
      have : (L.length % 256) = L.length := by omega
      rw [this]; rfl
  intro m
  induction m with
  | zero =>
    intro n h hm L hL
    have h0 : n = 0 := by simpa using h
    subst h0
    rw [digs_zero]; exact fin L (by omega)
  | succ m ih =>
    intro n h hm L hL
    by_cases h0 : n = 0
    · subst h0; rw [digs_zero]; exact fin L (by omega)
    · have hlt : n / 256 < 256 ^ m := by rw [Nat.pow_succ] at h; omega
      have hn7 : n < 256 ^ 7 := Nat.lt_of_lt_of_le h (Nat.pow_le_pow_right (by decide) hm)
      have e7 : 256 ^ 7 = 72057594037927936 := rfl
      have := ih (n / 256) hlt (by omega) (UInt8.ofNat (n % 256) :: L) (by simp; omega)
      have e0 : Int.tmod (n : Int) 256 = ((n % 256 : Nat) : Int) := by rw [Int.tmod_eq_emod_of_nonneg (by omega)]; omega
      have e1 : IntKind.wrap .i64 (Int.tdiv (n : Int) 256) = ((n / 256 : Nat) : Int) := by
        rw [Int.tdiv_eq_ediv_of_nonneg (by omega), wrap_i64 (by omega) (by omega)]; omega
      refine Runs.step (fun k => rfl) (Runs.yes (by apply decide_eq_true; omega) (Runs.ck (by rfl) (Runs.ck ?_ (Runs.ck (by rfl) ?_))))
      · apply decide_eq_true
        rw [ofL_size, strOf_one, ofL_size]; simp; omega
      · rw [e0, e1, wrap_u8_mod, strOf_one, ofL_app, digs_pos h0, List.append_assoc]
        rw [Nat.mod_mod]
        exact this
theorem law_num {x : Int} (h0 : 0 ≤ x) (h : x < 72057594037927936) : Runs (fun k => chartularylaw01_num.f k x) ((numB x.toNat, ()), ()) := by
  refine Runs.step (fun k => rfl) (Runs.no (by apply decide_eq_false; omega) (Runs.no (by apply decide_eq_false; omega) ?_))
  have := law_num_loop 7 x.toNat (by show x.toNat < 72057594037927936; omega) (by omega) [] (by simp)
  rw [List.append_nil, show ((x.toNat : Nat) : Int) = x by omega] at this; exact this
theorem law_num_none {n : Int} (h : n < 0 ∨ n ≥ 72057594037927936) : Runs (fun k => chartularylaw01_num.f k n) (((⟨#[]⟩ : ByteArray), ()), ()) := by
  refine Runs.step (fun k => rfl) (Runs.dec (fun _ => Runs.some) (fun h1 => Runs.yes (by apply decide_eq_true; omega) Runs.some))
/-- What stands at a place is read as the number that was written there. -/
theorem numV_numB {s : ByteArray} {a n : Nat} (hn : n < 72057594037927936) {lim : Int} (hl : (n : Int) ≤ lim) (ha : a + (numB n).size ≤ s.size) (hat : s.extract a (a + (numB n).size) = numB n) :
    numV s a 0 lim = ((n : Int), a + (numB n).size, 0) := by
  have hlen : (digs n).length ≤ 7 := digs_len 7 n hn
  have hsz : (numB n).size = (digs n).length + 1 := by unfold numB; rw [ofL_size]; simp
  have hx : ∀ i j, i ≤ j → j ≤ (numB n).size → (s.extract (a + i) (a + j)).data.toList = ((numB n).data.toList.drop i).take (j - i) := by
    intro i j hij hj
    have : s.extract (a + i) (a + j) = (numB n).extract i j := by
      rw [← hat, ByteArray.extract_extract]; congr 1 <;> omega
    rw [this, ByteArray.data_extract, Array.toList_extract]
  have hd : (numB n).data.toList = UInt8.ofNat (digs n).length :: digs n := by simp [numB, ofL]
  have h1 : rawV s a 0 1 = (s.extract a (a + 1), a + 1, 0) := by rw [rawV_in rfl (by decide) (by omega)]; rfl
  have hl1 : (s.extract a (a + 1)).data.toList = [UInt8.ofNat (digs n).length] := by
    have := hx 0 1 (by omega) (by omega)
    rw [hd] at this; simpa using this
  have ht : (UInt8.ofNat (digs n).length).toNat = (digs n).length := by rw [UInt8.toNat_ofNat']; omega
  have h2 : rawV s (a + 1) 0 ((digs n).length : Int) = (s.extract (a + 1) (a + 1 + (digs n).length), a + 1 + (digs n).length, 0) := by
    rw [rawV_in rfl (by omega) (by omega)]; simp
  have hl2 : (s.extract (a + 1) (a + 1 + (digs n).length)).data.toList = digs n := by
    have := hx 1 (1 + (digs n).length) (by omega) (by omega)
    rw [hd, ← Nat.add_assoc] at this
    rw [this]; simp
  unfold numV
  rw [h1]; simp only
  rw [hl1]; simp only
  rw [ht, if_neg (by omega), h2]; simp only
  rw [hl2, if_neg (by simp), if_neg (digs_head n), accum_digs, show finV (n : Int) lim = ((n : Int), 0) from if_neg (by omega), hsz]
  simp only [Prod.mk.injEq, true_and, and_true]; try omega
end Go.Proofs.Ytnlanlhhcgdjiaa.Pure
