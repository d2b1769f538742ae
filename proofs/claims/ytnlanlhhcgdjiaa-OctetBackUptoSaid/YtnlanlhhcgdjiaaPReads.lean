/- Plain laws: whatever is asked of a reader of any bytes, it answers as the document's. -/
import Derived.Test.YtnlanlhhcgdjiaaPNum
namespace Go.Proofs.Ytnlanlhhcgdjiaa.Pure
open Go Go.Proofs.Ytnlanlhhcgdjiaa.E Go.Proofs.Ytnlanlhhcgdjiaa.Eng
set_option linter.unusedVariables false
set_option linter.unusedSimpArgs false

theorem awake_ok : Runs (fun k => chartularylaw01_awake.f k) ((true, ()), ()) := by
  refine ⟨9, fun k hk => ?_⟩
  obtain ⟨k, rfl⟩ : ∃ q, k = q + 9 := ⟨k - 9, by omega⟩
  kernel_rfl

def finE (e x lim : Int) : Int × Int := if e = 0 then finV x lim else (0, e)
theorem plain_j1 (x : Int) (t : ByteArray) (e : Int) : Runs (fun k => chartularylaw01_plain_num.j1 k x t e) (((if e = 0 then x else 0), ()), ((t, e, ()), ())) := by
  refine Runs.step (fun k => rfl) (Runs.cond (fun h => ?_) (fun h => ?_))
  · have he : e ≠ 0 := by simpa using h
    exact Runs.some' (by rw [if_neg he])
  · have he : e = 0 := by simpa using h
    exact Runs.some' (by rw [if_pos he])
theorem plain_loop {c : ByteArray} (hL : c.data.toList.length ≤ 7) (lim : Int) (t : ByteArray) (e : Int) : ∀ (m i : Nat) (x : Int), i + m = c.data.toList.length → 0 ≤ x → x + 1 ≤ ((256 ^ i : Nat) : Int) →
    Runs (fun k => chartularylaw01_plain_num.l0 k lim c x (i : Int) t e) (((finE e (accum x (c.data.toList.drop i)) lim).1, ()), ((t, (finE e (accum x (c.data.toList.drop i)) lim).2, ()), ())) := by
  have hsz : c.size = c.data.toList.length := by simp [← ByteArray.size_data]
  intro m
  induction m with
  | zero =>
    intro i x hi hx hb
    rw [List.drop_of_length_le (by omega)]
    refine Runs.step (fun k => rfl) (Runs.no (by rw [hsz]; apply decide_eq_false; omega) (Runs.cond (fun h => ?_) (fun h => ?_)))
    · have he : e = 0 := by simpa using h
      refine Runs.dec (fun h1 => (plain_j1 _ _ _).of_eq ?_) (fun h1 => (plain_j1 _ _ _).of_eq ?_)
      · rw [show finE e (accum x []) lim = (0, 3) from (if_pos he).trans (if_pos h1)]; rfl
      · rw [show finE e (accum x []) lim = (x, 0) from (if_pos he).trans (if_neg h1), if_pos he, he]
    · have he : e ≠ 0 := by simpa using h
      refine (plain_j1 _ _ _).of_eq ?_
      rw [show finE e (accum x []) lim = (0, e) from if_neg he, if_neg he]
  | succ m ih =>
    intro i x hi hx hb
    have hlt : i < c.data.toList.length := by omega
    have hb2 : x < 281474976710656 := by
      have : 256 ^ i ≤ 256 ^ 6 := Nat.pow_le_pow_right (by decide) (by omega)
      have e6 : 256 ^ 6 = 281474976710656 := rfl
      omega
    have hby := byte_lt (c.data.toList[i])
    refine Runs.step (fun k => rfl) (Runs.yes (by rw [hsz]; apply decide_eq_true; omega) (Runs.opt (bto_at hlt) ?_))
    rw [wrap_i64 (n := 256 * x) (by omega) (by omega), wrap_i64 (n := ((c.data.toList[i]).toNat : Int)) (by omega) (by omega), wrap_i64 (n := 256 * x + ((c.data.toList[i]).toNat : Int)) (by omega) (by omega), wrap_i64 (n := (i : Int) + 1) (by omega) (by omega), List.drop_eq_getElem_cons hlt]
    exact ih (i + 1) (256 * x + ((c.data.toList[i]).toNat : Int)) (by omega) (by omega) (by rw [Nat.pow_succ]; omega)
theorem plain_j0 {c : ByteArray} (hL : c.data.toList.length ≤ 7) (lim : Int) (t : ByteArray) (e : Int) : Runs (fun k => chartularylaw01_plain_num.j0 k lim c t e) (((finE e (accum 0 c.data.toList) lim).1, ()), ((t, (finE e (accum 0 c.data.toList) lim).2, ()), ())) :=
  Runs.step (fun k => rfl) (plain_loop hL lim t e _ 0 0 (Nat.zero_add _) (by omega) (by simp))

theorem plain_num {s : ByteArray} (hs : s.size ≤ 30000000) {a : Nat} (h : a ≤ s.size) (e lim : Int) :
    Runs (fun k => chartularylaw01_plain_num.f k lim (rest s a) e) (((numV s a e lim).1, ()), ((rest s (numV s a e lim).2.1, (numV s a e lim).2.2, ()), ())) := by
  refine Runs.step (fun k => rfl) (Runs.bind (plain_raw hs h e 1) ?_)
  have hle := rawV_le h e 1
  cases hr : (rawV s a e 1).1.data.toList with
  | nil =>
    refine Runs.yes (by rw [toList_nil hr]; exact beq_self_eq_true _) (Runs.some' ?_)
    have : numV s a e lim = (0, (rawV s a e 1).2.1, (rawV s a e 1).2.2) := by unfold numV; rw [hr]
    rw [this]
  | cons t r =>
    have hlt : t.toNat < 256 := t.toNat_lt
    have he0 := rawV_one hr
    have hbt : bto (rawV s a e 1).1 0 = some (t.toNat : Int) := by
      have := bto_at (s := (rawV s a e 1).1) (i := 0) (by rw [hr]; simp)
      simp only [hr] at this; exact this
    refine Runs.no (by rw [beq_text]; apply decide_eq_false; intro h; rw [h] at hr; simp at hr) (Runs.opt hbt ?_)
    refine Runs.dec (fun h7 => ?_) (fun h7 => ?_)
    · have : numV s a e lim = (0, (rawV s a e 1).2.1, 4) := by unfold numV; rw [hr]; simp only; rw [if_pos (by omega)]
      exact Runs.some' (by rw [this])
    · refine Runs.opt hbt ?_
      rw [wrap_i64 (n := (t.toNat : Int)) (by omega) (by omega), he0]
      refine Runs.bind (plain_raw hs hle 0 _) ?_
      have hlen : (rawV s (rawV s a e 1).2.1 0 t.toNat).1.data.toList.length ≤ 7 := Nat.le_trans rawV_len (by omega)
      have hsz : (rawV s (rawV s a e 1).2.1 0 t.toNat).1.size = (rawV s (rawV s a e 1).2.1 0 t.toNat).1.data.toList.length := by simp [← ByteArray.size_data]
      by_cases hb : (rawV s (rawV s a e 1).2.1 0 t.toNat).2.2 ≠ 0
      · have : numV s a e lim = (0, (rawV s (rawV s a e 1).2.1 0 t.toNat).2) := by unfold numV; rw [hr]; simp only; rw [if_neg (by omega), if_pos hb]
        rw [this]
        refine Runs.no (by simpa using hb) ((plain_j0 hlen _ _ _).of_eq ?_)
        rw [show ∀ x, finE (rawV s (rawV s a e 1).2.1 0 t.toNat).2.2 x lim = (0, (rawV s (rawV s a e 1).2.1 0 t.toNat).2.2) from fun x => if_neg hb]
      · have hb0 : (rawV s (rawV s a e 1).2.1 0 t.toNat).2.2 = 0 := by simpa using hb
        refine Runs.yes (by rw [hb0]; rfl) ?_
        by_cases hh : (rawV s (rawV s a e 1).2.1 0 t.toNat).1.data.toList.head? = some 0
        · have : numV s a e lim = (0, (rawV s (rawV s a e 1).2.1 0 t.toNat).2.1, 4) := by unfold numV; rw [hr]; simp only; rw [if_neg (by omega), if_neg hb, if_pos hh]
          rw [this]
          cases hL : (rawV s (rawV s a e 1).2.1 0 t.toNat).1.data.toList with
          | nil => rw [hL] at hh; cases hh
          | cons b q =>
            have hb' := hh
            rw [hL] at hb'; simp at hb'; subst hb'
            have hbt2 : bto (rawV s (rawV s a e 1).2.1 0 t.toNat).1 0 = some (0 : Int) := by
              have := bto_at (s := (rawV s (rawV s a e 1).2.1 0 t.toNat).1) (i := 0) (by rw [hL]; simp)
              simp only [hL] at this; exact this
            refine Runs.yes (by rw [hsz, hL]; simp) (Runs.opt hbt2 (Runs.yes (by rfl) ((plain_j0 hlen _ _ _).of_eq ?_)))
            rw [show ∀ x, finE 4 x lim = (0, 4) from fun x => if_neg (by decide)]
        · have : numV s a e lim = ((finV (accum 0 (rawV s (rawV s a e 1).2.1 0 t.toNat).1.data.toList) lim).1, (rawV s (rawV s a e 1).2.1 0 t.toNat).2.1, (finV (accum 0 (rawV s (rawV s a e 1).2.1 0 t.toNat).1.data.toList) lim).2) := by
            unfold numV; rw [hr]; simp only; rw [if_neg (by omega), if_neg hb, if_neg hh]
          rw [this]
          have fin := (plain_j0 hlen lim (rest s (rawV s (rawV s a e 1).2.1 0 t.toNat).2.1) (rawV s (rawV s a e 1).2.1 0 t.toNat).2.2).of_eq (w := (((finV (accum 0 (rawV s (rawV s a e 1).2.1 0 t.toNat).1.data.toList) lim).1, ()), ((rest s (rawV s (rawV s a e 1).2.1 0 t.toNat).2.1, (finV (accum 0 (rawV s (rawV s a e 1).2.1 0 t.toNat).1.data.toList) lim).2, ()), ())))
            (by rw [show ∀ x, finE (rawV s (rawV s a e 1).2.1 0 t.toNat).2.2 x lim = finV x lim from fun x => if_pos hb0])
          refine Runs.dec (fun hp => ?_) (fun hp => fin)
          cases hL : (rawV s (rawV s a e 1).2.1 0 t.toNat).1.data.toList with
          | nil => rw [hsz, hL] at hp; simp at hp
          | cons b q =>
            have hbt2 : bto (rawV s (rawV s a e 1).2.1 0 t.toNat).1 0 = some (b.toNat : Int) := by
              have := bto_at (s := (rawV s (rawV s a e 1).2.1 0 t.toNat).1) (i := 0) (by rw [hL]; simp)
              simp only [hL] at this; exact this
            rw [hL] at fin
            refine Runs.opt hbt2 (Runs.no ?_ fin)
            rw [hL] at hh
            simp only [List.head?_cons, ne_eq, Option.some.injEq] at hh
            simp only [beq_eq_false_iff_ne, ne_eq]
            intro h; apply hh
            have : b.toNat = 0 := by omega
            exact UInt8.toNat_inj.mp this
end Go.Proofs.Ytnlanlhhcgdjiaa.Pure
