/- Plain laws of chapter 17: the mean of floats. -/
import Derived.Test.YtcjiipbppkdkaaaPFlo3
import Derived.Test.YtcjiipbppkdkaaaP04y
namespace Go.Proofs.Ytcjiipbppkdkaaa.Pure
open Go Go.Proofs.Ytcjiipbppkdkaaa.E Go.Proofs.Ytcjiipbppkdkaaa.Eng
set_option linter.unusedVariables false
set_option linter.unusedSimpArgs false

/-! ## Sums -/
/-- So great may be what is far from the greatest. -/
def eS : Nat := 2000
theorem eS_eq : eS = 2000 := rfl
structure Inv (l : List Nat) (s : Nat) : Prop where
  nan : (∃ t ∈ l, fnan t = true) → s = quietN
  up : pinf ∈ l → s = pinf ∨ s = quietN
  dn : ninf ∈ l → s = ninf ∨ s = quietN
  zero : (∀ t ∈ l, rung t = 0) → s = 0
  small : (∀ t ∈ l, fnan t = false ∧ t ≠ ninf ∧ (rung t < 9218868437227405312 → Vr (rung t) ≤ 2 ^ (52 + eS))) → (pinf ∈ l ∧ s = pinf) ∨ (pinf ∉ l ∧ rung s < 9218868437227405312 ∧ Vr (rung s) ≤ 2 ^ (52 + (eS + l.length)))
theorem inf_of {t : Nat} (h64 : t < 18446744073709551616) (h : rung t = 9218868437227405312) : t = pinf ∨ t = ninf := by
  have := word_of h64
  rw [h] at this
  cases hb : negB t <;> rw [hb] at this
  · exact .inl (by rw [← this]; decide)
  · exact .inr (by rw [← this]; decide)
theorem fcan_id {t : Nat} (h : fnan t = false) : fcan t = t := by unfold fcan; rw [h]
theorem quiet_is : fnan quietN = true := by decide
theorem Inv.nil : Inv [] 0 := by
  refine ⟨?_, ?_, ?_, fun _ => rfl, fun _ => .inr ⟨?_, by decide, ?_⟩⟩
  · rintro ⟨_, h, _⟩; cases h
  · intro h; cases h
  · intro h; cases h
  · intro h; cases h
  · rw [show rung 0 = 0 from rfl, show Vr 0 = 0 from rfl]; exact Nat.zero_le _
theorem Inv.step {l : List Nat} {s t : Nat} (h : Inv l s) (h64 : t < 18446744073709551616) (hl : l.length < 30) : Inv (l ++ [t]) (fadd s (fcan t)) := by
  have qs : s = quietN → fadd s (fcan t) = quietN := fun e => by rw [e]; exact (fadd_nan quiet_is _).1
  have qt : fnan t = true → fadd s (fcan t) = quietN := fun e => (fadd_nan (by unfold fcan; rw [e]; exact quiet_is) s).2
  refine ⟨?_, ?_, ?_, ?_, ?_⟩
  · rintro ⟨u, hu, hn⟩
    rw [List.mem_append, List.mem_singleton] at hu
    rcases hu with hu | rfl
    · exact qs (h.nan ⟨u, hu, hn⟩)
    · exact qt hn
  · intro hm
    rw [List.mem_append, List.mem_singleton] at hm
    rcases hm with hm | hm
    · rcases h.up hm with e | e
      · rw [e]; exact (fadd_inf false pinf_r.1 pinf_r.2 _).1
      · exact .inr (qs e)
    · rw [← hm, fcan_inf.1]; exact (fadd_inf false pinf_r.1 pinf_r.2 _).2
  · intro hm
    rw [List.mem_append, List.mem_singleton] at hm
    rcases hm with hm | hm
    · rcases h.dn hm with e | e
      · rw [e]; exact (fadd_inf true ninf_r.1 ninf_r.2 _).1
      · exact .inr (qs e)
    · rw [← hm, fcan_inf.2]; exact (fadd_inf true ninf_r.1 ninf_r.2 _).2
  · intro hz
    have e := h.zero fun u hu => hz u (List.mem_append_left _ hu)
    have ht := hz t (by simp)
    have hn : fnan t = false := by rw [fnan_eq, ht]; rfl
    rw [e, fcan_id hn]; exact fadd_zeros ht
  · intro ha
    have hs := h.small fun u hu => ha u (List.mem_append_left _ hu)
    obtain ⟨a1, a2, a3⟩ := ha t (by simp)
    rw [fcan_id a1]
    have hmem : pinf ∈ l ++ [t] ↔ pinf ∈ l ∨ pinf = t := by rw [List.mem_append, List.mem_singleton]
    rcases three t with k | k | k
    · rw [a1] at k; cases k
    · have ht : t = pinf := (inf_of h64 k).resolve_right a2
      refine .inl ⟨hmem.2 (.inr ht.symm), ?_⟩
      rw [ht]
      rcases hs with ⟨_, e⟩ | ⟨_, e, _⟩
      · rw [e]; exact pinf_pinf
      · exact (pinf_fin e).2
    · have hne : pinf ≠ t := fun e => by rw [← e, pinf_r.1] at k; omega
      rcases hs with ⟨e1, e⟩ | ⟨e0, e1, e2⟩
      · exact .inl ⟨hmem.2 (.inl e1), by rw [e]; exact (pinf_fin k).1⟩
      · refine .inr ⟨fun hh => (hmem.1 hh).elim e0 hne, ?_⟩
        have hsum : Vr (rung s) + Vr (rung t) ≤ 2 ^ (52 + (eS + (l.length + 1))) := by
          have b1 : 2 ^ (52 + eS) ≤ 2 ^ (52 + (eS + l.length)) := Nat.pow_le_pow_right (by decide) (by omega)
          have b2 : 2 ^ (52 + (eS + (l.length + 1))) = 2 ^ (52 + (eS + l.length)) * 2 := by rw [← Nat.pow_succ]; rfl
          have b3 := a3 k
          omega
        have hS := eS_eq
        have := fadd_le e1 k hsum (by omega)
        rw [List.length_append, List.length_singleton]; exact this
def sumF (l : List Nat) (s : Nat) : Nat := l.foldl (fun s t => fadd s (fcan t)) s
theorem Inv.sum : ∀ (l pre : List Nat) (s : Nat), Inv pre s → (∀ t ∈ l, t < 18446744073709551616) → pre.length + l.length ≤ 30 → Inv (pre ++ l) (sumF l s)
  | [], pre, s, h, _, _ => by rw [List.append_nil]; exact h
  | t :: l, pre, s, h, hb, hl => by
    have := Inv.sum l (pre ++ [t]) (fadd s (fcan t)) (h.step (hb t (by simp)) (by simp at hl; omega)) (fun u hu => hb u (by simp [hu])) (by simp at hl ⊢; omega)
    rw [List.append_assoc] at this; exact this
theorem single_ok {t : Nat} (h64 : t < 18446744073709551616) (hn : fnan t = false) (h0 : rung t ≠ 0) : fdiv (fadd 0 (fcan t)) (fofi 1) = t := by
  rw [fcan_id hn]
  rcases three t with k | k | k
  · rw [hn] at k; cases k
  · rcases inf_of h64 k with rfl | rfl <;> kernel_rfl
  · rw [fadd_zero h64 k h0]; exact fdiv_one h64 k h0
/-- The mean's bits. -/
def meanB (l : List Nat) : Nat := fdiv (sumF l 0) (fofi (l.length : Int))
theorem fcan_fres (o : Option Nat) : fcan (fres o) = fres o := by
  cases o with
  | none => rfl
  | some r => show fcan (fcan r) = fcan r; unfold fcan; cases h : fnan r <;> simp [h]; decide
theorem meanB_can (l : List Nat) : fcan (meanB l) = meanB l := fcan_fres _

/-! ## The program's -/
def flV (t : Nat) : Vlu := (3, false, 0, (fcan t : Int), ByteArray.empty, ())
abbrev Pap := ByteArray × Int × List (ByteArray × Vlu × Unit) × Unit
def papF (t : Nat) : Pap := ((⟨#[112]⟩ : ByteArray), 0, [((⟨#[120]⟩ : ByteArray), flV t, ())], ())
theorem fcan_lt {t : Nat} (h : t < 18446744073709551616) : fcan t < 18446744073709551616 := by unfold fcan; cases fnan t <;> simp <;> omega
theorem fcan_fcan (t : Nat) : fcan (fcan t) = fcan t := fcan_fres (some t)
theorem clean_fl (t : Nat) : cleanV (3, false, 0, (t : Int), ByteArray.empty, ()) = flV t := by
  unfold cleanV flV fcan
  simp only [Int.toNat_natCast]
  cases h : fnan t <;> rfl
theorem bok_fl {t : Nat} (h : t < 18446744073709551616) : BOk (flV t) := ⟨fcan t, rfl, fcan_lt h⟩
theorem seqB_refl (a : ByteArray) : seqB a a = true := by unfold seqB; rw [beq_toListBytes, beq_text]; exact decide_eq_true rfl
theorem eqVal_refl (a : Vlu) : eqVal a a = true := by
  unfold eqVal; rw [beq_self_eq_true, beq_self_eq_true, beq_self_eq_true, beq_self_eq_true, seqB_refl]; rfl
theorem right_fl (t : Nat) : rightV (flV t) = true := by
  have e : cleanV (flV t) = flV t := by
    rw [show flV t = (3, false, 0, (fcan t : Int), ByteArray.empty, ()) from rfl, clean_fl (fcan t)]
    unfold flV; rw [fcan_fcan]
  unfold rightV; rw [e, eqVal_refl]; rfl
theorem by_fl (t : Nat) : Runs (fun k => find_by.f k (papF t) (⟨#[120]⟩ : ByteArray)) ((flV t, true, ()), ()) := by
  have h1 : Runs (fun k => paper_Find_1_v0.f k ((⟨#[120]⟩ : ByteArray), flV t, ()) (⟨#[120]⟩ : ByteArray)) ((true, ()), ()) := Runs.step (fun k => rfl) (Runs.some' (by dsimp only; rw [beq_text]; rfl))
  have h2 : Runs (fun k => slices_IndexFunc_api_Field_v0.l0 k [((⟨#[120]⟩ : ByteArray), flV t, ())] 1 0 (⟨#[120]⟩ : ByteArray)) ((0, ()), ()) :=
    Runs.step (fun k => rfl) (Runs.yes rfl (Runs.opt rfl (Runs.bind h1 (Runs.yes rfl Runs.some))))
  have h3 : Runs (fun k => paper_Find.f k (papF t) (⟨#[120]⟩ : ByteArray)) ((0, ()), ()) := Runs.step (fun k => rfl) (Runs.bind (Runs.step (fun k => rfl) h2) Runs.some)
  exact Runs.step (fun k => rfl) (Runs.bind h3 (Runs.no rfl (Runs.opt rfl Runs.some)))
theorem float_fl {t : Nat} (h : t < 18446744073709551616) : Runs (fun k => value_Float.f k (flV t)) ((fcan t, true, ()), ()) := by
  have e : isF (flV t) = true := by unfold isF; rw [right_fl]; rfl
  refine (float_ok (flV t) (bok_fl h)).of_eq ?_
  rw [e]
  show ((fcan (fcan t : Int).toNat, true, ()), ()) = _
  rw [Int.toNat_natCast, fcan_fcan]
theorem of_ok {f : Nat} (hf : fcan f = f) : Runs (fun k => value_Of.f k f) (((3, false, 0, (f : Int), ByteArray.empty, ()), ()), ()) := by
  refine Runs.step (fun k => rfl) (Runs.cond (fun h => ?_) fun h => ?_)
  · have h : feq f f = false := by simpa using h
    refine Runs.some' ?_
    have hn : fnan f = true := by
      rcases three f with k | k | k
      · exact k
      · unfold feq Ieee.Format.order at h; rw [read_inf k] at h; cases hb : negB f <;> rw [hb] at h <;> exact absurd h (by decide)
      · rw [feq_fin k k] at h; simp at h
    unfold fcan at hf; rw [hn] at hf; rw [← hf]; rfl
  · have h : feq f f = true := by simpa using h
    have hn : fnan f = false := by
      cases hn : fnan f with
      | false => rfl
      | true => unfold feq at h; rw [(order_nan hn f).1] at h; exact absurd h (by decide)
    exact Runs.bind (f := fun k => f64bits.f k f) (v := (((f : Int), ()), ())) ⟨0, fun k _ => by unfold f64bits.f f64bits.g; rw [hn]; rfl⟩ Runs.some
theorem mean_l0 (bs : List Nat) (hb : ∀ t ∈ bs, t < 18446744073709551616) (hl : bs.length ≤ 30) (h0 : bs.length ≠ 0) : ∀ (m j : Nat), j + m = bs.length → ∀ s, Runs (fun k => find_Mean.l0 k (⟨#[120]⟩ : ByteArray) (j : Int) s (bs.map papF) (bs.length : Int) (j : Int) 0 false 0 0 ByteArray.empty) (((3, false, 0, (fdiv (sumF (bs.drop j) s) (fofi (bs.length : Int)) : Int), ByteArray.empty, ()), true, ()), ())
  | 0, j, hj, s => by
    have hj : j = bs.length := by omega
    subst hj
    rw [List.drop_of_length_le (Nat.le_refl _)]
    refine Runs.step (fun k => rfl) (Runs.no (by apply decide_eq_false; omega) (Runs.no (by rw [beq_eq_false_iff_ne]; omega) ?_))
    exact Runs.bind (of_ok (fcan_fres _)) Runs.some
  | m + 1, j, hj, s => by
    have hj' : j < bs.length := by omega
    have hd : bs.drop j = bs[j] :: bs.drop (j + 1) := List.drop_eq_getElem_cons hj'
    have e1 : rdo (bs.map papF) (j : Int) = some (papF bs[j]) := by rw [rdo_at (by simpa using hj')]; simp
    have e2 : IntKind.wrap .i64 ((j : Int) + 1) = ((j + 1 : Nat) : Int) := by rw [wrap_i64 (by omega) (by omega)]; rfl
    refine Runs.step (fun k => rfl) (Runs.yes (by apply decide_eq_true; omega) (Runs.opt e1 (Runs.bind (by_fl _) (Runs.bind (float_fl (hb _ (List.getElem_mem hj'))) (Runs.no rfl ?_)))))
    rw [hd, e2]
    exact mean_l0 bs hb hl h0 m (j + 1) (by omega) _
theorem mean_ok (bs : List Nat) (hb : ∀ t ∈ bs, t < 18446744073709551616) (hl : bs.length ≤ 30) (h0 : bs.length ≠ 0) : Runs (fun k => find_Mean.f k (⟨#[120]⟩ : ByteArray) (bs.map papF)) (((3, false, 0, (meanB bs : Int), ByteArray.empty, ()), true, ()), ()) := by
  refine Runs.step (body := fun k => find_Mean.l0 k (⟨#[120]⟩ : ByteArray) ((0 : Nat) : Int) 0 (bs.map papF) ((bs.map papF).length : Int) ((0 : Nat) : Int) 0 false 0 0 ByteArray.empty) (fun k => rfl) ?_
  rw [List.length_map]
  exact mean_l0 bs hb hl h0 _ 0 (Nat.zero_add _) 0
theorem mean_nil : Runs (fun k => find_Mean.f k (⟨#[120]⟩ : ByteArray) []) (((0, false, 0, 0, ByteArray.empty, ()), false, ()), ()) :=
  Runs.step (body := fun k => find_Mean.l0 k (⟨#[120]⟩ : ByteArray) 0 0 [] (([] : List Pap).length : Int) 0 0 false 0 0 ByteArray.empty) (fun k => rfl) (Runs.step (fun k => rfl) (Runs.no rfl (Runs.yes rfl Runs.some)))
end Go.Proofs.Ytcjiipbppkdkaaa.Pure
