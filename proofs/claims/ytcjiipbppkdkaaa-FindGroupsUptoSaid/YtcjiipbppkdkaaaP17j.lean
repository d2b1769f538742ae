/- Plain laws of chapter 17: sums and extremes, by the program; papers, cut, whose values may be. -/
import Derived.Test.YtcjiipbppkdkaaaP17i
namespace Go.Proofs.Ytcjiipbppkdkaaa.Pure
open Go Go.Proofs.Ytcjiipbppkdkaaa.E Go.Proofs.Ytcjiipbppkdkaaa.Eng
set_option linter.unusedVariables false
set_option linter.unusedSimpArgs false
theorem FV.bok {v : ValueT} (h : FV v) : BOk v := by
 cases h with
 | null => exact ⟨0, rfl, by decide⟩
 | bool b => exact ⟨0, rfl, by decide⟩
 | int z => exact ⟨0, rfl, by decide⟩
 | flt n h _ => exact ⟨n, rfl, h⟩
 | text s => exact ⟨0, rfl, by decide⟩
theorem vals_drop (name : ByteArray) {l : List Pap} {i : Nat} (hi : i < l.length) : vals name (l.drop i) = (match fv name l[i] with | none => [] | some v => [v]) ++ vals name (l.drop (i + 1)) := by
 unfold vals
 rw [List.drop_eq_getElem_cons hi, List.filterMap_cons]
 cases fv name l[i] <;> rfl
noncomputable def stS (s : Int × Int × Int) (v : ValueT) : Int × Int × Int :=
 if (wholeV v).2 = true then (s.1 + 1, if s.1 = 0 then (wholeV v).1 else if (wholeV v).1 < s.2.1 then (wholeV v).1 else s.2.1, if s.1 = 0 then (wholeV v).1 else if (wholeV v).1 > s.2.2 then (wholeV v).1 else s.2.2) else s
theorem bif_if {α : Type} {p : Prop} [Decidable p] (a b : α) : (bif decide p then a else b) = if p then a else b := by
 by_cases h : p
 ·rw [decide_eq_true h, if_pos h]; rfl
 ·rw [decide_eq_false h, if_neg h]; rfl
theorem sum_loop (name : ByteArray) (l : List Pap) (hl : l.length ≤ 30) (hp : ∀ p ∈ l, p.2.2.1.length ≤ 1000) (hf : ∀ v ∈ vals name l, FV v) : ∀ (m i : Nat), i + m = l.length → ∀ (s : Int × Int × Int), 0 ≤ s.1 → s.1 ≤ i →
  TP (fun k => find_Sum.l0 k name s.1 s.2.1 s.2.2 l (l.length : Int) (i : Int)) (fun r => (r.1.1, r.1.2.1, r.1.2.2.1) = (vals name (l.drop i)).foldl stS s)
 | 0, i, h, s, s0, s1 => by
  rw [List.drop_of_length_le (by omega)]
  exact TP.step (fun k => rfl) (TP.no (by apply decide_eq_false; omega) (TP.some rfl))
 | m + 1, i, h, s, s0, s1 => by
  have hi : i < l.length := by omega
  have ei : IntKind.wrap .i64 ((i : Int) + 1) = ((i + 1 : Nat) : Int) := by rw [wrap_i64 (by omega) (by omega)]; rfl
  rw [vals_drop name hi]
  refine TP.step (fun k => rfl) (TP.yes (by apply decide_eq_true; omega) (TP.optE (rdo_at hi) (TP.bind (by_fv l[i] name (by have := hp _ (List.getElem_mem hi); omega)) fun r hr => ?_)))
  obtain ⟨⟨v, b, ⟨⟩⟩, ⟨⟩⟩ := r
  cases hfv : fv name l[i] with
  | none =>
   have e : b = false := (hr.1 hfv).1
   subst e
   rw [ei]
   exact TP.yes rfl (sum_loop name l hl hp hf m (i + 1) (by omega) s s0 (by omega))
  | some u =>
   have e : b = true := (hr.2 u hfv).1
   have e2 : v = u := (hr.2 u hfv).2
   subst e; subst e2
   have hfu : FV v := hf v (List.mem_filterMap.mpr ⟨l[i], List.getElem_mem hi, hfv⟩)
   rw [ei]
   show TP _ (fun r => _ = (vals name (l.drop (i + 1))).foldl stS (stS s v))
   refine TP.no rfl (TP.bindR (whole_ok v hfu.bok) (TP.not (fun hw => ?_) fun hw => ?_))
   ·have hw : (wholeV v).2 = false := hw
    have e3 : stS s v = s := by unfold stS; rw [if_neg (by rw [hw]; decide)]
    rw [e3]
    exact sum_loop name l hl hp hf m (i + 1) (by omega) s s0 (by omega)
   ·have hw : (wholeV v).2 = true := hw
    have w1 : IntKind.wrap .i64 (s.1 + 1) = s.1 + 1 := wrap_i64 (by omega) (by omega)
    have nx := sum_loop name l hl hp hf m (i + 1) (by omega) (stS s v)
    have es : stS s v = (s.1 + 1, if s.1 = 0 then (wholeV v).1 else if (wholeV v).1 < s.2.1 then (wholeV v).1 else s.2.1, if s.1 = 0 then (wholeV v).1 else if (wholeV v).1 > s.2.2 then (wholeV v).1 else s.2.2) := by unfold stS; rw [if_pos hw]
    rw [es] at nx ⊢
    have nx := nx (by show 0 ≤ s.1 + 1; omega) (by show s.1 + 1 ≤ _; omega)
    rw [w1]
    refine TP.eqI (fun h0 => ?_) fun h0 => ?_
    ·have h0 : s.1 = 0 := h0
     simp only [bif_if, ite_self]
     rw [if_pos h0, if_pos h0] at nx ⊢
     exact nx
    ·have h0 : s.1 ≠ 0 := h0
     rw [bif_if, bif_if]
     rw [if_neg h0, if_neg h0] at nx ⊢
     exact nx
theorem sum_ok (name : ByteArray) (l : List Pap) (hl : l.length ≤ 30) (hp : ∀ p ∈ l, p.2.2.1.length ≤ 1000) (hf : ∀ v ∈ vals name l, FV v) : TP (fun k => find_Sum.f k name l) (fun r => (r.1.1, r.1.2.1, r.1.2.2.1) = (vals name l).foldl stS (0, 0, 0)) := by
 have := sum_loop name l hl hp hf l.length 0 (Nat.zero_add _) (0, 0, 0) (Int.le_refl _) (Int.le_refl _)
 rw [List.drop_zero] at this
 exact TP.step (fun k => rfl) this
/-! ## Extremes -/
theorem three3 (t : Nat) : fnan t = true ∨ rung t = 9218868437227405312 ∨ rung t < 9218868437227405312 := by
 rw [fnan_eq]
 by_cases h1 : 9218868437227405312 < rung t
 ·exact .inl (decide_eq_true h1)
 ·by_cases h2 : rung t = 9218868437227405312
  ·exact .inr (.inl h2)
  ·exact .inr (.inr (by omega))
theorem feq_self (f : Nat) : feq f f = !fnan f := by
 rcases three3 f with k | k | k
 ·rw [k]; unfold feq; rw [(order_nan k f).1]; rfl
 ·have hn : fnan f = false := by rw [fnan_eq, k]; rfl
  rw [hn]
  unfold feq Ieee.Format.order; rw [read_inf k]; cases hb : negB f <;> decide
 ·have hn : fnan f = false := by
   cases hx : fnan f with
   | false => rfl
   | true => rw [fnan_eq] at hx; have := of_decide_eq_true hx; omega
  rw [hn, feq_fin k k]; simp
def numF (v : ValueT) : Prop := v.1 = 3 ∧ fnan v.2.2.2.1.toNat = false
instance (v : ValueT) : Decidable (numF v) := by unfold numF; exact inferInstance
noncomputable def stB (top : Bool) (b v : ValueT) : ValueT := if numF v ∧ (b.1 = 0 ∨ (top = true ∧ cmpV v b > 0) ∨ (top = false ∧ cmpV v b < 0)) then v else b
abbrev zeroQ : ValueT := (0, (false, (0, (0, (ByteArray.empty, ())))))
theorem ext_loop (name : ByteArray) (top : Bool) (l : List Pap) (hl : l.length ≤ 30) (hp : ∀ p ∈ l, p.2.2.1.length ≤ 1000) (hf : ∀ v ∈ vals name l, FV v ∧ rightV v = true) (z : ValueT) : ∀ (m i : Nat), i + m = l.length → ∀ (b : ValueT) (found : Bool), (b.1 = 0 ∨ b.1 = 3) → (found = true ↔ b.1 = 3) →
  TP (fun k => find_Extreme.l0 k name top found l (l.length : Int) (i : Int) z.1 z.2.1 z.2.2.1 z.2.2.2.1 z.2.2.2.2.1 b.1 b.2.1 b.2.2.1 b.2.2.2.1 b.2.2.2.2.1) (fun r => r.1.1 = (vals name (l.drop i)).foldl (stB top) b ∧ (r.1.2.1 = true ↔ ((vals name (l.drop i)).foldl (stB top) b).1 = 3))
 | 0, i, h, b, found, hb, hfd => by
  rw [List.drop_of_length_le (by omega)]
  exact TP.step (fun k => rfl) (TP.no (by apply decide_eq_false; omega) (TP.some ⟨rfl, hfd⟩))
 | m + 1, i, h, b, found, hb, hfd => by
  have hi : i < l.length := by omega
  have ei : IntKind.wrap .i64 ((i : Int) + 1) = ((i + 1 : Nat) : Int) := by rw [wrap_i64 (by omega) (by omega)]; rfl
  rw [vals_drop name hi]
  have keep := ext_loop name top l hl hp hf z m (i + 1) (by omega) b found hb hfd
  refine TP.step (fun k => rfl) (TP.yes (by apply decide_eq_true; omega) (TP.optE (rdo_at hi) (TP.bind (by_fv l[i] name (by have := hp _ (List.getElem_mem hi); omega)) fun r hr => ?_)))
  obtain ⟨⟨v, c, ⟨⟩⟩, ⟨⟩⟩ := r
  rw [ei]
  cases hfv : fv name l[i] with
  | none =>
   have e2 : v = zeroQ := (hr.1 hfv).2
   subst e2
   have fl : Runs (fun k => value_Float.f k zeroQ) ((0, false, ()), ()) := Runs.step (body := fun _ => some ((0, false, ()), ())) (fun k => rfl) Runs.some
   exact TP.bindR fl (TP.yes rfl keep)
  | some u =>
   have e2 : v = u := (hr.2 u hfv).2
   subst e2
   obtain ⟨hfu, hru⟩ := hf v (List.mem_filterMap.mpr ⟨l[i], List.getElem_mem hi, hfv⟩)
   show TP _ (fun (r : find_Extreme.R) => r.1.1 = (vals name (l.drop (i + 1))).foldl (stB top) (stB top b v) ∧ (r.1.2.1 = true ↔ ((vals name (l.drop (i + 1))).foldl (stB top) (stB top b v)).1 = 3))
   have hF := float_ok v hfu.bok
   have eF : isF v = decide (v.1 = 3) := by unfold isF; rw [hru, Bool.and_true, Bool.eq_iff_iff]; simp
   have same (h : ¬ (numF v ∧ (b.1 = 0 ∨ (top = true ∧ cmpV v b > 0) ∨ (top = false ∧ cmpV v b < 0)))) : stB top b v = b := by unfold stB; rw [if_neg h]
   have take (h : numF v ∧ (b.1 = 0 ∨ (top = true ∧ cmpV v b > 0) ∨ (top = false ∧ cmpV v b < 0))) : stB top b v = v := by unfold stB; rw [if_pos h]
   by_cases h3 : v.1 = 3
   ·rw [eF, decide_eq_true h3] at hF
    have hcan : fcan v.2.2.2.1.toNat = v.2.2.2.1.toNat := by
     cases hfu with
     | flt n hn hc => show fcan ((n : Int)).toNat = ((n : Int)).toNat; rw [Int.toNat_natCast]; exact hc
     | _ => all_goals (exfalso; dsimp only at h3; omega)
    have hF : Runs (fun k => value_Float.f k v) ((v.2.2.2.1.toNat, true, ()), ()) := hF.of_eq (by show ((fcan v.2.2.2.1.toNat, true, ()), ()) = _; rw [hcan])
    refine TP.bindR hF (TP.no rfl ?_)
    show TP (fun k => bif !feq v.2.2.2.1.toNat v.2.2.2.1.toNat then _ else _) _
    rw [feq_self]
    cases hnan : fnan v.2.2.2.1.toNat with
    | true =>
     rw [same (fun h => by have := h.1.2; rw [hnan] at this; cases this)]
     exact TP.yes rfl keep
    | false =>
     have hnum : numF v := ⟨h3, hnan⟩
     have kv := ext_loop name top l hl hp hf z m (i + 1) (by omega) v true (.inr h3) ⟨fun _ => h3, fun _ => rfl⟩
     have hbb : (b.1, (b.2.1, (b.2.2.1, (b.2.2.2.1, (b.2.2.2.2.1, ()))))) = b := rfl
     refine TP.no rfl (TP.bindR (cmp_ok v b) ?_)
     refine TP.not (fun hfo => ?_) fun hfo => ?_
     ·have hfo : found = false := hfo
      have hb0 : b.1 = 0 := hb.resolve_right fun h => by rw [hfd.mpr h] at hfo; cases hfo
      rw [take ⟨hnum, .inl hb0⟩]
      exact kv
     ·have hfo : found = true := hfo
      have hb3 := hfd.mp hfo
      have hb0 : ¬ b.1 = 0 := by omega
      cases top with
      | true =>
       refine TP.yes rfl (TP.dec (fun hc => ?_) fun hc => ?_)
       ·have hc : cmpV v b > 0 := hc
        rw [take ⟨hnum, .inr (.inl ⟨rfl, hc⟩)⟩]; exact kv
       ·have hc : ¬ cmpV v b > 0 := hc
        rw [same (fun h => by rcases h.2 with h | ⟨_, h⟩ | ⟨h, _⟩; exact hb0 h; exact hc h; cases h)]
        exact TP.no rfl keep
      | false =>
       refine TP.no rfl (TP.yes rfl (TP.dec (fun hc => ?_) fun hc => ?_))
       ·have hc : cmpV v b < 0 := hc
        rw [take ⟨hnum, .inr (.inr ⟨rfl, hc⟩)⟩]; exact kv
       ·have hc : ¬ cmpV v b < 0 := hc
        rw [same (fun h => by rcases h.2 with h | ⟨h, _⟩ | ⟨_, h⟩; exact hb0 h; cases h; exact hc h)]
        exact keep
   ·rw [eF, decide_eq_false h3] at hF
    rw [same (fun h => h3 h.1.1)]
    exact TP.bindR hF (TP.yes rfl keep)
theorem ext_ok (name : ByteArray) (top : Bool) (l : List Pap) (hl : l.length ≤ 30) (hp : ∀ p ∈ l, p.2.2.1.length ≤ 1000) (hf : ∀ v ∈ vals name l, FV v ∧ rightV v = true) : TP (fun k => find_Extreme.f k name top l) (fun r => r.1.1 = (vals name l).foldl (stB top) zeroQ ∧ (r.1.2.1 = true ↔ ((vals name l).foldl (stB top) zeroQ).1 = 3)) := by
 have := ext_loop name top l hl hp hf zeroQ l.length 0 (Nat.zero_add _) zeroQ false (.inl rfl) ⟨(fun h => nomatch h), fun h => absurd (show (0 : Int) = 3 from h) (by decide)⟩
 rw [List.drop_zero] at this
 exact TP.step (fun k => rfl) this
end Go.Proofs.Ytcjiipbppkdkaaa.Pure
