/- Plain law: FindGroups. -/
import Derived.Test.YtcjiipbppkdkaaaP17k
import Derived.Test.YtcjiipbppkdkaaaESFindGroups
namespace Go.Proofs.Ytcjiipbppkdkaaa.Pure
open Go Go.Proofs.Ytcjiipbppkdkaaa.E Go.Proofs.Ytcjiipbppkdkaaa.Eng
set_option linter.unusedVariables false
set_option linter.unusedSimpArgs false
set_option linter.unusedSectionVars false
theorem shl_rung {n : Nat} (h : n < 18446744073709551616) : IntKind.wrap .u64 ((n : Int) * 2 ^ (min (1 : Int).toNat (IntKind.bits .u64))) = ((2 * rung n : Nat) : Int) := by
 have e : (2 : Int) ^ (min (1 : Int).toNat (IntKind.bits .u64)) = 2 := by decide
 rw [e]
 simp only [IntKind.wrap, IntKind.bits, IntKind.signed, Bool.false_and]
 unfold rung
 simp
 omega
section
variable (name : ByteArray) (top : Bool) (l : List Pap) (hl : l.length ≤ 30) (hp : ∀ p ∈ l, p.2.2.1.length ≤ 1000) (hf : ∀ v ∈ vals name l, FV v ∧ rightV v = true) (g : List Grp) (hg : GI (vals name l) g)
variable (n lo hi : Int) (is : Bool) (f : ValueT)
include hl hp hf hg
theorem law_j1 (i t : Nat) (hi' : i < l.length) (v : ValueT) (hv : FV v) (b : ValueT) (s : Int × Int × Int)
  (nx : TP (fun k => chartularylaw17_FindGroups.l0 k name top l g n lo hi is (t : Int) s.1 s.2.1 s.2.2 ((i + 1 : Nat) : Int) f.1 f.2.1 f.2.2.1 f.2.2.2.1 f.2.2.2.2.1 (stB top b v).1 (stB top b v).2.1 (stB top b v).2.2.1 (stB top b v).2.2.2.1 (stB top b v).2.2.2.2.1) (fun r => r.1.1 = true)) :
  TP (fun k => chartularylaw17_FindGroups.j1 k name top l g n lo hi is (t : Int) s.1 s.2.1 s.2.2 (i : Int) f.1 f.2.1 f.2.2.1 f.2.2.2.1 f.2.2.2.2.1 b.1 b.2.1 b.2.2.1 b.2.2.2.1 b.2.2.2.2.1 v.1 v.2.1 v.2.2.1 v.2.2.2.1 v.2.2.2.2.1) (fun r => r.1.1 = true) := by
 have ei : IntKind.wrap .i64 ((i : Int) + 1) = ((i + 1 : Nat) : Int) := by rw [wrap_i64 (by omega) (by omega)]; rfl
 have same (h : ¬ (numF v ∧ (b.1 = 0 ∨ (top = true ∧ cmpV v b > 0) ∨ (top = false ∧ cmpV v b < 0)))) : stB top b v = b := by unfold stB; rw [if_neg h]
 have take (h : numF v ∧ (b.1 = 0 ∨ (top = true ∧ cmpV v b > 0) ∨ (top = false ∧ cmpV v b < 0))) : stB top b v = v := by unfold stB; rw [if_pos h]
 have hvv : (v.1, (v.2.1, (v.2.2.1, (v.2.2.2.1, (v.2.2.2.2.1, ()))))) = v := rfl
 have hbb : (b.1, (b.2.1, (b.2.2.1, (b.2.2.2.1, (b.2.2.2.2.1, ()))))) = b := rfl
 refine TP.step (fun k => rfl) (TP.eqI (fun h3 => TP.ck (by decide) ?_) fun h3 => ?_)
 ·have h3 : v.1 = 3 := h3
  rw [ei]
  obtain ⟨m, hm, hm2⟩ := hv.bok
  have hsh : decide ((IntKind.wrap .u64 (v.2.2.2.1 * 2 ^ (min (1 : Int).toNat (IntKind.bits .u64))) : Int) ≤ 18437736874454810624) = !fnan v.2.2.2.1.toNat := by
   rw [hm, shl_rung hm2, Int.toNat_natCast, fnan_eq]
   by_cases hr : 9218868437227405312 < rung m
   ·rw [decide_eq_true hr, decide_eq_false (by omega)]; rfl
   ·rw [decide_eq_false hr, decide_eq_true (by omega)]; rfl
  rw [hsh]
  cases hnan : fnan v.2.2.2.1.toNat with
  | true =>
   rw [same (fun h => by have := h.1.2; rw [hnan] at this; cases this)] at nx
   exact TP.no rfl nx
  | false =>
   have hnum : numF v := ⟨h3, hnan⟩
   refine TP.yes rfl (TP.eqI (fun hb0 => ?_) fun hb0 => ?_)
   ·have hb0 : b.1 = 0 := hb0
    rw [take ⟨hnum, .inl hb0⟩] at nx
    exact nx
   ·have hb0 : ¬ b.1 = 0 := hb0
    cases top with
    | true =>
     refine TP.yes rfl (TP.bindR (cmp_ok v b) (TP.dec (fun hc => ?_) fun hc => ?_))
     ·have hc : cmpV v b > 0 := hc
      rw [take ⟨hnum, .inr (.inl ⟨rfl, hc⟩)⟩] at nx; exact nx
     ·have hc : ¬ cmpV v b > 0 := hc
      rw [same (fun h => by rcases h.2 with h | ⟨_, h⟩ | ⟨h, _⟩; exact hb0 h; exact hc h; cases h)] at nx
      exact TP.no rfl nx
    | false =>
     refine TP.no rfl (TP.yes rfl (TP.bindR (cmp_ok v b) (TP.dec (fun hc => ?_) fun hc => ?_)))
     ·have hc : cmpV v b < 0 := hc
      rw [take ⟨hnum, .inr (.inr ⟨rfl, hc⟩)⟩] at nx; exact nx
     ·have hc : ¬ cmpV v b < 0 := hc
      rw [same (fun h => by rcases h.2 with h | ⟨h, _⟩ | ⟨_, h⟩; exact hb0 h; cases h; exact hc h)] at nx
      exact nx
 ·have h3 : ¬ v.1 = 3 := h3
  rw [ei]
  rw [same (fun h => h3 h.1.1)] at nx
  exact nx
theorem law_l0 : ∀ (m i : Nat), i + m = l.length → ∀ (t : Nat) (s : Int × Int × Int) (b : ValueT), 0 ≤ s.1 → s.1 ≤ i → t + (vals name (l.drop i)).length = (vals name l).length → (vals name (l.drop i)).foldl stS s = (n, lo, hi) → (vals name (l.drop i)).foldl (stB top) b = f → (is = true ↔ f.1 = 3) →
  TP (fun k => chartularylaw17_FindGroups.l0 k name top l g n lo hi is (t : Int) s.1 s.2.1 s.2.2 (i : Int) f.1 f.2.1 f.2.2.1 f.2.2.2.1 f.2.2.2.2.1 b.1 b.2.1 b.2.2.1 b.2.2.2.1 b.2.2.2.2.1) (fun r => r.1.1 = true)
 | 0, i, h, t, s, b, s0, s1, ht, hS, hB, his => by
  rw [List.drop_of_length_le (by omega)] at ht hS hB
  have hS : s = (n, lo, hi) := hS
  have hB : b = f := hB
  subst hS; subst hB
  have ht : t = (vals name l).length := by have : t + 0 = _ := ht; omega
  have hvl := List.length_filterMap_le (fv name) l
  have hvl : (vals name l).length ≤ l.length := hvl
  have hisb : (is == ((b.1 : Int) == 3)) = true := by
   cases is with
   | true => have := his.mp rfl; rw [this]; rfl
   | false =>
    have : ¬ b.1 = 3 := fun e => by cases his.mpr e
    rw [show ((b.1 : Int) == 3) = false by simpa using this]; rfl
  have heq : eqVal b b = true := (eqVal_iff b b).mpr rfl
  refine TP.step (fun k => rfl) (TP.no (by apply decide_eq_false; omega) (TP.neI (fun e => absurd rfl e) fun _ => TP.neI (fun e => absurd rfl e) fun _ => TP.neI (fun e => absurd rfl e) fun _ => TP.no (by rw [hisb]; rfl) (TP.no ?_ ?_)))
  ·show (!eqVal b b) = false
   rw [heq]; rfl
  ·refine grp_l1 name l hl hp g hg g.length 0 (Nat.zero_add _) _ ?_ (by omega)
   rw [List.drop_zero, hg.sum, ht]
 | m + 1, i, h, t, s, b, s0, s1, ht, hS, hB, his => by
  have hi' : i < l.length := by omega
  have hpi := hp _ (List.getElem_mem hi')
  have ei : IntKind.wrap .i64 ((i : Int) + 1) = ((i + 1 : Nat) : Int) := by rw [wrap_i64 (by omega) (by omega)]; rfl
  rw [vals_drop name hi'] at ht hS hB
  have hvl := List.length_filterMap_le (fv name) l
  have hvl : (vals name l).length ≤ l.length := hvl
  refine TP.step (fun k => rfl) (TP.yes (by apply decide_eq_true; omega) (TP.optE (rdo_at hi') (TP.bindR (lfield_ok l[i] name (by omega)) ?_)))
  cases hfv : fv name l[i] with
  | none =>
   rw [hfv] at ht hS hB
   have hneg : fieldI name 0 l[i].2.2.1 < 0 := by
    unfold fv at hfv
    split at hfv
    ·rename_i h; exact h
    ·cases hfv
   rw [ei]
   exact TP.yes (by apply decide_eq_true; exact hneg) (law_l0 m (i + 1) (by omega) t s b s0 (by omega) ht hS hB his)
  | some v =>
   rw [hfv] at ht hS hB
   obtain ⟨x, hx, hxe, q, hq, hql, hqe⟩ := fv_mem hfv
   have hrd : rdo l[i].2.2.1 (((fieldI name 0 l[i].2.2.1, ()), ()) : chartularylaw17_field.R).1.1 = some x := by
    show rdo l[i].2.2.1 (fieldI name 0 l[i].2.2.1) = _
    rw [hq, rdo_at hql, hqe]
   have hvv : FV v := (hf v (List.mem_filterMap.mpr ⟨l[i], List.getElem_mem hi', hfv⟩)).1
   have ht : t + ((vals name (l.drop (i + 1))).length + 1) = (vals name l).length := ht
   have hS : (vals name (l.drop (i + 1))).foldl stS (stS s v) = (n, lo, hi) := hS
   have hB : (vals name (l.drop (i + 1))).foldl (stB top) (stB top b v) = f := hB
   have w1 : IntKind.wrap .i64 ((t : Int) + 1) = ((t + 1 : Nat) : Int) := by rw [wrap_i64 (by omega) (by omega)]; rfl
   have w2 : IntKind.wrap .i64 (s.1 + 1) = s.1 + 1 := wrap_i64 (by omega) (by omega)
   have s'0 : 0 ≤ (stS s v).1 ∧ (stS s v).1 ≤ ((i + 1 : Nat) : Int) := by
    unfold stS
    split
    ·exact ⟨by show 0 ≤ s.1 + 1; omega, by show s.1 + 1 ≤ _; omega⟩
    ·exact ⟨s0, by omega⟩
   have nx := law_j1 name top l hl hp hf g hg n lo hi is f i (t + 1) hi' v hvv b (stS s v) (law_l0 m (i + 1) (by omega) (t + 1) (stS s v) (stB top b v) s'0.1 s'0.2 (by omega) hS hB his)
   refine TP.no (by apply decide_eq_false; show ¬ fieldI name 0 l[i].2.2.1 < 0; omega) (TP.optE (rdo_at hi') (TP.optE hrd ?_))
   rw [hxe, w1]
   refine TP.bindR (whole_ok v hvv.bok) (TP.cond (fun hw => ?_) fun hw => ?_)
   ·have hw : (wholeV v).2 = true := hw
    have es : stS s v = (s.1 + 1, if s.1 = 0 then (wholeV v).1 else if (wholeV v).1 < s.2.1 then (wholeV v).1 else s.2.1, if s.1 = 0 then (wholeV v).1 else if (wholeV v).1 > s.2.2 then (wholeV v).1 else s.2.2) := by unfold stS; rw [if_pos hw]
    rw [es] at nx
    have j0 (a : Int) (ha : a = if s.1 = 0 then (wholeV v).1 else if (wholeV v).1 < s.2.1 then (wholeV v).1 else s.2.1) : TP (fun k => chartularylaw17_FindGroups.j0 k name top l g n lo hi is ((t + 1 : Nat) : Int) s.1 a s.2.2 (i : Int) (wholeV v).1 f.1 f.2.1 f.2.2.1 f.2.2.2.1 f.2.2.2.2.1 b.1 b.2.1 b.2.2.1 b.2.2.2.1 b.2.2.2.2.1 v.1 v.2.1 v.2.2.1 v.2.2.2.1 v.2.2.2.2.1) (fun r => r.1.1 = true) := by
     rw [← ha] at nx
     refine TP.step (fun k => rfl) (TP.eqI (fun h0 => ?_) fun h0 => TP.dec (fun hc => ?_) fun hc => ?_)
     ·have h0 : s.1 = 0 := h0
      rw [if_pos h0] at nx; rw [w2]; exact nx
     ·have h0 : ¬ s.1 = 0 := h0
      have hc : (wholeV v).1 > s.2.2 := hc
      rw [if_neg h0, if_pos hc] at nx; rw [w2]; exact nx
     ·have h0 : ¬ s.1 = 0 := h0
      have hc : ¬ (wholeV v).1 > s.2.2 := hc
      rw [if_neg h0, if_neg hc] at nx; rw [w2]; exact nx
    refine TP.eqI (fun h0 => ?_) fun h0 => TP.dec (fun hc => ?_) fun hc => ?_
    ·have h0 : s.1 = 0 := h0
     exact j0 _ (by rw [if_pos h0])
    ·have h0 : ¬ s.1 = 0 := h0
     have hc : (wholeV v).1 < s.2.1 := hc
     exact j0 _ (by rw [if_neg h0, if_pos hc])
    ·have h0 : ¬ s.1 = 0 := h0
     have hc : ¬ (wholeV v).1 < s.2.1 := hc
     exact j0 _ (by rw [if_neg h0, if_neg hc])
   ·have hw : (wholeV v).2 = false := hw
    have es : stS s v = s := by unfold stS; rw [if_neg (by rw [hw]; decide)]
    rw [es] at nx
    exact nx
end
theorem FindGroups : chartularylaw17_FindGroups.Pure := by
 intro name top l w0 w1 w2 hb
 have hx : ∀ p ∈ l, FOk p.2.2.1 := fun p hp f hf => wf_u64 ((w2 p hp).2.2.1 f hf).2.1.2.2.2.1
 refine TP.one (TP.step (fun k => rfl) (TP.bind (papersR_ok l hx) fun u hu => ?_))
 obtain ⟨⟨l, ⟨⟩⟩, ⟨⟩⟩ := u
 obtain ⟨hu1, hu2⟩ := hu
 have hu1 : l.length ≤ 30 := hu1
 have hu2 : ∀ p ∈ l, p.2.2.1.length ≤ 30 ∧ FOk p.2.2.1 := hu2
 have hp : ∀ p ∈ l, p.2.2.1.length ≤ 1000 := fun p hp => by have := (hu2 p hp).1; omega
 refine TP.bind (rightR_ok l (by omega) hp) fun r hr => TP.not (fun _ => awake_end fun _ => rfl) fun ht => ?_
 have hf := vals_right (name := name) (fun p hp => (hu2 p hp).2) (hr ht)
 refine TP.bind (groups_ok name l hu1 hp fun v hv => (hf v hv).1) fun g hg => TP.bind (sum_ok name l hu1 hp fun v hv => (hf v hv).1) fun s hs => TP.bind (ext_ok name top l hu1 hp hf) fun e he => ?_
 obtain ⟨⟨g, ⟨⟩⟩, ⟨⟩⟩ := g
 obtain ⟨⟨n, lo, hi, ⟨⟩⟩, ⟨⟩⟩ := s
 obtain ⟨⟨f, is, ⟨⟩⟩, ⟨⟩⟩ := e
 have hs : (n, lo, hi) = (vals name l).foldl stS (0, 0, 0) := hs
 have he1 : f = (vals name l).foldl (stB top) zeroQ := he.1
 have he2 : is = true ↔ ((vals name l).foldl (stB top) zeroQ).1 = 3 := he.2
 rw [← he1] at he2
 exact law_l0 name top l hu1 hp hf g hg n lo hi is f l.length 0 (Nat.zero_add _) 0 (0, 0, 0) zeroQ (Int.le_refl _) (Int.le_refl _) (by rw [List.drop_zero]; exact Nat.zero_add _) (by rw [List.drop_zero]; exact hs.symm) (by rw [List.drop_zero]; exact he1.symm) he2
end Go.Proofs.Ytcjiipbppkdkaaa.Pure
