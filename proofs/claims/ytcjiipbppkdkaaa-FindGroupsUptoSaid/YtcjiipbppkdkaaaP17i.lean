/- Plain laws of chapter 17: groups, by the program. -/
import Derived.Test.YtcjiipbppkdkaaaP17h
namespace Go.Proofs.Ytcjiipbppkdkaaa.Pure
open Go Go.Proofs.Ytcjiipbppkdkaaa.E Go.Proofs.Ytcjiipbppkdkaaa.Eng
set_option linter.unusedVariables false
set_option linter.unusedSimpArgs false
theorem grp1_ok (e : Grp) (v : ValueT) : Runs (fun k => find_Groups_1.f k e v) ((cmpV e.1 v, ()), ()) :=
 Runs.step (fun k => rfl) (Runs.bind (cmp_ok _ _) Runs.some)
structure Spot (g : List Grp) (v : ValueT) (i : Nat) : Prop where
 le : i ≤ g.length
 lo : ∀ (j : Nat) (h : j < g.length), j < i → cmpV g[j].1 v < 0
 hi : ∀ (j : Nat) (h : j < g.length), i ≤ j → 0 ≤ cmpV g[j].1 v
theorem sortG_lt {g : List Grp} (hs : SortG g) {i j : Nat} (hj : j < g.length) (hij : i < j) : cmpV g[i].1 g[j].1 < 0 := List.pairwise_iff_getElem.mp hs i j (by omega) hj hij
theorem bs_loop (g : List Grp) (hs : SortG g) (hl : g.length ≤ 1000) (v : ValueT) : ∀ (m i j : Nat), j - i ≤ m → i ≤ j → j ≤ g.length → (∀ (q : Nat) (h : q < g.length), q < i → cmpV g[q].1 v < 0) → (∀ (q : Nat) (h : q < g.length), j ≤ q → 0 ≤ cmpV g[q].1 v) →
  TP (fun k => slices_BinarySearchFunc_api_Value_v0.l0 k g (g.length : Int) (i : Int) (j : Int) v.1 v.2.1 v.2.2.1 v.2.2.2.1 v.2.2.2.2.1) (fun r => r.1.2.2.1 = g ∧ ∃ q : Nat, r.1.1 = (q : Int) ∧ Spot g v q ∧ (r.1.2.1 = true ↔ ∃ h : q < g.length, cmpV g[q].1 v = 0)) := by
 intro m
 induction m with
 | zero =>
  intro i j hm hij hj hlo hhi
  have e : i = j := by omega
  subst e
  refine TP.step (fun k => rfl) (TP.no (by apply decide_eq_false; omega) (TP.dec (fun h => ?_) fun h => ?_))
  ·have h : i < g.length := by omega
   refine TP.ck (by simp only [Bool.and_eq_true, decide_eq_true_eq]; omega) (TP.optE (rdo_at h) (TP.bindR (grp1_ok g[i] v) (TP.some ⟨rfl, i, rfl, ⟨hj, hlo, hhi⟩, ?_⟩)))
   show ((cmpV g[i].1 v : Int) == 0) = true ↔ _
   rw [beq_iff_eq]
   exact ⟨fun e => ⟨h, e⟩, fun ⟨_, e⟩ => e⟩
  ·exact TP.some ⟨rfl, i, rfl, ⟨hj, hlo, hhi⟩, ⟨(fun e => nomatch e), fun ⟨h', _⟩ => absurd (by omega : (i : Int) < (g.length : Int)) h⟩⟩
 | succ m ih =>
  intro i j hm hij hj hlo hhi
  by_cases hlt : i < j
  ·have hh := half_ok i j (by omega)
   have hq : (i + j) / 2 < g.length := by omega
   refine TP.step (body := fun k => bif decide ((i : Int) < (j : Int)) then
     (ck (!decide ((1 : Int) < 0))).bind fun _ =>
     (ck (decide (0 ≤ IntKind.wrap .i64 (Int.fdiv (IntKind.wrap .u64 (IntKind.wrap .i64 ((i : Int) + (j : Int)))) (2 ^ (min (1 : Int).toNat (IntKind.bits .u64))))) && decide (IntKind.wrap .i64 (Int.fdiv (IntKind.wrap .u64 (IntKind.wrap .i64 ((i : Int) + (j : Int)))) (2 ^ (min (1 : Int).toNat (IntKind.bits .u64)))) < (g.length : Int)))).bind fun _ =>
     (rdo g (IntKind.wrap .i64 (Int.fdiv (IntKind.wrap .u64 (IntKind.wrap .i64 ((i : Int) + (j : Int)))) (2 ^ (min (1 : Int).toNat (IntKind.bits .u64)))))).bind fun t1 =>
     (find_Groups_1.f k t1 (v.1, (v.2.1, (v.2.2.1, (v.2.2.2.1, (v.2.2.2.2.1, ())))))).bind fun r2 =>
     bif decide ((r2.1.1 : Int) < 0) then
      slices_BinarySearchFunc_api_Value_v0.l0 k g (g.length : Int) (IntKind.wrap .i64 ((IntKind.wrap .i64 (Int.fdiv (IntKind.wrap .u64 (IntKind.wrap .i64 ((i : Int) + (j : Int)))) (2 ^ (min (1 : Int).toNat (IntKind.bits .u64))))) + 1)) (j : Int) v.1 v.2.1 v.2.2.1 v.2.2.2.1 v.2.2.2.2.1
     else
      slices_BinarySearchFunc_api_Value_v0.l0 k g (g.length : Int) (i : Int) (IntKind.wrap .i64 (Int.fdiv (IntKind.wrap .u64 (IntKind.wrap .i64 ((i : Int) + (j : Int)))) (2 ^ (min (1 : Int).toNat (IntKind.bits .u64))))) v.1 v.2.1 v.2.2.1 v.2.2.2.1 v.2.2.2.2.1
    else
    bif decide ((i : Int) < (g.length : Int)) then
     (ck (decide (0 ≤ (i : Int)) && decide ((i : Int) < (g.length : Int)))).bind fun _ =>
     (rdo g (i : Int)).bind fun t3 =>
     (find_Groups_1.f k t3 (v.1, (v.2.1, (v.2.2.1, (v.2.2.2.1, (v.2.2.2.2.1, ())))))).bind fun r4 =>
     some (((i : Int), (r4.1.1 : Int) == 0, g, ()), (()))
    else
     some (((i : Int), false, g, ()), (()))) (fun k => rfl) ?_
   rw [hh]
   have hv : (v.1, (v.2.1, (v.2.2.1, (v.2.2.2.1, (v.2.2.2.2.1, ()))))) = v := rfl
   rw [hv]
   refine TP.yes (by apply decide_eq_true; omega) (TP.ck (by decide) (TP.ck (by simp only [Bool.and_eq_true, decide_eq_true_eq]; omega) (TP.optE (rdo_at hq) (TP.bindR (grp1_ok g[(i + j) / 2] v) (TP.dec (fun h => ?_) fun h => ?_)))))
   ·have h : cmpV g[(i + j) / 2].1 v < 0 := h
    rw [show IntKind.wrap .i64 ((((i + j) / 2 : Nat) : Int) + 1) = (((i + j) / 2 + 1 : Nat) : Int) by rw [wrap_i64 (by omega) (by omega)]; rfl]
    refine ih ((i + j) / 2 + 1) j (by omega) (by omega) hj (fun q hq' hlt' => ?_) hhi
    by_cases e : q = (i + j) / 2
    ·subst e; exact h
    ·have := sortG_lt hs hq (show q < (i + j) / 2 by omega)
     exact cmp_lt this (by omega)
   ·have h : ¬ cmpV g[(i + j) / 2].1 v < 0 := h
    refine ih i ((i + j) / 2) (by omega) (by omega) (by omega) hlo (fun q hq' hle => ?_)
    by_cases e : q = (i + j) / 2
    ·subst e; omega
    ·have h1 := sortG_lt hs hq' (show (i + j) / 2 < q by omega)
     have n1 := cmp_neg g[(i + j) / 2].1 v
     have n2 := cmp_neg g[q].1 v
     have := cmp_chain v g[(i + j) / 2].1 g[q].1 (by omega) (by omega)
     omega
  ·have e : i = j := by omega
   subst e
   exact ih i i (by omega) hij hj hlo hhi
theorem bs_ok (g : List Grp) (hs : SortG g) (hl : g.length ≤ 1000) (v : ValueT) : TP (fun k => slices_BinarySearchFunc_api_Value_v0.f k g v) (fun r => r.1.2.2.1 = g ∧ ∃ q : Nat, r.1.1 = (q : Int) ∧ Spot g v q ∧ (r.1.2.1 = true ↔ ∃ h : q < g.length, cmpV g[q].1 v = 0)) :=
 TP.step (fun k => rfl) (bs_loop g hs hl v g.length 0 g.length (by omega) (Nat.zero_le _) (Nat.le_refl _) (fun q _ h => absurd h (Nat.not_lt_zero _)) fun q h h' => absurd h' (by omega))
theorem addG_split (v : ValueT) : ∀ (a b : List Grp), (∀ e ∈ a, cmpV e.1 v < 0) → addG v (a ++ b) = a ++ addG v b
 | [], _, _ => rfl
 | e :: a, b, h => by
  show addG v (e :: (a ++ b)) = e :: (a ++ addG v b)
  conv => lhs; unfold addG
  rw [if_pos (h e (List.mem_cons_self ..)), addG_split v a b (fun x hx => h x (List.mem_cons_of_mem _ hx))]
theorem set_at {α : Type} (a b : List α) (x y : α) : (a ++ x :: b).set a.length y = a ++ y :: b := by
 induction a with
 | nil => rfl
 | cons z a ih => simp [ih]
theorem take_lo {g : List Grp} {v : ValueT} {i : Nat} (h : Spot g v i) : ∀ e ∈ g.take i, cmpV e.1 v < 0 := fun e he => by
 obtain ⟨j, hj, rfl⟩ := List.mem_iff_getElem.mp he
 have hj2 : j < i := by rw [List.length_take] at hj; omega
 rw [List.getElem_take]
 exact h.lo j (by have := h.le; omega) hj2
theorem addG_there {g : List Grp} {v : ValueT} {i : Nat} (h : Spot g v i) (hi : i < g.length) (h0 : cmpV g[i].1 v = 0) : addG v g = g.set i (g[i].1, IntKind.wrap .i64 (g[i].2.1 + 1), ()) := by
 have e : g = g.take i ++ g[i] :: g.drop (i + 1) := by rw [← List.drop_eq_getElem_cons hi, List.take_append_drop]
 have hl : (g.take i).length = i := by rw [List.length_take]; omega
 have h1 : addG v (g.take i ++ g[i] :: g.drop (i + 1)) = g.take i ++ (g[i].1, IntKind.wrap .i64 (g[i].2.1 + 1), ()) :: g.drop (i + 1) := by
  rw [addG_split v _ _ (take_lo h)]
  congr 1
  unfold addG
  rw [if_neg (by omega), if_pos h0]
 have h2 := set_at (g.take i) (g.drop (i + 1)) g[i] ((g[i].1, IntKind.wrap .i64 (g[i].2.1 + 1), ()) : Grp)
 rw [hl, ← e] at h2
 rw [h2, ← h1, ← e]
theorem addG_not {g : List Grp} {v : ValueT} {i : Nat} (h : Spot g v i) (h0 : ¬ ∃ hi : i < g.length, cmpV g[i].1 v = 0) : addG v g = g.take i ++ (v, 1, ()) :: g.drop i := by
 have e : addG v (g.take i ++ g.drop i) = g.take i ++ addG v (g.drop i) := addG_split v _ _ (take_lo h)
 rw [List.take_append_drop] at e
 rw [e]
 congr 1
 by_cases hi : i < g.length
 ·rw [List.drop_eq_getElem_cons hi]
  have := h.hi i hi (Nat.le_refl _)
  have hne : cmpV g[i].1 v ≠ 0 := fun e => h0 ⟨hi, e⟩
  unfold addG
  rw [if_neg (by omega), if_neg hne]
 ·rw [List.drop_of_length_le (by omega)]; rfl
def fv (name : ByteArray) (p : Pap) : Option ValueT := if fieldI name 0 p.2.2.1 < 0 then none else some (fieldV p (fieldI name 0 p.2.2.1))
def vals (name : ByteArray) (l : List Pap) : List ValueT := l.filterMap (fv name)
theorem by_fv (p : Pap) (name : ByteArray) (hb : p.2.2.1.length ≤ 1000000000) : TP (fun k => find_by.f k p name) (fun r => (fv name p = none → r.1.2.1 = false ∧ r.1.1 = (0, (false, (0, (0, (ByteArray.empty, ())))))) ∧ ∀ v, fv name p = some v → r.1.2.1 = true ∧ r.1.1 = v) := by
 refine TP.step (fun k => rfl) (TP.bindR (find_ok p name hb) (TP.dec (fun h => TP.some ⟨fun _ => ⟨rfl, rfl⟩, fun v h' => ?_⟩) fun h => ?_))
 ·have h : fieldI name 0 p.2.2.1 < 0 := h
  unfold fv at h'; rw [if_pos h] at h'; cases h'
 ·have h : ¬ fieldI name 0 p.2.2.1 < 0 := h
  obtain ⟨f, h1, h2⟩ := field_rdo p name (by omega)
  refine TP.optE h1 (TP.some ⟨fun h' => ?_, fun v h' => ?_⟩)
  ·unfold fv at h'; rw [if_neg h] at h'; cases h'
  ·unfold fv at h'; rw [if_neg h] at h'; injection h' with h'
   exact ⟨rfl, h2.trans h'⟩
theorem insG_run (g : List Grp) (i : Nat) (v : ValueT) (hi : i ≤ g.length) (hl : g.length ≤ 1000) : Runs (fun k => insG.f k g (i : Int) [(v, (0, ()))]) ((g.take i ++ (v, 0, ()) :: g.drop i, ()), ()) := by
 refine ⟨0, fun k _ => ?_⟩
 unfold insG.f
 have hc : (decide (0 ≤ (i : Int)) && decide ((i : Int) ≤ (g.length : Int)) && decide (0 < [((v, (0, ())) : Grp)].length) && decide ((g.length + [((v, (0, ())) : Grp)].length) * 56 ≤ 70368744177664)) = true := by
  simp only [Bool.and_eq_true, decide_eq_true_eq, List.length_cons, List.length_nil]; omega
 rw [hc]
 show some ((g.take ((i : Int)).toNat ++ [((v, (0, ())) : Grp)] ++ g.drop ((i : Int)).toNat, ()), ()) = _
 rw [Int.toNat_natCast]; simp
noncomputable def addO (o : Option ValueT) (g : List Grp) : List Grp := match o with | none => g | some v => addG v g
noncomputable def grpF (name : ByteArray) (l : List Pap) (g : List Grp) : List Grp := (vals name l).foldl (fun g v => addG v g) g
theorem groups_loop (name : ByteArray) (l : List Pap) (hl : l.length ≤ 30) (hp : ∀ p ∈ l, p.2.2.1.length ≤ 1000) (hf : ∀ v ∈ vals name l, FV v) : ∀ (m i : Nat), i + m = l.length → ∀ (g : List Grp), GI (vals name (l.take i)) g →
  TP (fun k => find_Groups.l0 k name g l (l.length : Int) (i : Int)) (fun r => GI (vals name l) r.1.1)
 | 0, i, h, g, hg => by
  rw [List.take_of_length_le (by omega)] at hg
  exact TP.step (fun k => rfl) (TP.no (by apply decide_eq_false; omega) (TP.some hg))
 | m + 1, i, h, g, hg => by
  have hi : i < l.length := by omega
  have ei : IntKind.wrap .i64 ((i : Int) + 1) = ((i + 1 : Nat) : Int) := by rw [wrap_i64 (by omega) (by omega)]; rfl
  have hv : vals name (l.take (i + 1)) = vals name (l.take i) ++ (match fv name l[i] with | none => [] | some v => [v]) := by
   unfold vals
   rw [List.take_succ_eq_append_getElem hi, List.filterMap_append]
   congr 1
   cases hfv : fv name l[i] <;> simp [hfv]
  have hle : (vals name (l.take i)).length ≤ 30 := by
   have := List.length_filterMap_le (fv name) (l.take i)
   rw [List.length_take] at this
   unfold vals; omega
  have hgl := hg.len
  have hsub : ∀ u ∈ vals name (l.take i), FV u := fun u hu => hf u (by
   unfold vals at hu ⊢
   obtain ⟨p, h1, h2⟩ := List.mem_filterMap.mp hu
   exact List.mem_filterMap.mpr ⟨p, List.mem_of_mem_take h1, h2⟩)
  refine TP.step (fun k => rfl) (TP.yes (by apply decide_eq_true; omega) (TP.optE (rdo_at hi) (TP.bind (by_fv l[i] name (by have := hp _ (List.getElem_mem hi); omega)) fun r hr => ?_)))
  obtain ⟨⟨v, b, ⟨⟩⟩, ⟨⟩⟩ := r
  cases hfv : fv name l[i] with
  | none =>
   have e : b = false := (hr.1 hfv).1
   subst e
   rw [ei]
   refine TP.yes rfl (groups_loop name l hl hp hf m (i + 1) (by omega) g ?_)
   rw [hv, hfv, List.append_nil]; exact hg
  | some u =>
   have e : b = true := (hr.2 u hfv).1
   have e2 : v = u := (hr.2 u hfv).2
   subst e; subst e2
   have hfu : FV v := hf v (List.mem_filterMap.mpr ⟨l[i], List.getElem_mem hi, hfv⟩)
   have hg' : GI (vals name (l.take (i + 1))) (addG v g) := by rw [hv, hfv]; exact hg.add hfu hsub (by omega)
   rw [ei]
   refine TP.no rfl (TP.bind (bs_ok g hg.ord (by omega) v) fun r hr => ?_)
   obtain ⟨⟨q, b, g2, ⟨⟩⟩, ⟨⟩⟩ := r
   obtain ⟨e1, i2, e2, hs, hb⟩ := hr
   have e1 : g2 = g := e1
   have e2 : q = (i2 : Int) := e2
   have hb : b = true ↔ ∃ h : i2 < g.length, cmpV g[i2].1 v = 0 := hb
   subst e1; subst e2
   refine TP.not (fun hbf => ?_) fun hbt => ?_
   ·have hbf : b = false := hbf
    have h0 : ¬ ∃ hi : i2 < g2.length, cmpV g2[i2].1 v = 0 := fun hx => by have ht : b = true := hb.mpr hx; rw [hbf] at ht; cases ht
    have ea := addG_not hs h0
    have hlt : (g2.take i2).length = i2 := by rw [List.length_take]; have := hs.le; omega
    have hin : i2 < (g2.take i2 ++ (v, 0, ()) :: g2.drop i2).length := by rw [List.length_append, List.length_cons]; omega
    have hat : (g2.take i2 ++ ((v, 0, ()) : Grp) :: g2.drop i2)[i2] = (v, 0, ()) := by
     rw [List.getElem_append_right (by omega)]
     simp [hlt]
    have hset := set_at (g2.take i2) (g2.drop i2) ((v, 0, ()) : Grp) (v, 1, ())
    rw [hlt] at hset
    have hrd := rdo_at hin
    rw [hat] at hrd
    refine TP.bindR (insG_run g2 i2 v hs.le (by omega)) (TP.ck (by simp only [Bool.and_eq_true, decide_eq_true_eq]; omega) (TP.optE hrd (TP.ck (by simp only [Bool.and_eq_true, decide_eq_true_eq]; omega) (TP.optE hrd ?_))))
    refine groups_loop name l hl hp hf m (i + 1) (by omega) _ ?_
    rw [ea, ← hset] at hg'
    exact hg'
   ·have hbt : b = true := hbt
    obtain ⟨hi2, h0⟩ := hb.mp hbt
    have ea := addG_there hs hi2 h0
    refine TP.ck (by simp only [Bool.and_eq_true, decide_eq_true_eq]; omega) (TP.optE (rdo_at hi2) (TP.ck (by simp only [Bool.and_eq_true, decide_eq_true_eq]; omega) (TP.optE (rdo_at hi2) ?_)))
    refine groups_loop name l hl hp hf m (i + 1) (by omega) _ ?_
    rw [ea] at hg'
    exact hg'
theorem groups_ok (name : ByteArray) (l : List Pap) (hl : l.length ≤ 30) (hp : ∀ p ∈ l, p.2.2.1.length ≤ 1000) (hf : ∀ v ∈ vals name l, FV v) : TP (fun k => find_Groups.f k name l) (fun r => GI (vals name l) r.1.1) :=
 TP.step (fun k => rfl) (groups_loop name l hl hp hf l.length 0 (Nat.zero_add _) [] GI.nil)
end Go.Proofs.Ytcjiipbppkdkaaa.Pure
