/- Plain laws of chapter 17: papers, cut, whose values may be; how often a value is, by the document. -/
import Derived.Test.YtcjiipbppkdkaaaP17j
import Derived.Test.YtcjiipbppkdkaaaPAw17
namespace Go.Proofs.Ytcjiipbppkdkaaa.Pure
open Go Go.Proofs.Ytcjiipbppkdkaaa.E Go.Proofs.Ytcjiipbppkdkaaa.Eng
set_option linter.unusedVariables false
set_option linter.unusedSimpArgs false
abbrev FOk (l : List Fld) : Prop := ∀ f ∈ l, BOk f.2.1
theorem pfewR_loop (x z : Pap) (hx : FOk x.2.2.1) (id : ByteArray) (c : Int) : ∀ (m i : Nat), 30 - i = m → i ≤ 30 → i ≤ x.2.2.1.length → ∀ (out : List Fld), out.length = i → FOk out →
  TP (fun k => chartularylaw05_Few.l0 k (i : Int) x.1 x.2.1 x.2.2.1 z.1 z.2.1 z.2.2.1 id c out) (fun v => v.1.1.2.2.1.length ≤ 30 ∧ FOk v.1.1.2.2.1)
 | m, i, h, h30, hxl, out, ho, hok => by
  have hend : ((((id, (c, (out, ()))), ()), ()) : chartularylaw05_Few.R).1.1.2.2.1.length ≤ 30 ∧ FOk ((((id, (c, (out, ()))), ()), ()) : chartularylaw05_Few.R).1.1.2.2.1 := ⟨by dsimp only; omega, hok⟩
  refine TP.step (fun k => rfl) (TP.dec (fun h1 => TP.dec (fun h2 => ?_) fun h2 => TP.some hend) fun h1 => TP.some hend)
  have hi : i < x.2.2.1.length := by omega
  cases m with
  | zero => omega
  | succ m =>
  have hb := hx _ (List.getElem_mem hi)
  have nx (f : Fld) (hf : BOk f.2.1) : TP (fun k => chartularylaw05_Few.l0 k (IntKind.wrap .i64 ((i : Int) + 1)) x.1 x.2.1 x.2.2.1 z.1 z.2.1 z.2.2.1 id c (out ++ [f])) (fun v => v.1.1.2.2.1.length ≤ 30 ∧ FOk v.1.1.2.2.1) := by
   rw [show IntKind.wrap .i64 ((i : Int) + 1) = ((i + 1 : Nat) : Int) by rw [wrap_i64 (by omega) (by omega)]; rfl]
   refine pfewR_loop x z hx id c m (i + 1) (by omega) (by omega) (by omega) _ (by simp only [List.length_append, List.length_cons, List.length_nil]; omega) fun g hg => ?_
   rcases List.mem_append.1 hg with hg | hg
   ·exact hok g hg
   ·rw [List.mem_singleton.1 hg]; exact hf
  refine TP.optE (rdo_at hi) (TP.dec (fun h3 => TP.ck (by simp only [Bool.and_eq_true, decide_eq_true_eq]; omega) (TP.dec (fun h4 => TP.ck (by simp only [Bool.and_eq_true, decide_eq_true_eq]; omega) ?_) fun h4 => ?_)) fun h3 => TP.dec (fun h4 => TP.ck (by simp only [Bool.and_eq_true, decide_eq_true_eq]; omega) ?_) fun h4 => ?_)
  all_goals exact TP.ck (by apply decide_eq_true; simp only [List.length_cons, List.length_nil]; omega) (nx _ hb)
theorem pfewR_ok (x : Pap) (hx : FOk x.2.2.1) : TP (fun k => chartularylaw05_Few.f k x) (fun v => v.1.1.2.2.1.length ≤ 30 ∧ FOk v.1.1.2.2.1) := by
 have j (id : ByteArray) : TP (fun k => chartularylaw05_Few.j0 k x.1 x.2.1 x.2.2.1 ByteArray.empty 0 [] id x.2.1 []) (fun v => v.1.1.2.2.1.length ≤ 30 ∧ FOk v.1.1.2.2.1) :=
  TP.step (fun k => rfl) (pfewR_loop x (ByteArray.empty, 0, [], ()) hx id x.2.1 30 0 rfl (by omega) (Nat.zero_le _) [] rfl fun f hf => nomatch hf)
 exact TP.step (fun k => rfl) (TP.dec (fun h => TP.ck (by simp only [Bool.and_eq_true, decide_eq_true_eq]; omega) (j _)) fun h => j _)
theorem papersR_loop (l : List Pap) (hx : ∀ p ∈ l, FOk p.2.2.1) : ∀ (m i : Nat), 30 - i = m → i ≤ 30 → i ≤ l.length → ∀ (out : List Pap), out.length = i → (∀ p ∈ out, p.2.2.1.length ≤ 30 ∧ FOk p.2.2.1) → TP (fun k => chartularylaw17_papers.l0 k l out (i : Int)) (fun v => v.1.1.length ≤ 30 ∧ ∀ p ∈ v.1.1, p.2.2.1.length ≤ 30 ∧ FOk p.2.2.1)
 | m, i, h, h30, hxl, out, ho, hz => by
  have hend : (((out, ()), ()) : chartularylaw17_papers.R).1.1.length ≤ 30 ∧ ∀ p ∈ (((out, ()), ()) : chartularylaw17_papers.R).1.1, p.2.2.1.length ≤ 30 ∧ FOk p.2.2.1 := ⟨by dsimp only; omega, hz⟩
  refine TP.step (fun k => rfl) (TP.dec (fun h1 => TP.dec (fun h2 => ?_) fun h2 => TP.some hend) fun h1 => TP.some hend)
  have hi : i < l.length := by omega
  cases m with
  | zero => omega
  | succ m =>
  refine TP.optE (rdo_at hi) (TP.bind (pfewR_ok l[i] (hx _ (List.getElem_mem hi))) fun v hv => TP.ck (by apply decide_eq_true; simp only [List.length_cons, List.length_nil]; omega) ?_)
  rw [show IntKind.wrap .i64 ((i : Int) + 1) = ((i + 1 : Nat) : Int) by rw [wrap_i64 (by omega) (by omega)]; rfl]
  refine papersR_loop l hx m (i + 1) (by omega) (by omega) (by omega) _ (by simp only [List.length_append, List.length_cons, List.length_nil]; omega) fun p hp => ?_
  rcases List.mem_append.1 hp with hp | hp
  ·exact hz p hp
  ·rw [List.mem_singleton.1 hp]; exact hv
theorem papersR_ok (l : List Pap) (hx : ∀ p ∈ l, FOk p.2.2.1) : TP (fun k => chartularylaw17_papers.f k l) (fun v => v.1.1.length ≤ 30 ∧ ∀ p ∈ v.1.1, p.2.2.1.length ≤ 30 ∧ FOk p.2.2.1) :=
 TP.step (fun k => rfl) (papersR_loop l hx 30 0 rfl (by omega) (Nat.zero_le _) [] rfl fun p hp => nomatch hp)
/-! ## All values may be -/
theorem rightR_l1 (l : List Pap) (h30 : l.length ≤ 1000) (i : Nat) (hi : i < l.length) (hp : l[i].2.2.1.length ≤ 1000) (Q : Prop)
  (hc : (∀ f ∈ l[i].2.2.1, rightQ f.2.1 = true) → TP (fun k => chartularylaw17_right.l0 k l (IntKind.wrap .i64 ((i : Int) + 1))) (fun v => v.1.1 = true → Q)) : ∀ (m j : Nat), j + m = l[i].2.2.1.length → (∀ (q : Nat) (h : q < l[i].2.2.1.length), q < j → rightQ l[i].2.2.1[q].2.1 = true) →
  TP (fun k => chartularylaw17_right.l1 k l (i : Int) (j : Int)) (fun v => v.1.1 = true → Q)
 | 0, j, h, hj => TP.step (fun k => rfl) (TP.optE (rdo_at hi) (TP.no (by apply decide_eq_false; omega) (hc fun f hf => by
   obtain ⟨q, hq, rfl⟩ := List.mem_iff_getElem.mp hf
   exact hj q hq (by omega))))
 | m + 1, j, h, hj => by
  have hj' : j < l[i].2.2.1.length := by omega
  refine TP.step (fun k => rfl) (TP.optE (rdo_at hi) (TP.yes (by apply decide_eq_true; omega) (TP.optE (rdo_at hi) (TP.optE (rdo_at hj') (TP.bindR (rightQ_ok _) (TP.not (fun _ => TP.some fun e => nomatch e) fun hr => ?_))))))
  have hr : rightQ l[i].2.2.1[j].2.1 = true := hr
  rw [show IntKind.wrap .i64 ((j : Int) + 1) = ((j + 1 : Nat) : Int) by rw [wrap_i64 (by omega) (by omega)]; rfl]
  refine rightR_l1 l h30 i hi hp Q hc m (j + 1) (by omega) fun q hq hlt => ?_
  by_cases e : q = j
  ·subst e; exact hr
  ·exact hj q hq (by omega)
theorem rightR_l0 (l : List Pap) (h30 : l.length ≤ 1000) (hp : ∀ p ∈ l, p.2.2.1.length ≤ 1000) : ∀ (m i : Nat), i + m = l.length → (∀ (q : Nat) (h : q < l.length), q < i → ∀ f ∈ l[q].2.2.1, rightQ f.2.1 = true) → TP (fun k => chartularylaw17_right.l0 k l (i : Int)) (fun v => v.1.1 = true → ∀ p ∈ l, ∀ f ∈ p.2.2.1, rightQ f.2.1 = true)
 | 0, i, h, hi => TP.step (fun k => rfl) (TP.no (by apply decide_eq_false; omega) (TP.some fun _ p hp' f hf => by
   obtain ⟨q, hq, rfl⟩ := List.mem_iff_getElem.mp hp'
   exact hi q hq (by omega) f hf))
 | m + 1, i, h, hi => by
  have hi' : i < l.length := by omega
  refine TP.step (fun k => rfl) (TP.yes (by apply decide_eq_true; omega) ?_)
  refine rightR_l1 l h30 i hi' (hp _ (List.getElem_mem hi')) _ (fun hall => ?_) _ 0 (Nat.zero_add _) (fun q _ h => absurd h (Nat.not_lt_zero _))
  rw [show IntKind.wrap .i64 ((i : Int) + 1) = ((i + 1 : Nat) : Int) by rw [wrap_i64 (by omega) (by omega)]; rfl]
  refine rightR_l0 l h30 hp m (i + 1) (by omega) fun q hq hlt => ?_
  by_cases e : q = i
  ·subst e; exact hall
  ·exact hi q hq (by omega)
theorem rightR_ok (l : List Pap) (h30 : l.length ≤ 1000) (hp : ∀ p ∈ l, p.2.2.1.length ≤ 1000) : TP (fun k => chartularylaw17_right.f k l) (fun v => v.1.1 = true → ∀ p ∈ l, ∀ f ∈ p.2.2.1, rightQ f.2.1 = true) :=
 TP.step (fun k => rfl) (rightR_l0 l h30 hp _ 0 (Nat.zero_add _) fun q _ h => absurd h (Nat.not_lt_zero _))
theorem fv_mem {name : ByteArray} {p : Pap} {v : ValueT} (h : fv name p = some v) : ∃ f ∈ p.2.2.1, f.2.1 = v ∧ ∃ j : Nat, fieldI name 0 p.2.2.1 = (j : Int) ∧ ∃ hj : j < p.2.2.1.length, p.2.2.1[j] = f := by
 unfold fv at h
 split at h
 ·cases h
 ·rename_i h0
  injection h with h
  rcases fieldI_at name p.2.2.1 0 with h1 | ⟨j, h1, h2⟩
  ·omega
  ·rw [Nat.zero_add] at h2
   refine ⟨p.2.2.1[j], List.getElem_mem h1, ?_, j, h2, h1, rfl⟩
   rw [← h, h2]
   unfold fieldV
   rw [Int.toNat_natCast, List.getD_eq_getElem?_getD, List.getElem?_eq_getElem h1]; rfl
theorem vals_right {name : ByteArray} {l : List Pap} (hb : ∀ p ∈ l, FOk p.2.2.1) (hr : ∀ p ∈ l, ∀ f ∈ p.2.2.1, rightQ f.2.1 = true) : ∀ v ∈ vals name l, FV v ∧ rightV v = true := fun v hv => by
 obtain ⟨p, hp, h⟩ := List.mem_filterMap.mp hv
 obtain ⟨f, hf, rfl, _⟩ := fv_mem h
 have h1 := hb p hp f hf
 have h2 := hr p hp f hf
 rw [rightQ_eq h1] at h2
 exact ⟨rightV_form h1 h2, h2⟩
theorem vals_take (name : ByteArray) {l : List Pap} {i : Nat} (hi : i < l.length) : vals name (l.take (i + 1)) = vals name (l.take i) ++ (match fv name l[i] with | none => [] | some v => [v]) := by
 unfold vals
 rw [List.take_succ_eq_append_getElem hi, List.filterMap_append]
 congr 1
 cases hfv : fv name l[i] <;> simp [hfv]
theorem sum_drop {g : List Grp} {i : Nat} (hi : i < g.length) : ((g.drop i).map (fun e => e.2.1)).sum = g[i].2.1 + ((g.drop (i + 1)).map (fun e => e.2.1)).sum := by
 rw [List.drop_eq_getElem_cons hi]; rfl
section
variable (name : ByteArray) (l : List Pap) (hl : l.length ≤ 30) (hp : ∀ p ∈ l, p.2.2.1.length ≤ 1000) (g : List Grp) (hg : GI (vals name l) g)
include hl hp hg
theorem grp_l2 (i : Nat) (hi : i < g.length) (t : Int) (ht : t = ((g.drop i).map (fun e => e.2.1)).sum) (ht2 : 0 ≤ t ∧ t ≤ 1000) (hc : TP (fun k => chartularylaw17_FindGroups.l1 k name l g (IntKind.wrap .i64 (t - g[i].2.1)) (IntKind.wrap .i64 ((i : Int) + 1))) (fun v => v.1.1 = true)) : ∀ (m j : Nat), j + m = l.length → ∀ c : Nat, c = cntL g[i].1 (vals name (l.take j)) →
  TP (fun k => chartularylaw17_FindGroups.l2 k name l g t (i : Int) (c : Int) (j : Int)) (fun v => v.1.1 = true)
 | 0, j, h, c, hcn => by
  rw [List.take_of_length_le (by omega)] at hcn
  obtain ⟨h1, h2⟩ := hg.cnt g[i] (List.getElem_mem hi)
  have hpos := cntL_pos h2
  have hle := cntL_le g[i].1 (vals name l)
  have hvl := List.length_filterMap_le (fv name) l
  have hvl : (vals name l).length ≤ l.length := hvl
  have e1 : g[i].2.1 = (c : Int) := by rw [h1, hcn]
  rw [e1] at hc
  have hgl := hg.len
  refine TP.step (fun k => rfl) (TP.no (by apply decide_eq_false; omega) (TP.optE (rdo_at hi) (TP.neI (fun e => absurd e1 e) fun _ => TP.eqI (fun e => by exfalso; have e : (c : Int) = 0 := e; omega) fun _ => TP.dec (fun h0 => ?_) fun h0 => hc)))
  have h0 : (i : Int) > 0 := h0
  have hlt := sortG_lt hg.ord hi (show i - 1 < i by omega)
  rw [show IntKind.wrap .i64 ((i : Int) - 1) = ((i - 1 : Nat) : Int) by rw [wrap_i64 (by omega) (by omega)]; omega]
  exact TP.optE (rdo_at (show i - 1 < g.length by omega)) (TP.optE (rdo_at hi) (TP.bindR (cmp_ok _ _) (TP.dec (fun h => by exfalso; have h : cmpV g[i - 1].1 g[i].1 ≥ 0 := h; omega) fun _ => hc)))
 | m + 1, j, h, c, hcn => by
  have hj : j < l.length := by omega
  have hpj := hp _ (List.getElem_mem hj)
  have ej : IntKind.wrap .i64 ((j : Int) + 1) = ((j + 1 : Nat) : Int) := by rw [wrap_i64 (by omega) (by omega)]; rfl
  have hv := vals_take name hj
  have hle := cntL_le g[i].1 (vals name (l.take j))
  have hvl := List.length_filterMap_le (fv name) (l.take j)
  rw [List.length_take] at hvl
  have hvl : (vals name (l.take j)).length ≤ min j l.length := hvl
  refine TP.step (fun k => rfl) (TP.yes (by apply decide_eq_true; omega) (TP.optE (rdo_at hj) (TP.bindR (lfield_ok l[j] name (by omega)) ?_)))
  cases hfv : fv name l[j] with
  | none =>
   rw [hfv, List.append_nil] at hv
   have hneg : fieldI name 0 l[j].2.2.1 < 0 := by
    unfold fv at hfv
    split at hfv
    ·rename_i h; exact h
    ·cases hfv
   rw [ej]
   exact TP.no (by apply decide_eq_false; show ¬ fieldI name 0 l[j].2.2.1 ≥ 0; omega) (grp_l2 i hi t ht ht2 hc m (j + 1) (by omega) c (by rw [hv]; exact hcn))
  | some v =>
   rw [hfv] at hv
   obtain ⟨f, hf, hfe, q, hq, hql, hqe⟩ := fv_mem hfv
   have hcnt : cntL g[i].1 (vals name (l.take (j + 1))) = c + if v = g[i].1 then 1 else 0 := by
    rw [hv, cntL_app, ← hcn, cntL_one]
   rw [ej]
   have hrd : rdo l[j].2.2.1 (((fieldI name 0 l[j].2.2.1, ()), ()) : chartularylaw17_field.R).1.1 = some f := by
    show rdo l[j].2.2.1 (fieldI name 0 l[j].2.2.1) = _
    rw [hq, rdo_at hql, hqe]
   refine TP.yes (by apply decide_eq_true; show fieldI name 0 l[j].2.2.1 ≥ 0; omega) (TP.optE (rdo_at hj) (TP.optE hrd (TP.optE (rdo_at hi) (TP.cond (fun he => ?_) fun he => ?_))))
   ·have he : f.2.1 = g[i].1 := (eqVal_iff _ _).mp he
    rw [show IntKind.wrap .i64 ((c : Int) + 1) = ((c + 1 : Nat) : Int) by rw [wrap_i64 (by omega) (by omega)]; rfl]
    exact grp_l2 i hi t ht ht2 hc m (j + 1) (by omega) (c + 1) (by rw [hcnt, if_pos (hfe ▸ he)])
   ·have he : ¬ f.2.1 = g[i].1 := fun e => by have := (eqVal_iff _ _).mpr e; rw [show eqVal f.2.1 g[i].1 = false from he] at this; cases this
    exact grp_l2 i hi t ht ht2 hc m (j + 1) (by omega) c (by rw [hcnt, if_neg (hfe ▸ he)]; rfl)
theorem grp_l1 : ∀ (m i : Nat), i + m = g.length → ∀ t : Int, t = ((g.drop i).map (fun e => e.2.1)).sum → 0 ≤ t ∧ t ≤ 1000 → TP (fun k => chartularylaw17_FindGroups.l1 k name l g t (i : Int)) (fun v => v.1.1 = true)
 | 0, i, h, t, ht, ht2 => by
  rw [List.drop_of_length_le (by omega)] at ht
  have ht : t = 0 := ht
  subst ht
  exact TP.step (fun k => rfl) (TP.no (by apply decide_eq_false; omega) (TP.eqI (fun _ => awake_end fun _ => rfl) fun e => absurd rfl e))
 | m + 1, i, h, t, ht, ht2 => by
  have hi : i < g.length := by omega
  have hgl := hg.len
  have hvl := List.length_filterMap_le (fv name) l
  have hvl : (vals name l).length ≤ l.length := hvl
  rw [sum_drop hi] at ht
  have hpos : ∀ q : List Grp, (∀ e ∈ q, e ∈ g) → 0 ≤ (q.map (fun e => e.2.1)).sum := by
   intro q
   induction q with
   | nil => intro _; exact Int.le_refl _
   | cons e r ih =>
    intro hq
    have h1 := ih (fun x hx => hq x (List.mem_cons_of_mem _ hx))
    have h2 := (hg.cnt e (hq e (List.mem_cons_self ..))).1
    simp only [List.map_cons, List.sum_cons]; omega
  have h1 := hpos (g.drop (i + 1)) fun e he => List.mem_of_mem_drop he
  have h2 := (hg.cnt g[i] (List.getElem_mem hi)).1
  have hc : TP (fun k => chartularylaw17_FindGroups.l1 k name l g (IntKind.wrap .i64 (t - g[i].2.1)) (IntKind.wrap .i64 ((i : Int) + 1))) (fun v => v.1.1 = true) := by
   rw [show IntKind.wrap .i64 ((i : Int) + 1) = ((i + 1 : Nat) : Int) by rw [wrap_i64 (by omega) (by omega)]; rfl, wrap_i64 (by omega) (by omega)]
   exact grp_l1 m (i + 1) (by omega) _ (by omega) (by omega)
  exact TP.step (fun k => rfl) (TP.yes (by apply decide_eq_true; omega) (grp_l2 name l hl hp g hg i hi t (by rw [sum_drop hi]; exact ht) ht2 hc l.length 0 (Nat.zero_add _) 0 rfl))
end
end Go.Proofs.Ytcjiipbppkdkaaa.Pure
