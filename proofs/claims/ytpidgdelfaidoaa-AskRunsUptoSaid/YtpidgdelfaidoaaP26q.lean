/- Plain laws of chapter 26: what a query finds is what its text finds. -/
import Derived.Test.YtpidgdelfaidoaaP26p
import Derived.Test.YtpidgdelfaidoaaP17d
import Derived.Test.YtpidgdelfaidoaaPAw26
namespace Go.Proofs.Ytpidgdelfaidoaa.Pure
open Go Go.Proofs.Ytpidgdelfaidoaa.E Go.Proofs.Ytpidgdelfaidoaa.Eng
set_option linter.unusedVariables false
set_option linter.unusedSimpArgs false
theorem betV_said (t : Trm) (v : ValueT) : betV (saidT t) v = betV t v := by
 obtain ⟨n, a, b, c, d, e, ⟨⟩⟩ := t
 cases c <;> cases d <;> rfl
theorem holdsV_said (t : Trm) (p : Pap) : holdsV (saidT t) p = holdsV t p := by
 unfold holdsV
 rw [betV_said]; rfl
theorem allV_said (l : List Trm) : allV (l.map saidT) = allV l := by
 funext p
 unfold allV
 rw [List.all_map]
 congr 1
 funext t
 exact holdsV_said t p
theorem found_said (q : Qry) (l : List Pap) : foundV (saidQ q) l = foundV q l := by
 unfold foundV
 have e : allV (saidQ q).1 = allV q.1 := allV_said q.1
 rw [e]
 have e2 : ∀ x, outV l (saidQ q) x = outV l q x := fun x => by
  unfold outV
  have e3 : (saidQ q).2.1 = q.2.1 := rfl
  rw [e3]
  split
  ·rfl
  ·rename_i h
   have e4 : (saidQ q).2.2.1 = q.2.2.1 := by
    show (q.2.2.1 && !decide (q.2.1 = ⟨#[]⟩)) = _
    rw [decide_eq_false h, Bool.not_false, Bool.and_true]
   rw [e4]
 rw [e2]; rfl
theorem checkT_said : ∀ l : List Trm, checkT l = 0 → checkT (l.map saidT) = 0
 | [], h => h
 | t :: r, h => by
  have ih := checkT_said r
  rw [List.map_cons]
  unfold checkT at h ⊢
  have e1 : (saidT t).1 = t.1 := rfl
  have e2 : (saidT t).2.2.2.1 = t.2.2.2.1 := rfl
  have e3 : (saidT t).2.2.2.2.1 = t.2.2.2.2.1 := rfl
  have e4 : t.2.2.2.1 = true → (saidT t).2.1 = t.2.1 := fun h => if_pos h
  have e5 : t.2.2.2.2.1 = true → (saidT t).2.2.1 = t.2.2.1 := fun h => if_pos h
  rw [e1, e2, e3]
  split at h
  ·cases h
  rename_i h1
  split at h
  ·cases h
  rename_i h2
  split at h
  ·cases h
  rename_i h3
  rw [if_neg h1, if_neg, if_neg]
  ·exact ih h
  ·rintro ⟨a, b⟩; rw [e5 a] at b; exact h3 ⟨a, b⟩
  ·rintro ⟨a, b⟩; rw [e4 a] at b; exact h2 ⟨a, b⟩
theorem checkA_said (q : Qry) (h : checkA q = 0) : checkA (saidQ q) = 0 := by
 unfold checkA at h ⊢
 have e1 : (saidQ q).1.length = q.1.length := List.length_map _
 have e2 : (saidQ q).2.2.2.1 = q.2.2.2.1 := rfl
 have e3 : (saidQ q).2.1 = q.2.1 := rfl
 rw [e1, e2, e3]
 split at h
 ·cases h
 rename_i h1
 split at h
 ·cases h
 rename_i h2
 rw [if_neg h1, if_neg h2]
 exact checkT_said q.1 h
theorem qry_said {q : Qry} (h : QryOk q) : QryOk (saidQ q) := ⟨⟨by show (q.1.map saidT).length ≤ _; rw [List.length_map]; exact h.t.1, fun t ht => by
 have ht : t ∈ q.1.map saidT := ht
 obtain ⟨u, hu, rfl⟩ := List.mem_map.mp ht
 exact h.t.2 u hu⟩, h.b⟩
theorem frun_ok (q : Qry) (l : List Pap) (hq : QryOk q) (hl : PapsOk l) (h30 : l.length ≤ 30) (hc : checkA q = 0) : Runs (fun k => find_Run.f k q l) ((foundV q l, 0, ()), ()) := by
 obtain ⟨v, hr, _, h2⟩ := run2_ok q l hq hl h30
 rw [h2 hc] at hr
 exact hr
def q0 : Qry := ([], ByteArray.empty, false, 64, ())
theorem q0_check : checkA q0 = 0 := by
 unfold checkA
 rw [if_neg (by decide), if_neg (fun h => h.1 rfl)]; rfl
theorem q0_qry : QryOk q0 := ⟨⟨by decide, fun t ht => nomatch ht⟩, by decide⟩
theorem read0 : Runs (fun k => ask_Read.f k (tx [])) ((q0, 0, 0, ()), ()) := Le.runs (fun k => ask_Read.le k _) read_at
theorem arun_ok (q : Qry) (l : List Pap) (h : QOk q) (hl : PapsOk l) (h30 : l.length ≤ 30) (hc : checkA q = 0) : Runs (fun k => ask_Run.f k (tx (printL q)) l) ((foundV q l, 0, 0, ()), ()) := by
 have hr := read_print q h (check_form q h hc) [] [] (by simp) (fun _ _ h => h) (.nil fun _ _ e => nomatch e) (fun _ _ e => nomatch e)
 rw [List.nil_append, List.append_nil] at hr
 refine Runs.step (fun k => rfl) (Runs.bind hr (Runs.no rfl (Runs.bind (frun_ok (saidQ q) l (qry_said h.qry) hl h30 (checkA_said q hc)) (Runs.some' ?_))))
 rw [found_said]
theorem arun0 (l : List Pap) (hl : PapsOk l) (h30 : l.length ≤ 30) : Runs (fun k => ask_Run.f k (tx []) l) ((foundV q0 l, 0, 0, ()), ()) :=
 Runs.step (fun k => rfl) (Runs.bind read0 (Runs.no rfl (Runs.bind (frun_ok q0 l q0_qry hl h30 q0_check) Runs.some)))
theorem found_len (q : Qry) (l : List Pap) (hl : l.length ≤ 30) : (foundV q l).length ≤ 1000000 := by
 unfold foundV
 rw [List.length_take, outV_len]
 have := selI_len (allV q.1) l 0
 omega
theorem aruns_l1 (x : List Int) (hx : x.length ≤ 1000000) : ∀ (m i : Nat), i + m = x.length → TP (fun k => chartularylaw26_AskRuns.l1 k x x (i : Int)) (fun v => v.1.1 = true)
 | 0, i, h => TP.step (fun k => rfl) (TP.no (by apply decide_eq_false; omega) (awake_end fun _ => rfl))
 | m + 1, i, h => by
  have hi : i < x.length := by omega
  refine TP.step (fun k => rfl) (TP.yes (by apply decide_eq_true; omega) (TP.optE (rdo_at hi) (TP.optE (rdo_at hi) (TP.neI (fun h => absurd rfl h) fun _ => ?_))))
  rw [show IntKind.wrap .i64 ((i : Int) + 1) = ((i + 1 : Nat) : Int) by rw [wrap_i64 (by omega) (by omega)]; rfl]
  exact aruns_l1 x hx m (i + 1) (by omega)
theorem aruns_j0 (q : Qry) (l : List Pap) (hq : QryOk q) (hl : PapsOk l) (h30 : l.length ≤ 30) (hc : checkA q = 0) : TP (fun k => chartularylaw26_AskRuns.j0 k l (foundV q l) 0 0 q.1 q.2.1 q.2.2.1 q.2.2.2.1) (fun v => v.1.1 = true) :=
 TP.step (fun k => rfl) (TP.bindR (frun_ok q l hq hl h30 hc) (TP.neI (fun h => absurd rfl h) fun _ => TP.neI (fun h => absurd rfl h) fun _ => TP.neI (fun h => absurd rfl h) fun _ => TP.step (fun k => rfl) (aruns_l1 _ (found_len q l h30) _ 0 (Nat.zero_add _))))
theorem aruns_end (q : Qry) (l : List Pap) (h : QOk q) (hl : PapsOk l) (h30 : l.length ≤ 30) {g : Nat → Option chartularylaw26_AskRuns.R}
  (hg : ∀ k, g k = (ask_Print.f k q).bind fun r4 => (ask_Run.f k r4.1.1 l).bind fun r5 => bif r4.1.1.toList == (⟨#[]⟩ : ByteArray).toList then chartularylaw26_AskRuns.j0 k l r5.1.1 r5.1.2.1 r5.1.2.2.1 [] ByteArray.empty false 64 else chartularylaw26_AskRuns.j0 k l r5.1.1 r5.1.2.1 r5.1.2.2.1 q.1 q.2.1 q.2.2.1 q.2.2.2.1) : TP g (fun v => v.1.1 = true) := by
 rw [funext hg]
 by_cases hc : checkA q = 0
 ·exact TP.bindR (print_ok q h h.qry hc) (TP.bindR (arun_ok q l h hl h30 hc) (TP.eqT (fun e => absurd e (printL_ne q)) fun _ => aruns_j0 q l h.qry hl h30 hc))
 ·exact TP.bindR (print_no q h.qry hc) (TP.bindR (arun0 l hl h30) (TP.eqT (fun _ => aruns_j0 q0 l q0_qry hl h30 q0_check) fun e => absurd rfl e))
theorem aruns_l0 (q : Qry) (hq : QOk q) (l : List Pap) : ∀ (m i : Nat), 20 - i = m → i ≤ 20 → i ≤ l.length → ∀ (out : List Pap), out.length = i → (∀ p ∈ out, p.2.2.1.length ≤ 30) → TP (fun k => chartularylaw26_AskRuns.l0 k l out (i : Int) q.1 q.2.1 q.2.2.1 q.2.2.2.1) (fun v => v.1.1 = true)
 | m, i, h, h20, hx, out, ho, hz => by
  have hps : PapsOk out := ⟨by omega, fun p hp => by have := hz p hp; omega⟩
  refine TP.step (fun k => rfl) (TP.dec (fun h1 => TP.dec (fun h2 => ?_) fun h2 => aruns_end q out hq hps (by omega) fun _ => rfl) fun h1 => aruns_end q out hq hps (by omega) fun _ => rfl)
  have hi : i < l.length := by omega
  cases m with
  | zero => omega
  | succ m =>
  refine TP.optE (rdo_at hi) (TP.bind (pfew_ok l[i]) fun v hv => TP.ck (by apply decide_eq_true; simp only [List.length_cons, List.length_nil]; omega) ?_)
  rw [show IntKind.wrap .i64 ((i : Int) + 1) = ((i + 1 : Nat) : Int) by rw [wrap_i64 (by omega) (by omega)]; rfl]
  refine aruns_l0 q hq l m (i + 1) (by omega) (by omega) (by omega) _ (by simp only [List.length_append, List.length_cons, List.length_nil]; omega) fun p hp => ?_
  rcases List.mem_append.1 hp with hp | hp
  ·exact hz p hp
  ·rw [List.mem_singleton.1 hp]; exact hv
end Go.Proofs.Ytpidgdelfaidoaa.Pure
