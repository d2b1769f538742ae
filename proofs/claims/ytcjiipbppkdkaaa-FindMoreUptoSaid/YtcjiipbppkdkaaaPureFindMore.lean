/- Plain law: FindMore. -/
import Derived.Test.YtcjiipbppkdkaaaP17b
import Derived.Test.YtcjiipbppkdkaaaPAw17
import Derived.Test.YtcjiipbppkdkaaaESFindMore
namespace Go.Proofs.Ytcjiipbppkdkaaa.Pure
open Go Go.Proofs.Ytcjiipbppkdkaaa.E Go.Proofs.Ytcjiipbppkdkaaa.Eng
set_option linter.unusedVariables false
set_option linter.unusedSimpArgs false

theorem papers_loop (l : List Pap) : ∀ (m i : Nat), 30 - i = m → i ≤ 30 → i ≤ l.length → ∀ (out : List Pap), out.length = i → (∀ p ∈ out, p.2.2.1.length ≤ 30) → TP (fun k => chartularylaw17_papers.l0 k l out (i : Int)) (fun v => v.1.1.length ≤ 30 ∧ ∀ p ∈ v.1.1, p.2.2.1.length ≤ 30)
  | m, i, h, h30, hx, out, ho, hz => by
    have hend : (((out, ()), ()) : chartularylaw17_papers.R).1.1.length ≤ 30 ∧ ∀ p ∈ (((out, ()), ()) : chartularylaw17_papers.R).1.1, p.2.2.1.length ≤ 30 := ⟨by dsimp only; omega, hz⟩
    refine TP.step (fun k => rfl) (TP.dec (fun h1 => TP.dec (fun h2 => ?_) fun h2 => TP.some hend) fun h1 => TP.some hend)
    have hi : i < l.length := by omega
    cases m with
    | zero => omega
    | succ m =>
    refine TP.optE (rdo_at hi) (TP.bind (pfew_ok l[i]) fun v hv => TP.ck (by apply decide_eq_true; simp only [List.length_cons, List.length_nil]; omega) ?_)
    rw [show IntKind.wrap .i64 ((i : Int) + 1) = ((i + 1 : Nat) : Int) by rw [wrap_i64 (by omega) (by omega)]; rfl]
    refine papers_loop l m (i + 1) (by omega) (by omega) (by omega) _ (by simp only [List.length_append, List.length_cons, List.length_nil]; omega) fun p hp => ?_
    rcases List.mem_append.1 hp with hp | hp
    · exact hz p hp
    · rw [List.mem_singleton.1 hp]; exact hv
theorem papers_ok (l : List Pap) : TP (fun k => chartularylaw17_papers.f k l) (fun v => v.1.1.length ≤ 30 ∧ ∀ p ∈ v.1.1, p.2.2.1.length ≤ 30) :=
  TP.step (fun k => rfl) (papers_loop l 30 0 rfl (by omega) (Nat.zero_le _) [] rfl fun p hp => nomatch hp)
def dPap : Pap := (⟨#[]⟩, 0, [], ())
theorem sel_filter (a b : Pap → Bool) (L : List Pap) : ∀ (m i : Nat), i + m = L.length → selI (fun p => a p && b p) i (L.drop i) = (selI b i (L.drop i)).filter (fun c => a (L.getD c.toNat dPap))
  | 0, i, h => by rw [List.drop_of_length_le (by omega)]; rfl
  | m + 1, i, h => by
    have hi : i < L.length := by omega
    have ih := sel_filter a b L m (i + 1) (by omega)
    have e : L.getD ((i : Int)).toNat dPap = L[i] := by rw [Int.toNat_natCast, List.getD_eq_getElem?_getD, List.getElem?_eq_getElem hi]; rfl
    rw [List.drop_eq_getElem_cons hi]
    unfold selI
    cases hb : b L[i] with
    | false =>
      rw [if_neg (by rw [Bool.and_false]; decide), if_neg (by decide), ih]
    | true =>
      rw [if_pos rfl, Bool.and_true]
      cases ha : a L[i] with
      | true => rw [if_pos rfl, List.filter_cons_of_pos (by rw [e]; exact ha), ih]
      | false => rw [if_neg (by decide), List.filter_cons_of_neg (by rw [e, ha]; decide), ih]
theorem merge_loop (x y z : List Int) (P : Int → Bool) (hx : x.length ≤ 1000000) (hy : y.length ≤ 1000000) (hz : z.length ≤ 1000000) : ∀ (m n i k' : Nat), n + m = z.length → i ≤ x.length → k' ≤ y.length → x.drop i = (z.drop n).filter P → y.drop k' = (z.drop n).filter (fun c => !P c) →
    TP (fun k => chartularylaw17_FindMore.l0 k x y z (i : Int) (k' : Int) (n : Int)) (fun v => v.1.1 = true)
  | 0, n, i, k', h, li, lk, h1, h2 => by
    rw [List.drop_of_length_le (by omega : z.length ≤ n), List.filter_nil] at h1 h2
    have e1 : x.length ≤ i := List.drop_eq_nil_iff.1 h1
    have e2 : y.length ≤ k' := List.drop_eq_nil_iff.1 h2
    exact TP.step (fun k => rfl) (TP.dec (fun h' => absurd h' (by omega)) fun _ => TP.eqI (fun _ => TP.eqI (fun _ => awake_end fun _ => rfl) fun hne => absurd (by omega) hne) fun hne => absurd (by omega) hne)
  | m + 1, n, i, k', h, li, lk, h1, h2 => by
    have hn : n < z.length := by omega
    have en : IntKind.wrap .i64 ((n : Int) + 1) = ((n + 1 : Nat) : Int) := by rw [wrap_i64 (by omega) (by omega)]; rfl
    rw [List.drop_eq_getElem_cons hn] at h1 h2
    cases hp : P z[n] with
    | true =>
      rw [List.filter_cons_of_pos hp] at h1
      rw [List.filter_cons_of_neg (by rw [hp]; decide)] at h2
      have hi : i < x.length := by
        apply Classical.byContradiction; intro e
        rw [List.drop_of_length_le (by omega)] at h1; cases h1
      rw [List.drop_eq_getElem_cons hi] at h1
      obtain ⟨e1, e2⟩ := List.cons.inj h1
      have ei : IntKind.wrap .i64 ((i : Int) + 1) = ((i + 1 : Nat) : Int) := by rw [wrap_i64 (by omega) (by omega)]; rfl
      refine TP.step (fun k => rfl) (TP.dec (fun h' => TP.dec (fun h3 => TP.optE (rdo_at hi) (TP.optE (rdo_at hn) (TP.eqI (fun _ => ?_) fun hne => absurd e1 hne))) fun h3 => absurd (by omega) h3) fun h' => absurd (by omega) h')
      rw [ei, en]
      exact merge_loop x y z P hx hy hz m (n + 1) (i + 1) k' (by omega) (by omega) lk e2 h2
    | false =>
      rw [List.filter_cons_of_neg (by rw [hp]; decide)] at h1
      rw [List.filter_cons_of_pos (by rw [hp]; rfl)] at h2
      have hk : k' < y.length := by
        apply Classical.byContradiction; intro e
        rw [List.drop_of_length_le (by omega)] at h2; cases h2
      rw [List.drop_eq_getElem_cons hk] at h2
      obtain ⟨e1, e2⟩ := List.cons.inj h2
      have ek : IntKind.wrap .i64 ((k' : Int) + 1) = ((k' + 1 : Nat) : Int) := by rw [wrap_i64 (by omega) (by omega)]; rfl
      have nx : TP (fun k => chartularylaw17_FindMore.l0 k x y z (i : Int) (IntKind.wrap .i64 ((k' : Int) + 1)) (IntKind.wrap .i64 ((n : Int) + 1))) (fun v => v.1.1 = true) := by
        rw [ek, en]; exact merge_loop x y z P hx hy hz m (n + 1) i (k' + 1) (by omega) li (by omega) h1 e2
      refine TP.step (fun k => rfl) (TP.dec (fun h' => TP.dec (fun h3 => ?_) fun h3 => TP.dec (fun h4 => TP.optE (rdo_at hk) (TP.optE (rdo_at hn) (TP.eqI (fun _ => nx) fun hne => absurd e1 hne))) fun h4 => absurd (by omega) h4) fun h' => absurd (by omega) h')
      have hi : i < x.length := by omega
      refine TP.optE (rdo_at hi) (TP.optE (rdo_at hn) (TP.eqI (fun he => ?_) fun hne => TP.dec (fun h4 => TP.optE (rdo_at hk) (TP.optE (rdo_at hn) (TP.eqI (fun _ => nx) fun hne => absurd e1 hne))) fun h4 => absurd (by omega) h4))
      exfalso
      have hm : x[i] ∈ (z.drop (n + 1)).filter P := by rw [← h1, List.drop_eq_getElem_cons hi]; exact List.mem_cons_self ..
      have := (List.mem_filter.1 hm).2
      rw [he, hp] at this; cases this
/-- With a term the other way round, and one that asks for the field alone. -/
def notT (t : Trm) : Trm := (t.1, t.2.1, t.2.2.1, t.2.2.2.1, t.2.2.2.2.1, !t.2.2.2.2.2.1, ())
def hasT (t : Trm) : Trm := (t.1, (0, false, 0, 0, ByteArray.empty, ()), (0, false, 0, 0, ByteArray.empty, ()), false, false, false, ())
theorem holds_not (t : Trm) (p : Pap) : holdsV (notT t) p = (!holdsV t p && holdsV (hasT t) p) := by
  have e1 : betV (notT t) (fieldV p (fieldI t.1 0 p.2.2.1)) = betV t (fieldV p (fieldI t.1 0 p.2.2.1)) := rfl
  have e2 : betV (hasT t) (fieldV p (fieldI t.1 0 p.2.2.1)) = true := rfl
  have e3 : holdsV (notT t) p = (decide (0 ≤ fieldI t.1 0 p.2.2.1) && !(betV t (fieldV p (fieldI t.1 0 p.2.2.1)) == !t.2.2.2.2.2.1)) := rfl
  have e4 : holdsV (hasT t) p = (decide (0 ≤ fieldI t.1 0 p.2.2.1) && !(true == false)) := rfl
  have e5 : holdsV t p = (decide (0 ≤ fieldI t.1 0 p.2.2.1) && !(betV t (fieldV p (fieldI t.1 0 p.2.2.1)) == t.2.2.2.2.2.1)) := rfl
  rw [e3, e4, e5]
  cases decide (0 ≤ fieldI t.1 0 p.2.2.1) <;> cases betV t (fieldV p (fieldI t.1 0 p.2.2.1)) <;> cases t.2.2.2.2.2.1 <;> rfl
theorem holds_has (t : Trm) (p : Pap) : holdsV t p = (holdsV t p && holdsV (hasT t) p) := by
  have e4 : holdsV (hasT t) p = (decide (0 ≤ fieldI t.1 0 p.2.2.1) && !(true == false)) := rfl
  have e5 : holdsV t p = (decide (0 ≤ fieldI t.1 0 p.2.2.1) && !(betV t (fieldV p (fieldI t.1 0 p.2.2.1)) == t.2.2.2.2.2.1)) := rfl
  rw [e4, e5]
  cases decide (0 ≤ fieldI t.1 0 p.2.2.1) <;> cases (betV t (fieldV p (fieldI t.1 0 p.2.2.1)) == t.2.2.2.2.2.1) <;> rfl
theorem checkT_not (t : Trm) (l : List Trm) : checkT (notT t :: l) = checkT (t :: l) := rfl
theorem checkT_has (t : Trm) (l : List Trm) (h : checkT (hasT t :: l) ≠ 0) : checkT (t :: l) ≠ 0 := by
  unfold checkT at h ⊢
  split
  · decide
  · next h1 =>
    have h1' : ¬ wordB (hasT t).1 16 = false := h1
    rw [if_neg h1', if_neg (fun e => by cases e.1), if_neg (fun e => by cases e.1)] at h
    split
    · decide
    · split
      · decide
      · exact h
/-- A query with one term more, without an order, of a thousand at most. -/
def plusQ (t : Trm) (l : List Trm) (b : Bool) : Qry := (t :: l, (⟨#[]⟩, (b, (1000, ()))))
theorem check_plus (t : Trm) (l : List Trm) (b : Bool) (hl : l.length ≤ 7) : checkA (plusQ t l b) = checkT (t :: l) := by
  unfold checkA plusQ
  rw [if_neg (by simp only [List.length_cons]; omega), if_neg (fun e => e.1 rfl)]
theorem more_j0 (t : Trm) (hn : t.1.size ≤ 300) (l : List Trm) (hl : l.length ≤ 7) (hz : ∀ t ∈ l, t.1.size ≤ 300) (b : Bool) (ps : List Pap) (hp : ps.length ≤ 30) (hf : ∀ p ∈ ps, p.2.2.1.length ≤ 30) :
    TP (fun k => chartularylaw17_FindMore.j0 k ps l (⟨#[]⟩ : ByteArray) b 1000 t.1 t.2.1 t.2.2.1 t.2.2.2.1 t.2.2.2.2.1 t.2.2.2.2.2.1) (fun v => v.1.1 = true) := by
  have hok (u : Trm) (hu : u.1.size ≤ 300) : QryOk (plusQ u l b) := ⟨⟨by show (u :: l).length ≤ _; simp only [List.length_cons]; omega, fun v hv => by
    rcases List.mem_cons.1 hv with rfl | hv
    · omega
    · have := hz v hv; omega⟩, Nat.zero_le _⟩
  have hps : PapsOk ps := ⟨by omega, fun p hp => by have := hf p hp; omega⟩
  have c1 := check_plus t l b hl
  have c2 := (check_plus (notT t) l b hl).trans (checkT_not t l)
  have c3 := check_plus (hasT t) l b hl
  have hle : (ps.length : Int) ≤ 1000 := by omega
  refine TP.step (fun k => rfl) (TP.ck (by apply decide_eq_true; simp only [List.length_cons, List.length_nil]; omega) (TP.ck (by apply decide_eq_true; simp only [List.length_cons, List.length_nil]; omega) (TP.ck (by apply decide_eq_true; simp only [List.length_cons, List.length_nil]; omega) ?_)))
  refine TP.bind (run_ok (plusQ t l b) ps (hok t hn) hps rfl) fun v1 h1 => TP.bind (run_ok (plusQ (notT t) l b) ps (hok (notT t) hn) hps rfl) fun v2 h2 => TP.bind (run_ok (plusQ (hasT t) l b) ps (hok (hasT t) hn) hps rfl) fun v3 h3 => ?_
  by_cases g1 : checkT (t :: l) = 0
  case neg =>
    rw [h1.1 (by rw [c1]; exact g1)]
    exact TP.neI (fun _ => TP.bindR (lcheck_ok (plusQ t l b) (hok t hn)) (TP.neI (fun _ => awake_end fun _ => rfl) fun h => absurd (c1 ▸ h) g1)) fun h => absurd (c1 ▸ h) g1
  have g3 : checkT (hasT t :: l) = 0 := Classical.byContradiction fun h => checkT_has t l h g1
  obtain ⟨o1, x1⟩ := h1.2 (c1.trans g1)
  obtain ⟨o2, x2⟩ := h2.2 (c2.trans g1)
  obtain ⟨o3, x3⟩ := h3.2 (c3.trans g3)
  refine TP.neI (fun h => absurd o1 h) fun _ => TP.neI (fun h => absurd o2 h) fun _ => TP.neI (fun h => absurd o3 h) fun _ => ?_
  rw [x1 hle, x2 hle, x3 hle]
  have e1 : allV (plusQ t l b).1 = fun p => holdsV t p && allV (plusQ (hasT t) l b).1 p := funext fun p => by
    show (holdsV t p && allV l p) = (holdsV t p && (holdsV (hasT t) p && allV l p))
    rw [← Bool.and_assoc, ← holds_has]
  have e2 : allV (plusQ (notT t) l b).1 = fun p => (!holdsV t p) && allV (plusQ (hasT t) l b).1 p := funext fun p => by
    show (holdsV (notT t) p && allV l p) = ((!holdsV t p) && (holdsV (hasT t) p && allV l p))
    rw [← Bool.and_assoc, ← holds_not]
  have f1 := sel_filter (holdsV t) (allV (plusQ (hasT t) l b).1) ps ps.length 0 (Nat.zero_add _)
  have f2 := sel_filter (fun p => !holdsV t p) (allV (plusQ (hasT t) l b).1) ps ps.length 0 (Nat.zero_add _)
  rw [List.drop_zero] at f1 f2
  have s1 := selI_len (allV (plusQ t l b).1) ps 0
  have s2 := selI_len (allV (plusQ (notT t) l b).1) ps 0
  have s3 := selI_len (allV (plusQ (hasT t) l b).1) ps 0
  refine merge_loop _ _ _ (fun c => holdsV t (ps.getD c.toNat dPap)) (by omega) (by omega) (by omega) _ 0 0 0 (Nat.zero_add _) (Nat.zero_le _) (Nat.zero_le _) ?_ ?_
  · rw [List.drop_zero, List.drop_zero, e1, f1]
  · rw [List.drop_zero, List.drop_zero, e2, f2]
/-- The law. -/
theorem FindMore : chartularylaw17_FindMore.Pure := by
  intro q t l w0 w1 w2 hb
  refine TP.one (TP.step (fun k => rfl) (TP.bind (few_ok q) fun v hv => TP.bind (papers_ok l) fun u hu => TP.bind (cut17 t.1) fun c hc => TP.dec (fun h => TP.ck (by have := hv.1.1; simp only [Bool.and_eq_true, decide_eq_true_eq]; omega) ?_) fun h => ?_))
  · exact more_j0 (c.1.1, t.2.1, t.2.2.1, t.2.2.2.1, t.2.2.2.2.1, t.2.2.2.2.2.1, ()) hc _ (by rw [List.length_drop, List.length_take]; show min 7 _ - 0 ≤ 7; omega) (fun s hs => hv.1.2 s (List.mem_of_mem_take (List.mem_of_mem_drop hs))) _ _ hu.1 hu.2
  · exact more_j0 (c.1.1, t.2.1, t.2.2.1, t.2.2.2.1, t.2.2.2.2.1, t.2.2.2.2.2.1, ()) hc _ (by omega) hv.1.2 _ _ hu.1 hu.2
end Go.Proofs.Ytcjiipbppkdkaaa.Pure
