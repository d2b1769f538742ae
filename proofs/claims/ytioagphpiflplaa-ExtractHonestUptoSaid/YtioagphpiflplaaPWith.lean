/- Plain laws: a mill with a table. -/
import Derived.Test.YtioagphpiflplaaPNoteA
namespace Go.Proofs.Ytioagphpiflplaa.Pure
open Go Go.Proofs.Ytioagphpiflplaa.E Go.Proofs.Ytioagphpiflplaa.Eng
set_option linter.unusedVariables false
set_option linter.unusedSimpArgs false

abbrev Row := Bool × ByteArray × ByteArray × ByteArray × Unit
theorem TP.or1 {α : Type} {f g : Nat → Option α} {Q : α → Prop} (h : TP f Q) : TP (fun k => orE (f k) (g k)) Q := by
  obtain ⟨v, ⟨k0, hk⟩, hq⟩ := h
  exact ⟨v, ⟨k0, fun k h => by show orE (f k) (g k) = _; rw [hk k h]; rfl⟩, hq⟩
theorem TP.or2 {α : Type} {f g : Nat → Option α} {Q : α → Prop} (h0 : ∀ k, f k = none) (h : TP g Q) : TP (fun k => orE (f k) (g k)) Q := by
  obtain ⟨v, ⟨k0, hk⟩, hq⟩ := h
  exact ⟨v, ⟨k0, fun k h => by show orE (f k) (g k) = _; rw [h0 k, hk k h]; rfl⟩, hq⟩
theorem bind_none {α β : Type} {o : Option α} {g : α → Option β} (h : o = none) : o.bind g = none := by rw [h]; rfl
def RowOk (x : Row) : Prop := x.2.1.size ≤ 10000000 ∧ x.2.2.1.size ≤ 10000000
theorem name_tot (b : Bool) (x s : ByteArray) (hx : x.size ≤ 10000000) (hs : s.size ≤ 10000000) : TP (fun k => mill_name.f k b x s) (fun _ => True) := by
  have e : (⟨#[116]⟩ : ByteArray).size = 1 := rfl
  refine TP.step (fun k => rfl) (TP.not (fun _ => TP.ck (by apply decide_eq_true; show 1 + s.size ≤ _; omega) (TP.some trivial)) fun _ => ?_)
  have := shaV_size x
  refine TP.bindR (sha_ok x (by omega)) (TP.ck (by apply decide_eq_true; dsimp only; omega) (TP.ck (by apply decide_eq_true; dsimp only; rw [ByteArray.size_append]; omega) (TP.some trivial)))
theorem Tok.put {T : Tab} (hT : Tok T) {v : ByteArray} (hv : v.size = 32) (s : ByteArray) : Tok (mput s v T) := fun k h => by
  rw [mput_get]
  rw [mput_has] at h
  split
  · exact hv
  · next hn => exact hT k (h.resolve_left hn)
theorem with_loop (l : List Row) (hb : l.length ≤ 1000000000) (hl : ∀ x ∈ l, RowOk x) (ho : ∀ x ∈ l, x.2.2.2.1.size = 32) : ∀ (m i : Nat), i + m = l.length → ∀ (T : Tab), Tok T → ∀ t f1 f2 n N, TP (fun k => mill_With_has.l0 k l (l.length : Int) (i : Int) t f1 f2 n T N)
    (fun v => ∃ T', Tok T' ∧ v = (((), 0, ()), (((), (), t, f1, f2, n, ()), (T', ()), (N, ()), ())))
  | 0, i, h, T, hT, t, f1, f2, n, N => TP.step (fun k => rfl) (TP.dec (fun h' => absurd h' (by omega)) fun _ => TP.some ⟨T, hT, rfl⟩)
  | m + 1, i, h, T, hT, t, f1, f2, n, N => by
    have hi : i < l.length := by omega
    have e : IntKind.wrap .i64 ((i : Int) + 1) = ((i + 1 : Nat) : Int) := by rw [wrap_i64 (by omega) (by omega)]; rfl
    have hs := hl _ (List.getElem_mem hi)
    have h32 := ho _ (List.getElem_mem hi)
    refine TP.step (fun k => rfl) (TP.dec (fun h' => ?_) fun h' => absurd (by omega : (i : Int) < l.length) h')
    refine TP.optE (rdo_at hi) (TP.neI (fun hn => absurd (by omega) hn) fun _ => TP.bind (name_tot _ _ _ hs.1 hs.2) fun v _ => TP.not (fun _ => ?_) fun _ => ?_)
    · rw [e]; exact with_loop l hb hl ho m (i + 1) (by omega) _ (hT.put h32 _) _ _ _ _ _
    · rw [e]; exact with_loop l hb hl ho m (i + 1) (by omega) _ hT _ _ _ _ _
theorem new_ok' : Runs (fun k => mill_New.f k) (((), ()), (((), (), (ByteArray.empty, (ByteArray.empty, ())), false, false, 0, ()), ([], ()), ([], ()), ())) := Runs.step (fun k => rfl) Runs.some
theorem with_ok (l : List Row) (hb : l.length ≤ 1000000000) (hl : ∀ x ∈ l, RowOk x) (ho : ∀ x ∈ l, x.2.2.2.1.size = 32) : TP (fun k => mill_With_has.f k l) (fun v => ∃ T', Tok T' ∧ v = (((), 0, ()), (((), (), (ByteArray.empty, (ByteArray.empty, ())), false, false, 0, ()), (T', ()), ([], ()), ()))) :=
  TP.step (fun k => rfl) (TP.bindR new_ok' (with_loop l hb hl ho l.length 0 (Nat.zero_add _) [] tok_nil _ _ _ _ _))
theorem with_bad_loop (l : List Row) (hb : l.length ≤ 1000000000) (j : Nat) (hj : j < l.length) (ho : l[j].2.2.2.1.size ≠ 32) : ∀ (k i : Nat), i ≤ j → ∀ T t f1 f2 n N, mill_With_has.l0 k l (l.length : Int) (i : Int) t f1 f2 n T N = none
  | 0, i, hi, T, t, f1, f2, n, N => rfl
  | k + 1, i, hi, T, t, f1, f2, n, N => by
    have hil : i < l.length := by omega
    have e : IntKind.wrap .i64 ((i : Int) + 1) = ((i + 1 : Nat) : Int) := by rw [wrap_i64 (by omega) (by omega)]; rfl
    unfold mill_With_has.l0
    rw [decide_eq_true (by omega : (i : Int) < l.length), rdo_at hil]
    simp only [cond_true, Option.bind_some]
    by_cases hs : l[i].2.2.2.1.size = 32
    · have hne : i ≠ j := fun h => ho (by subst h; exact hs)
      rw [show (((l[i].2.2.2.1.size : Int) : Int) != 32) = false by rw [hs]; rfl]
      simp only [cond_false]
      cases hn : mill_name.f k l[i].1 l[i].2.1 l[i].2.2.1 with
      | none => rfl
      | some r =>
        simp only [Option.bind_some]
        rw [e]
        cases mhas r.1.1 T with
        | true => exact with_bad_loop l hb j hj ho k (i + 1) (by omega) _ _ _ _ _ _
        | false => exact with_bad_loop l hb j hj ho k (i + 1) (by omega) _ _ _ _ _ _
    · rw [show (((l[i].2.2.2.1.size : Int) : Int) != 32) = true by rw [bne_iff_ne]; omega]
      rfl
theorem with_bad (l : List Row) (hb : l.length ≤ 1000000000) (j : Nat) (hj : j < l.length) (ho : l[j].2.2.2.1.size ≠ 32) : ∀ k, mill_With_has.f k l = none
  | 0 => rfl
  | k + 1 => by
    have e : mill_With_has.f (k + 1) l = (mill_New.f k).bind fun r1 => mill_With_has.l0 k l (l.length : Int) 0 (r1.2.1.2.2.1.1, (r1.2.1.2.2.1.2.1, ())) r1.2.1.2.2.2.1 r1.2.1.2.2.2.2.1 r1.2.1.2.2.2.2.2.1 r1.2.2.1.1 r1.2.2.2.1.1 := rfl
    rw [e]
    cases mill_New.f k with
    | none => rfl
    | some r => exact with_bad_loop l hb j hj ho k 0 (by omega) _ _ _ _ _ _
theorem with_nil_loop (l : List Row) (hb : l.length ≤ 1000000000) (hl : ∀ x ∈ l, RowOk x) (j : Nat) (hj : j < l.length) (ho : l[j].2.2.2.1.size ≠ 32) : ∀ (m i : Nat), i + m = j → ∀ T t f1 f2 n N, TP (fun k => mill_With_nil.l0 k l (l.length : Int) (i : Int) t f1 f2 n T N) (fun v => v = (((), 1, ()), ()))
  | m, i, h, T, t, f1, f2, n, N => by
    have hi : i < l.length := by omega
    have e : IntKind.wrap .i64 ((i : Int) + 1) = ((i + 1 : Nat) : Int) := by rw [wrap_i64 (by omega) (by omega)]; rfl
    have hs := hl _ (List.getElem_mem hi)
    refine TP.step (fun k => rfl) (TP.dec (fun h' => ?_) fun h' => absurd (by omega : (i : Int) < l.length) h')
    refine TP.optE (rdo_at hi) (TP.neI (fun hn => TP.some rfl) fun h32 => ?_)
    cases m with
    | zero =>
      have : i = j := by omega
      subst this
      exact absurd (by omega) ho
    | succ m =>
      refine TP.bind (name_tot _ _ _ hs.1 hs.2) fun v _ => TP.not (fun _ => ?_) fun _ => ?_
      · rw [e]; exact with_nil_loop l hb hl j hj ho m (i + 1) (by omega) _ _ _ _ _ _
      · rw [e]; exact with_nil_loop l hb hl j hj ho m (i + 1) (by omega) _ _ _ _ _ _
theorem with_nil (l : List Row) (hb : l.length ≤ 1000000000) (hl : ∀ x ∈ l, RowOk x) (j : Nat) (hj : j < l.length) (ho : l[j].2.2.2.1.size ≠ 32) : TP (fun k => mill_With_nil.f k l) (fun v => v = (((), 1, ()), ())) :=
  TP.step (fun k => rfl) (TP.bindR new_ok' (with_nil_loop l hb hl j hj ho j 0 (Nat.zero_add _) _ _ _ _ _ _))
theorem rows_case (l : List Row) : (∀ x ∈ l, x.2.2.2.1.size = 32) ∨ ∃ (j : Nat) (h : j < l.length), l[j].2.2.2.1.size ≠ 32 := by
  by_cases h : ∀ x ∈ l, x.2.2.2.1.size = 32
  · exact Or.inl h
  · refine Or.inr ?_
    rw [Classical.not_forall] at h
    obtain ⟨x, hx⟩ := h
    rw [Classical.not_imp] at hx
    obtain ⟨j, hj, rfl⟩ := List.getElem_of_mem hx.1
    exact ⟨j, hj, hx.2⟩
theorem noted_nil (T : Tab) (t : ByteArray × ByteArray × Unit) (ht : t.1 = ByteArray.empty ∧ t.2.1 = ByteArray.empty := by exact ⟨rfl, rfl⟩) : Noted T [] t false [] := ⟨(fun h => nomatch h), (fun _ w hw => nomatch hw), Nat.le_refl _, (fun h => nomatch h), (fun h hh => nomatch hh), fun _ => ht⟩
end Go.Proofs.Ytioagphpiflplaa.Pure
