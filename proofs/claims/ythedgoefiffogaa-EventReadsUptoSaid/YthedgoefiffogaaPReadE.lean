/- Plain laws: an event read. -/
import Derived.Test.YthedgoefiffogaaOOne
import Derived.Test.YthedgoefiffogaaPBytes
namespace Go.Proofs.Ythedgoefiffogaa.Pure
open Go Go.Proofs.Ythedgoefiffogaa.E Go.Proofs.Ythedgoefiffogaa.Eng
set_option linter.unusedVariables false
set_option linter.unusedSimpArgs false

theorem rd_slip {s : ByteArray} (hs : s.size ≤ 30000000) {a : Nat} (ha : a ≤ s.size) (e : Int) : Rd s a e (fun k => event_readSlip.f k s (a : Int) e) slipL (fun x => SlipSm x) := by
  obtain ⟨x1, a1, e1, h1, r1, p1⟩ := rd_text hs ha e 16
  obtain ⟨x2, a2, e2, h2, r2, p2⟩ := rd_text hs h1 e1 32
  obtain ⟨x3, a3, e3, h3, r3, p3⟩ := rd_flag hs h2 e2
  cases x3 with
  | true =>
    refine ⟨(x1, x2, ⟨#[]⟩, true, ()), a3, e3, h3, Runs.step (fun k => rfl) (Runs.bind r1 (Runs.bind r2 (Runs.bind r3 (Runs.no (by rfl) Runs.some)))), fun h => ?_⟩
    obtain ⟨g1, g2, g3, _⟩ := p3 h
    obtain ⟨f1, f2, f3, f4⟩ := p2 g1
    obtain ⟨d1, d2, d3, d4⟩ := p1 f1
    subst d3; subst f3; subst g3
    have e0 : slipL (x1, x2, ⟨#[]⟩, true, ()) = textB x1 ++ (textB x2 ++ flagB true) := by unfold slipL; simp only [if_true, app_empty]
    rw [e0]
    refine ⟨d1, d2.app (f2.app g2), by simp only [ByteArray.size_append]; omega, ⟨by dsimp only; omega, by dsimp only; omega, Nat.zero_le _⟩⟩
  | false =>
    obtain ⟨x4, a4, e4, h4, r4, p4⟩ := rd_text hs h3 e3 224
    refine ⟨(x1, x2, x4, false, ()), a4, e4, h4, Runs.step (fun k => rfl) (Runs.bind r1 (Runs.bind r2 (Runs.bind r3 (Runs.yes (by rfl) (Runs.bind r4 Runs.some))))), fun h => ?_⟩
    obtain ⟨k1, k2, k3, k4⟩ := p4 h
    obtain ⟨g1, g2, g3, _⟩ := p3 k1
    obtain ⟨f1, f2, f3, f4⟩ := p2 g1
    obtain ⟨d1, d2, d3, d4⟩ := p1 f1
    subst d3; subst f3; subst g3; subst k3
    have e0 : slipL (x1, x2, x4, false, ()) = textB x1 ++ (textB x2 ++ (flagB false ++ textB x4)) := by unfold slipL; simp only [Bool.false_eq_true, if_false]
    rw [e0]
    refine ⟨d1, d2.app (f2.app (g2.app k2)), by simp only [ByteArray.size_append]; omega, ⟨by dsimp only; omega, by dsimp only; omega, by dsimp only; omega⟩⟩
theorem slipL_pos (x : Slip) : 1 ≤ (slipL x).size := by
  unfold slipL
  simp only [ByteArray.size_append, flagB_size]; omega
theorem slips_any {s : ByteArray} (hs : s.size ≤ 30000000) (n : Nat) (z0 : ByteArray) (z1 z2 z3 : Int) (z4 : List Slip) (z5 : Bool) (z6 : List ByteArray) (id : ByteArray) (x y z : Int) (gone : Bool) (holds : List ByteArray) : ∀ (m a : Nat), s.size - a = m → a ≤ s.size → ∀ (acc : List Slip) (e : Int), acc.length ≤ n → acc.length ≤ a →
    ∃ (l : List Slip) (a' : Nat) (e' : Int), a' ≤ s.size ∧ Runs (fun k => event_readEntry.l0 k (n : Int) (acc.length : Int) s (a : Int) e z0 z1 z2 z3 z4 z5 z6 id x y z acc gone holds) (((id, x, y, z, l, gone, holds, ()), ()), ((s, (a' : Int), e', ()), ())) ∧
      (e' = 0 → e = 0 ∧ l.length = n ∧ ∃ l2, l = acc ++ l2 ∧ At s a (slipsL l2) ∧ a' = a + (slipsL l2).size ∧ ∀ t ∈ l2, SlipSm t) := by
  intro m
  induction m using Nat.strongRecOn with
  | ind m ih =>
    intro a hm ha acc e hacc hacc2
    by_cases hn : acc.length < n
    · obtain ⟨t, a1, e1, h1, r1, p1⟩ := rd_slip hs ha e
      by_cases he : e1 = 0
      · obtain ⟨g1, g2, g3, g4⟩ := p1 he
        have hp := slipL_pos t
        obtain ⟨l, a', e', h4, h2, h3⟩ := ih (s.size - a1) (by omega) _ rfl h1 (acc ++ [t]) e1 (by simp; omega) (by simp; omega)
        have hw : IntKind.wrap .i64 ((acc.length : Int) + 1) = ((acc ++ [t]).length : Int) := by rw [wrap_i64 (by omega) (by omega)]; simp
        have hck : decide ((acc.length + ([t] : List Slip).length) * 56 ≤ 70368744177664) = true := by simp; omega
        refine ⟨l, a', e', h4, Runs.step (fun k => rfl) (Runs.yes (by apply decide_eq_true; omega) (Runs.bind r1 (Runs.bind (err_ok _ _ _) (Runs.no (by rw [he]; rfl) (Runs.ck hck ?_))))), fun h => ?_⟩
        · rw [hw]; exact h2
        · obtain ⟨_, h4, l2, rfl, h5, h6, h7⟩ := h3 h
          rw [g3] at h5 h6
          refine ⟨g1, h4, t :: l2, by simp, g2.app h5, ?_, ?_⟩
          · rw [h6]; simp only [slipsL]; rw [ByteArray.size_append (a := slipL t)]; omega
          · intro x hx
            rcases List.mem_cons.1 hx with rfl | hx
            · exact g4
            · exact h7 x hx
      · exact ⟨acc, a1, e1, h1, Runs.step (fun k => rfl) (Runs.yes (by apply decide_eq_true; omega) (Runs.bind r1 (Runs.bind (err_ok _ _ _) (Runs.yes (by simpa using he) Runs.some)))), fun h => absurd h he⟩
    · exact ⟨acc, a, e, ha, Runs.step (fun k => rfl) (Runs.no (by apply decide_eq_false; omega) Runs.some), fun h => ⟨h, by omega, [], by simp, At.nil ha, rfl, by simp⟩⟩
theorem num_nat {s : ByteArray} (hs : s.size ≤ 30000000) {a : Nat} (ha : a ≤ s.size) (e n : Int) : ∃ (N a' : Nat) (e' : Int), a' ≤ s.size ∧ Runs (fun k => octet_Reader_Num.f k n s (a : Int) e) (((N : Int), ()), ((s, ((a' : Nat) : Int), e', ()), ())) ∧ (e' = 0 → e = 0 ∧ At s a (numB N) ∧ a' = a + (numB N).size ∧ (N : Int) ≤ n) := by
  have hr := reader_num hs ha e n
  have hle := numV_le ha e n
  by_cases he : (numV s a e n).2.2 = 0
  · obtain ⟨he0, N, h1, h2, h3, h4⟩ := numV_one ha he
    rw [h3] at hr hle
    exact ⟨N, _, _, hle, hr, fun _ => ⟨he0, h4, rfl, h2⟩⟩
  · have h0 := numV_zero he
    rw [h0] at hr
    exact ⟨0, _, _, hle, hr, fun h => absurd h he⟩
theorem rd_entry {s : ByteArray} (hs : s.size ≤ 30000000) {a : Nat} (ha : a ≤ s.size) (e : Int) : Rd s a e (fun k => event_readEntry.f k s (a : Int) e) entryL (fun x => EntryOk x) := by
  obtain ⟨x1, a1, e1, h1, r1, p1⟩ := rd_text hs ha e 24
  obtain ⟨x2, a2, e2, h2, r2, p2⟩ := rd_num hs h1 e1 7
  obtain ⟨x3, a3, e3, h3, r3, p3⟩ := rd_num hs h2 e2 1099511627776
  obtain ⟨x4, a4, e4, h4, r4, p4⟩ := rd_num hs h3 e3 63
  obtain ⟨x5, a5, e5, h5, r5, p5⟩ := rd_flag hs h4 e4
  obtain ⟨x6, a6, e6, h6, r6, p6⟩ := rd_texts hs h5 e5 4 16
  obtain ⟨n, a7, e7, h7, r7, p7⟩ := num_nat hs h6 e6 12
  obtain ⟨l, a8, e8, h8, r8, p8⟩ := slips_any hs n ⟨#[]⟩ 0 0 0 [] false [] x1 x2 x3 x4 x5 x6 _ _ rfl h7 [] e7 (by simp) (by simp)
  refine ⟨(x1, x2, x3, x4, l, x5, x6, ()), a8, e8, h8, Runs.step (fun k => rfl) (Runs.bind r1 (Runs.bind r2 (Runs.bind r3 (Runs.bind r4 (Runs.bind r5 (Runs.bind r6 (Runs.bind r7 r8))))))), fun h => ?_⟩
  obtain ⟨g8, q8, l2, hl, t8, s8, b8⟩ := p8 h
  rw [List.nil_append] at hl
  subst hl
  subst q8
  obtain ⟨g7, t7, s7, b7⟩ := p7 g8
  obtain ⟨g6, t6, s6, b6⟩ := p6 g7
  obtain ⟨g5, t5, s5, b5⟩ := p5 g6
  obtain ⟨g4, t4, s4, b4⟩ := p4 g5
  obtain ⟨g3, t3, s3, b3⟩ := p3 g4
  obtain ⟨g2, t2, s2, b2⟩ := p2 g3
  obtain ⟨g1, t1, s1, b1⟩ := p1 g2
  subst s1; subst s2; subst s3; subst s4; subst s5; subst s6; subst s7; subst s8
  have e0 : entryL (x1, x2, x3, x4, l, x5, x6, ()) = textB x1 ++ (numI x2 ++ (numI x3 ++ (numI x4 ++ (flagB x5 ++ (listB x6 ++ (numB l.length ++ slipsL l)))))) := rfl
  rw [e0]
  refine ⟨g1, t1.app (t2.app (t3.app (t4.app (t5.app (t6.app (t7.app t8)))))), by simp only [ByteArray.size_append]; omega, ?_⟩
  · refine ⟨by dsimp only; omega, by dsimp only; omega, fun y hy => ?_, by dsimp only; omega, fun y hy => by have := b6.2 y hy; omega⟩
    have := b8 y hy
    have ha := this.a
    have hb := this.b
    have hc := this.c
    omega
/-- An event with nothing but its kind. -/
abbrev emptyE : Entry := (⟨#[]⟩, 0, 0, 0, [], false, [], ())
/-- An event with just what its kind has. -/
def cleanV (v : Event) : Event :=
  if v.1 = 1 then (1, v.2.1, 0, 0, ⟨#[]⟩, (0, ⟨#[]⟩, ()), 0, ())
  else if v.1 = 2 then (2, emptyE, v.2.2.1, v.2.2.2.1, ⟨#[]⟩, (0, ⟨#[]⟩, ()), 0, ())
  else if v.1 = 3 then (3, emptyE, v.2.2.1, 0, ⟨#[]⟩, (0, ⟨#[]⟩, ()), 0, ())
  else if v.1 = 4 ∨ v.1 = 5 then (v.1, emptyE, v.2.2.1, 0, v.2.2.2.2.1, (0, ⟨#[]⟩, ()), 0, ())
  else if v.1 = 6 then (6, emptyE, 0, 0, ⟨#[]⟩, v.2.2.2.2.2.1, 0, ())
  else if v.1 = 7 then (7, emptyE, 0, 0, ⟨#[]⟩, (0, ⟨#[]⟩, ()), v.2.2.2.2.2.2.1, ())
  else (v.1, emptyE, 0, 0, ⟨#[]⟩, (0, ⟨#[]⟩, ()), 0, ())
abbrev noEvent : Event := (0, emptyE, 0, 0, ⟨#[]⟩, (0, ⟨#[]⟩, ()), 0, ())
abbrev EvR := (Event × Int × Unit) × Unit
/-- The end of reading. -/
theorem read_j0 {s : ByteArray} (hs : s.size ≤ 30000000) {a : Nat} (ha : a ≤ s.size) (e : Int) (v : Event) (z : Event) (hv : e = 0 → EventOk v) :
    Runs (fun k => event_Read.j0 k z.1 z.2.1 z.2.2.1 z.2.2.2.1 z.2.2.2.2.1 z.2.2.2.2.2.1 z.2.2.2.2.2.2.1 s (a : Int) e v.1 v.2.1 v.2.2.1 v.2.2.2.1 v.2.2.2.2.1 v.2.2.2.2.2.1 v.2.2.2.2.2.2.1)
      (if e ≠ 0 then (noEvent, e, ()) else if a < s.size then (noEvent, 4, ()) else if eventB v = true then (v, 0, ()) else (noEvent, 4, ()), ()) := by
  refine Runs.step (fun k => rfl) (Runs.bind (end_ok hs ha e) ?_)
  by_cases he : e ≠ 0
  · rw [if_neg (fun h => he h.1), if_pos he]
    exact Runs.yes (by simpa using he) Runs.some
  · have he : e = 0 := by simpa using he
    subst he
    by_cases hlt : a < s.size
    · rw [if_pos ⟨rfl, hlt⟩, if_neg (fun h => h rfl), if_pos hlt]
      exact Runs.yes (by rfl) Runs.some
    · rw [if_neg (fun h => hlt h.2), if_neg (fun h => h rfl), if_neg hlt]
      refine Runs.no (by rfl) (Runs.bind (right_ok v (hv rfl)) ?_)
      by_cases hb : eventB v = true
      · rw [hb, if_pos rfl]; exact Runs.no (by rfl) Runs.some
      · rw [if_neg hb, Bool.eq_false_iff.2 hb]; exact Runs.yes (by rfl) Runs.some
end Go.Proofs.Ythedgoefiffogaa.Pure
