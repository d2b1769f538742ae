/- Plain laws: an event read, as it was laid; what is read stands there in its one form. -/
import Derived.Test.YthedgoefiffogaaPReadE
namespace Go.Proofs.Ythedgoefiffogaa.Pure
open Go Go.Proofs.Ythedgoefiffogaa.E Go.Proofs.Ythedgoefiffogaa.Eng
set_option linter.unusedVariables false
set_option linter.unusedSimpArgs false

theorem octet_read (s : ByteArray) : Runs (fun k => octet_Read.f k s) (((), ()), ((s, 0, 0, ()), ())) := Runs.step (fun k => rfl) Runs.some
/-- What an event read is. -/
def Good (s : ByteArray) (v : Event) (e : Int) : Prop := (e ≠ 0 → v = noEvent) ∧ (e = 0 → eventB v = true ∧ EventOk v ∧ cleanV v = v ∧ eventL v = s)
theorem read_fin {s : ByteArray} (hs : s.size ≤ 30000000) {a : Nat} (ha : a ≤ s.size) (e : Int) (v : Event) (z : Event) (hv : e = 0 → EventOk v) (hp : e = 0 → eventB v = true → a = (eventL v).size ∧ At s 0 (eventL v) ∧ cleanV v = v) :
    ∃ v' e', Good s v' e' ∧ Runs (fun k => event_Read.j0 k z.1 z.2.1 z.2.2.1 z.2.2.2.1 z.2.2.2.2.1 z.2.2.2.2.2.1 z.2.2.2.2.2.2.1 s (a : Int) e v.1 v.2.1 v.2.2.1 v.2.2.2.1 v.2.2.2.2.1 v.2.2.2.2.2.1 v.2.2.2.2.2.2.1) ((v', e', ()), ()) := by
  have main := read_j0 hs ha e v z hv
  by_cases he : e ≠ 0
  · rw [if_pos he] at main
    exact ⟨_, _, ⟨fun _ => rfl, fun h => absurd h he⟩, main⟩
  · rw [if_neg he] at main
    have he : e = 0 := by simpa using he
    by_cases hlt : a < s.size
    · rw [if_pos hlt] at main
      exact ⟨_, _, ⟨fun _ => rfl, fun h => by cases h⟩, main⟩
    · rw [if_neg hlt] at main
      by_cases hb : eventB v = true
      · rw [if_pos hb] at main
        obtain ⟨h1, h2, h3⟩ := hp he hb
        exact ⟨_, _, ⟨fun h => absurd rfl h, fun _ => ⟨hb, hv he, h3, h2.all (by omega)⟩⟩, main⟩
      · rw [if_neg hb] at main
        exact ⟨_, _, ⟨fun _ => rfl, fun h => by cases h⟩, main⟩
theorem emptyE_ok : EntryOk emptyE := ⟨Nat.zero_le _, Nat.zero_le _, (fun s h => by cases h), Nat.zero_le _, (fun s h => by cases h)⟩
theorem empty_z : (⟨#[]⟩ : ByteArray).size ≤ 1000000000 := Nat.zero_le _
theorem read_any {s : ByteArray} (hs : s.size ≤ 30000000) : ∃ v e, Good s v e ∧ Runs (fun k => event_Read.f k s) ((v, e, ()), ()) := by
  obtain ⟨x, a1, e1, h1, r1, p1⟩ := rd_num hs (a := 0) (Nat.zero_le _) 0 7
  suffices hm : ∃ v e, Good s v e ∧ Runs (fun k => bif x == 1 then
      (event_readEntry.f k s (a1 : Int) e1).bind fun r3 => event_Read.j0 k 0 emptyE 0 0 ⟨#[]⟩ (0, ⟨#[]⟩, ()) 0 r3.2.1.1 r3.2.1.2.1 r3.2.1.2.2.1 x r3.1.1 0 0 ⟨#[]⟩ (0, ⟨#[]⟩, ()) 0
    else bif x == 2 then
      (octet_Reader_Num.f k 63 s (a1 : Int) e1).bind fun r4 => (octet_Reader_Num.f k 11 r4.2.1.1 r4.2.1.2.1 r4.2.1.2.2.1).bind fun r5 => event_Read.j0 k 0 emptyE 0 0 ⟨#[]⟩ (0, ⟨#[]⟩, ()) 0 r5.2.1.1 r5.2.1.2.1 r5.2.1.2.2.1 x emptyE r4.1.1 r5.1.1 ⟨#[]⟩ (0, ⟨#[]⟩, ()) 0
    else bif x == 3 then
      (octet_Reader_Num.f k 63 s (a1 : Int) e1).bind fun r6 => event_Read.j0 k 0 emptyE 0 0 ⟨#[]⟩ (0, ⟨#[]⟩, ()) 0 r6.2.1.1 r6.2.1.2.1 r6.2.1.2.2.1 x emptyE r6.1.1 0 ⟨#[]⟩ (0, ⟨#[]⟩, ()) 0
    else bif x == 4 then
      event_Read.j1 k x (x == 4) 0 emptyE 0 0 ⟨#[]⟩ (0, ⟨#[]⟩, ()) 0 s (a1 : Int) e1 x emptyE 0 0 ⟨#[]⟩ (0, ⟨#[]⟩, ()) 0
    else
      event_Read.j1 k x (x == 5) 0 emptyE 0 0 ⟨#[]⟩ (0, ⟨#[]⟩, ()) 0 s (a1 : Int) e1 x emptyE 0 0 ⟨#[]⟩ (0, ⟨#[]⟩, ()) 0) ((v, e, ()), ()) by
    obtain ⟨v, e, hg, hr⟩ := hm
    exact ⟨v, e, hg, Runs.step (fun k => rfl) (Runs.bind (octet_read s) (Runs.bind r1 hr))⟩
  by_cases g1 : x = 1
  · subst g1
    obtain ⟨w, a2, e2, h2, r2, p2⟩ := rd_entry hs h1 e1
    obtain ⟨v', e', hg, hr⟩ := read_fin hs h2 e2 (1, w, 0, 0, ⟨#[]⟩, (0, ⟨#[]⟩, ()), 0, ()) noEvent (fun h => ⟨(p2 h).2.2.2, empty_z, empty_z⟩) (fun h _ => by
      obtain ⟨q1, q2, q3, _⟩ := p2 h
      obtain ⟨_, t1, s1, _⟩ := p1 q1
      rw [Nat.zero_add] at s1
      subst s1; subst q3
      have e0 : eventL (1, w, 0, 0, ⟨#[]⟩, (0, ⟨#[]⟩, ()), 0, ()) = numI 1 ++ entryL w := by unfold eventL; rw [if_pos rfl]; rfl
      rw [e0]
      exact ⟨by rw [ByteArray.size_append], t1.app (by rw [Nat.zero_add]; exact q2), by unfold cleanV; rw [if_pos rfl]⟩)
    exact ⟨v', e', hg, Runs.yes (by rfl) (Runs.bind r2 hr)⟩
  by_cases g2 : x = 2
  · subst g2
    obtain ⟨x2, a2, e2, h2, r2, p2⟩ := rd_num hs h1 e1 63
    obtain ⟨x3, a3, e3, h3, r3, p3⟩ := rd_num hs h2 e2 11
    obtain ⟨v', e', hg, hr⟩ := read_fin hs h3 e3 (2, emptyE, x2, x3, ⟨#[]⟩, (0, ⟨#[]⟩, ()), 0, ()) noEvent (fun h => ⟨emptyE_ok, empty_z, empty_z⟩) (fun h _ => by
      obtain ⟨q3, t3, s3, _⟩ := p3 h
      obtain ⟨q2, t2, s2, _⟩ := p2 q3
      obtain ⟨_, t1, s1, _⟩ := p1 q2
      rw [Nat.zero_add] at s1
      subst s1; subst s2; subst s3
      have e0 : eventL (2, emptyE, x2, x3, ⟨#[]⟩, (0, ⟨#[]⟩, ()), 0, ()) = numI 2 ++ (numI x2 ++ numI x3) := by unfold eventL; rw [if_neg (by dsimp only; decide), if_pos rfl]; rfl
      rw [e0]
      exact ⟨by simp only [ByteArray.size_append]; omega, t1.app (by rw [Nat.zero_add]; exact t2.app t3), by unfold cleanV; rw [if_neg (by dsimp only; decide), if_pos rfl]⟩)
    exact ⟨v', e', hg, Runs.no (by rfl) (Runs.yes (by rfl) (Runs.bind r2 (Runs.bind r3 hr)))⟩
  by_cases g3 : x = 3
  · subst g3
    obtain ⟨x2, a2, e2, h2, r2, p2⟩ := rd_num hs h1 e1 63
    obtain ⟨v', e', hg, hr⟩ := read_fin hs h2 e2 (3, emptyE, x2, 0, ⟨#[]⟩, (0, ⟨#[]⟩, ()), 0, ()) noEvent (fun h => ⟨emptyE_ok, empty_z, empty_z⟩) (fun h _ => by
      obtain ⟨q2, t2, s2, _⟩ := p2 h
      obtain ⟨_, t1, s1, _⟩ := p1 q2
      rw [Nat.zero_add] at s1
      subst s1; subst s2
      have e0 : eventL (3, emptyE, x2, 0, ⟨#[]⟩, (0, ⟨#[]⟩, ()), 0, ()) = numI 3 ++ numI x2 := by unfold eventL; rw [if_neg (by dsimp only; decide), if_neg (by dsimp only; decide), if_pos rfl]; rfl
      rw [e0]
      exact ⟨by simp only [ByteArray.size_append], t1.app (by rw [Nat.zero_add]; exact t2), by unfold cleanV; rw [if_neg (by dsimp only; decide), if_neg (by dsimp only; decide), if_pos rfl]⟩)
    exact ⟨v', e', hg, Runs.no (by rfl) (Runs.no (by rfl) (Runs.yes (by rfl) (Runs.bind r2 hr)))⟩
  have n1 : (x == 1) = false := by simpa using g1
  have n2 : (x == 2) = false := by simpa using g2
  have n3 : (x == 3) = false := by simpa using g3
  by_cases g45 : x = 4 ∨ x = 5
  · obtain ⟨x2, a2, e2, h2, r2, p2⟩ := rd_num hs h1 e1 63
    obtain ⟨x3, a3, e3, h3, r3, p3⟩ := rd_text hs h2 e2 16
    obtain ⟨v', e', hg, hr⟩ := read_fin hs h3 e3 (x, emptyE, x2, 0, x3, (0, ⟨#[]⟩, ()), 0, ()) noEvent (fun h => ⟨emptyE_ok, by have := (p3 h).2.2.2; dsimp only; omega, empty_z⟩) (fun h _ => by
      obtain ⟨q3, t3, s3, _⟩ := p3 h
      obtain ⟨q2, t2, s2, _⟩ := p2 q3
      obtain ⟨_, t1, s1, _⟩ := p1 q2
      rw [Nat.zero_add] at s1
      subst s1; subst s2; subst s3
      have e0 : eventL (x, emptyE, x2, 0, x3, (0, ⟨#[]⟩, ()), 0, ()) = numI x ++ (numI x2 ++ textB x3) := by unfold eventL; rw [if_neg g1, if_neg g2, if_neg g3, if_pos g45]; rfl
      rw [e0]
      exact ⟨by simp only [ByteArray.size_append]; omega, t1.app (by rw [Nat.zero_add]; exact t2.app t3), by unfold cleanV; rw [if_neg g1, if_neg g2, if_neg g3, if_pos g45]⟩)
    have j1 : Runs (fun k => event_Read.j1 k x true 0 emptyE 0 0 ⟨#[]⟩ (0, ⟨#[]⟩, ()) 0 s (a1 : Int) e1 x emptyE 0 0 ⟨#[]⟩ (0, ⟨#[]⟩, ()) 0) ((v', e', ()), ()) :=
      Runs.step (fun k => rfl) (Runs.bind r2 (Runs.bind r3 hr))
    refine ⟨v', e', hg, Runs.no n1 (Runs.no n2 (Runs.no n3 (Runs.cond (fun h4 => ?_) (fun h4 => ?_))))⟩
    · rw [h4]; exact j1
    · have h4' : ¬ x = 4 := by simpa using h4
      rw [show (x == 5) = true from by simpa using (by omega : x = 5)]; exact j1
  have n4 : (x == 4) = false := by simpa using (by omega : ¬ x = 4)
  have n5 : (x == 5) = false := by simpa using (by omega : ¬ x = 5)
  by_cases g6 : x = 6
  · subst g6
    obtain ⟨x2, a2, e2, h2, r2, p2⟩ := rd_num hs h1 e1 64
    obtain ⟨x3, a3, e3, h3, r3, p3⟩ := rd_text hs h2 e2 32
    obtain ⟨v', e', hg, hr⟩ := read_fin hs h3 e3 (6, emptyE, 0, 0, ⟨#[]⟩, (x2, x3, ()), 0, ()) noEvent (fun h => ⟨emptyE_ok, empty_z, by have := (p3 h).2.2.2; dsimp only; omega⟩) (fun h _ => by
      obtain ⟨q3, t3, s3, _⟩ := p3 h
      obtain ⟨q2, t2, s2, _⟩ := p2 q3
      obtain ⟨_, t1, s1, _⟩ := p1 q2
      rw [Nat.zero_add] at s1
      subst s1; subst s2; subst s3
      have e0 : eventL (6, emptyE, 0, 0, ⟨#[]⟩, (x2, x3, ()), 0, ()) = numI 6 ++ (numI x2 ++ textB x3) := by unfold eventL; rw [if_neg g1, if_neg g2, if_neg g3, if_neg g45, if_pos rfl]; rfl
      rw [e0]
      exact ⟨by simp only [ByteArray.size_append]; omega, t1.app (by rw [Nat.zero_add]; exact t2.app t3), by unfold cleanV; rw [if_neg g1, if_neg g2, if_neg g3, if_neg g45, if_pos rfl]⟩)
    exact ⟨v', e', hg, Runs.no (by rfl) (Runs.no (by rfl) (Runs.no (by rfl) (Runs.no (by rfl) (Runs.step (fun k => rfl) (Runs.bind r2 (Runs.bind r3 hr))))))⟩
  have n6 : (x == 6) = false := by simpa using g6
  by_cases g7 : x = 7
  · subst g7
    obtain ⟨x2, a2, e2, h2, r2, p2⟩ := rd_num hs h1 e1 1099511627776
    obtain ⟨v', e', hg, hr⟩ := read_fin hs h2 e2 (7, emptyE, 0, 0, ⟨#[]⟩, (0, ⟨#[]⟩, ()), x2, ()) noEvent (fun h => ⟨emptyE_ok, empty_z, empty_z⟩) (fun h _ => by
      obtain ⟨q2, t2, s2, _⟩ := p2 h
      obtain ⟨_, t1, s1, _⟩ := p1 q2
      rw [Nat.zero_add] at s1
      subst s1; subst s2
      have e0 : eventL (7, emptyE, 0, 0, ⟨#[]⟩, (0, ⟨#[]⟩, ()), x2, ()) = numI 7 ++ numI x2 := by unfold eventL; rw [if_neg g1, if_neg g2, if_neg g3, if_neg g45, if_neg g6]; rfl
      rw [e0]
      exact ⟨by simp only [ByteArray.size_append], t1.app (by rw [Nat.zero_add]; exact t2), by unfold cleanV; rw [if_neg g1, if_neg g2, if_neg g3, if_neg g45, if_neg g6, if_pos rfl]⟩)
    exact ⟨v', e', hg, Runs.no (by rfl) (Runs.no (by rfl) (Runs.no (by rfl) (Runs.no (by rfl) (Runs.step (fun k => rfl) (Runs.bind r2 hr)))))⟩
  have n7 : (x == 7) = false := by simpa using g7
  · obtain ⟨v', e', hg, hr⟩ := read_fin hs h1 e1 (x, emptyE, 0, 0, ⟨#[]⟩, (0, ⟨#[]⟩, ()), 0, ()) noEvent (fun h => ⟨emptyE_ok, empty_z, empty_z⟩) (fun _ hb => by
      unfold eventB at hb; rw [if_neg g1, if_neg g2, if_neg g3, if_neg g45, if_neg g6, if_neg g7] at hb; cases hb)
    refine ⟨v', e', hg, Runs.no n1 (Runs.no n2 (Runs.no n3 (Runs.no n4 ?_)))⟩
    rw [n5]
    exact Runs.step (fun k => rfl) (Runs.no n6 (Runs.no n7 hr))
end Go.Proofs.Ythedgoefiffogaa.Pure
