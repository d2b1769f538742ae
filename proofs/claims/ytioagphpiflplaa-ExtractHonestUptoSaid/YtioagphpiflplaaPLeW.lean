/- Plain laws: a table makes a mill, or none, and not both: with more rounds it is the same. -/
import Derived.Test.YtioagphpiflplaaPWith
import Derived.Test.YtioagphpiflplaaELe
namespace Go.Proofs.Ytioagphpiflplaa.Pure
open Go Go.Proofs.Ytioagphpiflplaa.E Go.Proofs.Ytioagphpiflplaa.Eng
set_option linter.unusedVariables false
set_option linter.unusedSimpArgs false

theorem with_good_loop (l : List Row) (ho : ∀ x ∈ l, x.2.2.2.1.size = 32) : ∀ (k : Nat) (i : Int) T t f1 f2 n N, mill_With_nil.l0 k l (l.length : Int) i t f1 f2 n T N = none
  | 0, i, T, t, f1, f2, n, N => rfl
  | k + 1, i, T, t, f1, f2, n, N => by
    unfold mill_With_nil.l0
    by_cases hi : i < (l.length : Int)
    · rw [decide_eq_true hi]
      simp only [cond_true]
      cases hr : rdo l i with
      | none => rfl
      | some x =>
        have hx : x ∈ l := by
          unfold rdo at hr
          split at hr
          · exact List.mem_of_getElem? hr
          · cases hr
        simp only [Option.bind_some]
        rw [show (((x.2.2.2.1.size : Int) : Int) != 32) = false by rw [ho x hx]; rfl]
        simp only [cond_false]
        cases hn : mill_name.f k x.1 x.2.1 x.2.2.1 with
        | none => rfl
        | some r =>
          simp only [Option.bind_some]
          cases mhas r.1.1 T with
          | true => exact with_good_loop l ho k _ _ _ _ _ _ _
          | false => exact with_good_loop l ho k _ _ _ _ _ _ _
    · rw [decide_eq_false hi]; rfl
theorem with_good (l : List Row) (ho : ∀ x ∈ l, x.2.2.2.1.size = 32) : ∀ k, mill_With_nil.f k l = none
  | 0 => rfl
  | k + 1 => by
    have e : mill_With_nil.f (k + 1) l = (mill_New.f k).bind fun r1 => mill_With_nil.l0 k l (l.length : Int) 0 (r1.2.1.2.2.1.1, (r1.2.1.2.2.1.2.1, ())) r1.2.1.2.2.2.1 r1.2.1.2.2.2.2.1 r1.2.1.2.2.2.2.2.1 r1.2.2.1.1 r1.2.2.2.1.1 := rfl
    rw [e]
    cases mill_New.f k with
    | none => rfl
    | some r => exact with_good_loop l ho k 0 _ _ _ _ _ _
theorem Le.orW {β : Type} {k : Nat} {l : List Row} (hb : l.length ≤ 1000000000) {g g' : mill_With_has.R → Option β} {h h' : mill_With_nil.R → Option β} (h1 : ∀ r, Le (g r) (g' r)) (h2 : ∀ r, Le (h r) (h' r)) :
    Le (orE ((mill_With_has.f k l).bind g) ((mill_With_nil.f k l).bind h)) (orE ((mill_With_has.f (k + 1) l).bind g') ((mill_With_nil.f (k + 1) l).bind h')) := by
  rcases rows_case l with ho | ⟨j, hj, ho⟩
  · rw [with_good l ho k, with_good l ho (k + 1)]
    refine ⟨fun v hv => ?_⟩
    have hv : (mill_With_has.f k l).bind g = some v := by
      cases hx : (mill_With_has.f k l).bind g with
      | none => rw [hx] at hv; cases hv
      | some w => rw [hx] at hv; exact hv
    rw [(Le.bind (mill_With_has.le k l) h1).le v hv]; rfl
  · rw [with_bad l hb j hj ho k, with_bad l hb j hj ho (k + 1)]
    exact Le.bind (mill_With_nil.le k l) h2
theorem Le.runs {α : Type} {f : Nat → Option α} (h : ∀ k, Le (f k) (f (k + 1))) {k0 : Nat} {v : α} (h0 : f k0 = some v) : Runs f v := by
  refine ⟨k0, fun k hk => ?_⟩
  obtain ⟨d, rfl⟩ : ∃ d, k = k0 + d := ⟨k - k0, by omega⟩
  clear hk
  induction d with
  | zero => exact h0
  | succ d ih => exact (h (k0 + d)).le v ih
end Go.Proofs.Ytioagphpiflplaa.Pure
