-- Laid by programs of this session (myprint.py, post.py) out of the translation.
import Derived.Test.YtabdmnoejoiboaaPBase
namespace Go.Proofs.Ytabdmnoejoiboaa.PAll
open Go.RowKit Go.Proofs.YtabdmnoejoiboaaW.PrintWords Go.Proofs.YtabdmnoejoiboaaW.PrintLast Go.Proofs.YtabdmnoejoiboaaW.PrintMore
attribute [local go_sem] max2_int min2_int max_two min_two max_three min_three max_four min_four   -- for this text's walks alone
set_option linter.unusedVariables false
set_option linter.unusedSimpArgs false
section
/-! ### api_Field_25: function 25 -/
theorem slices_insertion_short (A : Option Addr) (n c : Nat) (F : Value) (hn : n ≤ 1) (w : World) :
    Calls Try.prog 55 #[.slice A n c, .int .i64 0, .int .i64 (n : Int), F] w fun e w' => e = .returned (.tuple #[]) ∧ Drawn0 w w' := by
  have h1 : decide ((1 : Int) < (n : Int)) = false := decide_eq_false (by omega)
  have h2 : ((1 : Int) < (n : Int)) = False := eq_false (by omega)
  go_enter Try.func55, Try.ntmps55
  go_wp2
  go_loopg [8] 1 (fun kq v8 w' => v8 = .int .i64 1 ∧ Drawn0 w w')
  case atStart => exact ⟨rfl, Drawn0.refl _⟩
  case round =>
    obtain ⟨rfl, ⟨m1, rfl⟩⟩ := hrel
    go_wp2
    first | go_end0 | ((try simp only [Exit.inBlock, Exit.then]); refine bodyPost_ret (results_none rfl _ _ _) rfl ?_) | go_ret
    exact ⟨rfl, by repeat (first | exact Drawn0.refl _ | apply Drawn0.step)⟩
theorem slices_stable_short (A : Option Addr) (n c : Nat) (F : Value) (hn : n ≤ 1) (w : World) :
    Calls Try.prog 46 #[.slice A n c, .int .i64 (n : Int), F] w fun e w' => e = .returned (.tuple #[]) ∧ Drawn0 w w' := by
  have h1 : decide ((20 : Int) ≤ (n : Int)) = false := decide_eq_false (by omega)
  have h2 : ((20 : Int) ≤ (n : Int)) = False := eq_false (by omega)
  have h3 : decide ((20 : Int) < (n : Int)) = false := decide_eq_false (by omega)
  have h4 : ((20 : Int) < (n : Int)) = False := eq_false (by omega)
  go_enter Try.func46, Try.ntmps46
  go_wp2
  go_loopg [7, 8] 1 (fun kq v7 v8 w' => v7 = .int .i64 0 ∧ v8 = .int .i64 20 ∧ Drawn0 w w')
  case atStart => exact ⟨rfl, rfl, Drawn0.refl _⟩
  case round =>
    obtain ⟨rfl, rfl, ⟨m1, rfl⟩⟩ := hrel
    go_wp2_with (go_at_call 55; refine (slices_insertion_short A n c F hn _).mono ?_; rintro e w' ⟨rfl, ⟨nd, rfl⟩⟩)
    go_loopg [6] 1 (fun kq v6 w' => v6 = .int .i64 20 ∧ Drawn0 w w')
    case atStart => exact ⟨rfl, by repeat (first | exact Drawn0.refl _ | apply Drawn0.step)⟩
    case round =>
      obtain ⟨rfl, ⟨m2, rfl⟩⟩ := hrel
      go_wp2
      first | go_end0 | ((try simp only [Exit.inBlock, Exit.then]); refine bodyPost_ret (results_none rfl _ _ _) rfl ?_) | go_ret
      exact ⟨rfl, by repeat (first | exact Drawn0.refl _ | apply Drawn0.step)⟩
/-- Of a list of one, or of none: there is nothing to sort. -/
def api_Field_25.f (l0 : List S37) (a1 : Nat) : Option Unit := if l0.length ≤ 1 then some () else none
theorem api_Field_25.calls (A0 : Option Addr) (c0 : Nat) (l0 : List S37) (a1 : Nat) {r : Unit} (w : World) (hr0 : Kd.C k37 w A0 l0.length l0) (hc0 : l0.length ≤ c0) (h : api_Field_25.f l0 a1 = some r) :
    Calls Try.prog 25 #[.slice A0 l0.length c0, .func (.func a1) #[] #[]] w fun e w' => e = .returned (.tuple #[]) ∧ Drawn0 w w' := by
  have hn : l0.length ≤ 1 := by
    unfold api_Field_25.f at h
    by_cases q : l0.length ≤ 1
    · exact q
    · rw [if_neg q] at h; exact absurd h (by simp)
  clear h hr0 hc0
  generalize l0.length = n at hn ⊢
  go_enter Try.func25, Try.ntmps25
  go_wp2_with (go_at_call 46; refine (slices_stable_short A0 n c0 _ hn _).mono ?_; rintro e w' ⟨rfl, ⟨nd, rfl⟩⟩)
  first | go_end0 | ((try simp only [Exit.inBlock, Exit.then]); refine bodyPost_ret (results_none rfl _ _ _) rfl ?_) | go_ret
  exact ⟨rfl, by repeat (first | exact Drawn0.refl _ | apply Drawn0.step)⟩


end

end Go.Proofs.Ytabdmnoejoiboaa.PAll
