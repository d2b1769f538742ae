/- OctetNobody: a reader that is nil: each of its calls, and the law over them. Function numbers by program (by-name). -/
import Derived.Test.YtnlanlhhcgdjiaaPL01OctetOne
import Derived.Test.YtnlanlhhcgdjiaaQOctet
namespace Go.Proofs.Ytnlanlhhcgdjiaa.Nobody
open Go.RowKit Go.Proofs.Ytnlanlhhcgdjiaa.PAll Go.Proofs.YtnlanlhhcgdjiaaW.PrintWords Go.Proofs.YtnlanlhhcgdjiaaW.PrintLast Go.Proofs.Ytnlanlhhcgdjiaa.Q
set_option linter.unusedVariables false
set_option linter.unusedSimpArgs false
theorem err (w : World) : Calls Try.prog 25 #[.pointer none] w fun e w' => e = .returned (.int .i64 9) ∧ w = w' := by
  go_enter Try.func25, Try.ntmps25
  go_wp2
  go_ret
  exact ⟨rfl, rfl⟩
theorem fail (x : Int) (w : World) : Calls Try.prog 20 #[.pointer none, .int .i64 x] w fun e w' => e = .returned (.tuple #[]) ∧ w = w' := by
  go_enter Try.func20, Try.ntmps20
  go_wp2
  first | go_end0 | ((try simp only [Exit.inBlock, Exit.then]); refine bodyPost_ret (results_none rfl _ _ _) rfl ?_)
  exact ⟨rfl, rfl⟩
theorem raw (x : Int) (w : World) : Calls Try.prog 21 #[.pointer none, .int .i64 x] w fun e w' => e = .returned (.string ⟨#[]⟩) ∧ w = w' := by
  go_enter Try.func21, Try.ntmps21
  go_wp2_with (go_at_call 25; refine (err _).mono ?_; rintro e w' ⟨rfl, rfl⟩)
  go_ret
  exact ⟨rfl, rfl⟩
theorem num (x : Int) (w : World) : Calls Try.prog 19 #[.pointer none, .int .i64 x] w fun e w' => e = .returned (.int .i64 0) ∧ w = w' := by
  go_enter Try.func19, Try.ntmps19
  go_wp2_with (go_at_call 21; refine (raw _ _).mono ?_; rintro e w' ⟨rfl, rfl⟩)
  go_ret
  exact ⟨rfl, rfl⟩
theorem text (x : Int) (w : World) : Calls Try.prog 17 #[.pointer none, .int .i64 x] w fun e w' => e = .returned (.string ⟨#[]⟩) ∧ w = w' := by
  go_enter Try.func17, Try.ntmps17
  go_wp2_with (first | (go_at_call 19; refine (num _ _).mono ?_; rintro e w' ⟨rfl, rfl⟩) | (go_at_call 21; refine (raw _ _).mono ?_; rintro e w' ⟨rfl, rfl⟩))
  go_ret
  exact ⟨rfl, rfl⟩
theorem flag (w : World) : Calls Try.prog 22 #[.pointer none] w fun e w' => e = .returned (.bool false) ∧ w = w' := by
  have e1 : (⟨#[1]⟩ : ByteArray).toList = [1] := toList_mk #[1]
  have e0 : (⟨#[]⟩ : ByteArray).toList = [] := toList_mk #[]
  have b1 : Op.bytesLess (⟨#[]⟩ : ByteArray).toList (⟨#[1]⟩ : ByteArray).toList = true := by rw [e1, e0]; rfl
  clear e1 e0
  go_enter Try.func22, Try.ntmps22
  go_wp2_with (first | (go_at_call 21; refine (raw _ _).mono ?_; rintro e w' ⟨rfl, rfl⟩) | (go_at_call 20; refine (fail _ _).mono ?_; rintro e w' ⟨rfl, rfl⟩))
  go_ret
  exact ⟨rfl, rfl⟩
theorem left (w : World) : Calls Try.prog 24 #[.pointer none] w fun e w' => e = .returned (.int .i64 0) ∧ w = w' := by
  go_enter Try.func24, Try.ntmps24
  go_wp2_with (go_at_call 25; refine (err _).mono ?_; rintro e w' ⟨rfl, rfl⟩)
  go_ret
  exact ⟨rfl, rfl⟩
theorem ende (w : World) : Calls Try.prog 18 #[.pointer none] w fun e w' => e = .returned (.int .i64 9) ∧ w = w' := by
  go_enter Try.func18, Try.ntmps18
  go_wp2_with (first | (go_at_call 24; refine (left _).mono ?_; rintro e w' ⟨rfl, rfl⟩) | (go_at_call 25; refine (err _).mono ?_; rintro e w' ⟨rfl, rfl⟩))
  go_ret
  exact ⟨rfl, rfl⟩
theorem texts (x y : Int) (w : World) : Calls Try.prog 23 #[.pointer none, .int .i64 x, .int .i64 y] w fun e w' => e = .returned (.slice none 0 0) ∧ w = w' := by
  go_enter Try.func23, Try.ntmps23
  go_wp2_with (go_at_call 19; refine (num _ _).mono ?_; rintro e w' ⟨rfl, rfl⟩)
  refine wp_loop_rounds 1 ?_
  rw [rounds_succ]
  go_wp2
  go_ret
  exact ⟨rfl, rfl⟩
theorem law (n : Int) (k : Nat) (hk : chartularylaw01_awake.f k = some true) (w : World) :
    Calls Try.prog 6 #[.int .i64 n] w fun e w' => e = .returned (.bool true) ∧ Below w.heap.size w w' := by
  have HK := Aside0.mk hk
  clear hk
  go_enter Try.func6, Try.ntmps6
  go_wp2_with (first | (go_at_call 21; refine (raw _ _).mono ?_; rintro e w' ⟨rfl, rfl⟩) | (go_at_call 20; refine (fail _ _).mono ?_; rintro e w' ⟨rfl, rfl⟩) | (go_at_call 19; refine (num _ _).mono ?_; rintro e w' ⟨rfl, rfl⟩) | (go_at_call 17; refine (text _ _).mono ?_; rintro e w' ⟨rfl, rfl⟩) | (go_at_call 22; refine (flag _).mono ?_; rintro e w' ⟨rfl, rfl⟩) | (go_at_call 23; refine (texts _ _ _).mono ?_; rintro e w' ⟨rfl, rfl⟩) | (go_at_call 24; refine (left _).mono ?_; rintro e w' ⟨rfl, rfl⟩) | (go_at_call 25; refine (err _).mono ?_; rintro e w' ⟨rfl, rfl⟩) | (go_at_call 18; refine (ende _).mono ?_; rintro e w' ⟨rfl, rfl⟩) | (go_at_call 12; refine (chartularylaw01_awake.calls k true _ HK.out).mono ?_; rintro e w' ⟨rfl, hb⟩))
  go_ret
  exact ⟨rfl, hb⟩
end Go.Proofs.Ytnlanlhhcgdjiaa.Nobody
