/- Laid by erow.py: the row of AskRuns: for arguments that hold together at most 1048576 values and letters the law returns true, and each argument reads as before. -/
import Derived.Test.YtpidgdelfaidoaaRows
import Derived.Test.YtpidgdelfaidoaaEVcs
import Derived.Test.YtpidgdelfaidoaaESAskRuns
import Derived.Test.YtpidgdelfaidoaaPureAskRuns
import Derived.WalkKit
import Derived.ProofKit
import Derived.OpenShut
import Derived.ShutString
import Derived.ChangeOld
import Derived.Below
import Derived.SizedLaws
import Derived.JoinedCond
namespace Go.Proofs.Ytpidgdelfaidoaa.askRuns
open Go.ChangeShapes Go.WideShapes Go.ChangeAt Go.RowKit Go.Proofs.Ytpidgdelfaidoaa.E Go.Proofs.Ytpidgdelfaidoaa.Eng
set_option linter.unusedVariables false
set_option linter.unusedSimpArgs false
theorem own : ownKnob Try.prog.godebug = none := by kernel_rfl
theorem laidOut : laidOutB Try.prog = true := by kernel_rfl
set_option maxRecDepth 100000 in
theorem contract (H : Type) (enc : TypeId × Value → H) (W : World) (base : Nat) (args : Array Value) (ds gs : List (DataW H)) (before : List MemPlace)
    (hval0 : ∀ (j : Nat) t v, Try.f5.params[j]? = some t → args[j]? = some v → Value.okWide Try.prog W .any base t v)
    (hW : DataW.Whole enc Try.prog Try.f5.params.toList Rows.askRunsSpec.vars false W args.toList ds gs before) (hk : Rows.uptoSmall H (ds ++ gs) = true) :
    Calls Try.prog 5 args W fun e W' => ∃ v, e = .returned v ∧ Rows.askRunsSpec.post enc Try.prog Try.f5 false true false false W args v W' := by
  have hval : ∀ (j : Nat) t v, Try.f5.params[j]? = some t → args[j]? = some v → Value.okWide Try.prog W .any base t v := hval0
  have hW' := hW
  obtain ⟨p, q, hA0, hV, rfl, hfz, hnd⟩ := hW
  have hA : DataW.TrodAll enc Try.prog W 0 (fun _ => true) true Try.f5.params.toList args.toList ds p := hA0
  rw [Try.params5] at hA hval
  obtain ⟨v0, vs0, d0, ds0, p0, q0, hargs, rfl, rfl, h0, r0⟩ := trodAll_cons hA
  obtain ⟨v1, vs1, d1, ds1, p1, q1, rfl, rfl, rfl, h1, r1⟩ := trodAll_cons r0
  obtain ⟨rfl, rfl, rfl⟩ := trodAll_nil r1
  obtain rfl : args = #[v0, v1] := by cases args; simp_all
  obtain ⟨rfl, rfl⟩ := trodVars_none hV
  have hbk : Rows.uptoBulkAll _ ≤ 1048576 := of_decide_eq_true hk
  simp only [List.append_nil, Rows.uptoBulkAll] at hbk
  have lt0 : ∀ x ∈ p0, x.block < W.heap.size := by obtain ⟨m, hm⟩ := h0; exact DataW.trod_lt m _ _ _ hm
  obtain ⟨x0, e0, w0, b0⟩ := open_arg (T := (.cons (.sl (.cons .str (.cons (.cons (.int .i64) (.cons .bool (.cons (.int .i64) (.cons (.int .u64) (.cons .str .nil))))) (.cons (.cons (.int .i64) (.cons .bool (.cons (.int .i64) (.cons (.int .u64) (.cons .str .nil))))) (.cons .bool (.cons .bool (.cons .bool .nil))))))) (.cons .str (.cons .bool (.cons (.int .i64) .nil))))) (by kernel_rfl) (hval 0 24 v0 rfl rfl) h0
  have lt1 : ∀ x ∈ p1, x.block < W.heap.size := by obtain ⟨m, hm⟩ := h1; exact DataW.trod_lt m _ _ _ hm
  obtain ⟨x1, e1, w1, b1⟩ := open_arg (T := (.sl (.cons .str (.cons (.int .i64) (.cons (.sl (.cons .str (.cons (.cons (.int .i64) (.cons .bool (.cons (.int .i64) (.cons (.int .u64) (.cons .str .nil))))) .nil))) .nil))))) (by kernel_rfl) (hval 1 34 v1 rfl rfl) h1
  obtain ⟨k, h⟩ := Pure.AskRuns x0 x1 w0 w1 (by omega)
  refine (law_calls (F := chartularylaw26_AskRuns.fd) (k := k) (cs := [asCV (.cons (.sl (.cons .str (.cons (.cons (.int .i64) (.cons .bool (.cons (.int .i64) (.cons (.int .u64) (.cons .str .nil))))) (.cons (.cons (.int .i64) (.cons .bool (.cons (.int .i64) (.cons (.int .u64) (.cons .str .nil))))) (.cons .bool (.cons .bool (.cons .bool .nil))))))) (.cons .str (.cons .bool (.cons (.int .i64) .nil)))) x0, asCV (.sl (.cons .str (.cons (.int .i64) (.cons (.sl (.cons .str (.cons (.cons (.int .i64) (.cons .bool (.cons (.int .i64) (.cons (.int .u64) (.cons .str .nil))))) .nil))) .nil)))) x1]) (d := ((x0, (x1, ())), ())) (r := ((true, ()), ())) (chartularylaw26_AskRuns.spec k) h rfl rfl (by simp only [VRL]; exact ⟨v0, [v1], rfl, e0, ⟨v1, [], rfl, e1, rfl⟩⟩) rfl rfl).mono fun e W' ⟨he, bel⟩ => ?_
  subst he
  exact ⟨_, rfl, _, _, _, [], _, [], hW', trodAll_mk1 ⟨1, by simp [DataW.trod, Value.cells, Try.underlying4]⟩, (trodAll_cons_mk (Below.trod laidOut (by kernel_rfl) (of_decide_eq_true (by kernel_rfl)) h0 bel lt0) (trodAll_cons_mk (Below.trod laidOut (by kernel_rfl) (of_decide_eq_true (by kernel_rfl)) h1 bel lt1) trodAll_mk0)), rfl, bel.frame _, fun h => by cases h⟩
set_option maxRecDepth 100000 in
theorem lifted (os : Os) (started : os.Started) (H : Type) (enc : TypeId × Value → H) (F : Stop.Interp) :
    ReturnsInHanded {} Try.checked os 5 .any ((Rows.OpenSpec.upto Rows.askRunsSpec).pre6 enc Try.prog Try.f5 Rows.askRunsUptoRow.domain false) (((Rows.OpenSpec.upto Rows.askRunsSpec).at F).post enc Try.prog Try.f5 false true false false) := by
  refine returnsInHanded_of_cond (C := Try.checked) (s := Rows.OpenSpec.upto Rows.askRunsSpec) (k := Rows.uptoSmall) rfl own started (by kernel_rfl) Try.func5
    (OpenSpec.witness (enc := enc) (C := Try.checked) (s := Rows.OpenSpec.upto Rows.askRunsSpec) (k := Rows.uptoSmall) rfl false ⟨#[], #[.agg #[.slice none 0 0, .string ByteArray.empty, .bool false, .int .i64 0], .slice none 0 0], []⟩ 8 (by kernel_rfl) (by kernel_rfl) (by kernel_rfl)
      (x := ([.agg [.nil, .lit (.string []), .lit (.bool false), .lit (.int .i64 0)], .nil], [], [])) (by kernel_rfl) rfl (by kernel_rfl)) ?_
  intro W base args ds gs before hval hW _ hk _
  exact contract H enc W base args ds gs before hval hW hk
theorem over : Rows.askRunsUptoRow.holds Try.pinned (Rows.OpenSpec.upto Rows.askRunsSpec) :=
  OpenClaim.holds_of_cond 5 Try.f5 rfl rfl rfl rfl rfl rfl rfl ⟨rfl, rfl, rfl, rfl, rfl⟩ rfl rfl rfl rfl rfl (by kernel_rfl) Try.func5 (by kernel_rfl)
    (of_decide_eq_true (by kernel_rfl)) (by unfold Func.isWrapper; first | (rw [if_pos (by decide +kernel)]; kernel_rfl) | (rw [if_neg (by decide +kernel)]; exact ⟨rfl, rfl⟩))
    (fun os started H enc _ F => lifted os started H enc F)
theorem proved : Rows.AskRunsUptoSaid := over
#print axioms proved
end Go.Proofs.Ytpidgdelfaidoaa.askRuns
namespace Go.Proofs.Ytpidgdelfaidoaa
/-- The row, under a short name, for the claim. -/
theorem askRuns_holds : Rows.AskRunsUptoSaid := askRuns.proved
end Go.Proofs.Ytpidgdelfaidoaa
