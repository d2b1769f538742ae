/- Laid by erow.py: the row of FindGroups: for arguments that hold together at most 1048576 values and letters the law returns true, and each argument reads as before. -/
import Derived.Test.YtcjiipbppkdkaaaRows
import Derived.Test.YtcjiipbppkdkaaaEVcs
import Derived.Test.YtcjiipbppkdkaaaESFindGroups
import Derived.Test.YtcjiipbppkdkaaaPureFindGroups
import Derived.WalkKit
import Derived.ProofKit
import Derived.OpenShut
import Derived.ShutString
import Derived.ChangeOld
import Derived.Below
import Derived.SizedLaws
import Derived.JoinedCond
namespace Go.Proofs.Ytcjiipbppkdkaaa.findGroups
open Go.ChangeShapes Go.WideShapes Go.ChangeAt Go.RowKit Go.Proofs.Ytcjiipbppkdkaaa.E Go.Proofs.Ytcjiipbppkdkaaa.Eng
set_option linter.unusedVariables false
set_option linter.unusedSimpArgs false
theorem own : ownKnob Try.prog.godebug = none := by kernel_rfl
theorem laidOut : laidOutB Try.prog = true := by kernel_rfl
set_option maxRecDepth 100000 in
theorem contract (H : Type) (enc : TypeId × Value → H) (W : World) (base : Nat) (args : Array Value) (ds gs : List (DataW H)) (before : List MemPlace)
    (hval0 : ∀ (j : Nat) t v, Try.f7.params[j]? = some t → args[j]? = some v → Value.okWide Try.prog W .any base t v)
    (hW : DataW.Whole enc Try.prog Try.f7.params.toList Rows.findGroupsSpec.vars false W args.toList ds gs before) (hk : Rows.uptoSmall H (ds ++ gs) = true) :
    Calls Try.prog 7 args W fun e W' => ∃ v, e = .returned v ∧ Rows.findGroupsSpec.post enc Try.prog Try.f7 false true false false W args v W' := by
  have hval : ∀ (j : Nat) t v, Try.f7.params[j]? = some t → args[j]? = some v → Value.okWide Try.prog W .any base t v := hval0
  have hW' := hW
  obtain ⟨p, q, hA0, hV, rfl, hfz, hnd⟩ := hW
  have hA : DataW.TrodAll enc Try.prog W 0 (fun _ => true) true Try.f7.params.toList args.toList ds p := hA0
  rw [Try.params7] at hA hval
  obtain ⟨v0, vs0, d0, ds0, p0, q0, hargs, rfl, rfl, h0, r0⟩ := trodAll_cons hA
  obtain ⟨v1, vs1, d1, ds1, p1, q1, rfl, rfl, rfl, h1, r1⟩ := trodAll_cons r0
  obtain ⟨v2, vs2, d2, ds2, p2, q2, rfl, rfl, rfl, h2, r2⟩ := trodAll_cons r1
  obtain ⟨rfl, rfl, rfl⟩ := trodAll_nil r2
  obtain rfl : args = #[v0, v1, v2] := by cases args; simp_all
  obtain ⟨rfl, rfl⟩ := trodVars_none hV
  have hbk : Rows.uptoBulkAll _ ≤ 1048576 := of_decide_eq_true hk
  simp only [List.append_nil, Rows.uptoBulkAll] at hbk
  have lt0 : ∀ x ∈ p0, x.block < W.heap.size := by obtain ⟨m, hm⟩ := h0; exact DataW.trod_lt m _ _ _ hm
  obtain ⟨x0, e0, w0, b0⟩ := open_arg (T := .str) (by kernel_rfl) (hval 0 9 v0 rfl rfl) h0
  have lt1 : ∀ x ∈ p1, x.block < W.heap.size := by obtain ⟨m, hm⟩ := h1; exact DataW.trod_lt m _ _ _ hm
  obtain ⟨x1, e1, w1, b1⟩ := open_arg (T := .bool) (by kernel_rfl) (hval 1 4 v1 rfl rfl) h1
  have lt2 : ∀ x ∈ p2, x.block < W.heap.size := by obtain ⟨m, hm⟩ := h2; exact DataW.trod_lt m _ _ _ hm
  obtain ⟨x2, e2, w2, b2⟩ := open_arg (T := (.sl (.cons .str (.cons (.int .i64) (.cons (.sl (.cons .str (.cons (.cons (.int .i64) (.cons .bool (.cons (.int .i64) (.cons (.int .u64) (.cons .str .nil))))) .nil))) .nil))))) (by kernel_rfl) (hval 2 40 v2 rfl rfl) h2
  obtain ⟨k, h⟩ := Pure.FindGroups x0 x1 x2 w0 w1 w2 (by omega)
  refine (law_calls (F := chartularylaw17_FindGroups.fd) (k := k) (cs := [asCV .str x0, asCV .bool x1, asCV (.sl (.cons .str (.cons (.int .i64) (.cons (.sl (.cons .str (.cons (.cons (.int .i64) (.cons .bool (.cons (.int .i64) (.cons (.int .u64) (.cons .str .nil))))) .nil))) .nil)))) x2]) (d := ((x0, (x1, (x2, ()))), ())) (r := ((true, ()), ())) (chartularylaw17_FindGroups.spec k) h rfl rfl (by simp only [VRL]; exact ⟨v0, [v1, v2], rfl, e0, ⟨v1, [v2], rfl, e1, ⟨v2, [], rfl, e2, rfl⟩⟩⟩) rfl rfl).mono fun e W' ⟨he, bel⟩ => ?_
  subst he
  exact ⟨_, rfl, _, _, _, [], _, [], hW', trodAll_mk1 ⟨1, by simp [DataW.trod, Value.cells, Try.underlying4]⟩, (trodAll_cons_mk (Below.trod laidOut (by kernel_rfl) (of_decide_eq_true (by kernel_rfl)) h0 bel lt0) (trodAll_cons_mk (Below.trod laidOut (by kernel_rfl) (of_decide_eq_true (by kernel_rfl)) h1 bel lt1) (trodAll_cons_mk (Below.trod laidOut (by kernel_rfl) (of_decide_eq_true (by kernel_rfl)) h2 bel lt2) trodAll_mk0))), rfl, bel.frame _, fun h => by cases h⟩
set_option maxRecDepth 100000 in
theorem lifted (os : Os) (started : os.Started) (H : Type) (enc : TypeId × Value → H) (F : Stop.Interp) :
    ReturnsInHanded {} Try.checked os 7 .any ((Rows.OpenSpec.upto Rows.findGroupsSpec).pre6 enc Try.prog Try.f7 Rows.findGroupsUptoRow.domain false) (((Rows.OpenSpec.upto Rows.findGroupsSpec).at F).post enc Try.prog Try.f7 false true false false) := by
  refine returnsInHanded_of_cond (C := Try.checked) (s := Rows.OpenSpec.upto Rows.findGroupsSpec) (k := Rows.uptoSmall) rfl own started (by kernel_rfl) Try.func7
    (OpenSpec.witness (enc := enc) (C := Try.checked) (s := Rows.OpenSpec.upto Rows.findGroupsSpec) (k := Rows.uptoSmall) rfl false ⟨#[], #[.string ByteArray.empty, .bool false, .slice none 0 0], []⟩ 8 (by kernel_rfl) (by kernel_rfl) (by kernel_rfl)
      (x := ([.lit (.string []), .lit (.bool false), .nil], [], [])) (by kernel_rfl) rfl (by kernel_rfl)) ?_
  intro W base args ds gs before hval hW _ hk _
  exact contract H enc W base args ds gs before hval hW hk
theorem over : Rows.findGroupsUptoRow.holds Try.pinned (Rows.OpenSpec.upto Rows.findGroupsSpec) :=
  OpenClaim.holds_of_cond 7 Try.f7 rfl rfl rfl rfl rfl rfl rfl ⟨rfl, rfl, rfl, rfl, rfl⟩ rfl rfl rfl rfl rfl (by kernel_rfl) Try.func7 (by kernel_rfl)
    (of_decide_eq_true (by kernel_rfl)) (by unfold Func.isWrapper; first | (rw [if_pos (by decide +kernel)]; kernel_rfl) | (rw [if_neg (by decide +kernel)]; exact ⟨rfl, rfl⟩))
    (fun os started H enc _ F => lifted os started H enc F)
theorem proved : Rows.FindGroupsUptoSaid := over
#print axioms proved
end Go.Proofs.Ytcjiipbppkdkaaa.findGroups
namespace Go.Proofs.Ytcjiipbppkdkaaa
/-- The row, under a short name, for the claim. -/
theorem findGroups_holds : Rows.FindGroupsUptoSaid := findGroups.proved
end Go.Proofs.Ytcjiipbppkdkaaa
