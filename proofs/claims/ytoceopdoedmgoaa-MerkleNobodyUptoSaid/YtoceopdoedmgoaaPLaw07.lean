/- Plain laws: chapter 7: what the document says, as plain functions; the example. -/
import Derived.Test.YtoceopdoedmgoaaPLawR
import Derived.Test.YtoceopdoedmgoaaPGrow
namespace Go.Proofs.Ytoceopdoedmgoaa.Pure
open Go Go.Proofs.Ytoceopdoedmgoaa.E Go.Proofs.Ytoceopdoedmgoaa.Eng
set_option linter.unusedVariables false
set_option linter.unusedSimpArgs false

section
variable {T : Tab}
end

/-- A text's leaf, cut. -/
noncomputable def leafC (s : ByteArray) : ByteArray := leafV [] (if s.size > 100 then s.extract 0 100 else s)
theorem leaves_loop (l : List ByteArray) (hb : l.length ≤ 1000000000) : ∀ (m i : Nat) (out : List ByteArray), i + m = l.length → out = (l.take i).map leafC → i ≤ 40 → ∀ t f1 f2 n N, TP (fun k => chartularylaw07_Leaves.l0 k l out (i : Int) t f1 f2 n [] N) (fun v => v.1 = ((l.take 40).map leafC, ()))
  | m, i, out, h, ho, h4, t, f1, f2, n, N => by
    refine TP.step (fun k => rfl) (TP.dec (fun h1 => TP.dec (fun h2 => ?_) fun h2 => TP.some ?_) fun h1 => TP.some ?_)
    · have hi : i < l.length := by omega
      have hlen : out.length = i := by rw [ho, List.length_map, List.length_take]; omega
      cases m with
      | zero => omega
      | succ m =>
      have e : IntKind.wrap .i64 ((i : Int) + 1) = ((i + 1 : Nat) : Int) := by rw [wrap_i64 (by omega) (by omega)]; rfl
      refine TP.optE (rdo_at hi) (TP.dec (fun h3 => TP.ck (by simp only [Bool.and_eq_true, decide_eq_true_eq]; omega) ?_) fun h3 => ?_)
      · refine TP.bindM (leaf_ok _ (by rw [ByteArray.size_extract]; show min 100 _ - 0 ≤ _; omega) _ _ _ _ _) fun _ => TP.ck (by apply decide_eq_true; simp only [List.length_cons, List.length_nil]; omega) ?_
        rw [e]
        refine leaves_loop l hb m (i + 1) _ (by omega) ?_ (by omega) _ _ _ _ _
        dsimp only
        rw [List.take_succ_eq_append_getElem hi, List.map_append, ho]
        unfold leafC
        simp only [List.map_cons, List.map_nil]
        rw [if_pos (by omega)]; rfl
      · refine TP.bindM (leaf_ok _ (by omega) _ _ _ _ _) fun _ => TP.ck (by apply decide_eq_true; simp only [List.length_cons, List.length_nil]; omega) ?_
        rw [e]
        refine leaves_loop l hb m (i + 1) _ (by omega) ?_ (by omega) _ _ _ _ _
        dsimp only
        rw [List.take_succ_eq_append_getElem hi, List.map_append, ho]
        unfold leafC
        simp only [List.map_cons, List.map_nil]
        rw [if_neg (by omega)]
    · rw [ho, show i = 40 by omega]
    · rw [ho, List.take_of_length_le (by omega), List.take_of_length_le (by omega)]
noncomputable def leavesV (l : List ByteArray) : List ByteArray := (l.take 40).map leafC
theorem leavesV_len (l : List ByteArray) : (leavesV l).length ≤ 40 := by unfold leavesV; rw [List.length_map, List.length_take]; omega
theorem leavesV_s32 (l : List ByteArray) : S32 (leavesV l) := fun x hx => by
  obtain ⟨y, _, rfl⟩ := List.mem_map.1 hx
  exact hashV_size tok_nil _
theorem leaves_ok (l : List ByteArray) (hb : l.length ≤ 1000000000) (t f1 f2 n N) : TP (fun k => chartularylaw07_Leaves.f k l t f1 f2 n [] N) (fun v => v.1 = (leavesV l, ())) :=
  TP.step (fun k => rfl) (leaves_loop l hb l.length 0 [] (Nat.zero_add _) rfl (by omega) _ _ _ _ _)
theorem new_ok : Runs (fun k => mill_New.f k) (((), ()), (((), (), (ByteArray.empty, (ByteArray.empty, ())), false, false, 0, ()), ([], ()), ([], ()), ())) := Runs.step (fun k => rfl) Runs.some
theorem awake_ok : TP (fun k => chartularylaw07_awake.f k) (fun v => v.1 = (true, ())) := by
  have b2 : belowN 2 = 1 := by decide
  have b3 : belowN 3 = 2 := by decide
  refine TP.step (fun k => rfl) (TP.bindR new_ok (TP.bindM (leaf_ok _ (by decide) _ _ _ _ _) fun _ => TP.bindM (leaf_ok _ (by decide) _ _ _ _ _) fun _ => TP.bindM (leaf_ok _ (by decide) _ _ _ _ _) fun _ => ?_))
  dsimp only
  generalize ha : leafV [] (⟨#[97]⟩ : ByteArray) = a
  generalize hb : leafV [] (⟨#[98]⟩ : ByteArray) = b
  generalize hc : leafV [] (⟨#[99]⟩ : ByteArray) = c
  have sa : a.size = 32 := ha ▸ hashV_size tok_nil _
  have sb : b.size = 32 := hb ▸ hashV_size tok_nil _
  have sc : c.size = 32 := hc ▸ hashV_size tok_nil _
  have hl : S32 [a, b, c] := (S32.one sa).app ((S32.one sb).app (S32.one sc))
  have e1 : rootV [] [a, b] = nodeV [] a b := by rw [rootV_two (l := [a, b]) (Nat.le_refl _), show [a, b].length = 2 from rfl, b2]; rw [rootV_one rfl, rootV_one rfl]; rfl
  have e2 : pathV [] [a, b, c] 2 = [nodeV [] a b] := by
    rw [pathV_right (l := [a, b, c]) (by show 2 ≤ 3; omega) (by show ¬ 2 < belowN 3; rw [b3]; omega), show [a, b, c].length = 3 from rfl, b3, pathV_one (by show 1 < 2; omega)]
    show [rootV [] [a, b]] = _
    rw [e1]
  have e3 : rootV [] [a, b, c] = nodeV [] (nodeV [] a b) c := by
    rw [rootV_two (l := [a, b, c]) (by show 2 ≤ 3; omega), show [a, b, c].length = 3 from rfl, b3]
    show nodeV [] (rootV [] [a, b]) (rootV [] [c]) = _
    rw [e1, rootV_one rfl]; rfl
  have hp := path_ok (T := []) tok_nil 3 [a, b, c] (Nat.le_refl _) (by decide) hl 2 (by show 2 < 3; omega)
  rw [e2] at hp
  have hn : (nodeV [] a b).size = 32 := hashV_size tok_nil _
  refine TP.bindM (hp _ _ _ _ _) fun _ => TP.eqI (fun _ => TP.eqI (fun _ => TP.optE (v := nodeV [] a b) rfl (TP.eqI (fun _ => TP.optE (v := nodeV [] a b) rfl (TP.optE (v := a) rfl (TP.optE (v := b) rfl ?_))) fun h => ?_)) fun h => absurd rfl h) fun h => absurd rfl h
  · refine TP.bindM (node_ok _ _ (by omega) (by omega) _ _ _ _ _) fun _ => TP.eqT (fun _ => ?_) fun h => absurd rfl h
    refine TP.bindM (root_is tok_nil [a, b, c] (by show 3 ≤ _; omega) hl _ _ _ _ _) fun _ => TP.optE (v := nodeV [] a b) rfl (TP.optE (v := c) rfl ?_)
    refine TP.bindM (node_ok _ _ (by omega) (by omega) _ _ _ _ _) fun _ => TP.some ?_
    dsimp only
    rw [e3, beq_text, decide_eq_true rfl]
  · exact absurd (by rw [hn]; rfl) h
theorem awake_end {g : Nat → Option ((Bool × Unit) × Unit)} (h : ∀ k, g k = (chartularylaw07_awake.f k).bind fun r => some ((r.1.1, ()), ())) : TP g (fun v => v.1.1 = true) := by
  have : g = fun k => (chartularylaw07_awake.f k).bind fun r => some ((r.1.1, ()), ()) := funext h
  rw [this]
  exact TP.bindM awake_ok fun _ => TP.some rfl
end Go.Proofs.Ytoceopdoedmgoaa.Pure
