/- Plain law: SheetNodes. -/
import Derived.Test.YtdeboaknhkffpaaPGath
import Derived.Test.YtdeboaknhkffpaaESSheetNodes
namespace Go.Proofs.Ytdeboaknhkffpaa.Pure
open Go Go.Proofs.Ytdeboaknhkffpaa.E Go.Proofs.Ytdeboaknhkffpaa.Eng
set_option linter.unusedVariables false
set_option linter.unusedSimpArgs false
set_option linter.unusedSectionVars false

noncomputable def someV (l : List Slip) (pick : List Int) : List ByteArray := pick.map fun x => (sleavesV [] l).getD x.toNat ⟨#[]⟩
theorem someV_pick (l : List Slip) (pick : List Int) (h : ∀ x ∈ pick, 0 ≤ x ∧ x < (l.length : Int)) : pickL pick (sleavesV [] l) 0 = someV l pick := by
  unfold pickL someV
  rw [List.filter_eq_self.2 fun x hx => ?_]
  · exact List.map_congr_left fun x hx => by rw [Nat.sub_zero]
  · have := h x hx
    rw [sleavesV_len]
    simp only [Bool.and_eq_true, decide_eq_true_eq]
    omega
theorem someV_s32 (l : List Slip) (pick : List Int) (h : ∀ x ∈ pick, 0 ≤ x ∧ x < (l.length : Int)) : S32 (someV l pick) := fun y hy => by
  obtain ⟨x, hx, rfl⟩ := List.mem_map.1 hy
  have := h x hx
  have hlt : x.toNat < (sleavesV [] l).length := by rw [sleavesV_len]; omega
  rw [getD_at hlt]
  exact sleavesV_s32 tok_nil l _ (List.getElem_mem hlt)
theorem S32.szL {l : List ByteArray} (h : S32 l) : SzL l := fun x hx => by have := h x hx; omega
section
variable (l : List Slip) (hb : l.length ≤ 12) (hl : SlipsOk l) (pick : List Int) (hk : pick.length ≤ 20) (h0 : pick.length ≠ 0) (hr : risingB pick l.length = true)
include hb hl hk h0 hr
theorem nodes_rebuild : RebuildA [] (l.length : Int) pick (someV l pick) (gatherV [] (sleavesV [] l) 0 pick) = (srootV [] l, 0, ()) := by
  obtain ⟨hp, hin⟩ := rising_pair hr
  have h1 := rising_some h0 hr
  have hs := sleavesV_s32 (T := []) tok_nil l
  have hw := walk_gather (T := []) pick hp _ (sleavesV [] l) (Nat.le_refl _) (by rw [sleavesV_len]; exact h1) 0 [] []
  rw [List.append_nil, List.append_nil, someV_pick l pick hin, sleavesV_len] at hw
  unfold RebuildA
  rw [if_neg, if_neg, Int.toNat_natCast, hw, if_neg]
  · rfl
  · rintro (h | h)
    · cases h
    · exact absurd h (Nat.lt_irrefl 0)
  · rw [(sumsB32 _).2 (gatherV_s32 tok_nil pick _ _ (Nat.le_refl _) hs 0)]; decide
  · rintro (h | h | h | h | h)
    · omega
    · omega
    · exact h0 h
    · exact h (by unfold someV; rw [List.length_map])
    · rw [hr] at h; cases h
theorem nodes_l1 : ∀ (m i : Nat), i + m = (gatherV [] (sleavesV [] l) 0 pick).length → ∀ t f1 f2 c N, TP (fun k => chartularylaw08_SheetNodes.l1 k l pick (gatherV [] (sleavesV [] l) 0 pick) (gatherV [] (sleavesV [] l) 0 pick) (someV l pick) (i : Int) t f1 f2 c [] N) (fun v => v.1.1 = true)
  | 0, i, h, t, f1, f2, c, N => by
    have hs := sleavesV_s32 (T := []) tok_nil l
    have h1 := rising_some h0 hr
    have gl := gatherV_len (T := []) _ (sleavesV [] l) (Nat.le_refl _) (by rw [sleavesV_len]; exact h1) 0 pick
    rw [sleavesV_len] at gl
    have hR := rebuild_ok (T := []) tok_nil (l.length : Int) pick (by omega) (someV l pick) (gatherV [] (sleavesV [] l) 0 pick) (someV_s32 l pick (rising_pair hr).2).szL (gatherV_s32 tok_nil pick _ _ (Nat.le_refl _) hs 0).szL (by unfold someV; rw [List.length_map]; omega) (by omega)
    rw [nodes_rebuild l hb hl pick hk h0 hr] at hR
    refine TP.step (fun k => rfl) (TP.dec (fun h' => absurd h' (by omega)) fun _ => TP.bindM (hR _ _ _ _ _) fun _ => TP.eqI (fun _ => TP.bindM (sroot_ok tok_nil l (by omega) hl _ _ _ _ _) fun _ => ?_) fun h => absurd rfl h)
    exact TP.eqT (fun _ => awake_end fun _ => rfl) fun h => absurd rfl h
  | m + 1, i, h, t, f1, f2, c, N => by
    have h1 := rising_some h0 hr
    have gl := gatherV_len (T := []) _ (sleavesV [] l) (Nat.le_refl _) (by rw [sleavesV_len]; exact h1) 0 pick
    rw [sleavesV_len] at gl
    have hi : i < (gatherV [] (sleavesV [] l) 0 pick).length := by omega
    have e : IntKind.wrap .i64 ((i : Int) + 1) = ((i + 1 : Nat) : Int) := by rw [wrap_i64 (by omega) (by omega)]; rfl
    refine TP.step (fun k => rfl) (TP.dec (fun h' => ?_) fun h' => absurd (by omega : (i : Int) < (gatherV [] (sleavesV [] l) 0 pick).length) h')
    refine TP.optE (rdo_at hi) (TP.optE (rdo_at hi) (TP.neT (fun h => absurd rfl h) fun _ => ?_))
    rw [e]
    exact nodes_l1 m (i + 1) (by omega) _ _ _ _ _
theorem nodes_l0 : ∀ (m i : Nat) (out : List ByteArray), i + m = pick.length → out = someV l (pick.take i) → ∀ t f1 f2 c N, TP (fun k => chartularylaw08_SheetNodes.l0 k l pick (gatherV [] (sleavesV [] l) 0 pick) 0 (gatherV [] (sleavesV [] l) 0 pick) out (i : Int) t f1 f2 c [] N) (fun v => v.1.1 = true)
  | 0, i, out, h, ho, t, f1, f2, c, N => by
    rw [List.take_of_length_le (by omega)] at ho
    subst ho
    refine TP.step (fun k => rfl) (TP.dec (fun h' => absurd h' (by omega)) fun _ => TP.neI (fun h => absurd rfl h) fun _ => TP.neI (fun h => absurd rfl h) fun _ => ?_)
    exact TP.step (fun k => rfl) (nodes_l1 l hb hl pick hk h0 hr _ 0 (Nat.zero_add _) _ _ _ _ _)
  | m + 1, i, out, h, ho, t, f1, f2, c, N => by
    have hi : i < pick.length := by omega
    have hlen : out.length = i := by rw [ho]; unfold someV; rw [List.length_map, List.length_take]; omega
    have e : IntKind.wrap .i64 ((i : Int) + 1) = ((i + 1 : Nat) : Int) := by rw [wrap_i64 (by omega) (by omega)]; rfl
    have hin := (rising_pair hr).2 _ (List.getElem_mem hi)
    obtain ⟨j, hj⟩ := Int.eq_ofNat_of_zero_le hin.1
    have hjl : j < l.length := by omega
    have hs := hl _ (List.getElem_mem hjl)
    refine TP.step (fun k => rfl) (TP.dec (fun h' => ?_) fun h' => absurd (by omega : (i : Int) < pick.length) h')
    refine TP.optE (rdo_at hi) (TP.optE (v := l[j]) (by rw [hj]; exact rdo_at hjl) ?_)
    refine TP.bindM (lleaf_ok _ hs.1 hs.2 _ _ _ _ _) fun _ => TP.ck (by apply decide_eq_true; simp only [List.length_cons, List.length_nil]; omega) ?_
    rw [e]
    refine nodes_l0 m (i + 1) _ (by omega) ?_ _ _ _ _ _
    rw [List.take_succ_eq_append_getElem hi, ho]
    unfold someV
    rw [List.map_append, List.map_cons, List.map_nil, hj, Int.toNat_natCast, getD_at (by rw [sleavesV_len]; exact hjl)]
    congr 2
    unfold sleavesV
    rw [List.getElem_map]
end
theorem nodes_j1_bad (l : List Slip) (pick : List Int) (t f1 f2 c N) : TP (fun k => chartularylaw08_SheetNodes.j1 k l pick [] 1 true t f1 f2 c [] N) (fun v => v.1.1 = true) :=
  TP.step (fun k => rfl) (awake_end fun _ => rfl)
theorem nodes_j0 (l : List Slip) (hb : l.length ≤ 12) (hl : SlipsOk l) (pick : List Int) (hk : pick.length ≤ 20) (t f1 f2 c N) : TP (fun k => chartularylaw08_SheetNodes.j0 k l pick t f1 f2 c [] N) (fun v => v.1.1 = true) := by
  have hN := nodes_ok (T := []) tok_nil l (by omega) hl pick (by omega)
  by_cases hc : pick.length = 0 ∨ risingB pick l.length = false
  · have e : NodesA [] l pick = ([], 1, ()) := if_pos hc
    rw [e] at hN
    refine TP.step (fun k => rfl) (TP.bindM (hN _ _ _ _ _) fun _ => TP.bindM (rising_ok pick _ (by omega)) fun _ => TP.bindM (lrising_ok pick _ (by omega)) fun _ => TP.no (by dsimp only; simp) (TP.eqI (fun _ => nodes_j1_bad _ _ _ _ _ _ _) fun h => TP.bindM (lrising_ok pick _ (by omega)) fun s => ?_))
    have : risingB pick l.length = false := hc.resolve_left (by omega)
    rw [this]
    exact nodes_j1_bad _ _ _ _ _ _ _
  · have e : NodesA [] l pick = (gatherV [] (sleavesV [] l) 0 pick, 0, ()) := if_neg hc
    have h0 : pick.length ≠ 0 := fun h => hc (Or.inl h)
    have hr : risingB pick l.length = true := by
      cases h : risingB pick l.length with
      | true => rfl
      | false => exact absurd (Or.inr h) hc
    have h1 := rising_some h0 hr
    rw [e] at hN
    refine TP.step (fun k => rfl) (TP.bindM (hN _ _ _ _ _) fun _ => TP.bindM (rising_ok pick _ (by omega)) fun _ => TP.bindM (lrising_ok pick _ (by omega)) fun _ => TP.no (by dsimp only; simp) (TP.eqI (fun h => by omega) fun h => TP.bindM (lrising_ok pick _ (by omega)) fun s => ?_))
    rw [hr]
    refine TP.step (fun k => rfl) (TP.bindM (lleaves_ok l (by omega) hl _ _ _ _ _) fun _ => TP.bindM (v := (gatherV [] (sleavesV [] l) 0 pick, ())) ?_ fun _ => ?_)
    · exact beside_ok tok_nil pick (by omega) _ (sleavesV [] l) (Nat.le_refl _) (by rw [sleavesV_len]; omega) (by rw [sleavesV_len]; exact h1) (sleavesV_s32 tok_nil l) 0 (by rw [sleavesV_len]; omega) _ _ _ _ _
    · exact nodes_l0 l hb hl pick hk h0 hr pick.length 0 [] (Nat.zero_add _) rfl _ _ _ _ _
/-- The law. -/
theorem SheetNodes : chartularylaw08_SheetNodes.Pure := by
  intro l pick w0 w1 hb
  have hl : l.length ≤ 1048576 := Nat.le_trans (sumB_len (bulkT (.cons .str (.cons .str (.cons .str (.cons .bool .nil))))) (fun y => by simp [bulkT]; omega) l) (Nat.le_trans (Nat.le_add_right _ _) hb)
  refine TP.one (TP.step (fun k => rfl) (TP.bindR new_ok (TP.bindM (few_ok l (by omega)) fun _ => TP.dec (fun h => TP.ck (by simp only [Bool.and_eq_true, decide_eq_true_eq]; omega) ?_) fun h => ?_)))
  · exact nodes_j0 _ (fewV_len l) (fewV_ok l) _ (by rw [List.length_drop, List.length_take]; show min 20 _ - _ ≤ _; omega) _ _ _ _ _
  · exact nodes_j0 _ (fewV_len l) (fewV_ok l) _ (by omega) _ _ _ _ _
end Go.Proofs.Ytdeboaknhkffpaa.Pure
