/- Plain law: SheetBuilds. -/
import Derived.Test.YtdeboaknhkffpaaPBuild
import Derived.Test.YtdeboaknhkffpaaESSheetBuilds
namespace Go.Proofs.Ytdeboaknhkffpaa.Pure
open Go Go.Proofs.Ytdeboaknhkffpaa.E Go.Proofs.Ytdeboaknhkffpaa.Eng
set_option linter.unusedVariables false
set_option linter.unusedSimpArgs false

theorem builds_j2_bad (w : ByteArray) : TP (fun k => chartularylaw08_SheetBuilds.j2 k ⟨#[]⟩ 20 w true) (fun v => v.1.1 = true) :=
  TP.step (fun k => rfl) (TP.eqT (fun _ => awake_end fun _ => rfl) fun h => absurd rfl h)
theorem builds_j2_good (w : ByteArray) : TP (fun k => chartularylaw08_SheetBuilds.j2 k w 0 w false) (fun v => v.1.1 = true) :=
  TP.step (fun k => rfl) (TP.eqT (fun _ => awake_end fun _ => rfl) fun h => absurd rfl h)
theorem builds_l0 (n : Nat) (h1 : 1 ≤ n) (h12 : n ≤ 12) (pick : List Int) (hk : pick.length ≤ 1000000000) (leaf nodes : List ByteArray) (hl : SzL leaf) (hn : SzL nodes) (ll : leaf.length ≤ 1000000000) (ln : nodes.length ≤ 1000000000)
    (x : ByteArray) (e : Int) (hA : (x, e) = if (nodes.all fun x => x.size == 32) = false then (⟨#[]⟩, 20) else if (walkV [] pick 0 n leaf nodes false).2.2.2 = true ∨ (walkV [] pick 0 n leaf nodes false).2.2.1.length > 0 then (⟨#[]⟩, 20) else ((walkV [] pick 0 n leaf nodes false).1, 0)) :
    ∀ (m i : Nat) (b : Bool), i + m = nodes.length → (b && (nodes.drop i).all fun x => x.size == 32) = (nodes.all fun x => x.size == 32) → ∀ t f1 f2 c N, TP (fun k => chartularylaw08_SheetBuilds.l0 k (n : Int) pick leaf nodes x e b (i : Int) t f1 f2 c [] N) (fun v => v.1.1 = true)
  | 0, i, b, h, hb, t, f1, f2, c, N => by
    rw [List.drop_eq_nil_of_le (by omega), List.all_nil, Bool.and_true] at hb
    refine TP.step (fun k => rfl) (TP.dec (fun h' => absurd h' (by omega)) fun _ => TP.bind (lbuild_ok tok_nil pick hk n 0 n leaf nodes false (Nat.le_refl _) (by omega) h1 (by omega) hl hn ll ln _ _ _ _ _) fun v hv => ?_)
    obtain ⟨z, rfl⟩ := hv
    obtain ⟨w1, w2⟩ := build_walk (T := []) pick n 0 n leaf nodes (Nat.le_refl _)
    refine TP.not (fun hf => ?_) fun ht => TP.cond (fun hbad => ?_) fun hok => ?_
    · rw [← hb, if_pos hf] at hA
      obtain ⟨rfl, rfl⟩ := Prod.mk.inj hA
      exact builds_j2_bad _
    · have hbad : (buildV [] pick 0 n leaf nodes false).2.2.2 = true := hbad
      rw [← hb, if_neg (by rw [ht]; decide), if_pos (Or.inl (by rw [← w1]; exact hbad))] at hA
      obtain ⟨rfl, rfl⟩ := Prod.mk.inj hA
      exact builds_j2_bad _
    · have hok : (buildV [] pick 0 n leaf nodes false).2.2.2 = false := hok
      rw [hok] at w1
      have w2 := w2 w1.symm
      rw [w2]
      rw [← hb, if_neg (by rw [ht]; decide)] at hA
      by_cases hlen : (walkV [] pick 0 n leaf nodes false).2.2.1.length > 0
      · rw [if_pos (Or.inr hlen)] at hA
        obtain ⟨rfl, rfl⟩ := Prod.mk.inj hA
        dsimp only
        rw [decide_eq_true (by omega)]
        exact builds_j2_bad _
      · rw [if_neg (by rintro (h | h); (· rw [← w1] at h; cases h); exact hlen h)] at hA
        obtain ⟨rfl, rfl⟩ := Prod.mk.inj hA
        dsimp only
        rw [decide_eq_false (by omega)]
        exact builds_j2_good _
  | m + 1, i, b, h, hb, t, f1, f2, c, N => by
    have hi : i < nodes.length := by omega
    have ei : IntKind.wrap .i64 ((i : Int) + 1) = ((i + 1 : Nat) : Int) := by rw [wrap_i64 (by omega) (by omega)]; rfl
    rw [List.drop_eq_getElem_cons hi, List.all_cons] at hb
    refine TP.step (fun k => rfl) (TP.dec (fun h' => ?_) fun h' => absurd (by omega : (i : Int) < nodes.length) h')
    rw [ei]
    refine TP.cond (fun hbt => TP.optE (rdo_at hi) ?_) fun hbf => ?_
    · refine builds_l0 n h1 h12 pick hk leaf nodes hl hn ll ln x e hA m (i + 1) _ (by omega) ?_ _ _ _ _ _
      rw [← hb, hbt, Bool.true_and]
      congr 1
      by_cases hs : nodes[i].size = 32
      · rw [hs]; rfl
      · rw [beq_false_of_ne hs]; exact beq_false_of_ne (by omega)
    · exact builds_l0 n h1 h12 pick hk leaf nodes hl hn ll ln x e hA m (i + 1) false (by omega) (by rw [← hb, hbf, Bool.false_and, Bool.false_and]) _ _ _ _ _
theorem builds_j1_bad (n : Int) (pick leaf nodes t f1 f2 c N) : TP (fun k => chartularylaw08_SheetBuilds.j1 k n pick leaf nodes ⟨#[]⟩ 21 true t f1 f2 c [] N) (fun v => v.1.1 = true) :=
  TP.step (fun k => rfl) (TP.eqT (fun _ => awake_end fun _ => rfl) fun h => absurd rfl h)
theorem builds_j0 (n : Int) (pick : List Int) (hk : pick.length ≤ 1000000000) (leaf nodes : List ByteArray) (hl : SzL leaf) (hn : SzL nodes) (ll : leaf.length ≤ 1000000000) (ln : nodes.length ≤ 1000000000) (t f1 f2 c N) : TP (fun k => chartularylaw08_SheetBuilds.j0 k n pick leaf nodes t f1 f2 c [] N) (fun v => v.1.1 = true) := by
  have hR := rebuild_ok tok_nil n pick hk leaf nodes hl hn ll ln
  by_cases hA : n < 1 ∨ n > 12 ∨ pick.length = 0 ∨ pick.length ≠ leaf.length ∨ risingB pick n = false
  · have e : RebuildA [] n pick leaf nodes = (⟨#[]⟩, 21, ()) := if_pos hA
    rw [e] at hR
    refine TP.step (fun k => rfl) (TP.bindM (hR _ _ _ _ _) fun _ => TP.dec (fun _ => builds_j1_bad _ _ _ _ _ _ _ _ _) fun h1 => TP.dec (fun _ => builds_j1_bad _ _ _ _ _ _ _ _ _) fun h2 => TP.eqI (fun _ => builds_j1_bad _ _ _ _ _ _ _ _ _) fun h3 => TP.neI (fun _ => builds_j1_bad _ _ _ _ _ _ _ _ _) fun h4 => TP.bindM (lrising_ok pick n hk) fun s => ?_)
    have h5 : risingB pick n = false := by
      rcases hA with h | h | h | h | h
      · omega
      · omega
      · omega
      · omega
      · exact h
    rw [h5]
    exact builds_j1_bad _ _ _ _ _ _ _ _ _
  · have h5 : risingB pick n = true := by
      cases h : risingB pick n with
      | true => rfl
      | false => exact absurd (Or.inr (Or.inr (Or.inr (Or.inr h)))) hA
    obtain ⟨n, rfl⟩ := Int.eq_ofNat_of_zero_le (by omega : 0 ≤ n)
    obtain ⟨x, e, he⟩ : ∃ x e, RebuildA [] (n : Int) pick leaf nodes = (x, e, ()) := ⟨_, _, rfl⟩
    have hx : (x, e) = if (nodes.all fun x => x.size == 32) = false then (⟨#[]⟩, 20) else if (walkV [] pick 0 n leaf nodes false).2.2.2 = true ∨ (walkV [] pick 0 n leaf nodes false).2.2.1.length > 0 then (⟨#[]⟩, 20) else ((walkV [] pick 0 n leaf nodes false).1, 0) := by
      unfold RebuildA at he
      rw [if_neg hA, Int.toNat_natCast] at he
      split at he
      · next g => rw [if_pos g]; exact Prod.ext (congrArg (fun v => v.1) he).symm (congrArg (fun v => v.2.1) he).symm
      · next g =>
        rw [if_neg g]
        split at he
        · next g2 => rw [if_pos g2]; exact Prod.ext (congrArg (fun v => v.1) he).symm (congrArg (fun v => v.2.1) he).symm
        · next g2 => rw [if_neg g2]; exact Prod.ext (congrArg (fun v => v.1) he).symm (congrArg (fun v => v.2.1) he).symm
    rw [he] at hR
    refine TP.step (fun k => rfl) (TP.bindM (hR _ _ _ _ _) fun _ => TP.dec (fun h => by omega) fun h1 => TP.dec (fun h => by omega) fun h2 => TP.eqI (fun h => by omega) fun h3 => TP.neI (fun h => by omega) fun h4 => TP.bindM (lrising_ok pick _ hk) fun s => ?_)
    rw [h5]
    exact TP.step (fun k => rfl) (builds_l0 n (by omega) (by omega) pick hk leaf nodes hl hn ll ln x e hx nodes.length 0 true (Nat.zero_add _) (by rw [List.drop_zero, Bool.true_and]) _ _ _ _ _)
theorem szL_of {l : List ByteArray} (h : bulkT (.sl .str) l ≤ 1048576) : SzL l := fun x hx => by
  have h1 := sumB_ge (bulkT .str) l x hx
  have h2 : bulkT .str x = x.size + 1 := rfl
  have h3 : sumB (bulkT .str) l ≤ 1048576 := h
  omega
/-- The law. -/
theorem SheetBuilds : chartularylaw08_SheetBuilds.Pure := by
  intro n pick leaf nodes w0 w1 w2 w3 hb
  have hl : SzL leaf := szL_of (by omega)
  have hn : SzL nodes := szL_of (by omega)
  refine TP.one (TP.step (fun k => rfl) (TP.bindR new_ok (TP.dec (fun _ => awake_end fun _ => rfl) fun h1 => TP.dec (fun _ => awake_end fun _ => rfl) fun h2 => TP.dec (fun _ => awake_end fun _ => rfl) fun h3 => ?_)))
  exact builds_j0 n pick (by omega) leaf nodes hl hn (by omega) (by omega) _ _ _ _ _
end Go.Proofs.Ytdeboaknhkffpaa.Pure
