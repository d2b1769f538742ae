/- Plain laws of chapter 8: what a rebuilt tree's texts tell of its leaves. -/
import Derived.Test.YtioagphpiflplaaPWalk
import Derived.Test.YtioagphpiflplaaPRise
import Derived.Test.YtioagphpiflplaaPNoteA
namespace Go.Proofs.Ytioagphpiflplaa.Pure
open Go Go.Proofs.Ytioagphpiflplaa.E Go.Proofs.Ytioagphpiflplaa.Eng
set_option linter.unusedVariables false
set_option linter.unusedSimpArgs false

noncomputable def walkW (T : Tab) (pick : List Int) (a n : Nat) (leaf nodes : List ByteArray) : List ByteArray :=
  if pickedB pick a (a + n : Nat) = false then [] else if n < 2 then [] else
  nodeT (walkV T pick a (belowN n) leaf nodes false).1 (walkV T pick (a + belowN n) (n - belowN n) (walkV T pick a (belowN n) leaf nodes false).2.1 (walkV T pick a (belowN n) leaf nodes false).2.2.1 false).1 ::
    (walkW T pick (a + belowN n) (n - belowN n) (walkV T pick a (belowN n) leaf nodes false).2.1 (walkV T pick a (belowN n) leaf nodes false).2.2.1 ++ walkW T pick a (belowN n) leaf nodes)
termination_by n
decreasing_by
  all_goals first
    | exact below_lt (n := n) (by omega)
    | (have := below_pos n; omega)
section
variable {T : Tab}
theorem walkW_out {pick : List Int} {a n : Nat} (h : pickedB pick a (a + n : Nat) = false) (leaf nodes) : walkW T pick a n leaf nodes = [] := by rw [walkW, if_pos h]
theorem walkW_one {pick : List Int} {a n : Nat} (h : pickedB pick a (a + n : Nat) = true) (hn : n < 2) (leaf nodes) : walkW T pick a n leaf nodes = [] := by rw [walkW, if_neg (by rw [h]; decide), if_pos hn]
theorem walkW_two {pick : List Int} {a n : Nat} (h : pickedB pick a (a + n : Nat) = true) (hn : 2 ≤ n) {leaf nodes : List ByteArray} {u w : ByteArray} {B Y A X : List ByteArray} {b : Bool} (h1 : walkV T pick a (belowN n) leaf nodes false = (u, B, Y, false)) (h2 : walkV T pick (a + belowN n) (n - belowN n) B Y false = (w, A, X, b)) :
    walkW T pick a n leaf nodes = nodeT u w :: (walkW T pick (a + belowN n) (n - belowN n) B Y ++ walkW T pick a (belowN n) leaf nodes) := by
  conv => lhs; rw [walkW, if_neg (by rw [h]; decide), if_neg (by omega)]
  rw [h1]
  dsimp only
  rw [h2]
theorem next_good {l : List ByteArray} {s : ByteArray} {r : List ByteArray} (h : nextV l false = (s, r, false)) : l = s :: r := by
  cases l with
  | nil =>
    have h1 : true = false := congrArg (fun v => v.2.2) h
    cases h1
  | cons x q =>
    have h1 : x = s := congrArg (fun v => v.1) h
    have h2 : q = r := congrArg (fun v => v.2.1) h
    rw [h1, h2]
theorem walk_inv {pick : List Int} {a n : Nat} (hp : pickedB pick a (a + n : Nat) = true) (h2 : 2 ≤ n) {leaf nodes : List ByteArray} {s : ByteArray} {A X : List ByteArray} (h : walkV T pick a n leaf nodes false = (s, A, X, false)) :
    ∃ u B Y w, walkV T pick a (belowN n) leaf nodes false = (u, B, Y, false) ∧ walkV T pick (a + belowN n) (n - belowN n) B Y false = (w, A, X, false) ∧ s = nodeV T u w := by
  obtain ⟨r1, e1⟩ : ∃ r1, walkV T pick a (belowN n) leaf nodes false = r1 := ⟨_, rfl⟩
  obtain ⟨r2, e2⟩ : ∃ r2, walkV T pick (a + belowN n) (n - belowN n) r1.2.1 r1.2.2.1 r1.2.2.2 = r2 := ⟨_, rfl⟩
  rw [walkV_two hp h2 leaf nodes e1 e2] at h
  obtain ⟨u, B, Y, b⟩ := r1
  obtain ⟨w, A', X', b'⟩ := r2
  obtain ⟨h3, h4⟩ := Prod.mk.inj h
  dsimp only at h3 h4 e2
  cases b with
  | true =>
    rw [walkV_bad] at e2
    have g1 := congrArg (fun v => v.2.2.2) e2
    have g2 := congrArg (fun v => v.2.2) h4
    dsimp only at g1 g2
    rw [g2] at g1; cases g1
  | false =>
    rw [h4] at e2
    exact ⟨u, B, Y, w, e1, e2, h3.symm⟩
theorem next_parts {l : List ByteArray} {s : ByteArray} {r : List ByteArray} (h1 : (nextV l false).1 = s) (h2 : (nextV l false).2.1 = r) (h3 : (nextV l false).2.2 = false) : l = s :: r := next_good (Prod.ext h1 (Prod.ext h2 h3))
theorem walk_out_inv {pick : List Int} {a n : Nat} (hp : pickedB pick a (a + n : Nat) = false) {leaf nodes : List ByteArray} {s : ByteArray} {A X : List ByteArray} (h : walkV T pick a n leaf nodes false = (s, A, X, false)) : nodes = s :: X ∧ leaf = A := by
  rw [walkV_out hp] at h
  exact ⟨next_parts (congrArg (fun v => v.1) h) (congrArg (fun v => v.2.2.1) h) (congrArg (fun v => v.2.2.2) h), congrArg (fun v => v.2.1) h⟩
theorem walk_one_inv {pick : List Int} {a n : Nat} (hp : pickedB pick a (a + n : Nat) = true) (hn : n < 2) {leaf nodes : List ByteArray} {s : ByteArray} {A X : List ByteArray} (h : walkV T pick a n leaf nodes false = (s, A, X, false)) : leaf = s :: A ∧ nodes = X := by
  rw [walkV_one hp hn] at h
  exact ⟨next_parts (congrArg (fun v => v.1) h) (congrArg (fun v => v.2.1) h) (congrArg (fun v => v.2.2.2) h), congrArg (fun v => v.2.2.1) h⟩
theorem walk_good (hT : Tok T) (pick : List Int) : ∀ (m a n : Nat) (leaf nodes : List ByteArray) (s : ByteArray) (A X : List ByteArray), n ≤ m → S32 leaf → S32 nodes → walkV T pick a n leaf nodes false = (s, A, X, false) → s.size = 32 ∧ S32 A ∧ S32 X
  | m, a, n, leaf, nodes, s, A, X, hm, hl, hn, h => by
    cases hp : pickedB pick a (a + n : Nat) with
    | false =>
      obtain ⟨rfl, rfl⟩ := walk_out_inv hp h
      exact ⟨hn _ (List.mem_cons_self ..), hl, fun y hy => hn y (List.mem_cons_of_mem _ hy)⟩
    | true =>
      by_cases h2 : n < 2
      · obtain ⟨rfl, rfl⟩ := walk_one_inv hp h2 h
        exact ⟨hl _ (List.mem_cons_self ..), fun y hy => hl y (List.mem_cons_of_mem _ hy), hn⟩
      have h2 : 2 ≤ n := by omega
      have hlt := below_lt h2
      have hpos := below_pos n
      cases m with
      | zero => omega
      | succ m =>
        obtain ⟨u, B, Y, w, h3, h4, h5⟩ := walk_inv hp h2 h
        obtain ⟨_, g2, g3⟩ := walk_good hT pick m a (belowN n) leaf nodes u B Y (by omega) hl hn h3
        obtain ⟨_, g5, g6⟩ := walk_good hT pick m _ _ B Y w A X (by omega) g2 g3 h4
        exact ⟨by rw [h5]; exact hashV_size hT _, g5, g6⟩
theorem walkW_len (pick : List Int) : ∀ (m a n : Nat) (leaf nodes : List ByteArray), n ≤ m → 1 ≤ n → (walkW T pick a n leaf nodes).length + 1 ≤ n
  | m, a, n, leaf, nodes, hm, h1 => by
    rw [walkW]
    split
    · exact h1
    split
    · exact h1
    · next h2 =>
      have h2 : 2 ≤ n := by omega
      have hlt := below_lt h2
      have hpos := below_pos n
      cases m with
      | zero => omega
      | succ m =>
        have i1 := walkW_len pick m a (belowN n) leaf nodes (by omega) hpos
        have i2 := walkW_len pick m (a + belowN n) (n - belowN n) (walkV T pick a (belowN n) leaf nodes false).2.1 (walkV T pick a (belowN n) leaf nodes false).2.2.1 (by omega) (by omega)
        rw [List.length_cons, List.length_append]
        omega
theorem walkA_len (pick : List Int) : ∀ (m a n : Nat) (leaf nodes : List ByteArray) {s : ByteArray} {A X : List ByteArray}, n ≤ m → walkV T pick a n leaf nodes false = (s, A, X, false) → A.length ≤ leaf.length ∧ X.length ≤ nodes.length
  | m, a, n, leaf, nodes, s, A, X, hm, h => by
    cases hp : pickedB pick a (a + n : Nat) with
    | false =>
      obtain ⟨rfl, rfl⟩ := walk_out_inv hp h
      exact ⟨Nat.le_refl _, by simp⟩
    | true =>
      by_cases h2 : n < 2
      · obtain ⟨rfl, rfl⟩ := walk_one_inv hp h2 h
        exact ⟨by simp, Nat.le_refl _⟩
      have h2 : 2 ≤ n := by omega
      have hlt := below_lt h2
      have hpos := below_pos n
      cases m with
      | zero => omega
      | succ m =>
        obtain ⟨u, B, Y, w, h3, h4, h5⟩ := walk_inv hp h2 h
        have g1 := walkA_len pick m _ _ _ _ (by omega) h3
        have g2 := walkA_len pick m _ _ _ _ (by omega) h4
        omega
def WalkN (T : Tab) (pick : List Int) (s : ByteArray) (A X W : List ByteArray) (v : sheet_walker_root.R) : Prop := ∃ z, v = ((s, ()), (((), pick, A, X, false, ()), z)) ∧ NS T W z
theorem walker_noted (hT : Tok T) (pick : List Int) (hk : pick.length ≤ 1000000000) : ∀ (m a n : Nat) (leaf nodes : List ByteArray) (s : ByteArray) (A X : List ByteArray), n ≤ m → m ≤ 1000000 → 1 ≤ n → a + n ≤ 1000000000 → S32 leaf → S32 nodes → leaf.length ≤ 1000000000 → nodes.length ≤ 1000000000 →
    walkV T pick a n leaf nodes false = (s, A, X, false) → ∀ {W : List ByteArray}, n + W.length ≤ 20000 → ∀ {t f1 N}, Noted T W t f1 N → ∀ f2 c, A.length ≤ leaf.length ∧ X.length ≤ nodes.length ∧ TP (fun k => sheet_walker_root.f k (a : Int) (n : Int) pick leaf nodes false t f1 f2 c T N) (WalkN T pick s A X (walkW T pick a n leaf nodes ++ W))
  | m, a, n, leaf, nodes, s, A, X, hm, hb, h1, ha, hl, hn, ll, ln, h, W, hW, t, f1, N, hN, f2, c => by
    have ea : IntKind.wrap .i64 ((a : Int) + (n : Int)) = ((a + n : Nat) : Int) := by rw [wrap_i64 (by omega) (by omega)]; rfl
    cases hp : pickedB pick a (a + n : Nat) with
    | false =>
      have h0 := h
      rw [walkV_out hp] at h0
      obtain ⟨g1, g2⟩ := walk_out_inv hp h
      refine ⟨by rw [g2]; omega, by rw [g1]; simp, ?_⟩
      rw [walkW_out hp]
      refine TP.step (fun k => rfl) (TP.no rfl (TP.bindM (v := (false, ())) (by rw [ea, ← hp]; exact picked_ok pick _ _ hk) fun _ => TP.yes rfl (TP.bind (next1_ok pick leaf nodes _ _ _ _ _ ln) fun v hv => ?_)))
      subst hv
      have e1 := congrArg (fun v => v.1) h0
      have e2 := congrArg (fun v => v.2.1) h0
      have e3 := congrArg (fun v => v.2.2.1) h0
      have e4 := congrArg (fun v => v.2.2.2) h0
      dsimp only at e1 e2 e3 e4
      rw [e1, e2, e3, e4]
      exact TP.some ⟨_, rfl, hN⟩
    | true =>
      by_cases h2 : n < 2
      · have h0 := h
        rw [walkV_one hp h2] at h0
        obtain ⟨g1, g2⟩ := walk_one_inv hp h2 h
        refine ⟨by rw [g1]; simp, by rw [g2]; omega, ?_⟩
        rw [walkW_one hp h2]
        refine TP.step (fun k => rfl) (TP.no rfl (TP.bindM (v := (true, ())) (by rw [ea, ← hp]; exact picked_ok pick _ _ hk) fun _ => TP.no rfl (TP.eqI (fun _ => TP.bind (next2_ok pick leaf nodes _ _ _ _ _ ll) fun v hv => ?_) fun hne => absurd (by omega) hne)))
        subst hv
        have e1 := congrArg (fun v => v.1) h0
        have e2 := congrArg (fun v => v.2.1) h0
        have e3 := congrArg (fun v => v.2.2.1) h0
        have e4 := congrArg (fun v => v.2.2.2) h0
        dsimp only at e1 e2 e3 e4
        rw [e1, e2, e3, e4]
        exact TP.some ⟨_, rfl, hN⟩
      have h2 : 2 ≤ n := by omega
      have hlt := below_lt h2
      have hpos := below_pos n
      cases m with
      | zero => omega
      | succ m =>
      obtain ⟨u, B, Y, w, h3, h4, h5⟩ := walk_inv hp h2 h
      obtain ⟨z1, z2, z3⟩ := walk_good hT pick _ _ _ _ _ _ _ _ (Nat.le_refl _) hl hn h3
      obtain ⟨z4, z5, z6⟩ := walk_good hT pick _ _ _ _ _ _ _ _ (Nat.le_refl _) z2 z3 h4
      have l1 := walkW_len (T := T) pick _ a (belowN n) leaf nodes (Nat.le_refl _) hpos
      have l2 := walkW_len (T := T) pick _ (a + belowN n) (n - belowN n) B Y (Nat.le_refl _) (by omega)
      rw [walkW_two hp h2 h3 h4, h5]
      simp only [List.cons_append, List.append_assoc]
      obtain ⟨k1, k2, w1⟩ := walker_noted hT pick hk m a (belowN n) leaf nodes u B Y (by omega) (by omega) hpos (by omega) hl hn ll ln h3 (W := W) (by omega) hN f2 c
      have w2 (t' : ByteArray × ByteArray × Unit) (f1' : Bool) (N' : Tab) (hN' : Noted T (walkW T pick a (belowN n) leaf nodes ++ W) t' f1' N') (f2' : Bool) (c' : Int) := walker_noted hT pick hk m (a + belowN n) (n - belowN n) B Y w A X (by omega) (by omega) (by omega) (by omega) z2 z3 (by omega) (by omega) h4 (W := walkW T pick a (belowN n) leaf nodes ++ W) (by rw [List.length_append]; omega) hN' f2' c'
      refine ⟨?_, ?_, TP.step (fun k => rfl) (TP.no rfl (TP.bindM (v := (true, ())) (by rw [ea, ← hp]; exact picked_ok pick _ _ hk) fun _ => TP.no rfl (TP.eqI (fun hc => absurd hc (by omega)) fun _ => TP.bindM (ssplit_ok h2 (by omega)) fun _ => TP.bind w1 fun v hv => ?_)))⟩
      · have q := walkA_len (T := T) pick _ _ _ _ _ (Nat.le_refl _) h4
        omega
      · have q := walkA_len (T := T) pick _ _ _ _ _ (Nat.le_refl _) h4
        omega
      obtain ⟨z, rfl, hz⟩ := hv
      refine TP.bind (P := WalkN T pick w A X (walkW T pick (a + belowN n) (n - belowN n) B Y ++ (walkW T pick a (belowN n) leaf nodes ++ W))) ?_ fun v hv => ?_
      · dsimp only
        rw [show IntKind.wrap .i64 ((a : Int) + (belowN n : Int)) = ((a + belowN n : Nat) : Int) by rw [wrap_i64 (by omega) (by omega)]; rfl, show IntKind.wrap .i64 ((n : Int) - (belowN n : Int)) = ((n - belowN n : Nat) : Int) by rw [wrap_i64 (by omega) (by omega)]; omega]
        exact (w2 _ _ _ hz _ _).2.2
      obtain ⟨z', rfl, hz'⟩ := hv
      refine TP.bindN (node_noted _ _ (by dsimp only; omega) (by dsimp only; omega) (by simp only [List.length_append]; omega) hz' _ _) fun s3 hs3 => TP.some ⟨_, rfl, hs3⟩
theorem rebuild_yes {n : Int} {pick : List Int} {leaf nodes : List ByteArray} (h : (RebuildA T n pick leaf nodes).2.1 = 0) : ∃ s A, RebuildA T n pick leaf nodes = (s, 0, ()) ∧ ¬ (n < 1 ∨ n > 12 ∨ pick.length = 0 ∨ pick.length ≠ leaf.length ∨ risingB pick n = false) ∧ S32 nodes ∧ walkV T pick 0 n.toNat leaf nodes false = (s, A, [], false) := by
  unfold RebuildA at h ⊢
  split at h
  · cases h
  · next h1 =>
    split at h
    · cases h
    · next h2 =>
      split at h
      · cases h
      · next h3 =>
        obtain ⟨s, A, X, b, e⟩ : ∃ s A X b, walkV T pick 0 n.toNat leaf nodes false = (s, A, X, b) := ⟨_, _, _, _, rfl⟩
        rw [e] at h3
        have hb : b = false := by cases b with | false => rfl | true => exact absurd (Or.inl rfl) h3
        have hX : X = [] := List.eq_nil_of_length_eq_zero (Nat.eq_zero_of_not_pos fun hx => h3 (Or.inr hx))
        subst hb; subst hX
        refine ⟨s, A, ?_, h1, ?_, e⟩
        · rw [if_neg h1, if_neg h2, e, if_neg h3]
        · refine (sumsB32 nodes).1 ?_
          cases hs : (nodes.all fun x => x.size == 32) with
          | true => rfl
          | false => exact absurd hs h2
theorem rebuild_nloop (n : Nat) (pick : List Int) (leaf nodes : List ByteArray) (hn : S32 nodes) (ln : nodes.length ≤ 1000000000) {Q} (t f1 f2 c N) (hend : TP (fun k => sheet_Rebuild.l0 k (n : Int) pick leaf nodes nodes (nodes.length : Int) (nodes.length : Int) t f1 f2 c T N) Q) : ∀ (m i : Nat), i + m = nodes.length → TP (fun k => sheet_Rebuild.l0 k (n : Int) pick leaf nodes nodes (nodes.length : Int) (i : Int) t f1 f2 c T N) Q
  | 0, i, h => by
    have : i = nodes.length := by omega
    subst this; exact hend
  | m + 1, i, h => by
    have hi : i < nodes.length := by omega
    have hs := hn _ (List.getElem_mem hi)
    have e : IntKind.wrap .i64 ((i : Int) + 1) = ((i + 1 : Nat) : Int) := by rw [wrap_i64 (by omega) (by omega)]; rfl
    refine TP.step (fun k => rfl) (TP.dec (fun h' => ?_) fun h' => absurd (by omega : (i : Int) < nodes.length) h')
    refine TP.optE (rdo_at hi) (TP.neI (fun hne => absurd (by omega) hne) fun _ => ?_)
    rw [e]
    exact rebuild_nloop n pick leaf nodes hn ln t f1 f2 c N hend m (i + 1) (by omega)
theorem rebuild_noted (hT : Tok T) (n : Nat) (pick : List Int) (leaf nodes : List ByteArray) (s : ByteArray) (A : List ByteArray) (hc : ¬ ((n : Int) < 1 ∨ (n : Int) > 12 ∨ pick.length = 0 ∨ pick.length ≠ leaf.length ∨ risingB pick n = false)) (hl : S32 leaf) (hn : S32 nodes) (ll : leaf.length ≤ 1000000) (ln : nodes.length ≤ 1000000) (h : walkV T pick 0 n leaf nodes false = (s, A, [], false))
    {W : List ByteArray} (hW : n + W.length ≤ 20000) {t f1 N} (hN : Noted T W t f1 N) (f2 c) : TP (fun k => sheet_Rebuild.f k (n : Int) pick leaf nodes t f1 f2 c T N) (fun v => v.1 = (s, 0, ()) ∧ NS T (walkW T pick 0 n leaf nodes ++ W) v.2) := by
  have h5 : risingB pick n = true := by
    cases h : risingB pick n with
    | true => rfl
    | false => exact absurd (Or.inr (Or.inr (Or.inr (Or.inr h)))) hc
  refine TP.step (fun k => rfl) (TP.dec (fun h => absurd (Or.inl h) hc) fun h1 => TP.dec (fun h => absurd (Or.inr (Or.inl h)) hc) fun h2 => TP.eqI (fun h => by omega) fun h3 => TP.neI (fun h => by omega) fun h4 => TP.bindM (v := (true, ())) (by rw [← h5]; exact rising_ok pick _ (by omega)) fun _ => TP.no rfl ?_)
  refine TP.step (fun k => rfl) (rebuild_nloop n pick leaf nodes hn (by omega) _ _ _ _ _ ?_ nodes.length 0 (Nat.zero_add _))
  refine TP.step (fun k => rfl) (TP.dec (fun h' => absurd h' (by omega)) fun _ => TP.bind (walker_noted hT pick (by omega) n 0 n leaf nodes s A [] (Nat.le_refl _) (by omega) (by omega) (by omega) hl hn (by omega) (by omega) h hW hN _ _).2.2 fun v hv => ?_)
  obtain ⟨z, rfl, hz⟩ := hv
  exact TP.no rfl (TP.dec (fun h => absurd h (Int.lt_irrefl 0)) fun _ => TP.some ⟨rfl, hz⟩)
end
end Go.Proofs.Ytioagphpiflplaa.Pure
