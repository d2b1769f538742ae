/- Plain laws of chapter 8: a tree that is rebuilt. -/
import Derived.Test.YtioagphpiflplaaP08s
namespace Go.Proofs.Ytioagphpiflplaa.Pure
open Go Go.Proofs.Ytioagphpiflplaa.E Go.Proofs.Ytioagphpiflplaa.Eng
set_option linter.unusedVariables false
set_option linter.unusedSimpArgs false

/-- The next of a list. -/
def nextV (l : List ByteArray) (bad : Bool) : ByteArray × List ByteArray × Bool := match l with
  | [] => (⟨#[]⟩, [], true)
  | x :: r => (x, r, bad)
noncomputable def walkV (T : Tab) (pick : List Int) (a n : Nat) (leaf nodes : List ByteArray) (bad : Bool) : ByteArray × List ByteArray × List ByteArray × Bool :=
  if bad = true then (⟨#[]⟩, leaf, nodes, true) else
  if pickedB pick a (a + n : Nat) = false then ((nextV nodes false).1, leaf, (nextV nodes false).2.1, (nextV nodes false).2.2) else
  if n < 2 then ((nextV leaf false).1, (nextV leaf false).2.1, nodes, (nextV leaf false).2.2) else
  (nodeV T (walkV T pick a (belowN n) leaf nodes false).1 (walkV T pick (a + belowN n) (n - belowN n) (walkV T pick a (belowN n) leaf nodes false).2.1 (walkV T pick a (belowN n) leaf nodes false).2.2.1 (walkV T pick a (belowN n) leaf nodes false).2.2.2).1,
    (walkV T pick (a + belowN n) (n - belowN n) (walkV T pick a (belowN n) leaf nodes false).2.1 (walkV T pick a (belowN n) leaf nodes false).2.2.1 (walkV T pick a (belowN n) leaf nodes false).2.2.2).2)
termination_by n
decreasing_by
  all_goals first
    | exact below_lt (n := n) (by omega)
    | (have := below_pos n; omega)
def SzL (l : List ByteArray) : Prop := ∀ x ∈ l, x.size ≤ 1048576
theorem nextV_sz {l : List ByteArray} (h : SzL l) (b : Bool) : (nextV l b).1.size ≤ 1048576 ∧ SzL (nextV l b).2.1 := by
  cases l with
  | nil => exact ⟨Nat.zero_le _, fun x hx => nomatch hx⟩
  | cons x r => exact ⟨h x (List.mem_cons_self ..), fun y hy => h y (List.mem_cons_of_mem _ hy)⟩
section
variable {T : Tab}
theorem walkV_bad (pick a n leaf nodes) : walkV T pick a n leaf nodes true = (⟨#[]⟩, leaf, nodes, true) := by rw [walkV, if_pos rfl]
theorem walkV_out {pick : List Int} {a n : Nat} (h : pickedB pick a (a + n : Nat) = false) (leaf nodes) : walkV T pick a n leaf nodes false = ((nextV nodes false).1, leaf, (nextV nodes false).2.1, (nextV nodes false).2.2) := by rw [walkV, if_neg (by decide), if_pos h]
theorem walkV_one {pick : List Int} {a n : Nat} (h : pickedB pick a (a + n : Nat) = true) (hn : n < 2) (leaf nodes) : walkV T pick a n leaf nodes false = ((nextV leaf false).1, (nextV leaf false).2.1, nodes, (nextV leaf false).2.2) := by rw [walkV, if_neg (by decide), if_neg (by rw [h]; decide), if_pos hn]
theorem walkV_two {pick : List Int} {a n : Nat} (h : pickedB pick a (a + n : Nat) = true) (hn : 2 ≤ n) (leaf nodes) {r1 r2 : ByteArray × List ByteArray × List ByteArray × Bool} (h1 : walkV T pick a (belowN n) leaf nodes false = r1) (h2 : walkV T pick (a + belowN n) (n - belowN n) r1.2.1 r1.2.2.1 r1.2.2.2 = r2) :
    walkV T pick a n leaf nodes false = (nodeV T r1.1 r2.1, r2.2) := by
  subst h1; subst h2
  conv => lhs; rw [walkV, if_neg (by decide), if_neg (by rw [h]; decide), if_neg (by omega)]
theorem walkV_sz (hT : Tok T) (pick : List Int) : ∀ (m a n : Nat) (leaf nodes : List ByteArray) (bad : Bool), n ≤ m → SzL leaf → SzL nodes → (walkV T pick a n leaf nodes bad).1.size ≤ 1048576 ∧ SzL (walkV T pick a n leaf nodes bad).2.1 ∧ SzL (walkV T pick a n leaf nodes bad).2.2.1
  | m, a, n, leaf, nodes, bad, hm, hl, hn => by
    cases bad with
    | true => rw [walkV_bad]; exact ⟨Nat.zero_le _, hl, hn⟩
    | false =>
      cases hp : pickedB pick a (a + n : Nat) with
      | false => rw [walkV_out hp]; exact ⟨(nextV_sz hn _).1, hl, (nextV_sz hn _).2⟩
      | true =>
        by_cases h2 : n < 2
        · rw [walkV_one hp h2]; exact ⟨(nextV_sz hl _).1, (nextV_sz hl _).2, hn⟩
        have h2 : 2 ≤ n := by omega
        have hlt := below_lt h2
        have hpos := below_pos n
        cases m with
        | zero => omega
        | succ m =>
          obtain ⟨r1, e1⟩ : ∃ r1, walkV T pick a (belowN n) leaf nodes false = r1 := ⟨_, rfl⟩
          obtain ⟨r2, e2⟩ : ∃ r2, walkV T pick (a + belowN n) (n - belowN n) r1.2.1 r1.2.2.1 r1.2.2.2 = r2 := ⟨_, rfl⟩
          rw [walkV_two hp h2 leaf nodes e1 e2]
          have z1 := walkV_sz hT pick m a (belowN n) leaf nodes false (by omega) hl hn
          rw [e1] at z1
          have z2 := walkV_sz hT pick m (a + belowN n) (n - belowN n) r1.2.1 r1.2.2.1 r1.2.2.2 (by omega) z1.2.1 z1.2.2
          rw [e2] at z2
          exact ⟨by dsimp only; rw [show (nodeV T r1.1 r2.1).size = 32 from hashV_size hT _]; omega, z2.2⟩
theorem next1_ok (pick leaf nodes t f1 f2 n N) (hb : nodes.length ≤ 1000000000) : TP (fun k => sheet_next_v1.f k pick leaf nodes false t f1 f2 n T N) (fun v => v = (((nextV nodes false).1, ()), (((), pick, leaf, (nextV nodes false).2.1, (nextV nodes false).2.2, ()), ()))) := by
  refine TP.step (fun k => rfl) (TP.eqI (fun h => TP.some ?_) fun h => ?_)
  · rw [List.eq_nil_of_length_eq_zero (by omega : nodes.length = 0)]; rfl
  · cases nodes with
    | nil => exact absurd rfl h
    | cons x r =>
      refine TP.optE (v := x) rfl (TP.ck (by simp only [Bool.and_eq_true, decide_eq_true_eq, List.length_cons]; omega) (TP.some ?_))
      have e : (List.take ((List.length (x :: r) : Nat) : Int).toNat (x :: r)).drop (1 : Int).toNat = r := by rw [Int.toNat_natCast, List.take_length]; rfl
      rw [e]; rfl
theorem next2_ok (pick leaf nodes t f1 f2 n N) (hb : leaf.length ≤ 1000000000) : TP (fun k => sheet_next_v2.f k pick leaf nodes false t f1 f2 n T N) (fun v => v = (((nextV leaf false).1, ()), (((), pick, (nextV leaf false).2.1, nodes, (nextV leaf false).2.2, ()), ()))) := by
  refine TP.step (fun k => rfl) (TP.eqI (fun h => TP.some ?_) fun h => ?_)
  · rw [List.eq_nil_of_length_eq_zero (by omega : leaf.length = 0)]; rfl
  · cases leaf with
    | nil => exact absurd rfl h
    | cons x r =>
      refine TP.optE (v := x) rfl (TP.ck (by simp only [Bool.and_eq_true, decide_eq_true_eq, List.length_cons]; omega) (TP.some ?_))
      have e : (List.take ((List.length (x :: r) : Nat) : Int).toNat (x :: r)).drop (1 : Int).toNat = r := by rw [Int.toNat_natCast, List.take_length]; rfl
      rw [e]; rfl
theorem nextV_len (l : List ByteArray) (b : Bool) : (nextV l b).2.1.length ≤ l.length := by
  cases l with
  | nil => exact Nat.le_refl _
  | cons x r => exact Nat.le_succ _
def WalkP (pick : List Int) (r : ByteArray × List ByteArray × List ByteArray × Bool) (L M : Nat) (v : sheet_walker_root.R) : Prop := (∃ z, v = ((r.1, ()), (((), pick, r.2.1, r.2.2.1, r.2.2.2, ()), z))) ∧ r.2.1.length ≤ L ∧ r.2.2.1.length ≤ M
theorem walker_ok (hT : Tok T) (pick : List Int) (hk : pick.length ≤ 1000000000) : ∀ (m a n : Nat) (leaf nodes : List ByteArray) (bad : Bool), n ≤ m → m ≤ 1000000 → 1 ≤ n → a + n ≤ 1000000000 → SzL leaf → SzL nodes → leaf.length ≤ 1000000000 → nodes.length ≤ 1000000000 →
    ∀ t f1 f2 c N, TP (fun k => sheet_walker_root.f k (a : Int) (n : Int) pick leaf nodes bad t f1 f2 c T N) (WalkP pick (walkV T pick a n leaf nodes bad) leaf.length nodes.length)
  | m, a, n, leaf, nodes, bad, hm, hb, h1, ha, hl, hn, ll, ln, t, f1, f2, c, N => by
    cases bad with
    | true =>
      rw [walkV_bad]
      exact TP.step (fun k => rfl) (TP.yes rfl (TP.some ⟨⟨_, rfl⟩, Nat.le_refl _, Nat.le_refl _⟩))
    | false =>
      have ea : IntKind.wrap .i64 ((a : Int) + (n : Int)) = ((a + n : Nat) : Int) := by rw [wrap_i64 (by omega) (by omega)]; rfl
      refine TP.step (fun k => rfl) (TP.no rfl (TP.bindM (v := (pickedB pick a (a + n : Nat), ())) (by rw [ea]; exact picked_ok pick _ _ hk) fun _ => TP.not (fun hp => ?_) fun hp => TP.eqI (fun h => ?_) fun h => ?_))
      · have hp : pickedB pick a (a + n : Nat) = false := hp
        rw [walkV_out hp]
        refine TP.bind (next1_ok pick leaf nodes _ _ _ _ _ ln) fun v hv => ?_
        subst hv
        exact TP.some ⟨⟨_, rfl⟩, Nat.le_refl _, nextV_len _ _⟩
      · have hp : pickedB pick a (a + n : Nat) = true := hp
        rw [walkV_one hp (by omega)]
        refine TP.bind (next2_ok pick leaf nodes _ _ _ _ _ ll) fun v hv => ?_
        subst hv
        exact TP.some ⟨⟨_, rfl⟩, nextV_len _ _, Nat.le_refl _⟩
      · have hp : pickedB pick a (a + n : Nat) = true := hp
        have h2 : 2 ≤ n := by omega
        have hlt := below_lt h2
        have hpos := below_pos n
        cases m with
        | zero => omega
        | succ m =>
        obtain ⟨r1, e1⟩ : ∃ r1, walkV T pick a (belowN n) leaf nodes false = r1 := ⟨_, rfl⟩
        obtain ⟨r2, e2⟩ : ∃ r2, walkV T pick (a + belowN n) (n - belowN n) r1.2.1 r1.2.2.1 r1.2.2.2 = r2 := ⟨_, rfl⟩
        rw [walkV_two hp h2 leaf nodes e1 e2]
        have z1 := walkV_sz hT pick _ a (belowN n) leaf nodes false (Nat.le_refl _) hl hn
        rw [e1] at z1
        have z2 := walkV_sz hT pick _ (a + belowN n) (n - belowN n) r1.2.1 r1.2.2.1 r1.2.2.2 (Nat.le_refl _) z1.2.1 z1.2.2
        rw [e2] at z2
        have w1 := walker_ok hT pick hk m a (belowN n) leaf nodes false (by omega) (by omega) hpos (by omega) hl hn ll ln
        rw [e1] at w1
        refine TP.bindM (ssplit_ok h2 (by omega)) fun _ => TP.bind (w1 _ _ _ _ _) fun v hv => ?_
        obtain ⟨⟨z, rfl⟩, l1, l2⟩ := hv
        have w2 := walker_ok hT pick hk m (a + belowN n) (n - belowN n) r1.2.1 r1.2.2.1 r1.2.2.2 (by omega) (by omega) (by omega) (by omega) z1.2.1 z1.2.2 (by omega) (by omega)
        rw [e2] at w2
        refine TP.bind (P := WalkP pick r2 r1.2.1.length r1.2.2.1.length) ?_ fun v hv => ?_
        · dsimp only
          rw [show IntKind.wrap .i64 ((a : Int) + (belowN n : Int)) = ((a + belowN n : Nat) : Int) by rw [wrap_i64 (by omega) (by omega)]; rfl, show IntKind.wrap .i64 ((n : Int) - (belowN n : Int)) = ((n - belowN n : Nat) : Int) by rw [wrap_i64 (by omega) (by omega)]; omega]
          exact w2 _ _ _ _ _
        obtain ⟨⟨z', rfl⟩, l3, l4⟩ := hv
        exact TP.bindM (node_ok _ _ (by dsimp only; omega) (by dsimp only; omega) _ _ _ _ _) fun _ => TP.some ⟨⟨_, rfl⟩, by dsimp only; omega, by dsimp only; omega⟩
noncomputable def RebuildA (T : Tab) (n : Int) (pick : List Int) (leaf nodes : List ByteArray) : ByteArray × Int × Unit :=
  if n < 1 ∨ n > 12 ∨ pick.length = 0 ∨ pick.length ≠ leaf.length ∨ risingB pick n = false then (⟨#[]⟩, 21, ()) else if (nodes.all fun x => x.size == 32) = false then (⟨#[]⟩, 20, ()) else
  if (walkV T pick 0 n.toNat leaf nodes false).2.2.2 = true ∨ (walkV T pick 0 n.toNat leaf nodes false).2.2.1.length > 0 then (⟨#[]⟩, 20, ()) else ((walkV T pick 0 n.toNat leaf nodes false).1, 0, ())
theorem rebuild_loop (hT : Tok T) (n : Nat) (h1 : 1 ≤ n) (h12 : n ≤ 12) (pick : List Int) (hk : pick.length ≤ 1000000000) (leaf nodes : List ByteArray) (hl : SzL leaf) (hn : SzL nodes) (ll : leaf.length ≤ 1000000000) (ln : nodes.length ≤ 1000000000) : ∀ (m i : Nat), i + m = nodes.length → ∀ t f1 f2 c N, TP (fun k => sheet_Rebuild.l0 k (n : Int) pick leaf nodes nodes (nodes.length : Int) (i : Int) t f1 f2 c T N)
    (fun v => v.1 = if ((nodes.drop i).all fun x => x.size == 32) = false then (⟨#[]⟩, 20, ()) else if (walkV T pick 0 n leaf nodes false).2.2.2 = true ∨ (walkV T pick 0 n leaf nodes false).2.2.1.length > 0 then (⟨#[]⟩, 20, ()) else ((walkV T pick 0 n leaf nodes false).1, 0, ()))
  | 0, i, h, t, f1, f2, c, N => by
    rw [List.drop_eq_nil_of_le (by omega), if_neg (by decide)]
    obtain ⟨r, er⟩ : ∃ r, walkV T pick 0 n leaf nodes false = r := ⟨_, rfl⟩
    have w := walker_ok hT pick hk n 0 n leaf nodes false (Nat.le_refl _) (by omega) h1 (by omega) hl hn ll ln
    rw [er] at w ⊢
    refine TP.step (fun k => rfl) (TP.dec (fun h' => absurd h' (by omega)) fun _ => TP.bind (w _ _ _ _ _) fun v hv => ?_)
    obtain ⟨⟨z, rfl⟩, l1, l2⟩ := hv
    refine TP.cond (fun hb => TP.some ?_) fun hb => TP.dec (fun hc => TP.some ?_) fun hc => TP.some ?_
    · have hb : r.2.2.2 = true := hb
      rw [if_pos (Or.inl hb)]
    · dsimp only at hc
      rw [if_pos (Or.inr (by omega))]
    · have hb : r.2.2.2 = false := hb
      dsimp only at hc
      rw [if_neg]
      rintro (e | e)
      · rw [hb] at e; cases e
      · omega
  | m + 1, i, h, t, f1, f2, c, N => by
    have hi : i < nodes.length := by omega
    refine TP.step (fun k => rfl) (TP.dec (fun h' => ?_) fun h' => absurd (by omega : (i : Int) < nodes.length) h')
    refine TP.optE (rdo_at hi) (TP.neI (fun hn => TP.some ?_) fun hn => ?_)
    · rw [List.drop_eq_getElem_cons hi, List.all_cons, beq_false_of_ne (by omega), Bool.false_and, if_pos rfl]
    · have e : IntKind.wrap .i64 ((i : Int) + 1) = ((i + 1 : Nat) : Int) := by rw [wrap_i64 (by omega) (by omega)]; rfl
      rw [e]
      refine TP.mono (rebuild_loop hT n h1 h12 pick hk leaf nodes hl ‹SzL nodes› ll ln m (i + 1) (by omega) _ _ _ _ _) fun v hv => ?_
      rw [hv, List.drop_eq_getElem_cons hi, List.all_cons, show (nodes[i].size == 32) = true from beq_iff_eq.2 (by omega), Bool.true_and]
theorem rebuild_ok (hT : Tok T) (n : Int) (pick : List Int) (hk : pick.length ≤ 1000000000) (leaf nodes : List ByteArray) (hl : SzL leaf) (hn : SzL nodes) (ll : leaf.length ≤ 1000000000) (ln : nodes.length ≤ 1000000000) (t f1 f2 c N) : TP (fun k => sheet_Rebuild.f k n pick leaf nodes t f1 f2 c T N) (fun v => v.1 = RebuildA T n pick leaf nodes) := by
  refine TP.step (fun k => rfl) (TP.dec (fun h => TP.some ?_) fun h1 => TP.dec (fun h => TP.some ?_) fun h2 => TP.eqI (fun h => TP.some ?_) fun h3 => TP.neI (fun h => TP.some ?_) fun h4 => TP.bindM (rising_ok pick _ hk) fun _ => TP.not (fun h => TP.some ?_) fun h5 => ?_)
  · unfold RebuildA; rw [if_pos (Or.inl h)]
  · unfold RebuildA; rw [if_pos (Or.inr (Or.inl h))]
  · unfold RebuildA; rw [if_pos (Or.inr (Or.inr (Or.inl (by omega))))]
  · unfold RebuildA; rw [if_pos (Or.inr (Or.inr (Or.inr (Or.inl (by omega)))))]
  · unfold RebuildA; rw [if_pos (Or.inr (Or.inr (Or.inr (Or.inr h))))]
  · have h5 : risingB pick n = true := h5
    obtain ⟨n, rfl⟩ := Int.eq_ofNat_of_zero_le (by omega : 0 ≤ n)
    refine TP.step (fun k => rfl) (TP.mono (rebuild_loop hT n (by omega) (by omega) pick hk leaf nodes hl hn ll ln nodes.length 0 (Nat.zero_add _) _ _ _ _ _) fun v hv => ?_)
    have hno : ¬ ((n : Int) < 1 ∨ (n : Int) > 12 ∨ pick.length = 0 ∨ pick.length ≠ leaf.length ∨ risingB pick n = false) := by
      rintro (h | h | h | h | h)
      · omega
      · omega
      · omega
      · omega
      · rw [h5] at h; cases h
    rw [hv, List.drop_zero]
    unfold RebuildA
    rw [if_neg hno, Int.toNat_natCast]
end
end Go.Proofs.Ytioagphpiflplaa.Pure
