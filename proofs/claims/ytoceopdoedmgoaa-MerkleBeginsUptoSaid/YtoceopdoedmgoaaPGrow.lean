/- Plain laws: growths, and which are believed. -/
import Derived.Test.YtoceopdoedmgoaaPMerk
namespace Go.Proofs.Ytoceopdoedmgoaa.Pure
open Go Go.Proofs.Ytoceopdoedmgoaa.E Go.Proofs.Ytoceopdoedmgoaa.Eng
set_option linter.unusedVariables false
set_option linter.unusedSimpArgs false

section
variable {T : Tab}
theorem grow_ok (hT : Tok T) : ∀ (m : Nat) (l : List ByteArray), l.length ≤ m → m ≤ 1000000000 → S32 l → ∀ (a : Nat) (w : Bool), 1 ≤ a → a ≤ l.length → ∀ t f1 f2 n N, TP (fun k => merkle_grow.f k l (a : Int) w t f1 f2 n T N) (fun v => v.1 = (growV T l a w, ()))
  | m, l, hm, hb, hl, a, w, h1, ha, t, f1, f2, n, N => by
    refine TP.step (fun k => rfl) (TP.eqI (fun h => TP.cond (fun hw => TP.some ?_) fun hw => TP.bindM (root_is hT l (by omega) hl _ _ _ _ _) fun _ => TP.some ?_) fun h0 => ?_)
    · have h : a = l.length := by omega
      subst h; subst hw
      rw [growV_all]
    · have h : a = l.length := by omega
      subst h; subst hw
      rw [growV_part]
    · have h2 : 2 ≤ l.length := by omega
      have hn : a ≠ l.length := by omega
      have hlt := below_lt h2
      have hp := below_pos l.length
      cases m with
      | zero => omega
      | succ m =>
      have hd : l.length ≤ 1000000000 := by omega
      have hr (q : List ByteArray) (a : Nat) (w : Bool) (h : q.length ≤ m) (hq : S32 q) (h1 : 1 ≤ a) (ha : a ≤ q.length) : (growV T q a w).length ≤ 100 := by
        rw [(growV_s32 hT m q h hq a w h1 ha).2]; exact Nat.le_trans (long_le 64 a _ w (by omega)) (by decide)
      refine TP.bindM (split_ok h2 (by omega)) fun _ => TP.dec (fun hc => ?_) fun hc => ?_
      · dsimp only at hc
        have hc : a ≤ belowN l.length := by omega
        refine TP.ck (by dsimp only; simp only [Bool.and_eq_true, decide_eq_true_eq]; omega) ?_
        refine TP.bindM (grow_ok hT m _ (by dsimp only; rw [tkI, List.length_take]; omega) (by omega) ((hl.take _).drop _) a w h1 (by dsimp only; rw [tkI, List.length_take]; omega) _ _ _ _ _) fun _ => ?_
        refine TP.ck (by dsimp only; simp only [Bool.and_eq_true, decide_eq_true_eq]; omega) ?_
        refine TP.bindM (root_is hT _ (by dsimp only; rw [dkI, List.length_drop]; omega) ((hl.take _).drop _) _ _ _ _ _) fun _ => ?_
        refine TP.ck (by apply decide_eq_true; dsimp only; rw [tkI]; have := hr _ a w (by rw [List.length_take]; omega) (hl.take (belowN l.length)) h1 (by rw [List.length_take]; omega); simp only [List.length_cons, List.length_nil]; omega) (TP.some ?_)
        dsimp only
        rw [tkI, dkI, ← growV_left h2 hn hc]
      · dsimp only at hc
        have hc : ¬ a ≤ belowN l.length := by omega
        refine TP.ck (by dsimp only; simp only [Bool.and_eq_true, decide_eq_true_eq]; omega) ?_
        refine TP.bindM (v := (growV T (l.drop (belowN l.length)) (a - belowN l.length) false, ())) ?_ fun _ => ?_
        · dsimp only
          rw [dkI, show IntKind.wrap .i64 ((a : Int) - (belowN l.length : Int)) = ((a - belowN l.length : Nat) : Int) by rw [wrap_i64 (by omega) (by omega)]; omega]
          exact grow_ok hT m _ (by rw [List.length_drop]; omega) (by omega) (hl.drop _) (a - belowN l.length) false (by omega) (by rw [List.length_drop]; omega) _ _ _ _ _
        refine TP.ck (by dsimp only; simp only [Bool.and_eq_true, decide_eq_true_eq]; omega) ?_
        refine TP.bindM (root_is hT _ (by dsimp only; rw [tkI, List.length_take]; omega) ((hl.take _).drop _) _ _ _ _ _) fun _ => ?_
        refine TP.ck (by apply decide_eq_true; dsimp only; have := hr _ (a - belowN l.length) false (by rw [List.length_drop]; omega) (hl.drop (belowN l.length)) (by omega) (by rw [List.length_drop]; omega); simp only [List.length_cons, List.length_nil]; omega) (TP.some ?_)
        dsimp only
        rw [tkI, ← growV_right h2 hn hc]

noncomputable def GrowthA (T : Tab) (l : List ByteArray) (a : Int) : List ByteArray × Int × Unit := if a < 0 ∨ a > l.length then ([], 21, ()) else if a = 0 then ([], 0, ()) else (growV T l a.toNat true, 0, ())
theorem growth_ok (hT : Tok T) (l : List ByteArray) (hb : l.length ≤ 1000000000) (hl : S32 l) (a : Int) (t f1 f2 n N) : TP (fun k => merkle_Growth.f k l a t f1 f2 n T N) (fun v => v.1 = GrowthA T l a) := by
  refine TP.step (fun k => rfl) (TP.dec (fun h => TP.some ?_) fun h1 => TP.dec (fun h => TP.some ?_) fun h2 => TP.step (fun k => rfl) (TP.eqI (fun h => TP.some ?_) fun h3 => ?_))
  · unfold GrowthA; rw [if_pos (by omega)]
  · unfold GrowthA; rw [if_pos (by omega)]
  · unfold GrowthA; rw [if_neg (by omega), if_pos (by omega)]
  · obtain ⟨a, rfl⟩ := Int.eq_ofNat_of_zero_le (by omega : 0 ≤ a)
    refine TP.bindM (grow_ok hT _ l (Nat.le_refl _) hb hl a true (by omega) (by omega) _ _ _ _ _) fun _ => TP.some ?_
    unfold GrowthA; rw [if_neg (by omega), if_neg (by omega)]; rfl

/-- What two climbs come to: both roots where the proof has the right length. -/
def BothP (T : Tab) (a n : Nat) (w : Bool) (old : ByteArray) (p : List ByteArray) (v : ByteArray × ByteArray × Bool × Unit) : Prop := v.2.2.1 = decide (p.length = longV a n w) ∧ (p.length = longV a n w → (v.1, v.2.1) = bothV T a n w old p) ∧ v.1.size ≤ 32 ∧ v.2.1.size ≤ 32
theorem both_ok (hT : Tok T) : ∀ (m : Nat) (a n : Nat) (w : Bool) (old : ByteArray) (p : List ByteArray), n ≤ m → m ≤ 1000000000 → 1 ≤ a → a ≤ n → old.size ≤ 32 → S32 p → p.length ≤ 1000000000 → ∀ t f1 f2 c N, TP (fun k => merkle_both.f k (a : Int) (n : Int) w old p t f1 f2 c T N) (fun v => BothP T a n w old p v.1)
  | m, a, n, w, old, p, hm, hb, h1, ha, ho, hp, hq, t, f1, f2, c, N => by
    refine TP.step (fun k => rfl) (TP.eqI (fun h => TP.cond (fun hw => TP.some ?_) fun hw => TP.neI (fun h0 => TP.some ?_) fun h0 => ?_) fun hn => TP.eqI (fun h => TP.some ?_) fun h0 => ?_)
    · have h : a = n := by omega
      subst h; subst hw
      refine ⟨?_, fun _ => (bothV_all _ _ _).symm, ho, ho⟩
      dsimp only
      rw [longV_all]
      by_cases h0 : p.length = 0
      · rw [h0]; rfl
      · rw [decide_eq_false h0]; exact beq_false_of_ne (by omega)
    · have h : a = n := by omega
      subst h; subst hw
      refine ⟨?_, fun e => ?_, Nat.zero_le _, Nat.zero_le _⟩
      · dsimp only; rw [longV_part, decide_eq_false (by omega)]
      · rw [longV_part] at e; omega
    · have h : a = n := by omega
      subst h; subst hw
      have h0 : p.length = 1 := by omega
      obtain ⟨x, rfl⟩ := List.length_eq_one_iff.1 h0
      refine TP.optE (v := x) rfl (TP.optE (v := x) rfl (TP.some ⟨?_, fun _ => ?_, ?_, ?_⟩))
      · dsimp only; rw [longV_part]; rfl
      · dsimp only; rw [bothV_part]; rfl
      · exact Nat.le_of_eq (hp x (List.mem_singleton.2 rfl))
      · exact Nat.le_of_eq (hp x (List.mem_singleton.2 rfl))
    · have hne : a ≠ n := by omega
      have h2 : 2 ≤ n := by omega
      have hd : longV a n w ≠ 0 := by
        by_cases hc : a ≤ belowN n
        · rw [longV_left h2 hne hc]; omega
        · rw [longV_right h2 hne hc]; omega
      exact ⟨by dsimp only; rw [decide_eq_false (by omega)], fun e => absurd e (by omega), Nat.zero_le _, Nat.zero_le _⟩
    · have hne : a ≠ n := by omega
      have h2 : 2 ≤ n := by omega
      have hlt := below_lt h2
      have hpos := below_pos n
      have h0 : p.length ≠ 0 := by omega
      have hl := hp.last h0
      have hdl : p.dropLast.length = p.length - 1 := List.length_dropLast
      cases m with
      | zero => omega
      | succ m =>
      refine TP.bindM (split_ok h2 (by omega)) fun _ => TP.optE (lastI h0 hq) (TP.ck ?_ (TP.dec (fun hc => ?_) fun hc => ?_))
      · rw [wrap_i64 (by omega) (by omega)]; simp only [Bool.and_eq_true, decide_eq_true_eq]; omega
      · dsimp only at hc
        have hc : a ≤ belowN n := by omega
        refine TP.bind (P := fun v => BothP T a (belowN n) w old p.dropLast v.1) ?_ fun v hv => ?_
        · rw [tlI h0 hq]
          exact both_ok hT m a (belowN n) w old _ (by omega) (by omega) h1 hc ho hp.dropLast (by omega) _ _ _ _ _
        obtain ⟨⟨s, r, b, ⟨⟩⟩, z⟩ := v
        obtain ⟨hv1, hv2, hv3, hv4⟩ := hv
        dsimp only at hv1 hv2 hv3 hv4
        refine TP.bindM (node_ok _ _ (by dsimp only; omega) (by omega) _ _ _ _ _) fun _ => TP.some ?_
        refine ⟨?_, fun e => ?_, hv3, Nat.le_of_eq (hashV_size hT _)⟩
        · dsimp only; rw [hv1, longV_left h2 hne hc]
          exact decide_eq_decide.2 ⟨fun h => by omega, fun h => by omega⟩
        · rw [longV_left h2 hne hc] at e
          dsimp only
          rw [bothV_left h2 hne hc, ← hv2 (by omega)]
      · dsimp only at hc
        have hc : ¬ a ≤ belowN n := by omega
        refine TP.bind (P := fun v => BothP T (a - belowN n) (n - belowN n) false ⟨#[]⟩ p.dropLast v.1) ?_ fun v hv => ?_
        · rw [tlI h0 hq, show IntKind.wrap .i64 ((a : Int) - (belowN n : Int)) = ((a - belowN n : Nat) : Int) by rw [wrap_i64 (by omega) (by omega)]; omega, show IntKind.wrap .i64 ((n : Int) - (belowN n : Int)) = ((n - belowN n : Nat) : Int) by rw [wrap_i64 (by omega) (by omega)]; omega]
          exact both_ok hT m (a - belowN n) (n - belowN n) false ⟨#[]⟩ _ (by omega) (by omega) (by omega) (by omega) (Nat.zero_le _) hp.dropLast (by omega) _ _ _ _ _
        obtain ⟨⟨s, r, b, ⟨⟩⟩, z⟩ := v
        obtain ⟨hv1, hv2, hv3, hv4⟩ := hv
        dsimp only at hv1 hv2 hv3 hv4
        refine TP.bindM (node_ok _ _ (by omega) (by dsimp only; omega) _ _ _ _ _) fun _ => TP.bindM (node_ok _ _ (by omega) (by dsimp only; omega) _ _ _ _ _) fun _ => TP.some ?_
        refine ⟨?_, fun e => ?_, Nat.le_of_eq (hashV_size hT _), Nat.le_of_eq (hashV_size hT _)⟩
        · dsimp only; rw [hv1, longV_right h2 hne hc]
          exact decide_eq_decide.2 ⟨fun h => by omega, fun h => by omega⟩
        · rw [longV_right h2 hne hc] at e
          dsimp only
          rw [bothV_right h2 hne hc, ← hv2 (by omega)]
/-- What Grown answers. -/
noncomputable def GrownA (T : Tab) (a : Int) (x : ByteArray) (n : Int) (y : ByteArray) (p : List ByteArray) : Int :=
  if a < 0 ∨ a > n ∨ n > 65536 then 21 else if x.size ≠ 32 ∨ y.size ≠ 32 then 19 else if p.length > 17 ∨ sumsB p = false then 20 else
  if a = 0 then (if x ≠ noneV T ∨ (n = 0 ∧ y ≠ x) then 19 else if p.length > 0 then 20 else 0) else
  if p.length ≠ longV a.toNat n.toNat true then 20 else if bothV T a.toNat n.toNat true x p ≠ (x, y) then 19 else 0
theorem grown_ok (hT : Tok T) (a : Int) (x : ByteArray) (n : Int) (y : ByteArray) (p : List ByteArray) (hq : p.length ≤ 1000000000) (t f1 f2 c N) : TP (fun k => merkle_Grown.f k (a, x, ()) (n, y, ()) p t f1 f2 c T N) (fun v => v.1 = (GrownA T a x n y p, ())) := by
  refine TP.step (fun k => rfl) (TP.dec (fun h => TP.some ?_) fun h1 => TP.dec (fun h => TP.some ?_) fun h2 => TP.dec (fun h => TP.some ?_) fun h3 => ?_)
  · unfold GrownA; rw [if_pos (Or.inl h)]
  · unfold GrownA; rw [if_pos (Or.inr (Or.inl h))]
  · unfold GrownA; rw [if_pos (Or.inr (Or.inr h))]
  dsimp only at h1 h2 h3
  have g1 : ¬ (a < 0 ∨ a > n ∨ n > 65536) := by omega
  refine TP.bindM (sums_ok [x, y] (by simp)) fun _ => TP.not (fun h => TP.some ?_) fun h4 => ?_
  · have h : sumsB [x, y] = false := h
    have : x.size ≠ 32 ∨ y.size ≠ 32 := by
      by_cases e1 : x.size = 32
      · refine Or.inr fun e2 => ?_
        have h' : sumsB [x, y] = true := (sumsB_iff [x, y]).2 ((S32.one e1).app (S32.one e2))
        rw [h'] at h; cases h
      · exact Or.inl e1
    unfold GrownA; rw [if_neg g1, if_pos this]
  have hs : S32 [x, y] := (sumsB_iff _).1 h4
  have hx : x.size = 32 := hs x (by simp)
  have hy : y.size = 32 := hs y (by simp)
  have g2 : ¬ (x.size ≠ 32 ∨ y.size ≠ 32) := by omega
  refine TP.dec (fun h => TP.some ?_) fun h5 => TP.bindM (sums_ok p hq) fun _ => TP.not (fun h => TP.some ?_) fun h6 => ?_
  · unfold GrownA; rw [if_neg g1, if_neg g2, if_pos (Or.inl (by omega))]
  · unfold GrownA; rw [if_neg g1, if_neg g2, if_pos (Or.inr h)]
  have hp : S32 p := (sumsB_iff p).1 h6
  have g3 : ¬ (p.length > 17 ∨ sumsB p = false) := by
    rintro (h | h)
    · omega
    · rw [(sumsB_iff p).2 hp] at h; cases h
  unfold GrownA
  rw [if_neg g1, if_neg g2, if_neg g3]
  refine TP.step (fun k => rfl) (TP.eqI (fun h => TP.bindM (pnone_ok _ _ _ _ _) fun _ => ?_) fun h7 => ?_)
  · dsimp only at h
    rw [if_pos h]
    refine TP.neT (fun h => TP.some ?_) fun h8 => TP.eqI (fun h9 => TP.neT (fun h => TP.some ?_) fun h => TP.dec (fun h => TP.some ?_) fun h => TP.some ?_) fun h9 => TP.dec (fun h => TP.some ?_) fun h => TP.some ?_
    · rw [if_pos (Or.inl h)]
    all_goals dsimp only at h h8 h9
    · rw [if_pos (Or.inr ⟨h9, h⟩)]
    · rw [if_neg (by rintro (e | e); (· exact e h8); exact e.2 (by assumption)), if_pos (by omega)]
    · rw [if_neg (by rintro (e | e); (· exact e h8); exact e.2 (by assumption)), if_neg (by omega)]
    · rw [if_neg (by rintro (e | e); (· exact e h8); exact h9 e.1), if_pos (by omega)]
    · rw [if_neg (by rintro (e | e); (· exact e h8); exact h9 e.1), if_neg (by omega)]
  · dsimp only at h7
    rw [if_neg h7]
    obtain ⟨a, rfl⟩ := Int.eq_ofNat_of_zero_le (by omega : 0 ≤ a)
    obtain ⟨n, rfl⟩ := Int.eq_ofNat_of_zero_le (by omega : 0 ≤ n)
    refine TP.bind (both_ok hT n a n true x p (Nat.le_refl _) (by omega) (by omega) (by omega) (by omega) hp hq _ _ _ _ _) fun v hv => ?_
    obtain ⟨⟨s, r, b, ⟨⟩⟩, z⟩ := v
    obtain ⟨hv1, hv2, hv3, hv4⟩ := hv
    dsimp only at hv1 hv2 hv3 hv4
    rw [Int.toNat_natCast, Int.toNat_natCast]
    refine TP.not (fun h => TP.some ?_) fun h8 => ?_
    · have h : b = false := h
      rw [hv1] at h
      rw [if_pos (of_decide_eq_false h)]
    · have h8 : b = true := h8
      rw [hv1] at h8
      have h8 := of_decide_eq_true h8
      rw [if_neg (fun e => e h8), ← hv2 h8]
      refine TP.neT (fun h => TP.some ?_) fun h9 => TP.neT (fun h => TP.some ?_) fun h => TP.some ?_
      · rw [if_pos (fun e => h (Prod.mk.inj e).1)]
      · rw [if_pos (fun e => h (Prod.mk.inj e).2)]
      · dsimp only at h9 h
        rw [if_neg (fun e => e (by rw [h9, h]))]
end
end Go.Proofs.Ytoceopdoedmgoaa.Pure
