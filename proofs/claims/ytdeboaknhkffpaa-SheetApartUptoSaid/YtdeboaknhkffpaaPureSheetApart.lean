/- Plain law: SheetApart. -/
import Derived.Test.YtdeboaknhkffpaaPWalkN
import Derived.Test.YtdeboaknhkffpaaPWith
import Derived.Test.YtdeboaknhkffpaaESSheetApart
namespace Go.Proofs.Ytdeboaknhkffpaa.Pure
open Go Go.Proofs.Ytdeboaknhkffpaa.E Go.Proofs.Ytdeboaknhkffpaa.Eng
set_option linter.unusedVariables false
set_option linter.unusedSimpArgs false

theorem S32.szL' {l : List ByteArray} (h : S32 l) : SzL l := fun x hx => by have := h x hx; omega
theorem apart_end {T : Tab} (hT : Tok T) (n : Int) (pick : List Int) (hk : pick.length ≤ 12) (a x b y : List ByteArray) (sa : S32 a) (sb : S32 b) (zx : SzL x) (zy : SzL y) (la : a.length = b.length) (l12 : a.length ≤ 12) (lx : x.length ≤ 20) (ly : y.length ≤ 20) (u : Bool) (hu : u = true → a ≠ b) (t f1 f2 c N) (hN : Noted T [] t f1 N) :
    TP (fun k => chartularylaw08_SheetApart.l0 k n pick a x b y u (a.length : Int) t f1 f2 c T N) (fun v => v.1.1 = true) := by
  refine TP.step (fun k => rfl) (TP.dec (fun h => absurd h (by omega)) fun _ => ?_)
  by_cases hgood : (RebuildA T n pick a x).2.1 = 0 ∧ (RebuildA T n pick b y).2.1 = 0
  · obtain ⟨s, A, e1, c1, sx, w1⟩ := rebuild_yes hgood.1
    obtain ⟨s', B, e2, c2, sy, w2⟩ := rebuild_yes hgood.2
    obtain ⟨n, rfl⟩ := Int.eq_ofNat_of_zero_le (by omega : 0 ≤ n)
    rw [Int.toNat_natCast] at w1 w2
    have h5 : risingB pick n = true := by
      cases h : risingB pick n with
      | true => rfl
      | false => exact absurd (Or.inr (Or.inr (Or.inr (Or.inr h)))) c1
    have g1 := walkW_len (T := T) pick _ 0 n a x (Nat.le_refl _) (by omega)
    refine TP.bindN (v := (s, 0, ())) (R := NS T (walkW T pick 0 n a x ++ [])) (rebuild_noted hT n pick a x s A c1 sa sx (by omega) (by omega) w1 (by simp; omega) hN _ _) fun s1 hs1 => ?_
    refine TP.bindN (v := (s', 0, ())) (R := NS T (walkW T pick 0 n b y ++ (walkW T pick 0 n a x ++ []))) (rebuild_noted hT n pick b y s' B c2 sb sy (by omega) (by omega) w2 (by simp; omega) hs1 _ _) fun s2 hs2 => TP.bindM (twins_ok _ _ _ _ _) fun _ => ?_
    refine TP.neI (fun h => absurd rfl h) fun _ => TP.neI (fun h => absurd rfl h) fun _ => TP.neT (fun _ => awake_end fun _ => rfl) fun he => TP.not (fun _ => awake_end fun _ => rfl) fun hut => ?_
    have he : s = s' := he
    subst he
    cases hf : s2.1.2.2.2.1 with
    | false =>
      have hA := Noted.apart hs2 hf
      obtain ⟨hr, hin⟩ := rising_pair h5
      obtain ⟨q, q1, q2, q3⟩ := walk_inj hT hA pick hr n 0 n a x b y s A [] B [] (Nat.le_refl _) (by omega) sa sx sb sy w1 w2 (fun t h => List.mem_append_right _ (List.mem_append_left _ h)) (fun t h => List.mem_append_left _ h)
      have hfil : (pick.filter fun y => decide (((0 : Nat) : Int) ≤ y) && decide (y < ((0 + n : Nat) : Int))) = pick := List.filter_eq_self.2 fun z hz => by
        have := hin z hz
        simp only [Bool.and_eq_true, decide_eq_true_eq]; omega
      rw [hfil] at q3
      have l1 := congrArg List.length q1
      have l2 := congrArg List.length q2
      rw [List.length_append] at l1 l2
      have hA0 : A = [] := List.eq_nil_of_length_eq_zero (by omega)
      have hB0 : B = [] := List.eq_nil_of_length_eq_zero (by omega)
      refine absurd ?_ (hu hut)
      rw [q1, q2, hA0, hB0]
    | true =>
      have ht := hs2.tw hf
      exact TP.yes rfl (TP.neT (fun _ => awake_end fun _ => rfl) fun h => absurd h ht)
  · refine TP.bindM (rebuild_ok hT n pick (by omega) a x sa.szL' zx (by omega) (by omega) _ _ _ _ _) fun _ => TP.bindM (rebuild_ok hT n pick (by omega) b y sb.szL' zy (by omega) (by omega) _ _ _ _ _) fun _ => TP.bindM (twins_ok _ _ _ _ _) fun _ => ?_
    exact TP.neI (fun _ => awake_end fun _ => rfl) fun h1 => TP.neI (fun _ => awake_end fun _ => rfl) fun h2 => absurd ⟨h1, h2⟩ hgood
theorem apart_loop {T : Tab} (hT : Tok T) (n : Int) (pick : List Int) (hk : pick.length ≤ 12) (a x b y : List ByteArray) (zx : SzL x) (zy : SzL y) (la : a.length = b.length) (l12 : a.length ≤ 12) (lx : x.length ≤ 20) (ly : y.length ≤ 20) : ∀ (m i : Nat), i + m = a.length → S32 (a.take i) → S32 (b.take i) → ∀ (u : Bool), (u = true → a ≠ b) → ∀ t f1 f2 c N, Noted T [] t f1 N →
    TP (fun k => chartularylaw08_SheetApart.l0 k n pick a x b y u (i : Int) t f1 f2 c T N) (fun v => v.1.1 = true)
  | 0, i, h, sa, sb, u, hu, t, f1, f2, c, N, hN => by
    have : i = a.length := by omega
    subst this
    rw [List.take_length] at sa
    rw [la, List.take_length] at sb
    exact apart_end hT n pick hk a x b y sa sb zx zy la l12 lx ly u hu _ _ _ _ _ hN
  | m + 1, i, h, sa, sb, u, hu, t, f1, f2, c, N, hN => by
    have hi : i < a.length := by omega
    have hj : i < b.length := by omega
    have e : IntKind.wrap .i64 ((i : Int) + 1) = ((i + 1 : Nat) : Int) := by rw [wrap_i64 (by omega) (by omega)]; rfl
    refine TP.step (fun k => rfl) (TP.dec (fun h' => ?_) fun h' => absurd (by omega : (i : Int) < a.length) h')
    refine TP.optE (rdo_at hi) (TP.neI (fun _ => awake_end fun _ => rfl) fun ha => TP.optE (rdo_at hj) (TP.neI (fun _ => awake_end fun _ => rfl) fun hb => ?_))
    have sa' : S32 (a.take (i + 1)) := by rw [List.take_succ_eq_append_getElem hi]; exact sa.app (S32.one (by omega))
    have sb' : S32 (b.take (i + 1)) := by rw [List.take_succ_eq_append_getElem hj]; exact sb.app (S32.one (by omega))
    rw [e]
    refine TP.cond (fun hut => ?_) fun huf => TP.optE (rdo_at hi) (TP.optE (rdo_at hj) ?_)
    · exact apart_loop hT n pick hk a x b y zx zy la l12 lx ly m (i + 1) (by omega) sa' sb' true (fun _ => hu hut) _ _ _ _ _ hN
    · refine apart_loop hT n pick hk a x b y zx zy la l12 lx ly m (i + 1) (by omega) sa' sb' _ (fun hne eab => ?_) _ _ _ _ _ hN
      subst eab
      rw [beq_text, decide_eq_true rfl] at hne
      cases hne
theorem apart_j0 (l : List Row) (hb : l.length ≤ 1000000000) (hl : ∀ x ∈ l, RowOk x) (n : Int) (pick : List Int) (a x b y : List ByteArray) (hpk : pick.length ≤ 1000000000) (zx : SzL x) (zy : SzL y) :
    TP (fun k => chartularylaw08_SheetApart.j0 k l n pick a x b y) (fun v => v.1.1 = true) := by
  rcases rows_case l with ho | ⟨j, hj, ho⟩
  · refine TP.step (fun k => rfl) (TP.or1 (TP.bind (with_ok l hb hl ho) fun v hv => ?_))
    obtain ⟨T, hT, rfl⟩ := hv
    refine TP.neI (fun h => absurd rfl h) fun _ => TP.dec (fun _ => awake_end fun _ => rfl) fun h1 => TP.dec (fun _ => awake_end fun _ => rfl) fun h2 => TP.dec (fun _ => awake_end fun _ => rfl) fun h3 => TP.neI (fun _ => awake_end fun _ => rfl) fun h4 => TP.dec (fun _ => awake_end fun _ => rfl) fun h5 => ?_
    exact apart_loop hT n pick (by omega) a x b y zx zy (by omega) (by omega) (by omega) (by omega) a.length 0 (Nat.zero_add _) (fun x hx => by rw [List.take_zero] at hx; cases hx) (fun x hx => by rw [List.take_zero] at hx; cases hx) false (fun h => by cases h) _ _ _ _ _ (noted_nil T _)
  · refine TP.step (fun k => rfl) (TP.or2 (fun k => bind_none (with_bad l hb j hj ho k)) (TP.bind (with_nil l hb hl j hj ho) fun v hv => ?_))
    subst hv
    exact TP.neI (fun _ => awake_end fun _ => rfl) fun h => by cases h
/-- The law. -/
theorem SheetApart : chartularylaw08_SheetApart.Pure := by
  intro l n pick a x b y w0 w1 w2 w3 w4 w5 w6 hb
  have hrow (y : Row) : bulkT (.cons .bool (.cons .str (.cons .str (.cons .str .nil)))) y = 1 + ((y.2.1.size + 1) + ((y.2.2.1.size + 1) + ((y.2.2.2.1.size + 1) + 0))) := rfl
  have hsum : sumB (bulkT (.cons .bool (.cons .str (.cons .str (.cons .str .nil))))) l ≤ 1048576 := by
    refine Nat.le_trans ?_ hb
    show bulkT (.sl (.cons .bool (.cons .str (.cons .str (.cons .str .nil))))) l ≤ _
    omega
  have hl : l.length ≤ 1048576 := Nat.le_trans (sumB_len (bulkT (.cons .bool (.cons .str (.cons .str (.cons .str .nil))))) (fun y => by have h := hrow y; have h' : bulkT (.cons .bool (.cons .str (.cons .str (.cons .str .nil)))) y = _ := h; omega) l) hsum
  have hr : ∀ x ∈ l, RowOk x := fun x hx => by
    have h1 := sumB_ge (bulkT (.cons .bool (.cons .str (.cons .str (.cons .str .nil))))) l x hx
    have h2 : bulkT (.cons .bool (.cons .str (.cons .str (.cons .str .nil)))) x = _ := hrow x
    exact ⟨by omega, by omega⟩
  have hpk : pick.length ≤ 1048576 := Nat.le_trans (sumB_len (bulkT (.int .i64)) (fun y => by simp [bulkT]) pick) (by show bulkT (.sl (.int .i64)) pick ≤ _; omega)
  have sz {l : List ByteArray} (h : bulkT (.sl .str) l ≤ 1048576) : SzL l := fun x hx => by
    have h1 := sumB_ge (bulkT .str) l x hx
    have h2 : bulkT .str x = x.size + 1 := rfl
    have h3 : sumB (bulkT .str) l ≤ 1048576 := h
    omega
  have zx : SzL x := sz (by omega)
  have zy : SzL y := sz (by omega)
  refine TP.one (TP.step (fun k => rfl) (TP.dec (fun h => TP.ck (by simp only [Bool.and_eq_true, decide_eq_true_eq]; omega) ?_) fun h => ?_))
  · exact apart_j0 _ (by rw [List.length_drop, List.length_take]; omega) (fun x hx => hr x (List.mem_of_mem_take (List.mem_of_mem_drop hx))) _ _ _ _ _ _ (by omega) zx zy
  · exact apart_j0 _ (by omega) hr _ _ _ _ _ _ (by omega) zx zy
end Go.Proofs.Ytdeboaknhkffpaa.Pure
