/- Plain laws: what a mill notes of all that it sums. -/
import Derived.Test.YtoceopdoedmgoaaPGrow
import Derived.Test.YtoceopdoedmgoaaPInj
namespace Go.Proofs.Ytoceopdoedmgoaa.Pure
open Go Go.Proofs.Ytoceopdoedmgoaa.E Go.Proofs.Ytoceopdoedmgoaa.Eng
set_option linter.unusedVariables false
set_option linter.unusedSimpArgs false

theorem mput_has (s v x : ByteArray) : ∀ N, mhas x (mput s v N) = true ↔ x = s ∨ mhas x N = true
  | [] => by
    unfold mput mhas
    cases h : seqB x s with
    | true => simp [(seqB_iff x s).1 h]
    | false => simp [mhas, show x ≠ s from fun e => by rw [(seqB_iff x s).2 e] at h; cases h]
  | (a, b) :: r => by
    have ih := mput_has s v x r
    unfold mput
    cases hs : seqB s a with
    | true =>
      have := (seqB_iff s a).1 hs
      subst this
      simp only [mhas]
      cases hx : seqB x s with
      | true => simp [(seqB_iff x s).1 hx]
      | false => simp [show x ≠ s from fun e => by rw [(seqB_iff x s).2 e] at hx; cases hx]
    | false =>
      simp only [mhas]
      cases hx : seqB x a with
      | true => simp
      | false => simpa using ih
theorem mput_get (s v x : ByteArray) : ∀ N, mgetD x (mput s v N) = if x = s then v else mgetD x N
  | [] => by
    unfold mput mgetD
    cases h : seqB x s with
    | true => simp [(seqB_iff x s).1 h]
    | false => simp [mgetD, show x ≠ s from fun e => by rw [(seqB_iff x s).2 e] at h; cases h]
  | (a, b) :: r => by
    have ih := mput_get s v x r
    unfold mput
    cases hs : seqB s a with
    | true =>
      have := (seqB_iff s a).1 hs
      subst this
      simp only [mgetD]
      cases hx : seqB x s with
      | true => simp [(seqB_iff x s).1 hx]
      | false => simp [show x ≠ s from fun e => by rw [(seqB_iff x s).2 e] at hx; cases hx]
    | false =>
      simp only [mgetD]
      cases hx : seqB x a with
      | true =>
        have := (seqB_iff x a).1 hx
        subst this
        rw [if_neg (fun e => by rw [(seqB_iff s x).2 e.symm] at hs; cases hs)]
      | false => exact ih
theorem mput_len (s v : ByteArray) : ∀ N, (mput s v N).length ≤ N.length + 1
  | [] => Nat.le_refl _
  | (a, b) :: r => by
    unfold mput
    cases seqB s a with
    | true => simp
    | false => have := mput_len s v r; simp only [List.length_cons]; omega

/-- All these texts are noted, or two unlike ones of one sum are. -/
structure Noted (T : Tab) (W : List ByteArray) (t : ByteArray × ByteArray × Unit) (f : Bool) (N : Tab) : Prop where
  tw : f = true → t.1 ≠ t.2.1
  nt : f = false → ∀ w ∈ W, mhas (hashV T w) N = true ∧ mgetD (hashV T w) N = w
  len : N.length ≤ W.length
abbrev MStN := (Unit × Unit × (ByteArray × ByteArray × Unit) × Bool × Bool × Int × Unit) × ((List (ByteArray × ByteArray)) × Unit) × Unit
def NS (T : Tab) (W : List ByteArray) (s : MStN) : Prop := Noted T W s.1.2.2.1 s.1.2.2.2.1 s.2.1.1
theorem Noted.apart {T : Tab} {W : List ByteArray} {t f N} (h : Noted T W t f N) (hf : f = false) : Apart T W := fun x hx y hy e => by
  have h1 := (h.nt hf x hx).2
  have h2 := (h.nt hf y hy).2
  rw [e] at h1
  exact h1.symm.trans h2
theorem TP.bindN {α β γ : Type} {f : Nat → Option (α × γ)} {g : α × γ → Nat → Option β} {v : α} {R : γ → Prop} {Q : β → Prop} (h : TP f (fun x => x.1 = v ∧ R x.2)) (h' : ∀ s, R s → TP (g (v, s)) Q) : TP (fun k => (f k).bind fun x => g x k) Q :=
  TP.bind h fun x hx => by
    obtain ⟨a, s⟩ := x
    obtain ⟨h1, h2⟩ := hx
    have : a = v := h1
    subst this
    exact h' s h2
section
variable {T : Tab}
theorem note_noted (s : ByteArray) {W : List ByteArray} (hW : W.length < 20000) {t f1 N} (hN : Noted T W t f1 N) (f2 n) : TP (fun k => mill_Mill_note.f k s (hashV T s) t f1 f2 n T N) (fun v => NS T (s :: W) v.2) := by
  have hl := hN.len
  refine TP.step (fun k => rfl) (TP.cond (fun h1 => TP.neT (fun h2 => TP.not (fun h3 => TP.some ?_) fun h3 => TP.yes h1 (TP.some ?_)) fun h2 => TP.yes h1 (TP.some ?_)) fun h1 => TP.no h1 (TP.dec (fun h => absurd h (by omega)) fun _ => TP.some ?_))
  · exact ⟨fun _ => h2, (fun h => nomatch h), Nat.le_succ_of_le hl⟩
  · exact ⟨hN.tw, fun h => absurd (h3.symm.trans h) (by decide), Nat.le_succ_of_le hl⟩
  · refine ⟨hN.tw, fun h w hw => ?_, Nat.le_succ_of_le hl⟩
    rcases List.mem_cons.1 hw with rfl | hw
    · exact ⟨h1, h2⟩
    · exact hN.nt h w hw
  · refine ⟨hN.tw, fun h w hw => ?_, Nat.le_trans (mput_len _ _ _) (Nat.succ_le_succ hl)⟩
    show mhas _ (mput _ _ N) = true ∧ mgetD _ (mput _ _ N) = w
    rw [mput_has, mput_get]
    rcases List.mem_cons.1 hw with rfl | hw
    · exact ⟨Or.inl rfl, if_pos rfl⟩
    · obtain ⟨h3, h4⟩ := hN.nt h w hw
      have : hashV T w ≠ hashV T s := fun e => by rw [e, h1] at h3; cases h3
      exact ⟨Or.inr h3, by rw [if_neg this]; exact h4⟩
theorem sum_noted (s : ByteArray) (hs : s.size ≤ 100000000) {W : List ByteArray} (hW : W.length < 20000) {t f1 N} (hN : Noted T W t f1 N) (f2 n) : TP (fun k => mill_Mill_Sum.f k s t f1 f2 n T N) (fun v => v.1 = (hashV T s, ()) ∧ NS T (s :: W) v.2) := by
  refine TP.step (fun k => rfl) (TP.bindM (none_ok _ _ _ _ _) fun _ => TP.no rfl (TP.bindM (name_ok _ s hs) fun _ => TP.cond (fun h => ?_) fun h => ?_))
  · have h' : mhas ((⟨#[115]⟩ : ByteArray) ++ s) T = false := by simpa using h
    have e : hashV T s = shaV s := by unfold hashV; rw [h']; rfl
    have hn := note_noted s hW hN f2 n
    rw [e] at hn ⊢
    exact TP.bindR (sha_ok s hs) (TP.bind hn fun v hv => TP.some ⟨rfl, hv⟩)
  · have h' : mhas ((⟨#[115]⟩ : ByteArray) ++ s) T = true := by simpa using h
    have e : hashV T s = mgetD ((⟨#[115]⟩ : ByteArray) ++ s) T := by unfold hashV; rw [h']; rfl
    have hn := note_noted s hW hN f2 n
    rw [e] at hn ⊢
    exact TP.bind hn fun v hv => TP.some ⟨rfl, hv⟩
theorem node_noted (a b : ByteArray) (ha : a.size ≤ 1000000) (hb : b.size ≤ 1000000) {W : List ByteArray} (hW : W.length < 20000) {t f1 N} (hN : Noted T W t f1 N) (f2 n) : TP (fun k => pledge_Node.f k a b t f1 f2 n T N) (fun v => v.1 = (nodeV T a b, ()) ∧ NS T (nodeT a b :: W) v.2) :=
  TP.step (fun k => rfl) (TP.ck (by apply decide_eq_true; show 1 + a.size ≤ _; omega) (TP.ck (by apply decide_eq_true; rw [ByteArray.size_append]; show 1 + a.size + b.size ≤ _; omega)
    (TP.bindN (sum_noted _ (by rw [ByteArray.size_append, ByteArray.size_append]; show 1 + a.size + b.size ≤ _; omega) hW hN _ _) fun s hs => TP.some ⟨rfl, hs⟩)))
theorem pnone_noted {W : List ByteArray} (hW : W.length < 20000) {t f1 N} (hN : Noted T W t f1 N) (f2 n) : TP (fun k => pledge_None.f k t f1 f2 n T N) (fun v => v.1 = (noneV T, ()) ∧ NS T ((⟨#[]⟩ : ByteArray) :: W) v.2) :=
  TP.step (fun k => rfl) (TP.bindN (sum_noted _ (by show 0 ≤ _; omega) hW hN _ _) fun s hs => TP.some ⟨rfl, hs⟩)
theorem root_noted (hT : Tok T) : ∀ (m : Nat) (l : List ByteArray), l.length ≤ m → m ≤ 1000000000 → S32 l → ∀ {W : List ByteArray}, (rootW T l ++ W).length ≤ 20000 → ∀ {t f1 N}, Noted T W t f1 N → ∀ f2 n, TP (fun k => merkle_Root.f k l t f1 f2 n T N) (fun v => v.1 = (rootV T l, ()) ∧ NS T (rootW T l ++ W) v.2)
  | m, l, hm, hb, hl, W, hW, t, f1, N, hN, f2, n => by
    by_cases h0 : l.length = 0
    · rw [rootW_nil h0] at hW ⊢
      rw [rootV_nil h0]
      refine TP.step (fun k => rfl) (TP.eqI (fun h => ?_) fun h => absurd (by omega) h)
      exact TP.bindN (pnone_noted (by simp at hW; omega) hN _ _) fun s hs => TP.some ⟨rfl, hs⟩
    by_cases h1 : l.length = 1
    · obtain ⟨x, rfl⟩ := List.length_eq_one_iff.1 h1
      rw [rootW_one h1] at hW ⊢
      rw [rootV_one h1]
      refine TP.step (fun k => rfl) (TP.eqI (fun h => by simp at h) fun _ => TP.eqI (fun _ => ?_) fun h => absurd rfl h)
      exact TP.optE (v := x) rfl (TP.some ⟨rfl, hN⟩)
    have h2 : 2 ≤ l.length := by omega
    have hlt := below_lt h2
    have hp := below_pos l.length
    cases m with
    | zero => omega
    | succ m =>
    rw [rootW_two h2] at hW ⊢
    rw [rootV_two h2]
    simp only [List.cons_append, List.length_cons, List.append_assoc] at hW ⊢
    have z1 : (rootW T (l.take (belowN l.length)) ++ W).length ≤ 20000 := by rw [List.length_append] at hW ⊢; rw [List.length_append] at hW; omega
    have e1 := rootV_size hT (hl.take (belowN l.length))
    have e2 := rootV_size hT (hl.drop (belowN l.length))
    refine TP.step (fun k => rfl) (TP.eqI (fun h => absurd h (by omega)) fun _ => TP.eqI (fun h => absurd h (by omega)) fun _ => ?_)
    refine TP.bindM (split_ok h2 (by omega)) fun _ => ?_
    refine TP.ck (by dsimp only; simp only [Bool.and_eq_true, decide_eq_true_eq]; omega) ?_
    refine TP.bindN (v := (rootV T (l.take (belowN l.length)), ())) (R := NS T (rootW T (l.take (belowN l.length)) ++ W)) ?_ fun s hs => ?_
    · dsimp only; rw [tkI]
      exact root_noted hT m _ (by rw [List.length_take]; omega) (by omega) (hl.take _) z1 hN _ _
    refine TP.ck (by dsimp only; simp only [Bool.and_eq_true, decide_eq_true_eq]; omega) ?_
    refine TP.bindN (v := (rootV T (l.drop (belowN l.length)), ())) (R := NS T (rootW T (l.drop (belowN l.length)) ++ (rootW T (l.take (belowN l.length)) ++ W))) ?_ fun s2 hs2 => ?_
    · dsimp only; rw [dkI]
      exact root_noted hT m _ (by rw [List.length_drop]; omega) (by omega) (hl.drop _) (by omega) hs _ _
    exact TP.bindN (node_noted _ _ (by dsimp only; omega) (by dsimp only; omega) (by omega) hs2 _ _) fun s3 hs3 => TP.some ⟨rfl, hs3⟩
theorem rootW_len : ∀ (m : Nat) (l : List ByteArray), l.length ≤ m → (rootW T l).length ≤ l.length + 1 ∧ (1 ≤ l.length → (rootW T l).length + 1 = l.length)
  | m, l, hm => by
    by_cases h0 : l.length = 0
    · rw [rootW_nil h0]; exact ⟨by simp, fun h => by omega⟩
    by_cases h1 : l.length = 1
    · rw [rootW_one h1, h1]; exact ⟨by simp, fun _ => rfl⟩
    have h2 : 2 ≤ l.length := by omega
    have hlt := below_lt h2
    have hp := below_pos l.length
    have tl := take_len h2
    have dl : (l.drop (belowN l.length)).length = l.length - belowN l.length := List.length_drop
    cases m with
    | zero => omega
    | succ m =>
      have r1 := (rootW_len m (l.take (belowN l.length)) (by omega)).2 (by omega)
      have r2 := (rootW_len m (l.drop (belowN l.length)) (by omega)).2 (by omega)
      rw [rootW_two h2, List.length_cons, List.length_append]
      exact ⟨by omega, fun _ => by omega⟩
theorem climb_noted (hT : Tok T) (x : ByteArray) (hx : x.size = 32) : ∀ (m i n : Nat) (p : List ByteArray), n ≤ m → m ≤ 1000000000 → i < n → S32 p → p.length ≤ 1000000000 → p.length = depthV i n → ∀ {W : List ByteArray}, p.length + W.length ≤ 20000 → ∀ {t f1 N}, Noted T W t f1 N → ∀ f2 c, TP (fun k => merkle_climb.f k x (i : Int) (n : Int) p t f1 f2 c T N) (fun v => v.1 = (climbV T x i n p, true, ()) ∧ NS T (climbW T x i n p ++ W) v.2 ∧ (climbW T x i n p).length = p.length)
  | m, i, n, p, hm, hb, hi, hp, hq, hd, W, hW, t, f1, N, hN, f2, c => by
    refine TP.step (fun k => rfl) (TP.eqI (fun h => TP.some ?_) fun h1 => TP.eqI (fun h => ?_) fun h0 => ?_)
    · rw [depthV_one (by omega)] at hd
      rw [climbV_one (by omega), climbW_one (by omega)]
      exact ⟨by rw [hd]; rfl, hN, hd.symm⟩
    · have h2 : 2 ≤ n := by omega
      by_cases hc : i < belowN n
      · rw [depthV_left h2 hc] at hd; omega
      · rw [depthV_right h2 hc] at hd; omega
    · have h2 : 2 ≤ n := by omega
      have hlt := below_lt h2
      have hpos := below_pos n
      have h0 : p.length ≠ 0 := by omega
      have hl := hp.last h0
      have hdl : p.dropLast.length = p.length - 1 := List.length_dropLast
      cases m with
      | zero => omega
      | succ m =>
      refine TP.bindM (split_ok h2 (by omega)) fun _ => TP.optE (lastI h0 hq) (TP.ck ?_ (TP.dec (fun hc => ?_) fun hc => ?_))
      · rw [wrap_i64 (by omega) (by omega)]; simp only [Bool.and_eq_true, decide_eq_true_eq]; omega
      · dsimp only at hc
        have hc : i < belowN n := by omega
        rw [depthV_left h2 hc] at hd
        have hz := climbV_size hT hx i (belowN n) p.dropLast
        refine TP.bindN (v := (climbV T x i (belowN n) p.dropLast, true, ())) (R := fun s => NS T (climbW T x i (belowN n) p.dropLast ++ W) s ∧ (climbW T x i (belowN n) p.dropLast).length = p.dropLast.length) ?_ fun s hs => ?_
        · rw [tlI h0 hq]
          exact climb_noted hT x hx m i (belowN n) _ (by omega) (by omega) hc hp.dropLast (by omega) (by omega) (by omega) hN _ _
        refine TP.bindN (node_noted _ _ (by dsimp only; omega) (by omega) (by rw [List.length_append]; omega) hs.1 _ _) fun s2 hs2 => TP.some ?_
        rw [climbV_left h2 hc, climbW_left h2 hc]
        exact ⟨rfl, hs2, by rw [List.length_cons, hs.2]; omega⟩
      · dsimp only at hc
        have hc : ¬ i < belowN n := by omega
        rw [depthV_right h2 hc] at hd
        have hz := climbV_size hT hx (i - belowN n) (n - belowN n) p.dropLast
        refine TP.bindN (v := (climbV T x (i - belowN n) (n - belowN n) p.dropLast, true, ())) (R := fun s => NS T (climbW T x (i - belowN n) (n - belowN n) p.dropLast ++ W) s ∧ (climbW T x (i - belowN n) (n - belowN n) p.dropLast).length = p.dropLast.length) ?_ fun s hs => ?_
        · rw [tlI h0 hq, show IntKind.wrap .i64 ((i : Int) - (belowN n : Int)) = ((i - belowN n : Nat) : Int) by rw [wrap_i64 (by omega) (by omega)]; omega, show IntKind.wrap .i64 ((n : Int) - (belowN n : Int)) = ((n - belowN n : Nat) : Int) by rw [wrap_i64 (by omega) (by omega)]; omega]
          exact climb_noted hT x hx m (i - belowN n) (n - belowN n) _ (by omega) (by omega) (by omega) hp.dropLast (by omega) (by omega) (by omega) hN _ _
        refine TP.bindN (node_noted _ _ (by omega) (by dsimp only; omega) (by rw [List.length_append]; omega) hs.1 _ _) fun s2 hs2 => TP.some ?_
        rw [climbV_right h2 hc, climbW_right h2 hc]
        exact ⟨rfl, hs2, by rw [List.length_cons, hs.2]; omega⟩
theorem Climb_noted (hT : Tok T) (x : ByteArray) (hx : x.size = 32) (i n : Nat) (p : List ByteArray) (hn : n ≤ 65536) (hi : i < n) (hp : S32 p) (hd : p.length = depthV i n) {W : List ByteArray} (hW : p.length + W.length ≤ 20000) {t f1 N} (hN : Noted T W t f1 N) (f2 c) :
    TP (fun k => merkle_Climb.f k x (i : Int) (n : Int) p t f1 f2 c T N) (fun v => v.1 = (climbV T x i n p, 0, ()) ∧ NS T (climbW T x i n p ++ W) v.2 ∧ (climbW T x i n p).length = p.length) := by
  have hd' := depth_le 16 i n (by omega)
  refine TP.step (fun k => rfl) (TP.dec (fun h => by omega) fun _ => TP.dec (fun h => by omega) fun _ => TP.dec (fun h => by omega) fun _ => TP.dec (fun h => by omega) fun _ => TP.dec (fun h => by omega) fun _ => ?_)
  refine TP.bindM (sums_ok [x] (by simp)) fun _ => TP.not (fun h => ?_) fun _ => TP.bindM (sums_ok p (by omega)) fun _ => TP.not (fun h => ?_) fun _ => ?_
  · have h : sumsB [x] = false := h
    rw [(sumsB_iff [x]).2 (S32.one hx)] at h; cases h
  · have h : sumsB p = false := h
    rw [(sumsB_iff p).2 hp] at h; cases h
  refine TP.step (fun k => rfl) (TP.bindN (climb_noted hT x hx n i n p (Nat.le_refl _) (by omega) hi hp (by omega) hd hW hN _ _) fun s hs => TP.no rfl (TP.some ⟨rfl, hs⟩))
theorem both_noted (hT : Tok T) : ∀ (m a n : Nat) (w : Bool) (old : ByteArray) (p : List ByteArray), n ≤ m → m ≤ 1000000000 → 1 ≤ a → a ≤ n → (w = true → old.size = 32) → S32 p → p.length ≤ 1000000000 → p.length = longV a n w → ∀ {W : List ByteArray}, 2 * p.length + W.length ≤ 20000 → ∀ {t f1 N}, Noted T W t f1 N → ∀ f2 c,
    TP (fun k => merkle_both.f k (a : Int) (n : Int) w old p t f1 f2 c T N) (fun v => v.1 = ((bothV T a n w old p).1, (bothV T a n w old p).2, true, ()) ∧ NS T (bothW T a n w old p ++ W) v.2 ∧ (bothW T a n w old p).length ≤ 2 * p.length)
  | m, a, n, w, old, p, hm, hb, h1, ha, ho, hp, hq, hd, W, hW, t, f1, N, hN, f2, c => by
    refine TP.step (fun k => rfl) (TP.eqI (fun h => TP.cond (fun hw => TP.some ?_) fun hw => TP.neI (fun h0 => ?_) fun h0 => ?_) fun hn => TP.eqI (fun h => ?_) fun h0 => ?_)
    · have h : a = n := by omega
      subst h; subst hw
      rw [longV_all] at hd
      rw [bothV_all, bothW_all]
      exact ⟨by rw [hd]; rfl, hN, Nat.zero_le _⟩
    · have h : a = n := by omega
      subst h; subst hw
      rw [longV_part] at hd; omega
    · have h : a = n := by omega
      subst h; subst hw
      have h0 : p.length = 1 := by omega
      obtain ⟨x, rfl⟩ := List.length_eq_one_iff.1 h0
      rw [bothV_part, bothW_all]
      exact TP.optE (v := x) rfl (TP.optE (v := x) rfl (TP.some ⟨rfl, hN, Nat.zero_le _⟩))
    · have hne : a ≠ n := by omega
      have h2 : 2 ≤ n := by omega
      by_cases hc : a ≤ belowN n
      · rw [longV_left h2 hne hc] at hd; omega
      · rw [longV_right h2 hne hc] at hd; omega
    · have hne : a ≠ n := by omega
      have h2 : 2 ≤ n := by omega
      have hlt := below_lt h2
      have hpos := below_pos n
      have h0 : p.length ≠ 0 := by omega
      have hl := hp.last h0
      have hdl : p.dropLast.length = p.length - 1 := List.length_dropLast
      cases m with
      | zero => omega
      | succ m =>
      refine TP.bindM (split_ok h2 (by omega)) fun _ => TP.optE (lastI h0 hq) (TP.ck ?_ (TP.dec (fun hc => ?_) fun hc => ?_))
      · rw [wrap_i64 (by omega) (by omega)]; simp only [Bool.and_eq_true, decide_eq_true_eq]; omega
      · dsimp only at hc
        have hc : a ≤ belowN n := by omega
        rw [longV_left h2 hne hc] at hd
        obtain ⟨z1, z2⟩ := bothV_size hT _ a (belowN n) w old p.dropLast (Nat.le_refl _) h1 hc ho hp.dropLast (by omega)
        refine TP.bindN (v := ((bothV T a (belowN n) w old p.dropLast).1, (bothV T a (belowN n) w old p.dropLast).2, true, ())) (R := fun s => NS T (bothW T a (belowN n) w old p.dropLast ++ W) s ∧ (bothW T a (belowN n) w old p.dropLast).length ≤ 2 * p.dropLast.length) ?_ fun s hs => ?_
        · rw [tlI h0 hq]
          exact both_noted hT m a (belowN n) w old _ (by omega) (by omega) h1 hc ho hp.dropLast (by omega) (by omega) (by omega) hN _ _
        refine TP.bindN (node_noted _ _ (by dsimp only; omega) (by omega) (by rw [List.length_append]; omega) hs.1 _ _) fun s2 hs2 => TP.some ?_
        rw [bothV_left h2 hne hc, bothW_left h2 hne hc]
        exact ⟨rfl, hs2, by rw [List.length_cons]; omega⟩
      · dsimp only at hc
        have hc : ¬ a ≤ belowN n := by omega
        rw [longV_right h2 hne hc] at hd
        obtain ⟨z1, z2⟩ := bothV_size hT _ (a - belowN n) (n - belowN n) false ⟨#[]⟩ p.dropLast (Nat.le_refl _) (by omega) (by omega) (fun h => by cases h) hp.dropLast (by omega)
        refine TP.bindN (v := ((bothV T (a - belowN n) (n - belowN n) false ⟨#[]⟩ p.dropLast).1, (bothV T (a - belowN n) (n - belowN n) false ⟨#[]⟩ p.dropLast).2, true, ())) (R := fun s => NS T (bothW T (a - belowN n) (n - belowN n) false ⟨#[]⟩ p.dropLast ++ W) s ∧ (bothW T (a - belowN n) (n - belowN n) false ⟨#[]⟩ p.dropLast).length ≤ 2 * p.dropLast.length) ?_ fun s hs => ?_
        · rw [tlI h0 hq, show IntKind.wrap .i64 ((a : Int) - (belowN n : Int)) = ((a - belowN n : Nat) : Int) by rw [wrap_i64 (by omega) (by omega)]; omega, show IntKind.wrap .i64 ((n : Int) - (belowN n : Int)) = ((n - belowN n : Nat) : Int) by rw [wrap_i64 (by omega) (by omega)]; omega]
          exact both_noted hT m (a - belowN n) (n - belowN n) false ⟨#[]⟩ _ (by omega) (by omega) (by omega) (by omega) (fun h => by cases h) hp.dropLast (by omega) (by omega) (by omega) hN _ _
        refine TP.bindN (node_noted _ _ (by omega) (by dsimp only; omega) (by rw [List.length_append]; omega) hs.1 _ _) fun s2 hs2 => TP.bindN (node_noted _ _ (by omega) (by dsimp only; omega) (by rw [List.length_cons, List.length_append]; omega) hs2 _ _) fun s3 hs3 => TP.some ?_
        rw [bothV_right h2 hne hc, bothW_right h2 hne hc]
        exact ⟨rfl, hs3, by rw [List.length_cons, List.length_cons]; omega⟩
/-- A growth that is believed, of one leaf at least. -/
theorem grown_noted (hT : Tok T) (a : Nat) (x : ByteArray) (n : Nat) (y : ByteArray) (p : List ByteArray) (h1 : 1 ≤ a) (ha : a ≤ n) (hn : n ≤ 65536) (hx : x.size = 32) (hy : y.size = 32) (hp : S32 p) (hd : p.length = longV a n true) (he : bothV T a n true x p = (x, y)) {W : List ByteArray} (hW : 2 * p.length + W.length ≤ 20000) {t f1 N} (hN : Noted T W t f1 N) (f2 c) :
    TP (fun k => merkle_Grown.f k ((a : Int), x, ()) ((n : Int), y, ()) p t f1 f2 c T N) (fun v => v.1 = (0, ()) ∧ NS T (bothW T a n true x p ++ W) v.2) := by
  have hd' := long_le 16 a n true (by omega)
  refine TP.step (fun k => rfl) (TP.dec (fun h => by dsimp only at h; omega) fun _ => TP.dec (fun h => by dsimp only at h; omega) fun _ => ?_)
  refine TP.bindM (sums_ok [x, y] (by simp)) fun _ => TP.not (fun h => ?_) fun _ => TP.dec (fun h => by omega) fun _ => TP.bindM (sums_ok p (by omega)) fun _ => TP.not (fun h => ?_) fun _ => ?_
  · have h : sumsB [x, y] = false := h
    rw [show sumsB [x, y] = true from (sumsB_iff [x, y]).2 ((S32.one hx).app (S32.one hy))] at h; cases h
  · have h : sumsB p = false := h
    rw [(sumsB_iff p).2 hp] at h; cases h
  have hB := both_noted hT n a n true x p (Nat.le_refl _) (by omega) h1 ha (fun _ => hx) hp (by omega) hd hW hN
  rw [he] at hB
  refine TP.step (fun k => rfl) (TP.eqI (fun h => by dsimp only at h; omega) fun _ => TP.bindN (v := (x, y, true, ())) (R := fun s => NS T (bothW T a n true x p ++ W) s ∧ (bothW T a n true x p).length ≤ 2 * p.length) (hB _ _) fun s hs => ?_)
  exact TP.no rfl (TP.neT (fun h => absurd rfl h) fun _ => TP.neT (fun h => absurd rfl h) fun _ => TP.some ⟨rfl, hs.1⟩)
theorem twins_ok (t : ByteArray × ByteArray × Unit) (f1 f2 n N) : TP (fun k => mill_Mill_Twins.f k t f1 f2 n T N) (fun v => v.1 = (t.1, t.2.1, f1, ())) :=
  TP.step (fun k => rfl) (TP.bindM (none_ok _ _ _ _ _) fun _ => TP.no rfl (TP.some rfl))
end
end Go.Proofs.Ytoceopdoedmgoaa.Pure
