/- Plain laws: what a mill notes of all that it sums. -/
import Derived.Test.YtioagphpiflplaaPMerkR
import Derived.Test.YtioagphpiflplaaPInj
namespace Go.Proofs.Ytioagphpiflplaa.Pure
open Go Go.Proofs.Ytioagphpiflplaa.E Go.Proofs.Ytioagphpiflplaa.Eng
set_option linter.unusedVariables false
set_option linter.unusedSimpArgs false

theorem mput_has (s v x : ByteArray) : ∀ N, mhas x (mput s v N) = true ↔ x = s ∨ mhas x N = true
  | [] => by
    unfold mput mhas
    cases h : seqB x s with
    | true => simp [(seqB_iff x s).1 h]
    | false => simp [mhas, show x ≠ s from fun e => by rw [(seqB_iff x s).2 e] at h; cases h]
  | (a, b) :: r => by
    have ih := mput_has s v x r
    unfold mput
    cases hs : seqB s a with
    | true =>
      have := (seqB_iff s a).1 hs
      subst this
      simp only [mhas]
      cases hx : seqB x s with
      | true => simp [(seqB_iff x s).1 hx]
      | false => simp [show x ≠ s from fun e => by rw [(seqB_iff x s).2 e] at hx; cases hx]
    | false =>
      simp only [mhas]
      cases hx : seqB x a with
      | true => simp
      | false => simpa using ih
theorem mput_get (s v x : ByteArray) : ∀ N, mgetD x (mput s v N) = if x = s then v else mgetD x N
  | [] => by
    unfold mput mgetD
    cases h : seqB x s with
    | true => simp [(seqB_iff x s).1 h]
    | false => simp [mgetD, show x ≠ s from fun e => by rw [(seqB_iff x s).2 e] at h; cases h]
  | (a, b) :: r => by
    have ih := mput_get s v x r
    unfold mput
    cases hs : seqB s a with
    | true =>
      have := (seqB_iff s a).1 hs
      subst this
      simp only [mgetD]
      cases hx : seqB x s with
      | true => simp [(seqB_iff x s).1 hx]
      | false => simp [show x ≠ s from fun e => by rw [(seqB_iff x s).2 e] at hx; cases hx]
    | false =>
      simp only [mgetD]
      cases hx : seqB x a with
      | true =>
        have := (seqB_iff x a).1 hx
        subst this
        rw [if_neg (fun e => by rw [(seqB_iff s x).2 e.symm] at hs; cases hs)]
      | false => exact ih
theorem mput_len (s v : ByteArray) : ∀ N, (mput s v N).length ≤ N.length + 1
  | [] => Nat.le_refl _
  | (a, b) :: r => by
    unfold mput
    cases seqB s a with
    | true => simp
    | false => have := mput_len s v r; simp only [List.length_cons]; omega

/-- All these texts are noted, or two unlike ones of one sum are. -/
structure Noted (T : Tab) (W : List ByteArray) (t : ByteArray × ByteArray × Unit) (f : Bool) (N : Tab) : Prop where
  tw : f = true → t.1 ≠ t.2.1
  nt : f = false → ∀ w ∈ W, mhas (hashV T w) N = true ∧ mgetD (hashV T w) N = w
  len : N.length ≤ W.length
  tws : f = true → hashV T t.1 = hashV T t.2.1 ∧ t.1.size ≤ 100000000 ∧ t.2.1.size ≤ 100000000
  sd : ∀ h, mhas h N = true → hashV T (mgetD h N) = h ∧ (mgetD h N).size ≤ 100000000
  fr : f = false → t.1 = ByteArray.empty ∧ t.2.1 = ByteArray.empty
abbrev MStN := (Unit × Unit × (ByteArray × ByteArray × Unit) × Bool × Bool × Int × Unit) × ((List (ByteArray × ByteArray)) × Unit) × Unit
def NS (T : Tab) (W : List ByteArray) (s : MStN) : Prop := Noted T W s.1.2.2.1 s.1.2.2.2.1 s.2.1.1
theorem Noted.apart {T : Tab} {W : List ByteArray} {t f N} (h : Noted T W t f N) (hf : f = false) : Apart T W := fun x hx y hy e => by
  have h1 := (h.nt hf x hx).2
  have h2 := (h.nt hf y hy).2
  rw [e] at h1
  exact h1.symm.trans h2
theorem TP.bindN {α β γ : Type} {f : Nat → Option (α × γ)} {g : α × γ → Nat → Option β} {v : α} {R : γ → Prop} {Q : β → Prop} (h : TP f (fun x => x.1 = v ∧ R x.2)) (h' : ∀ s, R s → TP (g (v, s)) Q) : TP (fun k => (f k).bind fun x => g x k) Q :=
  TP.bind h fun x hx => by
    obtain ⟨a, s⟩ := x
    obtain ⟨h1, h2⟩ := hx
    have : a = v := h1
    subst this
    exact h' s h2
section
variable {T : Tab}
theorem note_noted (s : ByteArray) (hs : s.size ≤ 100000000) {W : List ByteArray} (hW : W.length < 20000) {t f1 N} (hN : Noted T W t f1 N) (f2 n) : TP (fun k => mill_Mill_note.f k s (hashV T s) t f1 f2 n T N) (fun v => NS T (s :: W) v.2) := by
  have hl := hN.len
  refine TP.step (fun k => rfl) (TP.cond (fun h1 => TP.neT (fun h2 => TP.not (fun h3 => TP.some ?_) fun h3 => TP.yes h1 (TP.some ?_)) fun h2 => TP.yes h1 (TP.some ?_)) fun h1 => TP.no h1 (TP.dec (fun h => absurd h (by omega)) fun _ => TP.some ?_))
  · exact ⟨fun _ => h2, (fun h => nomatch h), Nat.le_succ_of_le hl, fun _ => ⟨(hN.sd _ h1).1, (hN.sd _ h1).2, hs⟩, hN.sd, fun h => nomatch h⟩
  · exact ⟨hN.tw, fun h => absurd (h3.symm.trans h) (by decide), Nat.le_succ_of_le hl, hN.tws, hN.sd, hN.fr⟩
  · refine ⟨hN.tw, fun h w hw => ?_, Nat.le_succ_of_le hl, hN.tws, hN.sd, hN.fr⟩
    rcases List.mem_cons.1 hw with rfl | hw
    · exact ⟨h1, h2⟩
    · exact hN.nt h w hw
  · refine ⟨hN.tw, fun h w hw => ?_, Nat.le_trans (mput_len _ _ _) (Nat.succ_le_succ hl), hN.tws, fun h hh => ?_, hN.fr⟩
    · show mhas _ (mput _ _ N) = true ∧ mgetD _ (mput _ _ N) = w
      rw [mput_has, mput_get]
      rcases List.mem_cons.1 hw with rfl | hw
      · exact ⟨Or.inl rfl, if_pos rfl⟩
      · obtain ⟨h3, h4⟩ := hN.nt h w hw
        have : hashV T w ≠ hashV T s := fun e => by rw [e, h1] at h3; cases h3
        exact ⟨Or.inr h3, by rw [if_neg this]; exact h4⟩
    · have hh : mhas h (mput (hashV T s) s N) = true := hh
      show hashV T (mgetD h (mput (hashV T s) s N)) = h ∧ (mgetD h (mput (hashV T s) s N)).size ≤ 100000000
      rw [mput_has] at hh
      rw [mput_get]
      by_cases e : h = hashV T s
      · rw [if_pos e]; exact ⟨e.symm, hs⟩
      · rw [if_neg e]; exact hN.sd h (hh.resolve_left e)
theorem sum_noted (s : ByteArray) (hs : s.size ≤ 100000000) {W : List ByteArray} (hW : W.length < 20000) {t f1 N} (hN : Noted T W t f1 N) (f2 n) : TP (fun k => mill_Mill_Sum.f k s t f1 f2 n T N) (fun v => v.1 = (hashV T s, ()) ∧ NS T (s :: W) v.2) := by
  refine TP.step (fun k => rfl) (TP.bindM (none_ok _ _ _ _ _) fun _ => TP.no rfl (TP.bindM (name_ok _ s hs) fun _ => TP.cond (fun h => ?_) fun h => ?_))
  · have h' : mhas ((⟨#[115]⟩ : ByteArray) ++ s) T = false := by simpa using h
    have e : hashV T s = shaV s := by unfold hashV; rw [h']; rfl
    have hn := note_noted s hs hW hN f2 n
    rw [e] at hn ⊢
    exact TP.bindR (sha_ok s hs) (TP.bind hn fun v hv => TP.some ⟨rfl, hv⟩)
  · have h' : mhas ((⟨#[115]⟩ : ByteArray) ++ s) T = true := by simpa using h
    have e : hashV T s = mgetD ((⟨#[115]⟩ : ByteArray) ++ s) T := by unfold hashV; rw [h']; rfl
    have hn := note_noted s hs hW hN f2 n
    rw [e] at hn ⊢
    exact TP.bind hn fun v hv => TP.some ⟨rfl, hv⟩
theorem node_noted (a b : ByteArray) (ha : a.size ≤ 1000000) (hb : b.size ≤ 1000000) {W : List ByteArray} (hW : W.length < 20000) {t f1 N} (hN : Noted T W t f1 N) (f2 n) : TP (fun k => pledge_Node.f k a b t f1 f2 n T N) (fun v => v.1 = (nodeV T a b, ()) ∧ NS T (nodeT a b :: W) v.2) :=
  TP.step (fun k => rfl) (TP.ck (by apply decide_eq_true; show 1 + a.size ≤ _; omega) (TP.ck (by apply decide_eq_true; rw [ByteArray.size_append]; show 1 + a.size + b.size ≤ _; omega)
    (TP.bindN (sum_noted _ (by rw [ByteArray.size_append, ByteArray.size_append]; show 1 + a.size + b.size ≤ _; omega) hW hN _ _) fun s hs => TP.some ⟨rfl, hs⟩)))
theorem pnone_noted {W : List ByteArray} (hW : W.length < 20000) {t f1 N} (hN : Noted T W t f1 N) (f2 n) : TP (fun k => pledge_None.f k t f1 f2 n T N) (fun v => v.1 = (noneV T, ()) ∧ NS T ((⟨#[]⟩ : ByteArray) :: W) v.2) :=
  TP.step (fun k => rfl) (TP.bindN (sum_noted _ (by show 0 ≤ _; omega) hW hN _ _) fun s hs => TP.some ⟨rfl, hs⟩)
theorem twins_ok (t : ByteArray × ByteArray × Unit) (f1 f2 n N) : TP (fun k => mill_Mill_Twins.f k t f1 f2 n T N) (fun v => v.1 = (t.1, t.2.1, f1, ())) :=
  TP.step (fun k => rfl) (TP.bindM (none_ok _ _ _ _ _) fun _ => TP.no rfl (TP.some rfl))
end
end Go.Proofs.Ytioagphpiflplaa.Pure
