/- Plain laws of chapter 28: auditors whose checkpoints are those of one list of leaves. -/
import Derived.Test.YtfbpkpnnglhbcaaP28a
import Derived.Test.YtfbpkpnnglhbcaaP28b
import Derived.Test.YtfbpkpnnglhbcaaPLaw07
namespace Go.Proofs.Ytfbpkpnnglhbcaa.Pure
open Go Go.Proofs.Ytfbpkpnnglhbcaa.E Go.Proofs.Ytfbpkpnnglhbcaa.Eng
set_option linter.unusedVariables false
set_option linter.unusedSimpArgs false
theorem grow_right (l : List ByteArray) (hb : l.length ≤ 40) (hl : S32 l) (a : Nat) (ha : a ≤ l.length) : S32 (GrowthA [] l a).1 ∧ (GrowthA [] l a).1.length ≤ 17 ∧ (GrowthA [] l a).2 = (0, ()) ∧
  GrownA [] (a : Int) (rootV [] (l.take a)) (l.length : Int) (rootV [] l) (GrowthA [] l a).1 = 0 := by
 have hs := rootV_size (T := []) tok_nil hl
 have hs' := rootV_size (T := []) tok_nil (hl.take a)
 have hp : S32 (GrowthA [] l a).1 ∧ (GrowthA [] l a).1.length ≤ 17 := by
  unfold GrowthA
  rw [if_neg (by omega)]
  by_cases h0 : a = 0
  ·rw [if_pos (by omega)]; exact ⟨(fun x hx => nomatch hx), Nat.zero_le _⟩
  ·rw [if_neg (by omega)]
   obtain ⟨h1, h2⟩ := growV_s32 tok_nil l.length l (Nat.le_refl _) hl a true (by omega) ha
   have := long_le 16 a l.length true (by omega)
   exact ⟨h1, by dsimp only; rw [Int.toNat_natCast]; omega⟩
 refine ⟨hp.1, hp.2, by unfold GrowthA; rw [if_neg (by omega)]; split <;> rfl, ?_⟩
 unfold GrownA
 rw [if_neg (by omega), if_neg (by omega), if_neg]
 ·by_cases h0 : a = 0
  ·subst h0
   have e0 : (GrowthA [] l ((0 : Nat) : Int)).1 = [] := by unfold GrowthA; rw [if_neg (by omega), if_pos (show ((0 : Nat) : Int) = 0 from rfl)]
   rw [if_pos (show ((0 : Nat) : Int) = 0 from rfl), if_neg, if_neg]
   ·rw [e0]; decide
   ·rintro (h | ⟨h1, h2⟩)
    ·exact h (rootV_nil rfl)
    ·have : l.length = 0 := by omega
     rw [rootV_nil this, List.take_zero, rootV_nil rfl] at h2
     exact h2 rfl
  ·have e0 : (GrowthA [] l (a : Int)).1 = growV [] l a true := by unfold GrowthA; rw [if_neg (by omega), if_neg (by omega)]; rfl
   rw [if_neg (by omega), Int.toNat_natCast, Int.toNat_natCast, e0, if_neg, if_neg]
   ·rw [both_grow l.length l (Nat.le_refl _) a true _ (by omega) ha (fun _ => rfl)]; exact fun h => h rfl
   ·exact fun h => h (growV_s32 tok_nil l.length l (Nat.le_refl _) hl a true (by omega) ha).2
 ·rintro (h | h)
  ·omega
  ·rw [(sumsB_iff _).2 hp.1] at h; cases h
noncomputable def ptAt (l : List ByteArray) (a : Nat) : Pt := ((a : Int), rootV [] (l.take a), ())
def Pts (l : List ByteArray) (pts : List Pt) : Prop := ∀ p ∈ pts, ∃ a : Nat, a ≤ l.length ∧ p = ptAt l a
theorem Pts.nil (l : List ByteArray) : Pts l [] := fun p hp => by cases hp
theorem Pts.app {l : List ByteArray} {pts : List Pt} (h : Pts l pts) {a : Nat} (ha : a ≤ l.length) : Pts l (pts ++ [ptAt l a]) := fun p hp => by
 rcases List.mem_append.1 hp with hp | hp
 ·exact h p hp
 ·exact ⟨a, ha, List.mem_singleton.1 hp⟩
theorem Pts.root {l : List ByteArray} {x y : List Pt} (hx : Pts l x) (hy : Pts l y) {p q : Pt} (hp : p ∈ x) (hq : q ∈ y) (h : p.1 = q.1) : p.2.1 = q.2.1 := by
 obtain ⟨a, _, rfl⟩ := hx p hp
 obtain ⟨b, _, rfl⟩ := hy q hq
 have : a = b := Int.ofNat.inj h
 subst this; rfl
theorem vIn_no {l : List ByteArray} {a : Pt} : ∀ {y : List Pt} {s : Vd}, (∀ q ∈ y, a.1 = q.1 → a.2.1 = q.2.1) → s.2.1 = false → (vIn a y s).2.1 = false
 | [], s, _, hs => hs
 | q :: y, s, h, hs => by
  unfold vIn
  rw [List.foldl_cons]
  refine vIn_no (l := l) (y := y) (fun q' hq => h q' (List.mem_cons_of_mem _ hq)) ?_
  unfold vOne
  by_cases h1 : a.1 = q.1
  ·rw [if_pos h1, if_pos (h q (by simp) h1)]; exact hs
  ·rw [if_neg h1]; exact hs
theorem verd_no {l : List ByteArray} {x y : List Pt} (hx : Pts l x) (hy : Pts l y) : (verd x y).2.1 = false := by
 have key : ∀ (x' : List Pt) (s : Vd), (∀ p ∈ x', p ∈ x) → s.2.1 = false → (vOut x' y s).2.1 = false := by
  intro x'
  induction x' with
  | nil => intro s _ hs; exact hs
  | cons p x' ih =>
   intro s h hs
   unfold vOut
   rw [List.foldl_cons]
   refine ih _ (fun q hq => h q (List.mem_cons_of_mem _ hq)) ?_
   exact vIn_no (l := l) (fun q hq => Pts.root hx hy (h p (by simp)) hq) hs
 exact key x v0 (fun _ h => h) rfl
-- what an auditor is asked
section
variable (pts : List Pt) (q : List (Pt × Pt × Unit)) (sn : Int) (t : ByteArray × ByteArray × Unit) (f1 f2 : Bool) (c : Int) (T N : List (ByteArray × ByteArray))
theorem anone_ok : Runs (fun k => auditor_Auditor_none.f k pts q sn t f1 f2 c T N) ((false, ()), ()) := Runs.step (fun k => rfl) Runs.some
theorem acount_ok : Runs (fun k => auditor_Auditor_count.f k pts q sn t f1 f2 c T N) ((), (((), pts, q, IntKind.wrap .i64 (sn + 1), ()), ())) := Runs.step (fun k => rfl) Runs.some
theorem clone_ok (h : pts.length ≤ 1000000) : Runs (fun k => slices_Clone_api_Point.f k pts) ((pts, ()), ()) := by
 have hc : decide ((([] : List Pt).length + pts.length) * 24 ≤ 70368744177664) = true := by apply decide_eq_true; simp only [List.length_nil]; omega
 refine Runs.step (fun k => rfl) (Runs.cond (fun hn => ?_) fun hn => Runs.ck hc (Runs.some' rfl))
 have he : pts = [] := by
  cases pts with
  | nil => rfl
  | cons a b => cases hn
 subst he
 exact ⟨0, fun k _ => bothE_same _⟩
theorem points_ok (h : pts.length ≤ 1000000) : Runs (fun k => auditor_Auditor_Points.f k pts q sn t f1 f2 c T N) ((pts, ()), ()) :=
 Runs.step (fun k => rfl) (Runs.bind (anone_ok ..) (Runs.no rfl (Runs.bind (clone_ok pts h) Runs.some)))
def lastP (pts : List Pt) : Pt := pts.getLastD (0, ByteArray.empty, ())
theorem last_ok (h : pts.length ≤ 1000000) : TP (fun k => auditor_Auditor_Last.f k pts q sn t f1 f2 c T N) (fun v => v.1 = (lastP pts, decide (pts ≠ []), ())) := by
 refine TP.step (fun k => rfl) (TP.bindR (anone_ok ..) (TP.no rfl (TP.cond (fun he => TP.some ?_) fun he => ?_)))
 ·have : pts = [] := List.eq_nil_of_length_eq_zero (by have := eq_of_beq he; omega)
  subst this; rfl
 ·have hne : pts.length ≠ 0 := fun e => by rw [e] at he; cases he
  have hlt : pts.length - 1 < pts.length := by omega
  have e : IntKind.wrap .i64 ((pts.length : Int) - 1) = ((pts.length - 1 : Nat) : Int) := by rw [wrap_i64 (by omega) (by omega)]; omega
  refine TP.step (fun k => rfl) (TP.optE (v := pts[pts.length - 1]) (by rw [e]; exact rdo_at hlt) (TP.some ?_))
  have hn : pts ≠ [] := fun e => hne (by rw [e]; rfl)
  have : lastP pts = pts[pts.length - 1] := by
   unfold lastP
   rw [List.getLastD_eq_getLast?, List.getLast?_eq_getElem?]
   simp [hlt]
  rw [this, decide_eq_true hn]
theorem index_ok (n : Int) (h : pts.length ≤ 1000000) : ∀ (m i : Nat), i + m = pts.length → TP (fun k => slices_IndexFunc_api_Point_v0.l0 k pts (pts.length : Int) (i : Int) n) (fun v => (∃ (j : Nat) (hj : j < pts.length), v.1.1 = (j : Int) ∧ pts[j].1 = n) ∨ (v.1.1 = -1 ∧ ∀ p ∈ pts.drop i, p.1 ≠ n))
 | 0, i, hi => TP.step (fun k => rfl) (TP.dec (fun h' => absurd h' (by omega)) fun _ => TP.some (.inr ⟨rfl, fun p hp => by rw [List.drop_eq_nil_of_le (by omega)] at hp; cases hp⟩))
 | m + 1, i, hi => by
  have hlt : i < pts.length := by omega
  refine TP.step (fun k => rfl) (TP.dec (fun _ => TP.optE (rdo_at hlt) (TP.bindR (v := (((pts[i].1 : Int) == n, ()), ())) (Runs.step (fun k => rfl) Runs.some) (TP.eqI (fun e => TP.some (.inl ⟨i, hlt, rfl, e⟩)) fun e => ?_))) fun h' => absurd (show (i : Int) < (pts.length : Int) by omega) h')
  rw [nextI hlt (by omega)]
  refine (index_ok n h m (i + 1) (by omega)).mono fun v hv => hv.imp id fun ⟨h1, h2⟩ => ⟨h1, fun p hp => ?_⟩
  rw [List.drop_eq_getElem_cons hlt] at hp
  rcases List.mem_cons.1 hp with hp | hp
  ·rw [hp]; exact e
  ·exact h2 p hp
theorem known_ok (n : Int) (h : pts.length ≤ 1000000) : TP (fun k => auditor_Auditor_known.f k n pts q sn t f1 f2 c T N) (fun v => (v.1.2.1 = true ∧ v.1.1 ∈ pts ∧ v.1.1.1 = n) ∨ (v.1.2.1 = false ∧ ∀ p ∈ pts, p.1 ≠ n)) := by
 refine TP.step (fun k => rfl) (TP.bind (TP.step (fun k => rfl) (index_ok pts n h pts.length 0 (Nat.zero_add _))) fun v hv => ?_)
 obtain ⟨⟨i, ⟨⟩⟩, ⟨⟩⟩ := v
 rcases hv with ⟨j, hj, h1, h2⟩ | ⟨h1, h2⟩
 ·have h1 : i = (j : Int) := h1
  subst h1
  refine TP.dec (fun h' => absurd h' (by omega)) fun _ => TP.optE (rdo_at hj) (TP.some (.inl ⟨rfl, List.getElem_mem hj, h2⟩))
 ·have h1 : i = -1 := h1
  subst h1
  exact TP.yes rfl (TP.some (.inr ⟨rfl, by rw [List.drop_zero] at h2; exact h2⟩))
end
theorem last_at {l : List ByteArray} {pts : List Pt} (h : Pts l pts) : (pts = [] ∧ (lastP pts).1 = 0) ∨ (pts ≠ [] ∧ ∃ a : Nat, a ≤ l.length ∧ lastP pts = ptAt l a ∧ ptAt l a ∈ pts) := by
 by_cases he : pts = []
 ·subst he; exact .inl ⟨rfl, rfl⟩
 ·refine .inr ⟨he, ?_⟩
  have e : lastP pts = pts.getLast he := by unfold lastP; rw [List.getLastD_eq_getLast?, List.getLast?_eq_some_getLast he]; rfl
  have hm := List.getLast_mem he
  obtain ⟨a, ha, hp⟩ := h _ hm
  exact ⟨a, ha, by rw [e, hp], hp ▸ hm⟩
theorem meet_ok (l : List ByteArray) (hb : l.length ≤ 40) (hl : S32 l) {pts : List Pt} (hp : Pts l pts) (hlen : pts.length ≤ 1000) (n : Nat) (hn : n ≤ l.length) (hla : (lastP pts).1 ≤ (n : Int)) (q : List (Pt × Pt × Unit)) (sn : Int) (t f1 f2 c N) :
  TP (fun k => auditor_Auditor_Meet.f k (gL (n : Int) (rootV [] (l.take n)) (GrowthA [] (l.take n) (lastP pts).1).1) pts q sn t f1 f2 c [] N) (fun v => (v.1.1 = 0 ∨ v.1.1 = 25) ∧ Pts l v.2.1.2.1 ∧ v.2.1.2.1.length ≤ pts.length + 1) := by
 have hln : (l.take n).length = n := by rw [List.length_take]; omega
 have hs := rootV_size (T := []) tok_nil (hl.take n)
 obtain ⟨a, ha0, ha1, haR⟩ : ∃ a : Nat, (lastP pts).1 = (a : Int) ∧ a ≤ n ∧ (pts ≠ [] → (lastP pts).2.1 = rootV [] (l.take a)) := by
  rcases last_at hp with ⟨he, h0⟩ | ⟨_, a, ha, h0, _⟩
  ·exact ⟨0, h0, Nat.zero_le _, fun h => absurd he h⟩
  ·have : (lastP pts).1 = (a : Int) := by rw [h0]; rfl
   exact ⟨a, this, by omega, fun _ => by rw [h0]; rfl⟩
 have hG := grow_right (l.take n) (by omega) (hl.take n) a (by omega)
 rw [ha0]
 obtain ⟨g1, g2, _, g4⟩ := hG
 rw [List.take_take, Nat.min_eq_left ha1, hln] at g4
 have hok : GrOk (n : Int) (rootV [] (l.take n)) (GrowthA [] (l.take n) (a : Int)).1 := ⟨by omega, by omega, hs, g1, g2⟩
 have hr := rgrowth_ok hok
 generalize (GrowthA [] (l.take n) (a : Int)).1 = P at g1 g2 g4 hok hr ⊢
 refine TP.step (fun k => rfl) (TP.bindR (anone_ok ..) (TP.no rfl (TP.bindR hr (TP.no rfl (TP.bind (known_ok pts q sn t f1 f2 c [] N (n : Int) (by omega)) fun v hv => ?_)))))
 obtain ⟨⟨p, b, ⟨⟩⟩, ⟨⟩⟩ := v
 rcases hv with ⟨hv1, hv2, hv3⟩ | ⟨hv1, hv2⟩
 ·have hv1 : b = true := hv1
  subst hv1
  obtain ⟨a', ha', hp'⟩ := hp p hv2
  have hv3 : p.1 = (n : Int) := hv3
  have e : a' = n := by rw [hp'] at hv3; exact Int.ofNat.inj hv3
  subst e
  refine TP.yes rfl (TP.no ?_ (TP.bindR (acount_ok ..) (TP.some ⟨.inr rfl, hp, Nat.le_succ _⟩)))
  rw [beq_text, Bool.not_eq_false']
  exact decide_eq_true (by rw [hp']; rfl)
 ·have hv1 : b = false := hv1
  subst hv1
  refine TP.no rfl (TP.bindM (last_ok pts q sn t f1 f2 c [] N (by omega)) fun s => ?_)
  have fin : ∀ (x : ByteArray) (t f1 f2 c N), (a : Int) = (a : Int) → x = rootV [] (l.take a) → TP (fun k => auditor_Auditor_Meet.j0 k pts q sn t f1 f2 c [] N ((n : Int), rootV [] (l.take n), ()) P (a : Int) x) (fun v => (v.1.1 = 0 ∨ v.1.1 = 25) ∧ Pts l v.2.1.2.1 ∧ v.2.1.2.1.length ≤ pts.length + 1) := by
   intro x t f1 f2 c N _ hx
   subst hx
   have hg := grown_ok tok_nil (a : Int) (rootV [] (l.take a)) (n : Int) (rootV [] (l.take n)) P (by omega) t f1 f2 c N
   rw [g4] at hg
   refine TP.step (fun k => rfl) (TP.bindM hg fun s => TP.neI (fun h => absurd rfl h) fun _ => TP.ck (by apply decide_eq_true; simp only [List.length_cons, List.length_nil]; omega) (TP.bindR (acount_ok ..) (TP.some ⟨.inl rfl, hp.app hn, ?_⟩)))
   show (pts ++ [_]).length ≤ _
   rw [List.length_append]; exact Nat.le_refl _
  rcases last_at hp with ⟨he, h0⟩ | ⟨he, _⟩
  ·have ha : a = 0 := by omega
   subst ha
   refine TP.yes (by rw [decide_eq_false (fun h => h he)]; rfl) (TP.bindM (pnone_ok _ _ _ _ _) fun s => fin _ _ _ _ _ _ rfl (by rw [List.take_zero, rootV_nil rfl]))
  ·refine TP.no (by rw [decide_eq_true he]; rfl) ?_
   show TP (fun k => auditor_Auditor_Meet.j0 k pts q sn t f1 f2 c [] N ((n : Int), rootV [] (l.take n), ()) P (lastP pts).1 (lastP pts).2.1) _
   rw [ha0]
   exact fin _ _ _ _ _ _ rfl (haR he)
end Go.Proofs.Ytfbpkpnnglhbcaa.Pure
