/- Plain laws of chapter 28: the verdict of two lists of checkpoints. -/
import Derived.Test.YtfbpkpnnglhbcaaPComb
namespace Go.Proofs.Ytfbpkpnnglhbcaa.Pure
open Go Go.Proofs.Ytfbpkpnnglhbcaa.E Go.Proofs.Ytfbpkpnnglhbcaa.Eng
set_option linter.unusedVariables false
set_option linter.unusedSimpArgs false
abbrev Pt := Int × ByteArray × Unit
abbrev Vd := (Pt × Pt × Unit) × Bool × Int × Unit
def vOne (a b : Pt) (s : Vd) : Vd := if a.1 = b.1 then (if a.2.1 = b.2.1 then (s.1, s.2.1, IntKind.wrap .i64 (s.2.2.1 + 1), ()) else if s.2.1 = false then (((a.1, a.2.1, ()), (b.1, b.2.1, ()), ()), true, s.2.2.1, ()) else s) else s
def vIn (a : Pt) (y : List Pt) (s : Vd) : Vd := y.foldl (fun s b => vOne a b s) s
def vOut (x y : List Pt) (s : Vd) : Vd := x.foldl (fun s a => vIn a y s) s
def v0 : Vd := (((0, ByteArray.empty, ()), (0, ByteArray.empty, ()), ()), false, 0, ())
def verd (x y : List Pt) : Vd := vOut x y v0
theorem nextI {j n : Nat} (h : j < n) (hn : n ≤ 1000000000) : IntKind.wrap .i64 ((j : Int) + 1) = ((j + 1 : Nat) : Int) := by rw [wrap_i64 (by omega) (by omega)]; rfl
section
variable {α : Type}
theorem fold_at {s : α} {f : α → Pt → α} {y : List Pt} {j : Nat} (h : j < y.length) : (y.drop j).foldl f s = (y.drop (j + 1)).foldl f (f s y[j]) := by
 rw [List.drop_eq_getElem_cons h, List.foldl_cons]
end
theorem cmp_in (x y : List Pt) (hy : y.length ≤ 1000000000) (n i : Int) (a : Pt) (e0 : Pt × Pt × Unit) (e1 : Bool) (e2 : Int) {v : gossip_Compare.R} : ∀ (m j : Nat), j + m = y.length → ∀ (o0 : Pt × Pt × Unit) (o1 : Bool) (o2 : Int),
  (∀ w : Vd, w = (y.drop j).foldl (fun s b => vOne a b s) (o0, o1, o2, ()) → Runs (fun k => gossip_Compare.l0 k y x n (IntKind.wrap .i64 (i + 1)) e0 e1 e2 w.1 w.2.1 w.2.2.1) v) →
  Runs (fun k => gossip_Compare.l1 k y x n i y (y.length : Int) (j : Int) e0 e1 e2 o0 o1 o2 a.1 a.2.1) v
 | 0, j, h, o0, o1, o2, hk => by
  refine Runs.step (fun k => rfl) (Runs.dec (fun h' => absurd h' (by omega)) fun _ => ?_)
  have := hk _ rfl
  rw [List.drop_eq_nil_of_le (by omega)] at this
  exact this
 | m + 1, j, h, o0, o1, o2, hk => by
  have hj : j < y.length := by omega
  refine Runs.step (fun k => rfl) (Runs.dec (fun _ => Runs.opt (rdo_at hj) ?_) fun h' => absurd (show (j : Int) < (y.length : Int) by omega) h')
  have next : ∀ (w : Vd), vOne a y[j] (o0, o1, o2, ()) = w → Runs (fun k => gossip_Compare.l1 k y x n i y (y.length : Int) (IntKind.wrap .i64 ((j : Int) + 1)) e0 e1 e2 w.1 w.2.1 w.2.2.1 a.1 a.2.1) v := by
   intro w hw
   rw [nextI hj hy]
   refine cmp_in x y hy n i a e0 e1 e2 m (j + 1) (by omega) _ _ _ fun w' hw' => hk w' ?_
   rw [hw', fold_at hj, hw]
  refine Runs.cond (fun h1 => ?_) fun h1 => Runs.cond (fun h2 => ?_) fun h2 => Runs.cond (fun h3 => ?_) fun h3 => ?_
  ·have h1 : a.1 ≠ y[j].1 := by simpa using h1
   exact next (o0, o1, o2, ()) (by unfold vOne; rw [if_neg h1])
  all_goals have h1 : a.1 = y[j].1 := by simpa using h1
  ·rw [beq_text] at h2
   have h2 := of_decide_eq_true h2
   exact next (o0, o1, IntKind.wrap .i64 (o2 + 1), ()) (by unfold vOne; rw [if_pos h1, if_pos h2])
  all_goals
   rw [beq_text] at h2
   have h2 := of_decide_eq_false h2
  ·have h3 : o1 = false := by simpa using h3
   exact next (((a.1, a.2.1, ()), (y[j].1, y[j].2.1, ()), ()), true, o2, ()) (by unfold vOne; rw [if_pos h1, if_neg h2, if_pos h3])
  ·have h3 : o1 = true := by simpa using h3
   exact next (o0, o1, o2, ()) (by unfold vOne; rw [if_pos h1, if_neg h2, if_neg (by simp [h3])])
theorem cmp_out (x y : List Pt) (hx : x.length ≤ 1000000000) (hy : y.length ≤ 1000000000) : ∀ (m i : Nat), i + m = x.length → ∀ (e0 : Pt × Pt × Unit) (e1 : Bool) (e2 : Int) (o0 : Pt × Pt × Unit) (o1 : Bool) (o2 : Int),
  Runs (fun k => gossip_Compare.l0 k y x (x.length : Int) (i : Int) e0 e1 e2 o0 o1 o2) (((vOut (x.drop i) y (o0, o1, o2, ())), ()), ())
 | 0, i, h, e0, e1, e2, o0, o1, o2 => by
  refine Runs.step (fun k => rfl) (Runs.dec (fun h' => absurd h' (by omega)) fun _ => Runs.some' ?_)
  rw [List.drop_eq_nil_of_le (by omega)]; rfl
 | m + 1, i, h, e0, e1, e2, o0, o1, o2 => by
  have hi : i < x.length := by omega
  refine Runs.step (fun k => rfl) (Runs.dec (fun _ => Runs.opt (rdo_at hi) ?_) fun h' => absurd (show (i : Int) < (x.length : Int) by omega) h')
  refine cmp_in x y hy _ _ x[i] _ _ _ y.length 0 (by omega) o0 o1 o2 fun w hw => ?_
  rw [nextI hi hx]
  refine (cmp_out x y hx hy m (i + 1) (by omega) e0 e1 e2 w.1 w.2.1 w.2.2.1).of_eq ?_
  have : vOut (x.drop i) y (o0, o1, o2, ()) = vOut (x.drop (i + 1)) y w := by
   unfold vOut
   rw [fold_at hi, hw]; rfl
  rw [this]
theorem cmp_ok (x y : List Pt) (hx : x.length ≤ 1000000000) (hy : y.length ≤ 1000000000) : Runs (fun k => gossip_Compare.f k x y) ((verd x y, ()), ()) :=
 Runs.step (fun k => rfl) (cmp_out x y hx hy x.length 0 (by omega) _ _ _ _ _ _)
end Go.Proofs.Ytfbpkpnnglhbcaa.Pure
