/- Plain laws of chapter 17: what a query without an order finds; the document's cuts. -/
import Derived.Test.YtpidgdelfaidoaaP17a
namespace Go.Proofs.Ytpidgdelfaidoaa.Pure
open Go Go.Proofs.Ytpidgdelfaidoaa.E Go.Proofs.Ytpidgdelfaidoaa.Eng
set_option linter.unusedVariables false
set_option linter.unusedSimpArgs false
def selI (f : Pap → Bool) : Nat → List Pap → List Int
 | _, [] => []
 | i, p :: r => if f p = true then (i : Int) :: selI f (i + 1) r else selI f (i + 1) r
theorem selI_len (f : Pap → Bool) : ∀ (l : List Pap) (i : Nat), (selI f i l).length ≤ l.length
 | [], _ => Nat.le_refl _
 | p :: r, i => by
  have := selI_len f r (i + 1)
  unfold selI; split <;> simp only [List.length_cons] <;> omega
noncomputable def allV (l : List Trm) (p : Pap) : Bool := l.all fun t => holdsV t p
def PapsOk (l : List Pap) : Prop := l.length ≤ 1000000 ∧ ∀ p ∈ l, p.2.2.1.length ≤ 1000000000
section
variable (q : Qry) (l : List Pap) (hq : q.1.length ≤ 1000000000) (hl : PapsOk l)
include hq hl
omit hl in
theorem run_l1 {Q} (out : List Int) (i : Nat) (p : Pap) (hp : p.2.2.1.length ≤ 1000000000) (ho : out.length ≤ 1000000)
  (hyes : TP (fun k => find_Run.l0 k (out ++ [(i : Int)]) l (l.length : Int) (IntKind.wrap .i64 ((i : Int) + 1)) q.1 q.2.1 q.2.2.1 q.2.2.2.1 l) Q → True) : ∀ (m j : Nat), j + m = q.1.length →
  (allV (q.1.drop j) p = true → TP (fun k => find_Run.l0 k (out ++ [(i : Int)]) l (l.length : Int) (IntKind.wrap .i64 ((i : Int) + 1)) q.1 q.2.1 q.2.2.1 q.2.2.2.1 l) Q) →
  (allV (q.1.drop j) p = false → TP (fun k => find_Run.l0 k out l (l.length : Int) (IntKind.wrap .i64 ((i : Int) + 1)) q.1 q.2.1 q.2.2.1 q.2.2.2.1 l) Q) →
  TP (fun k => find_Run.l1 k out (i : Int) l (l.length : Int) (i : Int) q.1 (q.1.length : Int) (j : Int) q.1 q.2.1 q.2.2.1 q.2.2.2.1 l p.1 p.2.1 p.2.2.1) Q
 | 0, j, h, h1, h2 => by
  have hd : allV (q.1.drop j) p = true := by rw [List.drop_of_length_le (by omega)]; rfl
  exact TP.step (fun k => rfl) (TP.dec (fun h' => absurd h' (by omega)) fun _ => TP.ck (by apply decide_eq_true; simp only [List.length_cons, List.length_nil]; omega) (h1 hd))
 | m + 1, j, h, h1, h2 => by
  have hj : j < q.1.length := by omega
  have e : allV (q.1.drop j) p = (holdsV q.1[j] p && allV (q.1.drop (j + 1)) p) := by rw [List.drop_eq_getElem_cons hj]; rfl
  rw [e] at h1 h2
  refine TP.step (fun k => rfl) (TP.dec (fun h' => TP.optE (rdo_at hj) (TP.bindR (holds_ok q.1[j] p hp) (TP.not (fun hh => h2 ?_) fun hh => ?_))) fun h' => absurd (by omega : (j : Int) < q.1.length) h')
  ·have hh : holdsV q.1[j] p = false := hh
   rw [hh]; rfl
  ·have hh : holdsV q.1[j] p = true := hh
   rw [hh, Bool.true_and] at h1 h2
   rw [show IntKind.wrap .i64 ((j : Int) + 1) = ((j + 1 : Nat) : Int) by rw [wrap_i64 (by omega) (by omega)]; rfl]
   exact run_l1 out i p hp ho hyes m (j + 1) (by omega) h1 h2
end
theorem pfew_loop (x z : Pap) (id : ByteArray) (c : Int) : ∀ (m i : Nat), 30 - i = m → i ≤ 30 → i ≤ x.2.2.1.length → ∀ (out : List Fld), out.length = i →
  TP (fun k => chartularylaw05_Few.l0 k (i : Int) x.1 x.2.1 x.2.2.1 z.1 z.2.1 z.2.2.1 id c out) (fun v => v.1.1.2.2.1.length ≤ 30)
 | m, i, h, h30, hx, out, ho => by
  have hend : ((((id, (c, (out, ()))), ()), ()) : chartularylaw05_Few.R).1.1.2.2.1.length ≤ 30 := by dsimp only; omega
  refine TP.step (fun k => rfl) (TP.dec (fun h1 => TP.dec (fun h2 => ?_) fun h2 => TP.some hend) fun h1 => TP.some hend)
  have hi : i < x.2.2.1.length := by omega
  cases m with
  | zero => omega
  | succ m =>
  have nx (f : Fld) : TP (fun k => chartularylaw05_Few.l0 k (IntKind.wrap .i64 ((i : Int) + 1)) x.1 x.2.1 x.2.2.1 z.1 z.2.1 z.2.2.1 id c (out ++ [f])) (fun v => v.1.1.2.2.1.length ≤ 30) := by
   rw [show IntKind.wrap .i64 ((i : Int) + 1) = ((i + 1 : Nat) : Int) by rw [wrap_i64 (by omega) (by omega)]; rfl]
   exact pfew_loop x z id c m (i + 1) (by omega) (by omega) (by omega) _ (by simp only [List.length_append, List.length_cons, List.length_nil]; omega)
  refine TP.optE (rdo_at hi) (TP.dec (fun h3 => TP.ck (by simp only [Bool.and_eq_true, decide_eq_true_eq]; omega) (TP.dec (fun h4 => TP.ck (by simp only [Bool.and_eq_true, decide_eq_true_eq]; omega) ?_) fun h4 => ?_)) fun h3 => TP.dec (fun h4 => TP.ck (by simp only [Bool.and_eq_true, decide_eq_true_eq]; omega) ?_) fun h4 => ?_)
  all_goals exact TP.ck (by apply decide_eq_true; simp only [List.length_cons, List.length_nil]; omega) (nx _)
theorem pfew_ok (x : Pap) : TP (fun k => chartularylaw05_Few.f k x) (fun v => v.1.1.2.2.1.length ≤ 30) := by
 have j (id : ByteArray) : TP (fun k => chartularylaw05_Few.j0 k x.1 x.2.1 x.2.2.1 ByteArray.empty 0 [] id x.2.1 []) (fun v => v.1.1.2.2.1.length ≤ 30) :=
  TP.step (fun k => rfl) (pfew_loop x (ByteArray.empty, 0, [], ()) id x.2.1 30 0 rfl (by omega) (Nat.zero_le _) [] rfl)
 exact TP.step (fun k => rfl) (TP.dec (fun h => TP.ck (by simp only [Bool.and_eq_true, decide_eq_true_eq]; omega) (j _)) fun h => j _)
end Go.Proofs.Ytpidgdelfaidoaa.Pure
