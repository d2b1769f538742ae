/- Plain law: GossipCrosses. -/
import Derived.Test.YtfbpkpnnglhbcaaPBoth
import Derived.Test.YtfbpkpnnglhbcaaPAw28
import Derived.Test.YtfbpkpnnglhbcaaESGossipCrosses
namespace Go.Proofs.Ytfbpkpnnglhbcaa.Pure
open Go Go.Proofs.Ytfbpkpnnglhbcaa.E Go.Proofs.Ytfbpkpnnglhbcaa.Eng
set_option linter.unusedVariables false
set_option linter.unusedSimpArgs false

theorem new28_ok : Runs (fun k => mill_New.f k) (((), ()), (((), (), (ByteArray.empty, (ByteArray.empty, ())), false, false, 0, ()), ([], ()), ([], ()), ())) := Runs.step (fun k => rfl) Runs.some
theorem cross_ok (a n : Int) (x y : ByteArray) (p : List ByteArray) (hq : p.length ≤ 1000000000) (t f1 f2 c N) : TP (fun k => gossip_Cross.f k ((a, x, ()), (n, y, ()), p, ()) t f1 f2 c [] N) (fun v => v.1 = (GrownA [] a x n y p, ())) :=
  TP.step (fun k => rfl) (TP.bindM (grown_ok tok_nil a x n y p hq _ _ _ _ _) fun s => TP.some rfl)
theorem crosses_j0 (a n : Int) (x y : ByteArray) (p : List ByteArray) (hq : p.length ≤ 1000000000) : TP (fun k => chartularylaw28_GossipCrosses.j0 k (a, x, ()) (n, y, ()) p) (fun v => v.1.1 = true) :=
  TP.step (fun k => rfl) (TP.bindR new28_ok (TP.bindM (cross_ok a n x y p hq _ _ _ _ _) fun _ => TP.bindR new28_ok (TP.bindM (grown_ok tok_nil a x n y p hq _ _ _ _ _) fun _ => TP.eqI (fun _ => awake_end fun _ => rfl) fun h => absurd rfl h)))
/-- The law. -/
theorem GossipCrosses : chartularylaw28_GossipCrosses.Pure := by
  intro b w0 hb
  obtain ⟨⟨a, x, ⟨⟩⟩, ⟨n, y, ⟨⟩⟩, p, ⟨⟩⟩ := b
  have hl : p.length ≤ 1048576 := by
    have h1 : p.length ≤ sumB (fun s : ByteArray => s.size + 1) p := sumB_len _ (fun y => Nat.le_add_left 1 _) p
    have hb : (1 + (x.size + 1 + 0)) + ((1 + (y.size + 1 + 0)) + (sumB (fun s : ByteArray => s.size + 1) p + 0)) ≤ 1048576 := hb
    omega
  refine TP.one (TP.step (fun k => rfl) (TP.dec (fun h => TP.ck (by have h : (p.length : Int) > 30 := h; simp only [Bool.and_eq_true, decide_eq_true_eq]; omega) ?_) fun h => ?_))
  · refine crosses_j0 a n x y _ ?_
    rw [List.length_drop, List.length_take]; omega
  · exact crosses_j0 a n x y p (by omega)
end Go.Proofs.Ytfbpkpnnglhbcaa.Pure
