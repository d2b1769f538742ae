/- Plain law: GossipAgrees. -/
import Derived.Test.YtfbpkpnnglhbcaaP28c
import Derived.Test.YtfbpkpnnglhbcaaPAw28
import Derived.Test.YtfbpkpnnglhbcaaESGossipAgrees
namespace Go.Proofs.Ytfbpkpnnglhbcaa.Pure
open Go Go.Proofs.Ytfbpkpnnglhbcaa.E Go.Proofs.Ytfbpkpnnglhbcaa.Eng
set_option linter.unusedVariables false
set_option linter.unusedSimpArgs false
abbrev Fk := Pt × Pt × Unit
section
variable (F : List Fk) (t : ByteArray × ByteArray × Unit) (f1 f2 : Bool) (c : Int) (T N : List (ByteArray × ByteArray)) (p1 : List Pt) (q1 : List Fk) (s1 : Int) (p2 : List Pt) (q2 : List Fk) (s2 : Int) (p3 : List Pt) (q3 : List Fk) (s3 : Int)
theorem aud3_ok : TP (fun k => gossip_Ring_Auditor_v3.f k F t f1 f2 c T N p1 q1 s1 p2 q2 s2 p3 q3 s3) (fun _ => True) := TP.step (fun k => rfl) (TP.bind (TP.step (fun k => rfl) (TP.some (P := fun _ => True) trivial)) fun _ _ => TP.some trivial)
theorem aud4_ok : TP (fun k => gossip_Ring_Auditor_v4.f k F t f1 f2 c T N p1 q1 s1 p2 q2 s2 p3 q3 s3) (fun _ => True) := TP.step (fun k => rfl) (TP.bind (TP.step (fun k => rfl) (TP.some (P := fun _ => True) trivial)) fun _ _ => TP.some trivial)
theorem aud5_ok : TP (fun k => gossip_Ring_Auditor_v5.f k F t f1 f2 c T N p1 q1 s1 p2 q2 s2 p3 q3 s3) (fun _ => True) := TP.step (fun k => rfl) (TP.bind (TP.step (fun k => rfl) (TP.some (P := fun _ => True) trivial)) fun _ _ => TP.some trivial)
theorem aud6_ok (n : Int) (h2 : n ≠ 2) (h1 : n ≠ 1) (h0 : n ≠ 0) : TP (fun k => gossip_Ring_Auditor_v6.f k n F t f1 f2 c T N p1 q1 s1 p2 q2 s2 p3 q3 s3) (fun _ => True) := by
 refine TP.step (fun k => rfl) (TP.bind (P := fun _ => True) (TP.step (fun k => rfl) (TP.dec (fun _ => TP.some trivial) fun h => TP.dec (fun _ => TP.some trivial) fun h' => ?_)) fun _ _ => TP.some trivial)
 omega
theorem hear2_ok {l : List ByteArray} (h1 : Pts l p1) (h2 : Pts l p1) (l1 : p1.length ≤ 1000) (l2 : p1.length ≤ 1000) : TP (fun k => gossip_Ring_Hear_v2.f k F t f1 f2 c T N p1 q1 s1 p2 q2 s2 p3 q3 s3) (fun v => v.1.2.1 = 0 ∧ v.2.1.2.2.1 = F) := by
 refine TP.step (fun k => rfl) (TP.bind (aud5_ok ..) fun _ _ => TP.bind (aud5_ok ..) fun _ _ => TP.bindR (points_ok p1 q1 s1 t f1 f2 c T N (by omega)) (TP.bindR (points_ok p1 q1 s1 t f1 f2 c T N (by omega)) (TP.bindR (cmp_ok p1 p1 (by omega) (by omega)) (TP.no (verd_no h1 h2) (TP.some ⟨rfl, rfl⟩)))))
theorem hear3_ok {l : List ByteArray} (h1 : Pts l p1) (h2 : Pts l p2) (l1 : p1.length ≤ 1000) (l2 : p2.length ≤ 1000) : TP (fun k => gossip_Ring_Hear_v3.f k F t f1 f2 c T N p1 q1 s1 p2 q2 s2 p3 q3 s3) (fun v => v.1.2.1 = 0 ∧ v.2.1.2.2.1 = F) := by
 refine TP.step (fun k => rfl) (TP.bind (aud5_ok ..) fun _ _ => TP.bind (aud4_ok ..) fun _ _ => TP.bindR (points_ok p1 q1 s1 t f1 f2 c T N (by omega)) (TP.bindR (points_ok p2 q2 s2 t f1 f2 c T N (by omega)) (TP.bindR (cmp_ok p1 p2 (by omega) (by omega)) (TP.no (verd_no h1 h2) (TP.some ⟨rfl, rfl⟩)))))
theorem hear4_ok {l : List ByteArray} (h1 : Pts l p1) (h2 : Pts l p3) (l1 : p1.length ≤ 1000) (l2 : p3.length ≤ 1000) : TP (fun k => gossip_Ring_Hear_v4.f k F t f1 f2 c T N p1 q1 s1 p2 q2 s2 p3 q3 s3) (fun v => v.1.2.1 = 0 ∧ v.2.1.2.2.1 = F) := by
 refine TP.step (fun k => rfl) (TP.bind (aud5_ok ..) fun _ _ => TP.bind (aud3_ok ..) fun _ _ => TP.bindR (points_ok p1 q1 s1 t f1 f2 c T N (by omega)) (TP.bindR (points_ok p3 q3 s3 t f1 f2 c T N (by omega)) (TP.bindR (cmp_ok p1 p3 (by omega) (by omega)) (TP.no (verd_no h1 h2) (TP.some ⟨rfl, rfl⟩)))))
theorem hear5_ok {l : List ByteArray} (h1 : Pts l p2) (h2 : Pts l p1) (l1 : p2.length ≤ 1000) (l2 : p1.length ≤ 1000) : TP (fun k => gossip_Ring_Hear_v5.f k F t f1 f2 c T N p1 q1 s1 p2 q2 s2 p3 q3 s3) (fun v => v.1.2.1 = 0 ∧ v.2.1.2.2.1 = F) := by
 refine TP.step (fun k => rfl) (TP.bind (aud4_ok ..) fun _ _ => TP.bind (aud5_ok ..) fun _ _ => TP.bindR (points_ok p2 q2 s2 t f1 f2 c T N (by omega)) (TP.bindR (points_ok p1 q1 s1 t f1 f2 c T N (by omega)) (TP.bindR (cmp_ok p2 p1 (by omega) (by omega)) (TP.no (verd_no h1 h2) (TP.some ⟨rfl, rfl⟩)))))
theorem hear6_ok {l : List ByteArray} (h1 : Pts l p2) (h2 : Pts l p2) (l1 : p2.length ≤ 1000) (l2 : p2.length ≤ 1000) : TP (fun k => gossip_Ring_Hear_v6.f k F t f1 f2 c T N p1 q1 s1 p2 q2 s2 p3 q3 s3) (fun v => v.1.2.1 = 0 ∧ v.2.1.2.2.1 = F) := by
 refine TP.step (fun k => rfl) (TP.bind (aud4_ok ..) fun _ _ => TP.bind (aud4_ok ..) fun _ _ => TP.bindR (points_ok p2 q2 s2 t f1 f2 c T N (by omega)) (TP.bindR (points_ok p2 q2 s2 t f1 f2 c T N (by omega)) (TP.bindR (cmp_ok p2 p2 (by omega) (by omega)) (TP.no (verd_no h1 h2) (TP.some ⟨rfl, rfl⟩)))))
theorem hear7_ok {l : List ByteArray} (h1 : Pts l p2) (h2 : Pts l p3) (l1 : p2.length ≤ 1000) (l2 : p3.length ≤ 1000) : TP (fun k => gossip_Ring_Hear_v7.f k F t f1 f2 c T N p1 q1 s1 p2 q2 s2 p3 q3 s3) (fun v => v.1.2.1 = 0 ∧ v.2.1.2.2.1 = F) := by
 refine TP.step (fun k => rfl) (TP.bind (aud4_ok ..) fun _ _ => TP.bind (aud3_ok ..) fun _ _ => TP.bindR (points_ok p2 q2 s2 t f1 f2 c T N (by omega)) (TP.bindR (points_ok p3 q3 s3 t f1 f2 c T N (by omega)) (TP.bindR (cmp_ok p2 p3 (by omega) (by omega)) (TP.no (verd_no h1 h2) (TP.some ⟨rfl, rfl⟩)))))
theorem hear8_ok {l : List ByteArray} (h1 : Pts l p3) (h2 : Pts l p1) (l1 : p3.length ≤ 1000) (l2 : p1.length ≤ 1000) : TP (fun k => gossip_Ring_Hear_v8.f k F t f1 f2 c T N p1 q1 s1 p2 q2 s2 p3 q3 s3) (fun v => v.1.2.1 = 0 ∧ v.2.1.2.2.1 = F) := by
 refine TP.step (fun k => rfl) (TP.bind (aud3_ok ..) fun _ _ => TP.bind (aud5_ok ..) fun _ _ => TP.bindR (points_ok p3 q3 s3 t f1 f2 c T N (by omega)) (TP.bindR (points_ok p1 q1 s1 t f1 f2 c T N (by omega)) (TP.bindR (cmp_ok p3 p1 (by omega) (by omega)) (TP.no (verd_no h1 h2) (TP.some ⟨rfl, rfl⟩)))))
theorem hear9_ok {l : List ByteArray} (h1 : Pts l p3) (h2 : Pts l p2) (l1 : p3.length ≤ 1000) (l2 : p2.length ≤ 1000) : TP (fun k => gossip_Ring_Hear_v9.f k F t f1 f2 c T N p1 q1 s1 p2 q2 s2 p3 q3 s3) (fun v => v.1.2.1 = 0 ∧ v.2.1.2.2.1 = F) := by
 refine TP.step (fun k => rfl) (TP.bind (aud3_ok ..) fun _ _ => TP.bind (aud4_ok ..) fun _ _ => TP.bindR (points_ok p3 q3 s3 t f1 f2 c T N (by omega)) (TP.bindR (points_ok p2 q2 s2 t f1 f2 c T N (by omega)) (TP.bindR (cmp_ok p3 p2 (by omega) (by omega)) (TP.no (verd_no h1 h2) (TP.some ⟨rfl, rfl⟩)))))
theorem hear10_ok {l : List ByteArray} (h1 : Pts l p3) (h2 : Pts l p3) (l1 : p3.length ≤ 1000) (l2 : p3.length ≤ 1000) : TP (fun k => gossip_Ring_Hear_v10.f k F t f1 f2 c T N p1 q1 s1 p2 q2 s2 p3 q3 s3) (fun v => v.1.2.1 = 0 ∧ v.2.1.2.2.1 = F) := by
 refine TP.step (fun k => rfl) (TP.bind (aud3_ok ..) fun _ _ => TP.bind (aud3_ok ..) fun _ _ => TP.bindR (points_ok p3 q3 s3 t f1 f2 c T N (by omega)) (TP.bindR (points_ok p3 q3 s3 t f1 f2 c T N (by omega)) (TP.bindR (cmp_ok p3 p3 (by omega) (by omega)) (TP.no (verd_no h1 h2) (TP.some ⟨rfl, rfl⟩)))))
theorem agree_ok {l : List ByteArray} (h1 : Pts l p1) (h2 : Pts l p2) (h3 : Pts l p3) (l1 : p1.length ≤ 1000) (l2 : p2.length ≤ 1000) (l3 : p3.length ≤ 1000) : TP (fun k => gossip_Ring_Agree_v2.f k F t f1 f2 c T N p1 q1 s1 p2 q2 s2 p3 q3 s3) (fun v => v.1.1 = true) := by
 refine TP.step (fun k => rfl) (TP.step (fun k => rfl) (TP.step (fun k => rfl) (TP.step (fun k => rfl) (TP.step (fun k => rfl) ?_))))
 refine TP.bindR (points_ok p2 q2 s2 t f1 f2 c T N (by omega)) (TP.bindR (points_ok p1 q1 s1 t f1 f2 c T N (by omega)) (TP.bindR (cmp_ok p2 p1 (by omega) (by omega)) (TP.no (verd_no h2 h1) ?_)))
 refine TP.step (fun k => rfl) (TP.step (fun k => rfl) (TP.step (fun k => rfl) ?_))
 refine TP.bindR (points_ok p3 q3 s3 t f1 f2 c T N (by omega)) (TP.bindR (points_ok p1 q1 s1 t f1 f2 c T N (by omega)) (TP.bindR (cmp_ok p3 p1 (by omega) (by omega)) (TP.no (verd_no h3 h1) ?_)))
 refine TP.step (fun k => rfl) ?_
 refine TP.bindR (points_ok p3 q3 s3 t f1 f2 c T N (by omega)) (TP.bindR (points_ok p2 q2 s2 t f1 f2 c T N (by omega)) (TP.bindR (cmp_ok p3 p2 (by omega) (by omega)) (TP.no (verd_no h3 h2) ?_)))
 exact TP.step (fun k => rfl) (TP.step (fun k => rfl) (TP.some rfl))
end
theorem agrees_end {l : List ByteArray} {p1 p2 p3 : List Pt} (h1 : Pts l p1) (h2 : Pts l p2) (h3 : Pts l p3) (l1 : p1.length ≤ 1000) (l2 : p2.length ≤ 1000) (l3 : p3.length ≤ 1000) (t f1 f2 c T N q1 s1 q2 s2 q3 s3) :
  TP (fun k => chartularylaw28_GossipAgrees.l1 k [] t f1 f2 c T N p1 q1 s1 p2 q2 s2 p3 q3 s3) (fun v => v.1.1 = true) := by
 refine TP.step (fun k => rfl) (TP.bind (hear2_ok [] t f1 f2 c T N p1 q1 s1 p2 q2 s2 p3 q3 s3 h1 h1 l1 l1) fun v hv => TP.neI (fun h => absurd hv.1 h) fun _ => ?_)
 rw [hv.2]
 refine TP.step (fun k => rfl) (TP.bind (hear3_ok [] t f1 f2 c T N p1 q1 s1 p2 q2 s2 p3 q3 s3 h1 h2 l1 l2) fun v hv => TP.neI (fun h => absurd hv.1 h) fun _ => ?_)
 rw [hv.2]
 refine TP.step (fun k => rfl) (TP.bind (hear4_ok [] t f1 f2 c T N p1 q1 s1 p2 q2 s2 p3 q3 s3 h1 h3 l1 l3) fun v hv => TP.neI (fun h => absurd hv.1 h) fun _ => ?_)
 rw [hv.2]
 refine TP.step (fun k => rfl) (TP.bind (hear5_ok [] t f1 f2 c T N p1 q1 s1 p2 q2 s2 p3 q3 s3 h2 h1 l2 l1) fun v hv => TP.neI (fun h => absurd hv.1 h) fun _ => ?_)
 rw [hv.2]
 refine TP.step (fun k => rfl) (TP.bind (hear6_ok [] t f1 f2 c T N p1 q1 s1 p2 q2 s2 p3 q3 s3 h2 h2 l2 l2) fun v hv => TP.neI (fun h => absurd hv.1 h) fun _ => ?_)
 rw [hv.2]
 refine TP.step (fun k => rfl) (TP.bind (hear7_ok [] t f1 f2 c T N p1 q1 s1 p2 q2 s2 p3 q3 s3 h2 h3 l2 l3) fun v hv => TP.neI (fun h => absurd hv.1 h) fun _ => ?_)
 rw [hv.2]
 refine TP.step (fun k => rfl) (TP.bind (hear8_ok [] t f1 f2 c T N p1 q1 s1 p2 q2 s2 p3 q3 s3 h3 h1 l3 l1) fun v hv => TP.neI (fun h => absurd hv.1 h) fun _ => ?_)
 rw [hv.2]
 refine TP.step (fun k => rfl) (TP.bind (hear9_ok [] t f1 f2 c T N p1 q1 s1 p2 q2 s2 p3 q3 s3 h3 h2 l3 l2) fun v hv => TP.neI (fun h => absurd hv.1 h) fun _ => ?_)
 rw [hv.2]
 refine TP.step (fun k => rfl) (TP.bind (hear10_ok [] t f1 f2 c T N p1 q1 s1 p2 q2 s2 p3 q3 s3 h3 h3 l3 l3) fun v hv => TP.neI (fun h => absurd hv.1 h) fun _ => ?_)
 rw [hv.2]
 refine TP.step (fun k => rfl) (TP.bind (agree_ok [] t f1 f2 c T N p1 q1 s1 p2 q2 s2 p3 q3 s3 h1 h2 h3 l1 l2 l3) fun v hv => TP.yes hv ?_)
 refine TP.bindR (v := (([], ()), ())) (Runs.step (body := fun _ => some (([], ()), ())) (fun k => rfl) Runs.some) (TP.eqI (fun _ => awake28_end fun _ => rfl) fun h => absurd rfl h)
theorem tell3_ok (l : List ByteArray) (hb : l.length ≤ 40) (hl : S32 l) (F : List Fk) {p1 p2 p3 : List Pt} (hp : Pts l p3) (hlen : p3.length ≤ 1000) (n : Nat) (hn : n ≤ l.length) (hla : (lastP p3).1 ≤ (n : Int)) (t f1 f2 c N q1 s1 q2 s2 q3 s3) :
  TP (fun k => gossip_Ring_Tell_v3.f k (gL (n : Int) (rootV [] (l.take n)) (GrowthA [] (l.take n) (lastP p3).1).1) F t f1 f2 c [] N p1 q1 s1 p2 q2 s2 p3 q3 s3) (fun v => (v.1.1 = 0 ∨ v.1.1 = 25) ∧ Pts l v.2.2.2.1.2.1 ∧ v.2.2.2.1.2.1.length ≤ p3.length + 1) :=
 TP.step (fun k => rfl) (TP.bind (aud3_ok ..) fun _ _ => TP.bind (meet_ok l hb hl hp hlen n hn hla q3 s3 t f1 f2 c N) fun v hv => TP.some hv)
theorem tell4_ok (l : List ByteArray) (hb : l.length ≤ 40) (hl : S32 l) (F : List Fk) {p1 p2 p3 : List Pt} (hp : Pts l p2) (hlen : p2.length ≤ 1000) (n : Nat) (hn : n ≤ l.length) (hla : (lastP p2).1 ≤ (n : Int)) (t f1 f2 c N q1 s1 q2 s2 q3 s3) :
  TP (fun k => gossip_Ring_Tell_v4.f k (gL (n : Int) (rootV [] (l.take n)) (GrowthA [] (l.take n) (lastP p2).1).1) F t f1 f2 c [] N p1 q1 s1 p2 q2 s2 p3 q3 s3) (fun v => (v.1.1 = 0 ∨ v.1.1 = 25) ∧ Pts l v.2.2.2.1.2.1 ∧ v.2.2.2.1.2.1.length ≤ p2.length + 1) :=
 TP.step (fun k => rfl) (TP.bind (aud4_ok ..) fun _ _ => TP.bind (meet_ok l hb hl hp hlen n hn hla q2 s2 t f1 f2 c N) fun v hv => TP.some hv)
theorem tell5_ok (l : List ByteArray) (hb : l.length ≤ 40) (hl : S32 l) (F : List Fk) {p1 p2 p3 : List Pt} (hp : Pts l p1) (hlen : p1.length ≤ 1000) (n : Nat) (hn : n ≤ l.length) (hla : (lastP p1).1 ≤ (n : Int)) (t f1 f2 c N q1 s1 q2 s2 q3 s3) :
  TP (fun k => gossip_Ring_Tell_v5.f k (gL (n : Int) (rootV [] (l.take n)) (GrowthA [] (l.take n) (lastP p1).1).1) F t f1 f2 c [] N p1 q1 s1 p2 q2 s2 p3 q3 s3) (fun v => (v.1.1 = 0 ∨ v.1.1 = 25) ∧ Pts l v.2.2.2.1.2.1 ∧ v.2.2.2.1.2.1.length ≤ p1.length + 1) :=
 TP.step (fun k => rfl) (TP.bind (aud5_ok ..) fun _ _ => TP.bind (meet_ok l hb hl hp hlen n hn hla q1 s1 t f1 f2 c N) fun v hv => TP.some hv)
theorem agrees_l0 (who sizes : List Int) (l : List ByteArray) (hb : l.length ≤ 40) (hl : S32 l) : ∀ (m i : Nat), i + m = 20 → ∀ (p1 p2 p3 : List Pt), Pts l p1 → Pts l p2 → Pts l p3 → p1.length ≤ i → p2.length ≤ i → p3.length ≤ i → ∀ t f1 f2 c N q1 s1 q2 s2 q3 s3,
  TP (fun k => chartularylaw28_GossipAgrees.l0 k who sizes l (i : Int) t f1 f2 c [] N [] p1 q1 s1 p2 q2 s2 p3 q3 s3) (fun v => v.1.1 = true)
 | 0, i, hi, p1, p2, p3, h1, h2, h3, l1, l2, l3, t, f1, f2, c, N, q1, s1, q2, s2, q3, s3 =>
  TP.step (fun k => rfl) (TP.dec (fun _ => TP.dec (fun _ => TP.dec (fun h => absurd h (by omega)) fun _ => agrees_end h1 h2 h3 (by omega) (by omega) (by omega) ..) fun _ => agrees_end h1 h2 h3 (by omega) (by omega) (by omega) ..) fun _ => agrees_end h1 h2 h3 (by omega) (by omega) (by omega) ..)
 | m + 1, i, hi, p1, p2, p3, h1, h2, h3, l1, l2, l3, t, f1, f2, c, N, q1, s1, q2, s2, q3, s3 => by
  have nx : ∀ (p1 p2 p3 : List Pt), Pts l p1 → Pts l p2 → Pts l p3 → p1.length ≤ i + 1 → p2.length ≤ i + 1 → p3.length ≤ i + 1 → ∀ t f1 f2 c N q1 s1 q2 s2 q3 s3,
    TP (fun k => chartularylaw28_GossipAgrees.l0 k who sizes l (IntKind.wrap .i64 ((i : Int) + 1)) t f1 f2 c [] N [] p1 q1 s1 p2 q2 s2 p3 q3 s3) (fun v => v.1.1 = true) := by
   rw [show IntKind.wrap .i64 ((i : Int) + 1) = ((i + 1 : Nat) : Int) by rw [wrap_i64 (by omega) (by omega)]; rfl]
   exact agrees_l0 who sizes l hb hl m (i + 1) (by omega)
  have here := fun t f1 f2 c N q1 s1 q2 s2 q3 s3 => nx p1 p2 p3 h1 h2 h3 (by omega) (by omega) (by omega) t f1 f2 c N q1 s1 q2 s2 q3 s3
  refine TP.step (fun k => rfl) (TP.dec (fun g1 => TP.dec (fun g2 => TP.dec (fun g3 => ?_) fun _ => agrees_end h1 h2 h3 (by omega) (by omega) (by omega) ..) fun _ => agrees_end h1 h2 h3 (by omega) (by omega) (by omega) ..) fun _ => agrees_end h1 h2 h3 (by omega) (by omega) (by omega) ..)
  have hw : i < who.length := by omega
  have hz : i < sizes.length := by omega
  have rw1 := rdo_at (l := who) hw
  have rz1 := rdo_at (l := sizes) hz
  generalize who[i] = w at rw1
  generalize sizes[i] = z at rz1
  refine TP.optE rw1 (TP.eqI (fun e => ?_) fun e2 => TP.eqI (fun e => ?_) fun e1 => TP.eqI (fun e => ?_) fun e0 => TP.bind (aud6_ok _ _ _ _ _ _ _ _ _ _ _ _ _ _ _ _ w e2 e1 e0) fun _ _ => TP.optE rz1 (here ..))
  ·subst e
   refine TP.bind (aud3_ok ..) fun _ _ => TP.optE rz1 (TP.dec (fun _ => here ..) fun g4 => TP.dec (fun _ => here ..) fun g5 => ?_)
   obtain ⟨n, rfl⟩ := Int.eq_ofNat_of_zero_le (by omega : 0 ≤ z)
   refine TP.bindM (last_ok p3 q3 s3 t f1 f2 c [] N (by omega)) fun _ => TP.dec (fun _ => here ..) fun g6 => TP.ck (by simp only [Bool.and_eq_true, decide_eq_true_eq]; omega) ?_
   have g6 : ¬ ((n : Int) < (lastP p3).1) := g6
   have hlt : (l.take n).drop 0 = l.take n := rfl
   have ga := growth_ok tok_nil (l.take n) (by rw [List.length_take]; omega) (hl.take n) (lastP p3).1
   obtain ⟨a, ha0, ha1⟩ : ∃ a : Nat, (lastP p3).1 = (a : Int) ∧ a ≤ n := by
    rcases last_at h3 with ⟨_, h0⟩ | ⟨_, a, ha, h0, _⟩
    ·exact ⟨0, h0, Nat.zero_le _⟩
    ·have : (lastP p3).1 = (a : Int) := by rw [h0]; rfl
     exact ⟨a, this, by omega⟩
   have hg := grow_right (l.take n) (by rw [List.length_take]; omega) (hl.take n) a (by rw [List.length_take]; omega)
   rw [← ha0] at hg
   obtain ⟨k1, k2, k3, _⟩ := hg
   have hok : GrOk (n : Int) (rootV [] (l.take n)) (GrowthA [] (l.take n) (lastP p3).1).1 := ⟨by omega, by omega, rootV_size tok_nil (hl.take n), k1, k2⟩
   have hrt := root_is tok_nil (l.take n) (by rw [List.length_take]; omega) (hl.take n)
   refine TP.bindM (ga t f1 f2 c N) fun sa => TP.optE rw1 (TP.ck (by simp only [Bool.and_eq_true, decide_eq_true_eq]; omega) (TP.bindM (hrt _ _ _ _ _) fun sb => TP.bindR (gbytes_ok hok) ?_))
   refine TP.yes rfl ?_
   refine TP.bind (tell3_ok l hb hl [] h3 (by omega) n (by omega) (by omega) _ _ _ _ _ q1 s1 q2 s2 q3 s3) fun v hv => TP.neI (fun h => absurd (by rw [k3]) h) fun _ => ?_
   have fin := nx p1 p2 _ h1 h2 hv.2.1 (by omega) (by omega) (Nat.le_trans hv.2.2 (by omega))
   rcases hv.1 with hv1 | hv1
   ·exact TP.no (by rw [hv1]; rfl) (fin ..)
   ·exact TP.yes (by rw [hv1]; rfl) (TP.no (by rw [hv1]; rfl) (fin ..))
  ·subst e
   refine TP.bind (aud4_ok ..) fun _ _ => TP.optE rz1 (TP.dec (fun _ => here ..) fun g4 => TP.dec (fun _ => here ..) fun g5 => ?_)
   obtain ⟨n, rfl⟩ := Int.eq_ofNat_of_zero_le (by omega : 0 ≤ z)
   refine TP.bindM (last_ok p2 q2 s2 t f1 f2 c [] N (by omega)) fun _ => TP.dec (fun _ => here ..) fun g6 => TP.ck (by simp only [Bool.and_eq_true, decide_eq_true_eq]; omega) ?_
   have g6 : ¬ ((n : Int) < (lastP p2).1) := g6
   have hlt : (l.take n).drop 0 = l.take n := rfl
   have ga := growth_ok tok_nil (l.take n) (by rw [List.length_take]; omega) (hl.take n) (lastP p2).1
   obtain ⟨a, ha0, ha1⟩ : ∃ a : Nat, (lastP p2).1 = (a : Int) ∧ a ≤ n := by
    rcases last_at h2 with ⟨_, h0⟩ | ⟨_, a, ha, h0, _⟩
    ·exact ⟨0, h0, Nat.zero_le _⟩
    ·have : (lastP p2).1 = (a : Int) := by rw [h0]; rfl
     exact ⟨a, this, by omega⟩
   have hg := grow_right (l.take n) (by rw [List.length_take]; omega) (hl.take n) a (by rw [List.length_take]; omega)
   rw [← ha0] at hg
   obtain ⟨k1, k2, k3, _⟩ := hg
   have hok : GrOk (n : Int) (rootV [] (l.take n)) (GrowthA [] (l.take n) (lastP p2).1).1 := ⟨by omega, by omega, rootV_size tok_nil (hl.take n), k1, k2⟩
   have hrt := root_is tok_nil (l.take n) (by rw [List.length_take]; omega) (hl.take n)
   refine TP.bindM (ga t f1 f2 c N) fun sa => TP.optE rw1 (TP.ck (by simp only [Bool.and_eq_true, decide_eq_true_eq]; omega) (TP.bindM (hrt _ _ _ _ _) fun sb => TP.bindR (gbytes_ok hok) ?_))
   refine TP.no rfl <| TP.yes rfl ?_
   refine TP.bind (tell4_ok l hb hl [] h2 (by omega) n (by omega) (by omega) _ _ _ _ _ q1 s1 q2 s2 q3 s3) fun v hv => TP.neI (fun h => absurd (by rw [k3]) h) fun _ => ?_
   have fin := nx p1 _ p3 h1 hv.2.1 h3 (by omega) (Nat.le_trans hv.2.2 (by omega)) (by omega)
   rcases hv.1 with hv1 | hv1
   ·exact TP.no (by rw [hv1]; rfl) (fin ..)
   ·exact TP.yes (by rw [hv1]; rfl) (TP.no (by rw [hv1]; rfl) (fin ..))
  ·subst e
   refine TP.bind (aud5_ok ..) fun _ _ => TP.optE rz1 (TP.dec (fun _ => here ..) fun g4 => TP.dec (fun _ => here ..) fun g5 => ?_)
   obtain ⟨n, rfl⟩ := Int.eq_ofNat_of_zero_le (by omega : 0 ≤ z)
   refine TP.bindM (last_ok p1 q1 s1 t f1 f2 c [] N (by omega)) fun _ => TP.dec (fun _ => here ..) fun g6 => TP.ck (by simp only [Bool.and_eq_true, decide_eq_true_eq]; omega) ?_
   have g6 : ¬ ((n : Int) < (lastP p1).1) := g6
   have hlt : (l.take n).drop 0 = l.take n := rfl
   have ga := growth_ok tok_nil (l.take n) (by rw [List.length_take]; omega) (hl.take n) (lastP p1).1
   obtain ⟨a, ha0, ha1⟩ : ∃ a : Nat, (lastP p1).1 = (a : Int) ∧ a ≤ n := by
    rcases last_at h1 with ⟨_, h0⟩ | ⟨_, a, ha, h0, _⟩
    ·exact ⟨0, h0, Nat.zero_le _⟩
    ·have : (lastP p1).1 = (a : Int) := by rw [h0]; rfl
     exact ⟨a, this, by omega⟩
   have hg := grow_right (l.take n) (by rw [List.length_take]; omega) (hl.take n) a (by rw [List.length_take]; omega)
   rw [← ha0] at hg
   obtain ⟨k1, k2, k3, _⟩ := hg
   have hok : GrOk (n : Int) (rootV [] (l.take n)) (GrowthA [] (l.take n) (lastP p1).1).1 := ⟨by omega, by omega, rootV_size tok_nil (hl.take n), k1, k2⟩
   have hrt := root_is tok_nil (l.take n) (by rw [List.length_take]; omega) (hl.take n)
   refine TP.bindM (ga t f1 f2 c N) fun sa => TP.optE rw1 (TP.ck (by simp only [Bool.and_eq_true, decide_eq_true_eq]; omega) (TP.bindM (hrt _ _ _ _ _) fun sb => TP.bindR (gbytes_ok hok) ?_))
   refine TP.no rfl <| TP.no rfl <| TP.yes rfl ?_
   refine TP.bind (tell5_ok l hb hl [] h1 (by omega) n (by omega) (by omega) _ _ _ _ _ q1 s1 q2 s2 q3 s3) fun v hv => TP.neI (fun h => absurd (by rw [k3]) h) fun _ => ?_
   have fin := nx _ p2 p3 hv.2.1 h2 h3 (Nat.le_trans hv.2.2 (by omega)) (by omega) (by omega)
   rcases hv.1 with hv1 | hv1
   ·exact TP.no (by rw [hv1]; rfl) (fin ..)
   ·exact TP.yes (by rw [hv1]; rfl) (TP.no (by rw [hv1]; rfl) (fin ..))
theorem new1_ok (t f1 f2 c T N) : Runs (fun k => gossip_New_v1.f k t f1 f2 c T N) (((), 0, ()), (((), (), [], ()), ((), [], [], 0, ()), ((), [], [], 0, ()), ((), [], [], 0, ()), ())) := by
 have ha : Runs (fun k => auditor_New.f k t f1 f2 c T N) (((), ()), (((), [], [], 0, ()), ())) := Runs.step (fun k => rfl) Runs.some
 exact Runs.step (fun k => rfl) (Runs.step (fun k => rfl) (Runs.bind ha (Runs.step (fun k => rfl) (Runs.bind ha (Runs.step (fun k => rfl) (Runs.bind ha (Runs.step (fun k => rfl) Runs.some)))))))
theorem GossipAgrees : chartularylaw28_GossipAgrees.Pure := by
 intro texts who sizes w0 w1 w2 hb
 have hl : texts.length ≤ 1048576 := by
  have h1 : texts.length ≤ sumB (fun s : ByteArray => s.size + 1) texts := sumB_len _ (fun y => Nat.le_add_left 1 _) texts
  have h2 : sumB (fun s : ByteArray => s.size + 1) texts + _ + _ ≤ 1048576 := hb
  omega
 refine TP.one (TP.step (fun k => rfl) (TP.bindR new_ok (TP.bindM (leaves_ok texts (by omega) _ _ _ _ _) fun s1 => TP.bindR (new1_ok ..) (TP.neI (fun h => absurd rfl h) fun _ => ?_))))
 exact agrees_l0 who sizes (leavesV texts) (leavesV_len texts) (leavesV_s32 texts) 20 0 rfl [] [] [] (Pts.nil _) (Pts.nil _) (Pts.nil _) (Nat.le_refl _) (Nat.le_refl _) (Nat.le_refl _) ..
end Go.Proofs.Ytfbpkpnnglhbcaa.Pure
