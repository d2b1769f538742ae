/- Plain law: MerkleRoots. -/
import Derived.Test.YtoceopdoedmgoaaPFront
import Derived.Test.YtoceopdoedmgoaaPLaw07
import Derived.Test.YtoceopdoedmgoaaESMerkleRoots
namespace Go.Proofs.Ytoceopdoedmgoaa.Pure
open Go Go.Proofs.Ytoceopdoedmgoaa.E Go.Proofs.Ytoceopdoedmgoaa.Eng
set_option linter.unusedVariables false
set_option linter.unusedSimpArgs false

theorem fnew_ok (t f1 f2 n N) : Runs (fun k => merkle_New.f k t f1 f2 n [] N) (((), ()), (((), 0, [], ()), ())) := Runs.step (fun k => rfl) Runs.some
theorem fsize_ok (sz : Int) (S t f1 f2 n N) : Runs (fun k => merkle_Front_Size.f k sz S t f1 f2 n [] N) ((sz, ()), (((), sz, S, ()), ())) := Runs.step (fun k => rfl) Runs.some
theorem roots_loop (l : List ByteArray) (hl : S32 l) (hb : l.length ≤ 40) : ∀ (m i : Nat), i + m = l.length → ∀ t f1 f2 c N, TP (fun k => chartularylaw07_MerkleRoots.l0 k l (i : Int) t f1 f2 c [] N (i : Int) (frV [] 6 (l.take i))) (fun v => v.1.1 = true)
  | 0, i, h, t, f1, f2, c, N => by
    refine TP.step (fun k => rfl) (TP.dec (fun h' => absurd h' (by omega)) fun _ => ?_)
    refine TP.bindM (root_is tok_nil l (by omega) hl _ _ _ _ _) fun _ => TP.bindM (lroot_is tok_nil l (by omega) hl _ _ _ _ _) fun _ => ?_
    exact TP.eqT (fun _ => awake_end fun _ => rfl) fun h => absurd rfl h
  | m + 1, i, h, t, f1, f2, c, N => by
    have hi : i < l.length := by omega
    have hb6 : l.length < 2 ^ 6 := by have : l.length < 64 := by omega
                                      exact this
    have e1 : IntKind.wrap .i64 ((i : Int) + 1) = ((i + 1 : Nat) : Int) := by rw [wrap_i64 (by omega) (by omega)]; rfl
    have hs : S32 (l.take (i + 1)) := hl.take _
    have hlt : (l.take (i + 1)).length < 2 ^ 6 := by rw [List.length_take]; omega
    refine TP.step (fun k => rfl) (TP.dec (fun _ => ?_) fun h' => absurd (by omega) h')
    refine TP.optE (rdo_at hi) (TP.bind (fadd_ok tok_nil l hl hb6 i hi _ _ _ _ _) fun v1 hv1 => ?_)
    obtain ⟨u1, w1, w2⟩ := v1
    dsimp only at hv1; subst hv1
    refine TP.bindR (fsize_ok _ _ _ _ _ _ _) ?_
    dsimp only
    rw [e1]
    refine TP.neI (fun h => absurd rfl h) fun _ => ?_
    refine TP.bind (froot_ok tok_nil (frV [] 6 (l.take (i + 1))) (fr_s32 tok_nil 6 _ hs) (by have := fr_len (T := []) 6 (l.take (i + 1)); omega) _ _ _ _ _ _) fun v2 hv2 => ?_
    obtain ⟨⟨u2, u3⟩, u4, w3⟩ := v2
    obtain ⟨g1, g2⟩ := hv2
    dsimp only at g1 g2; subst g2
    injection g1 with g1 _
    refine TP.ck (by simp only [Bool.and_eq_true, decide_eq_true_eq]; omega) ?_
    rw [tkI]
    refine TP.bindM (lroot_is tok_nil (l.take (i + 1)) (by rw [List.length_take]; omega) hs _ _ _ _ _) fun s3 => ?_
    dsimp only
    refine TP.neT (fun h => absurd ?_ h) fun _ => roots_loop l hl hb m (i + 1) (by omega) _ _ _ _ _
    rw [g1, fold_fr 6 _ hlt]
/-- The law. -/
theorem MerkleRoots : chartularylaw07_MerkleRoots.Pure := by
  intro texts w0 hb
  have hl : texts.length ≤ 1048576 := Nat.le_trans (sumB_len (bulkT .str) (fun y => by simp [bulkT]) texts) hb
  have h40 := leavesV_len texts
  have hs := leavesV_s32 texts
  refine TP.one (TP.step (fun k => rfl) (TP.bindR new_ok (TP.bindM (leaves_ok texts (by omega) _ _ _ _ _) fun s1 => ?_)))
  refine TP.bindR (fnew_ok _ _ _ _ _) (TP.bind (froot_ok tok_nil [] (fun x hx => by cases hx) (by simp) 0 _ _ _ _ _) fun v2 hv2 => ?_)
  obtain ⟨⟨u2, u3⟩, u4, w3⟩ := v2
  obtain ⟨g1, g2⟩ := hv2
  dsimp only at g1 g2; subst g2
  injection g1 with g1 _
  refine TP.bindM (pnone_ok _ _ _ _ _) fun _ => ?_
  refine TP.neT (fun h => absurd (by rw [g1]; rfl) h) fun _ => ?_
  exact roots_loop (leavesV texts) hs h40 _ 0 (Nat.zero_add _) _ _ _ _ _
end Go.Proofs.Ytoceopdoedmgoaa.Pure
