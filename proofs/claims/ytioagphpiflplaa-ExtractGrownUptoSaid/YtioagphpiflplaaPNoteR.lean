/- Plain laws: what a mill notes of a root's texts. -/
import Derived.Test.YtioagphpiflplaaPMerkR
import Derived.Test.YtioagphpiflplaaPNoteA
namespace Go.Proofs.Ytioagphpiflplaa.Pure
open Go Go.Proofs.Ytioagphpiflplaa.E Go.Proofs.Ytioagphpiflplaa.Eng
set_option linter.unusedVariables false
set_option linter.unusedSimpArgs false

section
variable {T : Tab}
theorem root_noted (hT : Tok T) : ∀ (m : Nat) (l : List ByteArray), l.length ≤ m → m ≤ 1000000000 → S32 l → ∀ {W : List ByteArray}, (rootW T l ++ W).length ≤ 20000 → ∀ {t f1 N}, Noted T W t f1 N → ∀ f2 n, TP (fun k => merkle_Root.f k l t f1 f2 n T N) (fun v => v.1 = (rootV T l, ()) ∧ NS T (rootW T l ++ W) v.2)
  | m, l, hm, hb, hl, W, hW, t, f1, N, hN, f2, n => by
    by_cases h0 : l.length = 0
    · rw [rootW_nil h0] at hW ⊢
      rw [rootV_nil h0]
      refine TP.step (fun k => rfl) (TP.eqI (fun h => ?_) fun h => absurd (by omega) h)
      exact TP.bindN (pnone_noted (by simp at hW; omega) hN _ _) fun s hs => TP.some ⟨rfl, hs⟩
    by_cases h1 : l.length = 1
    · obtain ⟨x, rfl⟩ := List.length_eq_one_iff.1 h1
      rw [rootW_one h1] at hW ⊢
      rw [rootV_one h1]
      refine TP.step (fun k => rfl) (TP.eqI (fun h => by simp at h) fun _ => TP.eqI (fun _ => ?_) fun h => absurd rfl h)
      exact TP.optE (v := x) rfl (TP.some ⟨rfl, hN⟩)
    have h2 : 2 ≤ l.length := by omega
    have hlt := below_lt h2
    have hp := below_pos l.length
    cases m with
    | zero => omega
    | succ m =>
    rw [rootW_two h2] at hW ⊢
    rw [rootV_two h2]
    simp only [List.cons_append, List.length_cons, List.append_assoc] at hW ⊢
    have z1 : (rootW T (l.take (belowN l.length)) ++ W).length ≤ 20000 := by rw [List.length_append] at hW ⊢; rw [List.length_append] at hW; omega
    have e1 := rootV_size hT (hl.take (belowN l.length))
    have e2 := rootV_size hT (hl.drop (belowN l.length))
    refine TP.step (fun k => rfl) (TP.eqI (fun h => absurd h (by omega)) fun _ => TP.eqI (fun h => absurd h (by omega)) fun _ => ?_)
    refine TP.bindM (split_ok h2 (by omega)) fun _ => ?_
    refine TP.ck (by dsimp only; simp only [Bool.and_eq_true, decide_eq_true_eq]; omega) ?_
    refine TP.bindN (v := (rootV T (l.take (belowN l.length)), ())) (R := NS T (rootW T (l.take (belowN l.length)) ++ W)) ?_ fun s hs => ?_
    · dsimp only; rw [tkI]
      exact root_noted hT m _ (by rw [List.length_take]; omega) (by omega) (hl.take _) z1 hN _ _
    refine TP.ck (by dsimp only; simp only [Bool.and_eq_true, decide_eq_true_eq]; omega) ?_
    refine TP.bindN (v := (rootV T (l.drop (belowN l.length)), ())) (R := NS T (rootW T (l.drop (belowN l.length)) ++ (rootW T (l.take (belowN l.length)) ++ W))) ?_ fun s2 hs2 => ?_
    · dsimp only; rw [dkI]
      exact root_noted hT m _ (by rw [List.length_drop]; omega) (by omega) (hl.drop _) (by omega) hs _ _
    exact TP.bindN (node_noted _ _ (by dsimp only; omega) (by dsimp only; omega) (by omega) hs2 _ _) fun s3 hs3 => TP.some ⟨rfl, hs3⟩
theorem rootW_len : ∀ (m : Nat) (l : List ByteArray), l.length ≤ m → (rootW T l).length ≤ l.length + 1 ∧ (1 ≤ l.length → (rootW T l).length + 1 = l.length)
  | m, l, hm => by
    by_cases h0 : l.length = 0
    · rw [rootW_nil h0]; exact ⟨by simp, fun h => by omega⟩
    by_cases h1 : l.length = 1
    · rw [rootW_one h1, h1]; exact ⟨by simp, fun _ => rfl⟩
    have h2 : 2 ≤ l.length := by omega
    have hlt := below_lt h2
    have hp := below_pos l.length
    have tl := take_len h2
    have dl : (l.drop (belowN l.length)).length = l.length - belowN l.length := List.length_drop
    cases m with
    | zero => omega
    | succ m =>
      have r1 := (rootW_len m (l.take (belowN l.length)) (by omega)).2 (by omega)
      have r2 := (rootW_len m (l.drop (belowN l.length)) (by omega)).2 (by omega)
      rw [rootW_two h2, List.length_cons, List.length_append]
      exact ⟨by omega, fun _ => by omega⟩
end
end Go.Proofs.Ytioagphpiflplaa.Pure
