/- ProofGrows: what any bytes (up to 2000) are read as is a growth that may be, with just these bytes. -/
import Derived.Test.YtfegehfdbcnepaaPL19ProofGrows
import Derived.Test.YtfegehfdbcnepaaQProof
namespace Go.Proofs.Ytfegehfdbcnepaa.Pure
open Go.RowKit Go.Proofs.Ytfegehfdbcnepaa.PAll Go.Proofs.YtfegehfdbcnepaaW.PrintWords Go.Proofs.YtfegehfdbcnepaaW.PrintLast Go.Proofs.Ytfegehfdbcnepaa.Q
set_option linter.unusedVariables false
set_option linter.unusedSimpArgs false
/-- The reading, its parts given. -/
theorem chain_any (k : Nat) (s : ByteArray) (n : Int) (root : ByteArray) (path : List ByteArray) (p1 p2 p3 e1 e2 e3 e4 : Int) (g : Bool)
    (h1 : octet_Reader_Num.f k s 0 0 65536 = some (n, s, p1, e1)) (h2 : octet_Reader_Text.f k s p1 e1 32 = some (root, s, p2, e2))
    (h3 : octet_Reader_Texts.f k s p2 e2 17 32 = some (path, s, p3, e3)) (h4 : octet_Reader_End.f s p3 e3 = some (e4, s, p3, e4))
    (h5 : proof_RightGrowth.f k n root path = some g) :
    proof_ReadGrowth.f k s = some (if e4 = 0 then if g = true then (n, root, path, 0) else (0, ⟨#[]⟩, [], 4) else (0, ⟨#[]⟩, [], e4)) := by
  unfold proof_ReadGrowth.f octet_Read.f
  rw [bind_some']
  dsimp only
  rw [h1, bind_some']
  dsimp only
  rw [h2, bind_some']
  dsimp only
  rw [h3, bind_some']
  dsimp only
  rw [h4, bind_some']
  dsimp only
  by_cases h : e4 = 0
  · rw [if_pos h, if_pos h, h5, bind_some']
    cases g <;> rfl
  · rw [if_neg h, if_neg h]
/-- What any bytes are read as: nothing, or a growth that may be with just these bytes. -/
theorem read_any (k : Nat) (hk : 100 ≤ k) (s : ByteArray) (hs : s.size ≤ 2000) :
    ∃ (n : Int) (root : ByteArray) (path : List ByteArray) (e : Int), proof_ReadGrowth.f k s = some (n, root, path, e) ∧
      (e ≠ 0 → n = 0 ∧ root = ⟨#[]⟩ ∧ path = []) ∧ (e = 0 → rightG n root path = true ∧ growB n root path = s) := by
  have hsz : s.size ≤ 4611686018427387904 := by omega
  obtain ⟨p1, h1, r1⟩ := num_ok hsz (Rdr.start s) k (by omega) 65536
  obtain ⟨p2, h2, r2⟩ := text_ok hsz r1 k (by omega) 32
  have hn3 : ∀ rest e, (numS rest e 17).1.toNat ≤ 17 := by
    intro rest e
    by_cases he : e = 0
    · subst he
      by_cases hq : (numS rest 0 17).2.2 = 0
      · obtain ⟨m, g1, g2, _⟩ := numS_back rest 17 (by omega) hq
        rw [g1]; omega
      · have : (numS rest 0 17).1 = 0 := by
          unfold numS at hq ⊢
          simp only [if_true] at hq ⊢
          cases rest with
          | nil => rfl
          | cons c t =>
            simp only [] at hq ⊢
            repeat' split
            all_goals first | rfl | (exfalso; apply hq; simp_all)
        rw [this]; decide
    · rw [numS_err rest e 17 he]; show (0 : Int).toNat ≤ 17; decide
  obtain ⟨p3, h3, r3⟩ := texts_ok hsz r2 k 17 32 (by decide) (by have := hn3 (textS (numS (L s) 0 65536).2.1 (numS (L s) 0 65536).2.2 32).2.1 (textS (numS (L s) 0 65536).2.1 (numS (L s) 0 65536).2.2 32).2.2; omega)
  have h4 := end_ok hsz r3
  generalize hq1 : numS (L s) 0 65536 = q1 at *
  obtain ⟨n, t1, e1⟩ := q1
  dsimp only at *
  generalize hq2 : textS t1 e1 32 = q2 at *
  obtain ⟨root, t2, e2⟩ := q2
  dsimp only at *
  generalize hq3 : textsS t2 e2 17 32 = q3 at *
  obtain ⟨path, t3, e3⟩ := q3
  dsimp only at *
  have hl : path.length ≤ 17 := by
    by_cases he : e3 = 0
    · by_cases h2 : e2 = 0
      · subst h2
        have := textsS_back t2 17 32 (by omega) (by omega) (by rw [hq3]; exact he)
        rw [hq3] at this
        have := this.1
        dsimp only at this
        omega
      · rw [textsS_err t2 e2 17 32 h2] at hq3
        injection hq3 with a b
        rw [← a]; simp
    · by_cases h2 : e2 = 0
      · subst h2
        have hnil : path = [] := by
          have aux : ∀ (m : Nat) (rest : List UInt8) (acc : List ByteArray), (textsL 32 m rest acc).2.2 ≠ 0 → (textsL 32 m rest acc).1 = [] := by
            intro m
            induction m with
            | zero => intro rest acc h; exact absurd rfl h
            | succ m ih =>
              intro rest acc h
              simp only [textsL] at h ⊢
              by_cases hc : (textS rest 0 32).2.2 = 0
              · rw [if_pos hc] at h ⊢; exact ih _ _ h
              · rw [if_neg hc]
          unfold textsS at hq3
          by_cases hc : (numS t2 0 17).2.2 = 0
          · rw [if_pos hc] at hq3
            have := aux (numS t2 0 17).1.toNat (numS t2 0 17).2.1 [] (by rw [hq3]; exact he)
            rw [hq3] at this; exact this
          · rw [if_neg hc] at hq3
            injection hq3 with a b
            exact a.symm
        rw [hnil]; simp
      · rw [textsS_err t2 e2 17 32 h2] at hq3
        injection hq3 with a b
        rw [← a]; simp
  have h5 := rightG_ok k n (B root) path (by omega) (by omega)
  have key := chain_any k s n (B root) path p1 p2 p3 e1 e2 e3 _ _ h1 h2 h3 h4 h5
  by_cases he : endS t3 e3 = 0
  · obtain ⟨he3, ht3⟩ := endS_ok he
    have he2 : e2 = 0 := by
      by_cases h2 : e2 = 0
      · exact h2
      · rw [textsS_err t2 e2 17 32 h2] at hq3
        injection hq3 with a b; injection b with b c
        omega
    have he1 : e1 = 0 := by
      by_cases h1 : e1 = 0
      · exact h1
      · rw [textS_err t1 e1 32 h1] at hq2
        injection hq2 with a b; injection b with b c
        omega
    subst he1 he2 he3 ht3
    rw [if_pos he] at key
    by_cases hg : rightG n (B root) path = true
    · rw [if_pos hg] at key
      refine ⟨n, B root, path, 0, key, fun h => absurd rfl h, fun _ => ⟨hg, ?_⟩⟩
      have b1 := numS_back (L s) 65536 (by omega) (by rw [hq1])
      have b2 := textS_back t1 32 (by omega) (by rw [hq2])
      have b3 := textsS_back t2 17 32 (by omega) (by omega) (by rw [hq3])
      rw [hq1] at b1; rw [hq2] at b2; rw [hq3] at b3
      dsimp only at b1 b2 b3
      obtain ⟨m, g1, g2, g3, g4⟩ := b1
      apply L_inj
      unfold growB textB
      rw [L_append, L_append, L_append, g1, g4, L_B, L_B, size_B, g3, b2.1, b3.2.2, List.append_nil]
    · rw [if_neg hg] at key
      exact ⟨_, _, _, _, key, fun _ => ⟨rfl, rfl, rfl⟩, fun h => absurd h (by decide)⟩
  · rw [if_neg he] at key
    exact ⟨_, _, _, _, key, fun _ => ⟨rfl, rfl, rfl⟩, fun h => absurd h he⟩
theorem grows_j0 (s : ByteArray) (hs : s.size ≤ 2000) : chartularylaw19_ProofGrows.j0 200 s = some true := by
  obtain ⟨n, root, path, e, h, hn, hy⟩ := read_any 199 (by omega) s hs
  rw [chartularylaw19_ProofGrows.j0, h, bind_some']
  dsimp only
  by_cases he : e = 0
  · obtain ⟨hr, hb⟩ := hy he
    obtain ⟨h0, h1, h2, h3, h4⟩ := rightG_iff hr
    have s1 := numI_size n
    have s2 := textB_size root
    have s3 := room_le path 32 (fun a ha => by rw [h3 a ha]; exact Nat.le_refl _)
    have s4 : path.length * (32 + 8) ≤ 17 * 40 := Nat.mul_le_mul h4 (by omega)
    have s5 := textsB_size path
    have s6 := numI_size (path.length : Int)
    rw [if_pos he, rightG_ok 199 n root path (by omega) (by omega), bind_some', if_pos hr, octet_num 199 (by omega), bind_some', octet_text' 199 (by omega) root (by omega), bind_some', if_pos (by omega),
      list_ok 199 path (by omega) (by omega) (by omega), bind_some', if_pos (by simp only [ByteArray.size_append]; omega)]
    rw [if_pos (by rw [← hb]; unfold growB; rw [BA_assoc]), proof_awake 199 (by omega)]
    rfl
  · obtain ⟨rfl, rfl, rfl⟩ := hn he
    rw [if_neg he, if_pos (by rw [toList_eq]; rfl), if_pos (by rfl), proof_awake 199 (by omega)]
    rfl
/-- ProofGrows, in plain numbers and lists. -/
theorem ProofGrows : chartularylaw19_ProofGrows.Pure := by
  intro s hs
  refine ⟨200, ?_⟩
  unfold chartularylaw19_ProofGrows.f
  by_cases h : (s.size : Int) > 2000
  · rw [if_pos h, if_pos (by decide), if_pos (by omega)]
    exact grows_j0 _ (by rw [ByteArray.size_extract]; omega)
  · rw [if_neg h]
    exact grows_j0 s (by omega)
end Go.Proofs.Ytfegehfdbcnepaa.Pure
