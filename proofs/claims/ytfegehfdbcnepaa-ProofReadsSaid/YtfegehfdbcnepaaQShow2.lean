/- What any bytes are read as: nothing, or a proof that may be, with just these bytes. -/
import Derived.Test.YtfegehfdbcnepaaQShow
namespace Go.Proofs.Ytfegehfdbcnepaa.Q
open Go.RowKit Go.Proofs.Ytfegehfdbcnepaa.PAll Go.Proofs.YtfegehfdbcnepaaW.PrintWords Go.Proofs.YtfegehfdbcnepaaW.PrintLast
set_option linter.unusedVariables false
set_option linter.unusedSimpArgs false
theorem numS_bnd (rest : List UInt8) (e most : Int) (h0 : 0 ≤ most) : 0 ≤ (numS rest e most).1 ∧ (numS rest e most).1 ≤ most ∧ ((numS rest e most).2.2 ≠ 0 → (numS rest e most).1 = 0) := by
  unfold numS
  split
  · cases rest with
    | nil => exact ⟨by simp, by simpa using h0, fun _ => rfl⟩
    | cons c t =>
      dsimp only
      split
      · exact ⟨by simp, by simpa using h0, fun _ => rfl⟩
      split
      · exact ⟨by simp, by simpa using h0, fun _ => rfl⟩
      split
      · exact ⟨by simp, by simpa using h0, fun _ => rfl⟩
      split
      · exact ⟨by simp, by simpa using h0, fun _ => rfl⟩
      · exact ⟨by simp, by dsimp only; omega, fun h => absurd rfl h⟩
  · exact ⟨by simp, by simpa using h0, fun _ => rfl⟩
theorem textS_len (rest : List UInt8) (e : Int) (most : Nat) : (textS rest e most).1.length ≤ most := by
  have h := numS_bnd rest e most (by omega)
  unfold textS rawS
  split
  · split
    · simp
    · split
      · simp
      · simp only [List.length_take]; omega
  · simp
theorem textsL_len (most : Int) : ∀ (m : Nat) (rest : List UInt8) (acc : List ByteArray), (textsL most m rest acc).1.length ≤ acc.length + m := by
  intro m
  induction m with
  | zero => intro rest acc; exact Nat.le_refl _
  | succ m ih =>
    intro rest acc
    simp only [textsL]
    split
    · have := ih (textS rest 0 most).2.1 (acc ++ [B (textS rest 0 most).1])
      rw [List.length_append] at this
      simp only [List.length_cons, List.length_nil] at this
      omega
    · simp
theorem textsS_len (rest : List UInt8) (e most : Int) (many : Nat) : (textsS rest e many most).1.length ≤ many := by
  have h := numS_bnd rest e many (by omega)
  unfold textsS
  split
  · have := textsL_len most (numS rest e many).1.toNat (numS rest e many).2.1 []
    simp only [List.length_nil] at this
    omega
  · simp
/-- The reading behind the fields, its parts given. -/
theorem j1_chain (k : Nat) (s : ByteArray) (p0 e0 p1 e1 p2 e2 p3 e3 p4 e4 e5 : Int) (nodes path : List ByteArray) (seq size : Int) (g : Bool) (id : ByteArray) (cl born cnt : Int) (items : List It)
    (h1 : octet_Reader_Texts.f k s p0 e0 12 32 = some (nodes, s, p1, e1)) (h2 : octet_Reader_Num.f k s p1 e1 65536 = some (seq, s, p2, e2)) (h3 : octet_Reader_Num.f k s p2 e2 65536 = some (size, s, p3, e3))
    (h4 : octet_Reader_Texts.f k s p3 e3 16 32 = some (path, s, p4, e4)) (h5 : octet_Reader_End.f k s p4 e4 = some (e5, s, p4, e5)) (h6 : proof_Right.f k id cl born cnt items nodes seq size path = some g) :
    proof_Read.j1 (k + 1) s p0 e0 id cl born cnt items 0 0 = some (if e5 = 0 then if g = true then (id, cl, born, cnt, items, nodes, seq, size, path, 0) else (⟨#[]⟩, 0, 0, 0, [], [], 0, 0, [], 4) else (⟨#[]⟩, 0, 0, 0, [], [], 0, 0, [], e5)) := by
  rw [proof_Read.j1, h1, bind_some']
  dsimp only
  rw [h2, bind_some']
  dsimp only
  rw [h3, bind_some']
  dsimp only
  rw [h4, bind_some']
  dsimp only
  rw [h5, bind_some']
  dsimp only
  by_cases h : e5 = 0
  · rw [if_pos h, if_pos h, h6, bind_some']
    cases g <;> rfl
  · rw [if_neg h, if_neg h]
theorem j1_ok (k : Nat) (hk : 5001 ≤ k) {s : ByteArray} {pos e : Int} {rest : List UInt8} (hs : s.size ≤ 4611686018427387904) (h : Rdr s pos e rest) (id : ByteArray) (cl born cnt : Int) (items : List It)
    (hid : id.size ≤ 1000) (hl : items.length ≤ 1000) (hsz : ∀ t ∈ items, t.f1.size ≤ 1000) :
    (∃ x : Int, x ≠ 0 ∧ proof_Read.j1 (k + 1) s pos e id cl born cnt items 0 0 = some (⟨#[]⟩, 0, 0, 0, [], [], 0, 0, [], x)) ∨
    (∃ (nodes : List ByteArray) (seq size : Int) (path : List ByteArray), proof_Read.j1 (k + 1) s pos e id cl born cnt items 0 0 = some (id, cl, born, cnt, items, nodes, seq, size, path, 0) ∧ rightS id cl born cnt items nodes seq size path ∧ e = 0 ∧
      rest = L ((numI nodes.length ++ textsB nodes) ++ (numI seq ++ (numI size ++ (numI path.length ++ textsB path))))) := by
  obtain ⟨k, rfl⟩ : ∃ q, k = q + 1 := ⟨k - 1, by omega⟩
  have b1 := numS_bnd rest e 12 (by omega)
  obtain ⟨p1, h1, r1⟩ := texts_ok hs h (k + 1) 12 32 (by decide) (by omega)
  have l1 : (textsS rest e 12 32).1.length ≤ 12 := textsS_len rest e 32 12
  generalize hq1 : textsS rest e 12 32 = q1 at *
  obtain ⟨nodes, t1, e1⟩ := q1
  dsimp only at *
  obtain ⟨p2, h2, r2⟩ := num_ok hs r1 (k + 1) (by omega) 65536
  generalize hq2 : numS t1 e1 65536 = q2 at *
  obtain ⟨seq, t2, e2⟩ := q2
  dsimp only at *
  obtain ⟨p3, h3, r3⟩ := num_ok hs r2 (k + 1) (by omega) 65536
  generalize hq3 : numS t2 e2 65536 = q3 at *
  obtain ⟨size, t3, e3⟩ := q3
  dsimp only at *
  have b4 := numS_bnd t3 e3 16 (by omega)
  obtain ⟨p4, h4, r4⟩ := texts_ok hs r3 (k + 1) 16 32 (by decide) (by omega)
  have l4 : (textsS t3 e3 16 32).1.length ≤ 16 := textsS_len t3 e3 32 16
  generalize hq4 : textsS t3 e3 16 32 = q4 at *
  obtain ⟨path, t4, e4⟩ := q4
  dsimp only at *
  have h5 := end_ok hs r4 k
  obtain ⟨g, h6, hg⟩ := right_ok (k + 1) (by omega) id cl born cnt items nodes seq size path hid hl hsz (by omega) (by omega)
  have key := j1_chain (k + 1) s pos e p1 e1 p2 e2 p3 e3 p4 e4 _ nodes path seq size g id cl born cnt items h1 h2 h3 h4 h5 h6
  by_cases he : endS t4 e4 = 0
  · rw [if_pos he] at key
    cases g with
    | false => exact Or.inl ⟨4, by omega, key⟩
    | true =>
      right
      refine ⟨nodes, seq, size, path, key, hg rfl, ?_⟩
      obtain ⟨z4, ht4⟩ := endS_ok he
      have z3 : e3 = 0 := textsS_e0 (rest := t3) (many := 16) (most := 32) (by rw [hq4]; exact z4)
      have z2 : e2 = 0 := numS_e0 (rest := t2) (most := 65536) (by rw [hq3]; exact z3)
      have z1 : e1 = 0 := numS_e0 (rest := t1) (most := 65536) (by rw [hq2]; exact z2)
      have z0 : e = 0 := textsS_e0 (rest := rest) (many := 12) (most := 32) (by rw [hq1]; exact z1)
      subst z0 z1 z2 z3 z4 ht4
      have w1 := textsS_back rest 12 32 (by omega) (by omega) (by rw [hq1])
      have w2 := numS_L (rest := t1) (most := 65536) (by omega) (by rw [hq2])
      have w3 := numS_L (rest := t2) (most := 65536) (by omega) (by rw [hq3])
      have w4 := textsS_back t3 16 32 (by omega) (by omega) (by rw [hq4])
      rw [hq1] at w1; rw [hq2] at w2; rw [hq3] at w3; rw [hq4] at w4
      dsimp only at w1 w2 w3 w4
      refine ⟨rfl, ?_⟩
      rw [w1.2.2, w2.1, w3.1, w4.2.2, List.append_nil]
      simp only [L_append, List.append_assoc]
  · rw [if_neg he] at key
    exact Or.inl ⟨_, he, key⟩
theorem read_loop {s : ByteArray} (hs : s.size ≤ 4611686018427387904) (id : ByteArray) (cl born cnt : Int) (n : Nat) (hn : n ≤ 1000) : ∀ (m k i : Nat) (acc : List It) (pos : Int) (rest : List UInt8), n - i = m → m + 13 < k → i ≤ n → acc.length = i → Rdr s pos 0 rest →
    ∃ pos' kk, k ≤ kk + m + 1 ∧ kk ≤ k ∧ proof_Read.l0 k (n : Int) (i : Int) s pos 0 id cl born cnt acc 0 0 = proof_Read.j1 kk s pos' (itemsS m rest acc).2.2 id cl born cnt (itemsS m rest acc).1 0 0 ∧ Rdr s pos' (itemsS m rest acc).2.2 (itemsS m rest acc).2.1 := by
  intro m
  induction m with
  | zero =>
    intro k i acc pos rest hm hk hi ha hr
    obtain ⟨k, rfl⟩ : ∃ q, k = q + 1 := ⟨k - 1, by omega⟩
    refine ⟨pos, k, by omega, by omega, ?_, hr⟩
    rw [proof_Read.l0, if_neg (by omega)]
    rfl
  | succ m ih =>
    intro k i acc pos rest hm hk hi ha hr
    obtain ⟨k, rfl⟩ : ∃ q, k = q + 1 := ⟨k - 1, by omega⟩
    obtain ⟨p1, h1, r1⟩ := readItem_ok hs hr k (by omega)
    rw [proof_Read.l0, if_pos (by omega), h1, bind_some']
    dsimp only
    unfold octet_Reader_Err.f
    rw [bind_some']
    dsimp only
    unfold itemsS
    by_cases he : (itemS rest 0).2.2 = 0
    · rw [if_pos he, if_pos he, if_pos (by omega), he]
      rw [he] at r1
      have hw : wrap64 ((i : Int) + 1) = ((i + 1 : Nat) : Int) := by unfold wrap64; omega
      rw [hw]
      obtain ⟨p2, kk, g1, g2, g3, g4⟩ := ih k (i + 1) (acc ++ [(itemS rest 0).1]) p1 (itemS rest 0).2.1 (by omega) (by omega) (by omega) (by simp [ha]) r1
      exact ⟨p2, kk, by omega, by omega, g3, g4⟩
    · rw [if_neg he, if_neg he]
      exact ⟨p1, k, by omega, by omega, rfl, r1⟩
theorem read_top (k : Nat) (s : ByteArray) (p1 e1 p2 e2 p3 e3 p4 e4 p5 e5 : Int) (id : ByteArray) (cl born cnt n : Int)
    (h1 : octet_Reader_Text.f k s 0 0 24 = some (id, s, p1, e1)) (h2 : octet_Reader_Num.f k s p1 e1 7 = some (cl, s, p2, e2)) (h3 : octet_Reader_Num.f k s p2 e2 1099511627776 = some (born, s, p3, e3))
    (h4 : octet_Reader_Num.f k s p3 e3 12 = some (cnt, s, p4, e4)) (h5 : octet_Reader_Num.f k s p4 e4 12 = some (n, s, p5, e5)) :
    proof_Read.f k s = proof_Read.l0 k n 0 s p5 e5 id cl born cnt [] 0 0 := by
  unfold proof_Read.f octet_Read.f
  rw [bind_some']
  dsimp only
  rw [h1, bind_some']
  dsimp only
  rw [h2, bind_some']
  dsimp only
  rw [h3, bind_some']
  dsimp only
  rw [h4, bind_some']
  dsimp only
  rw [h5, bind_some']
theorem read_show (k : Nat) (hk : 6000 ≤ k) (s : ByteArray) (hs : s.size ≤ 4611686018427387904) :
    (∃ x : Int, x ≠ 0 ∧ proof_Read.f k s = some (⟨#[]⟩, 0, 0, 0, [], [], 0, 0, [], x)) ∨
    (∃ (id : ByteArray) (cl born cnt : Int) (items : List It) (nodes : List ByteArray) (seq size : Int) (path : List ByteArray), proof_Read.f k s = some (id, cl, born, cnt, items, nodes, seq, size, path, 0) ∧ rightS id cl born cnt items nodes seq size path ∧
      showL id cl born cnt items nodes seq size path = s) := by
  obtain ⟨p1, h1, r1⟩ := text_ok hs (Rdr.start s) k (by omega) 24
  have s1 : (textS (L s) 0 24).1.length ≤ 24 := textS_len (L s) 0 24
  generalize hq1 : textS (L s) 0 24 = q1 at *
  obtain ⟨id, t1, e1⟩ := q1
  dsimp only at *
  obtain ⟨p2, h2, r2⟩ := num_ok hs r1 k (by omega) 7
  generalize hq2 : numS t1 e1 7 = q2 at *
  obtain ⟨cl, t2, e2⟩ := q2
  dsimp only at *
  obtain ⟨p3, h3, r3⟩ := num_ok hs r2 k (by omega) 1099511627776
  generalize hq3 : numS t2 e2 1099511627776 = q3 at *
  obtain ⟨born, t3, e3⟩ := q3
  dsimp only at *
  obtain ⟨p4, h4, r4⟩ := num_ok hs r3 k (by omega) 12
  generalize hq4 : numS t3 e3 12 = q4 at *
  obtain ⟨cnt, t4, e4⟩ := q4
  dsimp only at *
  have b5 := numS_bnd t4 e4 12 (by omega)
  obtain ⟨p5, h5, r5⟩ := num_ok hs r4 k (by omega) 12
  generalize hq5 : numS t4 e4 12 = q5 at *
  obtain ⟨n, t5, e5⟩ := q5
  dsimp only at *
  have top := read_top k s p1 e1 p2 e2 p3 e3 p4 e4 p5 e5 (B id) cl born cnt n h1 h2 h3 h4 h5
  rw [top]
  have hidz : (B id).size ≤ 1000 := by rw [size_B]; omega
  by_cases z5 : e5 = 0
  · subst z5
    obtain ⟨m, rfl⟩ := Int.eq_ofNat_of_zero_le b5.1
    obtain ⟨p6, kk, g1, g2, g3, g4⟩ := read_loop hs (B id) cl born cnt m (by omega) m k 0 [] p5 t5 (by omega) (by omega) (by omega) rfl r5
    have gl : (itemsS m t5 []).1.length ≤ 1000 := by have := itemsS_len m t5 []; simp only [List.length_nil] at this; omega
    have gs : ∀ t ∈ (itemsS m t5 []).1, t.f1.size ≤ 1000 := fun t ht => by have := itemsS_sizes m t5 [] (fun t h => absurd h (List.not_mem_nil)) t ht; omega
    obtain ⟨kq, rfl⟩ : ∃ q, kk = q + 1 := ⟨kk - 1, by omega⟩
    rw [show (0 : Int) = ((0 : Nat) : Int) from rfl] at g3
    rw [show proof_Read.l0 k (m : Int) 0 s p5 0 (B id) cl born cnt [] 0 0 = _ from g3]
    rcases j1_ok kq (by omega) hs g4 (B id) cl born cnt (itemsS m t5 []).1 hidz gl gs with ⟨x, hx, hj⟩ | ⟨nodes, seq, size, path, hj, hr, he, hrest⟩
    · exact Or.inl ⟨x, hx, hj⟩
    · right
      refine ⟨B id, cl, born, cnt, (itemsS m t5 []).1, nodes, seq, size, path, hj, hr, ?_⟩
      have z4 : e4 = 0 := numS_e0 (rest := t4) (most := 12) (by rw [hq5])
      have z3 : e3 = 0 := numS_e0 (rest := t3) (most := 12) (by rw [hq4]; exact z4)
      have z2 : e2 = 0 := numS_e0 (rest := t2) (most := 1099511627776) (by rw [hq3]; exact z3)
      have z1 : e1 = 0 := numS_e0 (rest := t1) (most := 7) (by rw [hq2]; exact z2)
      subst z1 z2 z3 z4
      obtain ⟨l, i1, i2, i3⟩ := itemsS_back m t5 [] he
      rw [List.nil_append] at i1
      have w1 := textS_L (rest := L s) (most := 24) (by omega) (by rw [hq1])
      have w2 := numS_L (rest := t1) (most := 7) (by omega) (by rw [hq2])
      have w3 := numS_L (rest := t2) (most := 1099511627776) (by omega) (by rw [hq3])
      have w4 := numS_L (rest := t3) (most := 12) (by omega) (by rw [hq4])
      have w5 := numS_L (rest := t4) (most := 12) (by omega) (by rw [hq5])
      rw [hq1] at w1; rw [hq2] at w2; rw [hq3] at w3; rw [hq4] at w4; rw [hq5] at w5
      dsimp only at w1 w2 w3 w4 w5
      apply L_inj
      rw [i1, w1.1, w2.1, w3.1, w4.1, w5.1, i3, hrest]
      unfold showL
      rw [i2]
      simp only [L_append, List.append_assoc]
  · have hn0 := b5.2.2 z5
    subst hn0
    obtain ⟨k, rfl⟩ : ∃ q, k = q + 2 := ⟨k - 2, by omega⟩
    rw [proof_Read.l0, if_neg (by omega)]
    rcases j1_ok k (by omega) hs r5 (B id) cl born cnt [] hidz (by simp) (fun t h => absurd h (List.not_mem_nil)) with ⟨x, hx, hj⟩ | ⟨nodes, seq, size, path, hj, hr, he, hrest⟩
    · exact Or.inl ⟨x, hx, hj⟩
    · exact absurd he z5
end Go.Proofs.Ytfegehfdbcnepaa.Q
