/- Layer octet in plain lists: what readers read. -/
import Derived.Test.YtfegehfdbcnepaaPOctet
import Derived.Test.YtfegehfdbcnepaaQOctet
namespace Go.Proofs.Ytfegehfdbcnepaa.Q
open Go.RowKit Go.Proofs.Ytfegehfdbcnepaa.PAll Go.Proofs.YtfegehfdbcnepaaW.PrintWords Go.Proofs.YtfegehfdbcnepaaW.PrintLast
set_option linter.unusedVariables false
set_option linter.unusedSimpArgs false

/-! ## A reader: what is left to read, and the first error -/
/-- The reader's variable reads as 'rest', where nothing has failed. -/
def Rdr (s : ByteArray) (pos e : Int) (rest : List UInt8) : Prop := e = 0 → 0 ≤ pos ∧ pos ≤ s.size ∧ (L s).drop pos.toNat = rest
theorem Rdr.err {s : ByteArray} {pos e : Int} {rest : List UInt8} (h : e ≠ 0) : Rdr s pos e rest := fun h' => absurd h' h
theorem Rdr.start (s : ByteArray) : Rdr s 0 0 (L s) := fun _ => ⟨by omega, by omega, rfl⟩
/-- So many bytes. -/
def rawS (rest : List UInt8) (e n : Int) : List UInt8 × List UInt8 × Int :=
  if e = 0 then if n < 0 then ([], rest, 1) else if (rest.length : Int) < n then ([], rest, 2) else (rest.take n.toNat, rest.drop n.toNat, 0) else ([], rest, e)
theorem extract_L (s : ByteArray) (i j : Nat) : s.extract i j = B (((L s).drop i).take (j - i)) := by
  apply L_inj
  rw [L_B]
  simp [L, List.extract_eq_take_drop]
theorem raw_ok {s : ByteArray} {pos e : Int} {rest : List UInt8} (hs : s.size ≤ 4611686018427387904) (h : Rdr s pos e rest) (n : Int) (hn : n ≤ 9223372036854775807) :
    ∃ pos', octet_Reader_Raw.f s pos e n = some (B (rawS rest e n).1, s, pos', (rawS rest e n).2.2) ∧ Rdr s pos' (rawS rest e n).2.2 (rawS rest e n).2.1 := by
  unfold octet_Reader_Raw.f octet_Reader_Err.f rawS octet_Reader_Fail.f
  simp only [bind_some']
  by_cases he : e = 0
  · obtain ⟨h1, h2, h3⟩ := h he
    subst he
    have hl : rest.length = s.size - pos.toNat := by rw [← h3, List.length_drop, size_L]
    simp only [if_true]
    by_cases hn0 : n < 0
    · simp only [if_pos hn0]
      exact ⟨pos, rfl, Rdr.err (show (1 : Int) ≠ 0 by decide)⟩
    · simp only [if_neg hn0]
      rw [wrap64_id (n := (s.size : Int) - pos) (by omega) (by omega)]
      by_cases hlt : (rest.length : Int) < n
      · rw [if_pos (by omega)]
        simp only [if_pos hlt]
        exact ⟨pos, rfl, Rdr.err (show (2 : Int) ≠ 0 by decide)⟩
      · rw [if_neg (by omega)]
        simp only [if_neg hlt]
        rw [wrap64_id (n := pos + n) (by omega) (by omega), wrap64_id (by omega) (by omega), if_pos (by omega), if_pos (by omega), if_pos (by omega)]
        refine ⟨pos + n, ?_, fun _ => ⟨by omega, by omega, ?_⟩⟩
        · rw [extract_L, show (pos + n - n).toNat = pos.toNat from by omega, show (pos + n).toNat - pos.toNat = n.toNat from by omega, h3]
        · show _ = rest.drop n.toNat
          rw [← h3, List.drop_drop, show (pos + n).toNat = pos.toNat + n.toNat from by omega]
  · simp only [if_neg he]
    exact ⟨pos, rfl, Rdr.err he⟩

/-- Does a number's first byte say nothing? -/
def lead0 : List UInt8 → Bool
  | [] => false
  | x :: _ => decide (x = 0)
/-- A number of at most so much. -/
def numS (rest : List UInt8) (e most : Int) : Int × List UInt8 × Int :=
  if e = 0 then
    match rest with
    | [] => (0, [], 2)
    | c :: t =>
      if 7 < c.toNat then (0, t, 4)
      else if t.length < c.toNat then (0, t, 2)
      else if lead0 (t.take c.toNat) = true then (0, t.drop c.toNat, 4)
      else if most < (val 0 (t.take c.toNat) : Int) then (0, t.drop c.toNat, 3)
      else ((val 0 (t.take c.toNat) : Int), t.drop c.toNat, 0)
  else (0, rest, e)
theorem rd_bytes (d : List UInt8) (i : Nat) (h : i < d.length) : rd (bytesOf (B d)) (i : Int) = (d[i].toNat : Int) := by
  unfold rd bytesOf B
  simp [h]
theorem or_add (a b : Nat) (ha : a < 2 ^ 48) (hb : b < 256) : Go.bits .or .i64 (wrap64 ((a : Int) * 256)) (wrap64 (b : Int)) = ((a * 256 + b : Nat) : Int) := by
  rw [wrap64_id (by omega) (by omega), wrap64_id (by omega) (by omega)]
  rw [bits_join .i64 62 (by decide) (fun n h0 h1 => by rw [IntKind.wrap_i64]; omega) 8 _ _ (by omega) (by omega) (by omega) (by omega) (by omega) (by omega)]
  omega
/-- What follows behind the last byte. -/
def numEnd (most : Int) (v : Nat) (s : ByteArray) (pos e : Int) : Option (Int × ByteArray × Int × Int) :=
  if e = 0 then if most < (v : Int) then some (0, s, pos, 3) else some ((v : Int), s, pos, e) else some (0, s, pos, e)
theorem num_loop (most : Int) (d : List UInt8) (hd : d.length ≤ 7) (s : ByteArray) (pos e : Int) : ∀ (m k i a : Nat), d.length - i = m → m < k → 1 ≤ i → i ≤ d.length → a < 256 ^ i →
    octet_Reader_Num.l0 k most (a : Int) (bytesOf (B d)) (d.length : Int) (i : Int) s pos e = numEnd most (val a (d.drop i)) s pos e := by
  intro m
  induction m with
  | zero =>
    intro k i a hm hk hi hi2 ha
    obtain ⟨k, rfl⟩ : ∃ q, k = q + 1 := ⟨k - 1, by omega⟩
    rw [octet_Reader_Num.l0, if_neg (by omega), List.drop_of_length_le (by omega)]
    unfold octet_Reader_Err.f octet_Reader_Fail.f numEnd
    rw [show val a [] = a from rfl]
    simp only [bind_some']
    by_cases he : e = 0
    · subst he
      simp only [if_true]
      by_cases hm : most < (a : Int)
      · simp only [if_pos hm, bind_some']
      · simp only [if_neg hm]
    · simp only [if_neg he]
  | succ m ih =>
    intro k i a hm hk hi hi2 ha
    obtain ⟨k, rfl⟩ : ∃ q, k = q + 1 := ⟨k - 1, by omega⟩
    have hlt : i < d.length := by omega
    rw [octet_Reader_Num.l0, if_pos (by omega), if_pos (by omega), if_pos (by rw [bytesOf_length, size_B]; omega), if_neg (by omega), rd_bytes d i hlt]
    have hb := (d[i]).toNat_lt
    have ha48 : a < 2 ^ 48 := by
      have : 256 ^ i ≤ 256 ^ 6 := Nat.pow_le_pow_right (by omega) (by omega)
      omega
    rw [or_add a _ ha48 hb, wrap64_id (by omega) (by omega), show ((i : Int) + 1) = ((i + 1 : Nat) : Int) from by omega]
    rw [ih k (i + 1) _ (by omega) (by omega) (by omega) (by omega) (by rw [Nat.pow_succ]; omega)]
    rw [List.drop_eq_getElem_cons hlt]
    rfl
theorem num_ok {s : ByteArray} {pos e : Int} {rest : List UInt8} (hs : s.size ≤ 4611686018427387904) (h : Rdr s pos e rest) (k : Nat) (hk : 12 ≤ k) (most : Int) :
    ∃ pos', octet_Reader_Num.f k s pos e most = some ((numS rest e most).1, s, pos', (numS rest e most).2.2) ∧ Rdr s pos' (numS rest e most).2.2 (numS rest e most).2.1 := by
  unfold octet_Reader_Num.f
  obtain ⟨p1, h1, r1⟩ := raw_ok hs h 1 (by omega)
  rw [h1]
  simp only [bind_some', toList_eq, L_B]
  by_cases he : e = 0
  · subst he
    cases rest with
    | nil =>
      refine ⟨p1, ?_, ?_⟩ <;> simp [rawS, numS] at r1 ⊢
      exact r1
    | cons c t =>
      have hraw : rawS (c :: t) 0 1 = ([c], t, 0) := by simp [rawS]; omega
      rw [hraw] at r1 ⊢
      simp only [] at r1 ⊢
      rw [if_neg (by simp), if_pos (by rw [size_B]; simp)]
      have hbt : bt (B [c]) 0 = (c.toNat : Int) := by simp [bt, B]; rfl
      have hc := c.toNat_lt
      rw [hbt, wrap64_id (by omega) (by omega)]
      unfold numS
      simp only [if_true]
      by_cases h7 : 7 < c.toNat
      · rw [if_pos (by omega), if_pos h7]
        unfold octet_Reader_Fail.f
        simp only [bind_some', if_true]
        exact ⟨p1, rfl, Rdr.err (show (4 : Int) ≠ 0 by decide)⟩
      · rw [if_neg (by omega), if_neg h7]
        obtain ⟨p2, h2, r2⟩ := raw_ok hs r1 (c.toNat : Int) (by omega)
        rw [h2]
        simp only [bind_some']
        by_cases hl : t.length < c.toNat
        · have hr2 : rawS t 0 (c.toNat : Int) = ([], t, 2) := by
            unfold rawS; rw [if_pos rfl, if_neg (by omega), if_pos (by omega)]
          rw [hr2] at r2 ⊢
          simp only [] at r2 ⊢
          rw [if_pos hl, if_pos (by decide)]
          obtain ⟨k, rfl⟩ : ∃ q, k = q + 1 := ⟨k - 1, by omega⟩
          refine ⟨p2, ?_, r2⟩
          rw [show (bytesOf (B ([] : List UInt8))) = [] from rfl]
          rw [octet_Reader_Num.l0, if_neg (by simp)]
          unfold octet_Reader_Err.f
          simp
        · have hr2 : rawS t 0 (c.toNat : Int) = (t.take c.toNat, t.drop c.toNat, 0) := by
            unfold rawS; rw [if_pos rfl, if_neg (by omega), if_neg (by omega)]; simp
          rw [hr2] at r2 ⊢
          simp only [] at r2 ⊢
          rw [if_neg hl]
          have hlen : (t.take c.toNat).length = c.toNat := by rw [List.length_take]; omega
          generalize ht : t.take c.toNat = d at hlen ⊢
          rw [if_pos (by rw [size_B]; omega)]
          rw [bytesOf_length, size_B]
          obtain ⟨k, rfl⟩ : ∃ q, k = q + 1 := ⟨k - 1, by omega⟩
          cases d with
          | nil =>
            rw [octet_Reader_Num.l0, if_neg (by simp)]
            unfold octet_Reader_Err.f octet_Reader_Fail.f
            rw [show val 0 ([] : List UInt8) = 0 from rfl]
            simp only [bind_some', if_true, lead0, Bool.false_eq_true, if_false]
            by_cases hm : most < ((0 : Nat) : Int)
            · rw [if_pos (show (0 : Int) > most from hm)]
              simp only [if_pos hm, bind_some']
              exact ⟨p2, rfl, Rdr.err (show (3 : Int) ≠ 0 by decide)⟩
            · rw [if_neg (show ¬ (0 : Int) > most from hm)]
              simp only [if_neg hm]
              exact ⟨p2, rfl, r2⟩
          | cons x d =>
            rw [octet_Reader_Num.l0, if_pos (by rw [List.length_cons]; omega), if_pos (by omega), if_pos (by rw [bytesOf_length, size_B, List.length_cons]; omega), if_pos rfl]
            rw [show rd (bytesOf (B (x :: d))) 0 = (x.toNat : Int) from rd_bytes (x :: d) 0 (by simp)]
            rw [show lead0 (x :: d) = decide (x = 0) from rfl]
            by_cases hx : x = 0
            · rw [if_pos (by rw [hx]; rfl), if_pos (by rw [hx]; rfl)]
              unfold octet_Reader_Fail.f
              simp only [bind_some']
              exact ⟨p2, rfl, Rdr.err (show (4 : Int) ≠ 0 by decide)⟩
            · have hx0 : x.toNat ≠ 0 := fun q => hx (by apply UInt8.toNat_inj.1; rw [q]; rfl)
              have hx1 := x.toNat_lt
              rw [if_neg (by omega), if_neg (by simpa using hx)]
              rw [show Go.bits .or .i64 (wrap64 (0 * 256)) (wrap64 (x.toNat : Int)) = ((0 * 256 + x.toNat : Nat) : Int) from or_add 0 x.toNat (by omega) hx1, show wrap64 (0 + 1) = ((1 : Nat) : Int) from by unfold wrap64; omega]
              rw [num_loop most (x :: d) (by rw [hlen]; omega) s p2 0 ((x :: d).length - 1) k 1 _ rfl (by rw [hlen]; omega) (by omega) (by simp) (by omega)]
              unfold numEnd
              rw [if_pos rfl]
              have hv : val (0 * 256 + x.toNat) ((x :: d).drop 1) = val 0 (x :: d) := rfl
              rw [hv]
              by_cases hm : most < ((val 0 (x :: d) : Nat) : Int)
              · rw [if_pos hm, if_pos hm]; exact ⟨p2, rfl, Rdr.err (show (3 : Int) ≠ 0 by decide)⟩
              · rw [if_neg hm, if_neg hm]; exact ⟨p2, rfl, r2⟩
  · have hraw : rawS rest e 1 = ([], rest, e) := by unfold rawS; rw [if_neg he]
    have hnum : numS rest e most = (0, rest, e) := by unfold numS; rw [if_neg he]
    rw [hraw] at r1 ⊢
    rw [hnum]
    exact ⟨p1, by simp, r1⟩

/-- A text of at most so many bytes. -/
def textS (rest : List UInt8) (e most : Int) : List UInt8 × List UInt8 × Int :=
  rawS (numS rest e most).2.1 (numS rest e most).2.2 (numS rest e most).1
theorem numS_le (rest : List UInt8) (e most : Int) : (numS rest e most).1 ≤ 9223372036854775807 := by
  unfold numS
  split
  · cases rest with
    | nil => simp
    | cons c t =>
      simp only []
      split
      · simp
      · split
        · simp
        · split
          · simp
          · split
            · simp
            · rename_i h7 _ _ _
              have h := val_lt (t.take c.toNat) 0 0 (by decide)
              have : (t.take c.toNat).length ≤ 7 := by rw [List.length_take]; omega
              have h2 : 256 ^ (0 + (t.take c.toNat).length) ≤ 256 ^ 7 := Nat.pow_le_pow_right (by omega) (by omega)
              simp only []
              omega
  · simp
theorem text_ok {s : ByteArray} {pos e : Int} {rest : List UInt8} (hs : s.size ≤ 4611686018427387904) (h : Rdr s pos e rest) (k : Nat) (hk : 12 ≤ k) (most : Int) :
    ∃ pos', octet_Reader_Text.f k s pos e most = some (B (textS rest e most).1, s, pos', (textS rest e most).2.2) ∧ Rdr s pos' (textS rest e most).2.2 (textS rest e most).2.1 := by
  unfold octet_Reader_Text.f
  obtain ⟨p1, h1, r1⟩ := num_ok hs h k hk most
  rw [h1]
  simp only [bind_some']
  obtain ⟨p2, h2, r2⟩ := raw_ok hs r1 _ (numS_le rest e most)
  rw [h2]
  exact ⟨p2, rfl, r2⟩
/-- Is nothing left? -/
def endS (rest : List UInt8) (e : Int) : Int := if e = 0 then if rest = [] then 0 else 4 else e
theorem left_ok {s : ByteArray} {pos e : Int} {rest : List UInt8} (hs : s.size ≤ 4611686018427387904) (h : Rdr s pos e rest) :
    octet_Reader_Left.f s pos e = some (if e = 0 then (rest.length : Int) else 0, s, pos, e) := by
  unfold octet_Reader_Left.f octet_Reader_Err.f
  simp only [bind_some']
  by_cases he : e = 0
  · obtain ⟨h1, h2, h3⟩ := h he
    have hl : rest.length = s.size - pos.toNat := by rw [← h3, List.length_drop, size_L]
    rw [if_pos he, if_pos he, wrap64_id (by omega) (by omega), show (s.size : Int) - pos = (rest.length : Int) from by omega]
  · rw [if_neg he, if_neg he]
theorem end_ok {s : ByteArray} {pos e : Int} {rest : List UInt8} (hs : s.size ≤ 4611686018427387904) (h : Rdr s pos e rest) (k : Nat) :
    octet_Reader_End.f (k + 1) s pos e = some (endS rest e, s, pos, endS rest e) := by
  unfold octet_Reader_End.f
  rw [left_ok hs h]
  unfold octet_Reader_Fail.f endS
  simp only [octet_Reader_End.j0]
  unfold octet_Reader_Err.f
  simp only [bind_some']
  by_cases he : e = 0
  · subst he
    simp only [if_true]
    cases rest with
    | nil => simp
    | cons c t => rw [if_pos (by rw [List.length_cons]; omega)]; simp
  · simp only [if_neg he]
    rw [if_neg (by omega)]
/-- What was read as a number without a fault is its bytes, and what is left. -/
theorem numS_back (rest : List UInt8) (most : Int) (hm : most < 72057594037927936) (h : (numS rest 0 most).2.2 = 0) :
    ∃ n : Nat, (numS rest 0 most).1 = n ∧ (n : Int) ≤ most ∧ rest = numL n ++ (numS rest 0 most).2.1 ∧ numI n = B (numL n) := by
  unfold numS at h ⊢
  simp only [if_true] at h ⊢
  cases rest with
  | nil => simp at h
  | cons c t =>
    simp only [] at h ⊢
    by_cases h7 : 7 < c.toNat
    · rw [if_pos h7] at h; simp at h
    rw [if_neg h7] at h ⊢
    by_cases hl : t.length < c.toNat
    · rw [if_pos hl] at h; simp at h
    rw [if_neg hl] at h ⊢
    by_cases h0 : lead0 (t.take c.toNat) = true
    · rw [if_pos h0] at h; simp at h
    rw [if_neg h0] at h ⊢
    by_cases hmo : most < (val 0 (t.take c.toNat) : Int)
    · rw [if_pos hmo] at h; simp at h
    rw [if_neg hmo] at h ⊢
    have hd := digs_val _ (t.take c.toNat) rfl (by
      cases ht : t.take c.toNat with
      | nil => simp
      | cons x d => rw [ht] at h0; simp only [lead0] at h0; simpa using h0)
    refine ⟨val 0 (t.take c.toNat), rfl, by omega, ?_, ?_⟩
    · unfold numL
      rw [hd, List.length_take, Nat.min_eq_left (by omega)]
      simp
    · unfold numI
      rw [if_neg (by omega)]
      simp
theorem lead0_digs (n : Nat) : lead0 (digs n) = false := by
  induction n using Nat.strongRecOn with
  | _ n ih =>
    rcases Nat.eq_zero_or_pos n with rfl | hp
    · rw [digs_zero]; rfl
    · rw [digs_pos hp]
      rcases Nat.eq_zero_or_pos (n / 256) with hz | hz
      · rw [hz, digs_zero]
        simp only [List.nil_append, lead0, decide_eq_false_iff_not]
        intro e
        have := congrArg UInt8.toNat e
        rw [UInt8.toNat_ofNat'] at this
        simp at this
        omega
      · have := ih (n / 256) (by omega)
        cases hq : digs (n / 256) with
        | nil => rw [digs_pos hz] at hq; simp at hq
        | cons x d => rw [hq] at this; simpa [lead0] using this
/-- What was laid as a number is read so. -/
theorem numS_num (n : Nat) (h : n < 72057594037927936) (rest : List UInt8) (most : Int) (hm : (n : Int) ≤ most) : numS (numL n ++ rest) 0 most = ((n : Int), rest, 0) := by
  have hd := digs_length_le 7 n (by omega)
  unfold numS numL
  simp only [if_true, List.cons_append]
  have hc : (UInt8.ofNat (digs n).length).toNat = (digs n).length := by rw [UInt8.toNat_ofNat']; omega
  rw [hc, if_neg (by omega), if_neg (by rw [List.length_append]; omega), List.take_left, List.drop_left, val_digs]
  rw [if_neg (by rw [lead0_digs]; decide), if_neg (by omega)]
theorem rawS_back (rest : List UInt8) (e n : Int) (h : (rawS rest e n).2.2 = 0) : e = 0 ∧ 0 ≤ n ∧ ((rawS rest e n).1.length : Int) = n ∧ rest = (rawS rest e n).1 ++ (rawS rest e n).2.1 := by
  unfold rawS at h ⊢
  by_cases he : e = 0
  · simp only [if_pos he] at h ⊢
    by_cases hn : n < 0
    · rw [if_pos hn] at h; simp at h
    rw [if_neg hn] at h ⊢
    by_cases hl : (rest.length : Int) < n
    · rw [if_pos hl] at h; simp at h
    rw [if_neg hl] at h ⊢
    refine ⟨he, by omega, ?_, by simp⟩
    simp only [List.length_take]; omega
  · rw [if_neg he] at h; exact absurd h he
theorem numS_err (rest : List UInt8) (e most : Int) (he : e ≠ 0) : numS rest e most = (0, rest, e) := by unfold numS; rw [if_neg he]
/-- What was read as a text without a fault is its bytes, and what is left. -/
theorem textS_back (rest : List UInt8) (most : Int) (hm : most < 72057594037927936) (h : (textS rest 0 most).2.2 = 0) :
    rest = L (numI ((textS rest 0 most).1.length : Int)) ++ (textS rest 0 most).1 ++ (textS rest 0 most).2.1 ∧ ((textS rest 0 most).1.length : Int) ≤ most := by
  unfold textS at h ⊢
  obtain ⟨he, hn, hl, hr⟩ := rawS_back _ _ _ h
  obtain ⟨n, h1, h2, h3, h4⟩ := numS_back rest most hm he
  rw [hl, h1, h4, L_B]
  refine ⟨?_, h2⟩
  rw [h1] at hr
  rw [List.append_assoc, ← hr]
  exact h3
end Go.Proofs.Ytfegehfdbcnepaa.Q
