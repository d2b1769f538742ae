/- Layer value in plain numbers: values read. -/
import Derived.Test.YtnedfkfelagmpaaQValueB
import Derived.Test.YtnedfkfelagmpaaQFlag
import Derived.Test.YtnedfkfelagmpaaQTextBack
import Derived.Test.YtnedfkfelagmpaaPValueb
import Derived.Test.YtnedfkfelagmpaaPH04
namespace Go.Proofs.Ytnedfkfelagmpaa.Q
open Go.RowKit Go.Proofs.Ytnedfkfelagmpaa.PAll Go.Proofs.YtnedfkfelagmpaaW.PrintWords Go.Proofs.YtnedfkfelagmpaaW.PrintLast
set_option linter.unusedVariables false
set_option linter.unusedSimpArgs false
theorem val_eightL (m : Nat) (h : m < 18446744073709551616) : val 0 (eightL m) = m := by
  unfold eightL val
  simp only [List.foldl_cons, List.foldl_nil, UInt8.toNat_ofNat']
  omega
theorem eightL_val (d : List UInt8) (h : d.length = 8) : eightL (val 0 d) = d := by
  match d, h with
  | [a, b, c, d, e, f, g, i], _ =>
    have ha := a.toNat_lt
    have hb := b.toNat_lt
    have hc := c.toNat_lt
    have hd := d.toNat_lt
    have he := e.toNat_lt
    have hf := f.toNat_lt
    have hg := g.toNat_lt
    have hi := i.toNat_lt
    unfold eightL val
    simp only [List.foldl_cons, List.foldl_nil, List.cons.injEq, and_true]
    refine ⟨?_, ?_, ?_, ?_, ?_, ?_, ?_, ?_⟩ <;> (apply UInt8.toNat_inj.1; rw [UInt8.toNat_ofNat']; omega)
theorem or64 (a b : Nat) (ha : a < 2 ^ 56) (hb : b < 256) : Go.bits .or .u64 (IntKind.u64.wrap ((a : Int) * 256)) (IntKind.u64.wrap (b : Int)) = ((a * 256 + b : Nat) : Int) := by
  rw [u64_wrap, u64_wrap, show (a : Int) * 256 % 18446744073709551616 = (a : Int) * 256 from by omega, show (b : Int) % 18446744073709551616 = (b : Int) from by omega]
  rw [bits_join .u64 64 (by decide) u64_wraps 8 _ _ (by omega) (by omega) (by omega) (by omega) (by omega) (by omega)]
  omega
theorem of_loop (d : List UInt8) (hd : d.length ≤ 8) : ∀ (m k i a : Nat), d.length - i = m → m < k → i ≤ d.length → a < 256 ^ i →
    value_of.l0 k (a : Int) (bytesOf (B d)) (d.length : Int) (i : Int) = some ((val a (d.drop i) : Nat) : Int) := by
  intro m
  induction m with
  | zero =>
    intro k i a hm hk hi ha
    obtain ⟨k, rfl⟩ : ∃ q, k = q + 1 := ⟨k - 1, by omega⟩
    rw [value_of.l0, if_neg (by omega), List.drop_of_length_le (by omega)]
    rfl
  | succ m ih =>
    intro k i a hm hk hi ha
    obtain ⟨k, rfl⟩ : ∃ q, k = q + 1 := ⟨k - 1, by omega⟩
    have hlt : i < d.length := by omega
    rw [value_of.l0, if_pos (by omega), if_pos (by omega), if_pos (by rw [bytesOf_length, size_B]; omega), rd_bytes d i hlt]
    have hb := (d[i]).toNat_lt
    have ha56 : a < 2 ^ 56 := by
      have : 256 ^ i ≤ 256 ^ 7 := Nat.pow_le_pow_right (by omega) (by omega)
      omega
    rw [or64 a _ ha56 hb, wrap64_id (by omega) (by omega), show ((i : Int) + 1) = ((i + 1 : Nat) : Int) from by omega]
    rw [ih k (i + 1) _ (by omega) (by omega) (by omega) (by rw [Nat.pow_succ]; omega), List.drop_eq_getElem_cons hlt]
    rfl
theorem of_ok (k : Nat) (hk : 10 ≤ k) (d : List UInt8) (hd : d.length ≤ 8) : value_of.f k (B d) = some ((val 0 d : Nat) : Int) := by
  unfold value_of.f
  rw [if_pos (by rw [size_B]; omega), bind_some', bytesOf_length, size_B]
  exact of_loop d hd d.length k 0 0 rfl (by omega) (by omega) (by decide)
theorem rawS_len (rest : List UInt8) (e : Int) (n : Nat) : (rawS rest e n).1.length ≤ n := by
  unfold rawS
  by_cases he : e = 0
  · rw [if_pos he, if_neg (by omega)]
    by_cases hl : (rest.length : Int) < (n : Int)
    · rw [if_pos hl]; simp
    · rw [if_neg hl]; simp
      omega
  · rw [if_neg he]; simp
theorem rawS_len8 (rest : List UInt8) (e : Int) : (rawS rest e 8).1.length ≤ 8 := rawS_len rest e 8
theorem rawS_err (rest : List UInt8) (e n : Int) (he : e ≠ 0) : rawS rest e n = ([], rest, e) := by unfold rawS; rw [if_neg he]
theorem val_8 (d : List UInt8) (h : d.length ≤ 8) : val 0 d < 18446744073709551616 := by
  have h1 := val_lt d 0 0 (by decide)
  have h2 : 256 ^ (0 + d.length) ≤ 256 ^ 8 := Nat.pow_le_pow_right (by omega) (by omega)
  omega
/-- What is told at the end. -/
def endV (rest : List UInt8) (e k : Int) (f : Bool) (n b : Int) (t : ByteArray) : Int × Bool × Int × Int × ByteArray × Int :=
  if endS rest e = 0 then if rightV k f n b t = true then (k, f, n, b, t, 0) else (0, false, 0, 0, ⟨#[]⟩, 4) else (0, false, 0, 0, ⟨#[]⟩, endS rest e)
theorem read_j0 (q : Nat) {s : ByteArray} {pos e : Int} {rest : List UInt8} (hs : s.size ≤ 4611686018427387904) (hr : Rdr s pos e rest) (k : Int) (f : Bool) (n b : Int) (t : ByteArray) (h0 : 0 ≤ b) (h1 : b < 18446744073709551616) :
    value_Read.j0 (q + 1) s pos e k f n b t = some (endV rest e k f n b t) := by
  rw [value_Read.j0, end_ok hs hr, bind_some']
  unfold endV
  dsimp only
  by_cases h : endS rest e = 0
  · rw [if_pos h, if_pos h, right_ok k f n b t h0 h1, bind_some']
    cases rightV k f n b t <;> rfl
  · rw [if_neg h, if_neg h]
/-- A value out of what is left behind its kind: the fields, what is left, the fault. -/
def partV (k : Int) (rest : List UInt8) (e : Int) : (Bool × Int × Int × ByteArray) × List UInt8 × Int :=
  if k = 1 then (((flagS rest e).1, 0, 0, ⟨#[]⟩), (flagS rest e).2)
  else if k = 2 then ((false, wrap64 ((val 0 (rawS rest e 8).1 : Nat) : Int), 0, ⟨#[]⟩), (rawS rest e 8).2)
  else if k = 3 then ((false, 0, ((val 0 (rawS rest e 8).1 : Nat) : Int), ⟨#[]⟩), (rawS rest e 8).2)
  else if k = 4 then ((false, 0, 0, B (textS rest e 200).1), (textS rest e 200).2)
  else ((false, 0, 0, ⟨#[]⟩), rest, e)
theorem zero_b : (0 : Int) ≤ 0 ∧ (0 : Int) < 18446744073709551616 := by decide
theorem partV_b (k : Int) (rest : List UInt8) (e : Int) : 0 ≤ (partV k rest e).1.2.2.1 ∧ (partV k rest e).1.2.2.1 < 18446744073709551616 := by
  unfold partV
  split
  · exact zero_b
  · split
    · exact zero_b
    · split
      · have := val_8 (rawS rest e 8).1 (rawS_len8 rest e)
        dsimp only
        exact ⟨by omega, by omega⟩
      · split
        · exact zero_b
        · exact zero_b
theorem read_ok (q : Nat) (hq : 20 ≤ q) (s : ByteArray) (hs : s.size ≤ 4611686018427387904) :
    value_Read.f q s = some (endV (partV (numS (L s) 0 4).1 (numS (L s) 0 4).2.1 (numS (L s) 0 4).2.2).2.1 (partV (numS (L s) 0 4).1 (numS (L s) 0 4).2.1 (numS (L s) 0 4).2.2).2.2 (numS (L s) 0 4).1
      (partV (numS (L s) 0 4).1 (numS (L s) 0 4).2.1 (numS (L s) 0 4).2.2).1.1 (partV (numS (L s) 0 4).1 (numS (L s) 0 4).2.1 (numS (L s) 0 4).2.2).1.2.1
      (partV (numS (L s) 0 4).1 (numS (L s) 0 4).2.1 (numS (L s) 0 4).2.2).1.2.2.1 (partV (numS (L s) 0 4).1 (numS (L s) 0 4).2.1 (numS (L s) 0 4).2.2).1.2.2.2) := by
  obtain ⟨q, rfl⟩ : ∃ z, q = z + 1 := ⟨q - 1, by omega⟩
  obtain ⟨p1, h1, r1⟩ := num_ok hs (Rdr.start s) (q + 1) (by omega) 4
  unfold value_Read.f octet_Read.f
  rw [bind_some']
  dsimp only
  rw [h1, bind_some']
  dsimp only
  generalize hN : numS (L s) 0 4 = N at *
  obtain ⟨k, rest, e⟩ := N
  dsimp only at *
  have hb := partV_b k rest e
  unfold partV at hb ⊢
  by_cases q1 : k = 1
  · rw [if_pos q1] at hb
    simp only [if_pos q1]
    obtain ⟨p2, h2, r2⟩ := flag_ok hs r1
    rw [h2, bind_some']
    exact read_j0 q hs r2 _ _ _ _ _ (by decide) (by decide)
  rw [if_neg q1] at hb
  simp only [if_neg q1]
  by_cases q2 : k = 2
  · rw [if_pos q2] at hb
    simp only [if_pos q2]
    obtain ⟨p2, h2, r2⟩ := raw_ok hs r1 8 (by omega)
    rw [h2, bind_some']
    dsimp only
    rw [of_ok (q + 1) (by omega) _ (rawS_len8 rest e), bind_some']
    exact read_j0 q hs r2 _ _ _ _ _ (by decide) (by decide)
  rw [if_neg q2] at hb
  simp only [if_neg q2]
  by_cases q3 : k = 3
  · rw [if_pos q3] at hb
    simp only [if_pos q3]
    obtain ⟨p2, h2, r2⟩ := raw_ok hs r1 8 (by omega)
    rw [h2, bind_some']
    dsimp only
    rw [of_ok (q + 1) (by omega) _ (rawS_len8 rest e), bind_some']
    exact read_j0 q hs r2 _ _ _ _ _ hb.1 hb.2
  rw [if_neg q3] at hb
  simp only [if_neg q3]
  by_cases q4 : k = 4
  · simp only [if_pos q4]
    obtain ⟨p2, h2, r2⟩ := text_ok hs r1 (q + 1) (by omega) 200
    rw [h2, bind_some']
    exact read_j0 q hs r2 _ _ _ _ _ (by decide) (by decide)
  simp only [if_neg q4]
  exact read_j0 q hs r1 _ _ _ _ _ (by decide) (by decide)
theorem wrap_back (v : Nat) (h : v < 18446744073709551616) : (wrap64 (v : Int) % 18446744073709551616).toNat = v := by unfold wrap64; omega
/-- What is left behind the kind, told back. -/
theorem partV_back (k : Int) (rest : List UInt8) (e : Int) (h : (partV k rest e).2.2 = 0) (hrest : (partV k rest e).2.1 = []) : e = 0 ∧
    numI k ++ B rest = valL k (partV k rest e).1.1 (partV k rest e).1.2.1 (partV k rest e).1.2.2.1 (partV k rest e).1.2.2.2 := by
  unfold partV at h hrest ⊢
  unfold valL
  by_cases q1 : k = 1
  · simp only [if_pos q1] at h hrest ⊢
    have he : e = 0 := by
      by_cases he : e = 0
      · exact he
      · rw [flagS_err rest e he] at h; exact absurd h he
    subst he
    have hb := flagS_back rest h
    rw [hrest] at hb
    refine ⟨rfl, ?_⟩
    unfold flagB
    exact congrArg (fun z => numI k ++ B z) hb
  simp only [if_neg q1] at h hrest ⊢
  by_cases q2 : k = 2
  · simp only [if_pos q2] at h hrest ⊢
    obtain ⟨he, _, hl, hb⟩ := rawS_back rest e 8 h
    subst he
    rw [hrest, List.append_nil] at hb
    refine ⟨rfl, ?_⟩
    rw [wrap_back _ (val_8 _ (rawS_len8 rest 0)), eightL_val _ (by omega), ← hb]
  simp only [if_neg q2] at h hrest ⊢
  by_cases q3 : k = 3
  · simp only [if_pos q3] at h hrest ⊢
    obtain ⟨he, _, hl, hb⟩ := rawS_back rest e 8 h
    subst he
    rw [hrest, List.append_nil] at hb
    refine ⟨rfl, ?_⟩
    rw [Int.toNat_natCast, eightL_val _ (by omega), ← hb]
  simp only [if_neg q3] at h hrest ⊢
  by_cases q4 : k = 4
  · simp only [if_pos q4] at h hrest ⊢
    have he : e = 0 := by
      by_cases he : e = 0
      · exact he
      · have : textS rest e 200 = ([], rest, e) := by unfold textS; rw [numS_err rest e 200 he, rawS_err _ _ _ he]
        rw [this] at h; exact absurd h he
    subst he
    have hb := textS_back rest 200 (by omega) h
    rw [hrest, List.append_nil] at hb
    refine ⟨rfl, ?_⟩
    unfold textB
    rw [size_B]
    congr 1
    apply L_inj
    rw [L_B, L_append, L_B]
    exact hb.1
  simp only [if_neg q4] at h hrest ⊢
  exact ⟨h, by rw [hrest]⟩
/-- What any bytes are read as: nothing, or a value that may be with just these bytes. -/
theorem read_any (q : Nat) (hq : 20 ≤ q) (s : ByteArray) (hs : s.size ≤ 4611686018427387904) :
    ∃ (k : Int) (f : Bool) (n b : Int) (t : ByteArray) (e : Int), value_Read.f q s = some (k, f, n, b, t, e) ∧ (0 ≤ b ∧ b < 18446744073709551616) ∧
      (e ≠ 0 → k = 0 ∧ f = false ∧ n = 0 ∧ b = 0 ∧ t = ⟨#[]⟩) ∧ (e = 0 → rightV k f n b t = true ∧ valL k f n b t = s) := by
  have h := read_ok q hq s hs
  have hb := partV_b (numS (L s) 0 4).1 (numS (L s) 0 4).2.1 (numS (L s) 0 4).2.2
  have back := partV_back (numS (L s) 0 4).1 (numS (L s) 0 4).2.1 (numS (L s) 0 4).2.2
  have nb := numS_back (L s) 4 (by omega)
  generalize numS (L s) 0 4 = N at *
  obtain ⟨k, rest, e⟩ := N
  dsimp only at *
  generalize partV k rest e = p at *
  obtain ⟨⟨f, n, b, t⟩, rest2, e2⟩ := p
  dsimp only at *
  unfold endV at h
  by_cases he : endS rest2 e2 = 0
  · rw [if_pos he] at h
    obtain ⟨z1, z2⟩ := endS_ok he
    by_cases hr : rightV k f n b t = true
    · rw [if_pos hr] at h
      refine ⟨_, _, _, _, _, _, h, hb, fun z => absurd rfl z, fun _ => ⟨hr, ?_⟩⟩
      obtain ⟨y1, y2⟩ := back z1 z2
      obtain ⟨m, g1, g2, g3, g4⟩ := nb y1
      rw [← y2, g1, g4]
      apply L_inj
      rw [L_append, L_B, L_B]
      exact g3.symm
    · rw [if_neg hr] at h
      exact ⟨_, _, _, _, _, _, h, ⟨by decide, by decide⟩, fun _ => ⟨rfl, rfl, rfl, rfl, rfl⟩, fun z => absurd z (by decide)⟩
  · rw [if_neg he] at h
    exact ⟨_, _, _, _, _, _, h, ⟨by decide, by decide⟩, fun _ => ⟨rfl, rfl, rfl, rfl, rfl⟩, fun z => absurd z he⟩
theorem partV_val (k : Int) (f : Bool) (n b : Int) (t : ByteArray) (h : rightV k f n b t = true) (h0 : 0 ≤ b) (h1 : b < 18446744073709551616) (n0 : -9223372036854775808 ≤ n) (n1 : n ≤ 9223372036854775807) (rest : List UInt8)
    (hrest : numI k ++ B rest = valL k f n b t) : partV k rest 0 = ((f, n, b, t), [], 0) := by
  have hcan : B rest = (if k = 1 then flagB f else if k = 2 then B (eightL (n % 18446744073709551616).toNat) else if k = 3 then B (eightL b.toNat) else if k = 4 then textB t else B []) := by
    unfold valL at hrest
    have := congrArg L hrest
    rw [L_append, L_append] at this
    exact L_inj (List.append_cancel_left this)
  obtain ⟨ht, hc⟩ := rightV_cases h
  unfold partV
  rcases hc with ⟨rfl, rfl, rfl, rfl, rfl⟩ | ⟨rfl, rfl, rfl, rfl⟩ | ⟨rfl, rfl, rfl, rfl⟩ | ⟨rfl, rfl, rfl, rfl⟩ | ⟨rfl, rfl, rfl, rfl⟩
  · rw [if_neg (by decide), if_neg (by decide), if_neg (by decide), if_neg (by decide)] at hcan
    have : rest = [] := congrArg L hcan
    rw [this]; rfl
  · rw [if_pos rfl] at hcan
    have : rest = [if f = true then 1 else 0] := congrArg L hcan
    rw [this, if_pos rfl, flagS_flag]
  · rw [if_neg (by decide), if_pos rfl] at hcan
    have : rest = eightL (n % 18446744073709551616).toNat := congrArg L hcan
    have hr : rawS rest 0 8 = (eightL (n % 18446744073709551616).toNat, [], 0) := by
      rw [this]; unfold rawS
      rw [if_pos rfl, if_neg (by decide), if_neg (by simp [eightL])]
      rfl
    rw [if_neg (by decide), if_pos rfl, hr]
    dsimp only
    rw [val_eightL _ (by omega)]
    rw [show wrap64 (((n % 18446744073709551616).toNat : Nat) : Int) = n from by unfold wrap64; omega]
  · rw [if_neg (by decide), if_neg (by decide), if_pos rfl] at hcan
    have : rest = eightL b.toNat := congrArg L hcan
    have hr : rawS rest 0 8 = (eightL b.toNat, [], 0) := by
      rw [this]; unfold rawS
      rw [if_pos rfl, if_neg (by decide), if_neg (by simp [eightL])]
      rfl
    rw [if_neg (by decide), if_neg (by decide), if_pos rfl, hr]
    dsimp only
    rw [val_eightL _ (by omega), Int.toNat_of_nonneg h0]
  · rw [if_neg (by decide), if_neg (by decide), if_neg (by decide), if_pos rfl] at hcan
    have : rest = L (textB t) := congrArg L hcan
    have hr := textS_text t [] 200 (by omega) (by omega)
    rw [List.append_nil, ← this] at hr
    rw [if_neg (by decide), if_neg (by decide), if_neg (by decide), if_pos rfl, hr]
    rfl
/-- What was laid of a value that may be is read as it was. -/
theorem read_val (q : Nat) (hq : 20 ≤ q) (k : Int) (f : Bool) (n b : Int) (t : ByteArray) (h : rightV k f n b t = true) (h0 : 0 ≤ b) (h1 : b < 18446744073709551616) (n0 : -9223372036854775808 ≤ n) (n1 : n ≤ 9223372036854775807)
    (s : ByteArray) (hs : s.size ≤ 4611686018427387904) (hsv : s = valL k f n b t) : value_Read.f q s = some (k, f, n, b, t, 0) := by
  obtain ⟨hk0, hk4, ht, _⟩ := rightV_facts h
  obtain ⟨m, rfl⟩ := Int.eq_ofNat_of_zero_le hk0
  have hex : ∃ rest, numI (m : Int) ++ B rest = valL (m : Int) f n b t := ⟨L (if (m : Int) = 1 then flagB f else if (m : Int) = 2 then B (eightL (n % 18446744073709551616).toNat) else if (m : Int) = 3 then B (eightL b.toNat) else if (m : Int) = 4 then textB t else B []), rfl⟩
  obtain ⟨rest, hrest⟩ := hex
  have hp := partV_val (m : Int) f n b t h h0 h1 n0 n1 rest hrest
  have hN : numS (L s) 0 4 = ((m : Int), rest, 0) := by
    rw [hsv, ← hrest, L_append, (numI_some (n := (m : Int)) (by omega) (by omega)).1, L_B, L_B, Int.toNat_natCast]
    exact numS_num m (by omega) rest 4 hk4
  have key := read_ok q hq s hs
  rw [hN] at key
  dsimp only at key
  rw [hp] at key
  dsimp only at key
  rw [key]
  unfold endV
  rw [if_pos (show endS [] 0 = 0 from rfl), if_pos h]
theorem valL_size (k : Int) (f : Bool) (n b : Int) (t : ByteArray) (ht : t.size ≤ 200) : (valL k f n b t).size ≤ 300 := by
  have h0 := numI_size k
  have h1 := textB_size t
  have h2 := flagB_size f
  unfold valL
  rw [ByteArray.size_append]
  split
  · omega
  · split
    · rw [size_B]; simp [eightL]; omega
    · split
      · rw [size_B]; simp [eightL]; omega
      · split
        · omega
        · rw [size_B]; simp; omega
/-! ## The statements' own bytes -/
theorem tmod_nat (n : Nat) : Int.tmod (n : Int) 256 = ((n % 256 : Nat) : Int) := by
  rw [Int.tmod_eq_emod_of_nonneg (by omega)]; omega
theorem tdiv_nat (n : Nat) : Int.tdiv (n : Int) 256 = ((n / 256 : Nat) : Int) := by
  rw [Int.tdiv_eq_ediv_of_nonneg (by omega)]; omega
theorem number_l0 : ∀ (k n : Nat) (s : ByteArray), n < 9223372036854775808 → (digs n).length < k → s.size + (digs n).length < 256 →
    chartularylaw04_number.l0 k (n : Int) s = some (B [UInt8.ofNat ((digs n).length + s.size)] ++ (B (digs n) ++ s)) := by
  intro k
  induction k with
  | zero => intro n s _ hn; omega
  | succ k ih =>
    intro n s h63 hn hs
    rcases Nat.eq_zero_or_pos n with rfl | hp
    · rw [chartularylaw04_number.l0, if_neg (by omega), bind_some', num_end s (by omega), if_pos (by rw [one_size]; omega), digs_zero, B_nil_append]
      simp
    · rw [digs_pos hp] at hn hs
      simp only [List.length_append, List.length_cons, List.length_nil] at hn hs
      rw [chartularylaw04_number.l0, if_pos (by omega), bind_some', if_pos (by rw [one_size]; omega)]
      rw [tdiv_nat, wrap64_id (by omega) (by omega), tmod_nat, show ((n % 256 : Nat) : Int) % 256 = ((n % 256 : Nat) : Int) from by omega, strOfNums_one _ (Nat.mod_lt _ (by omega))]
      rw [ih (n / 256) _ (by omega) (by omega) (by rw [ByteArray.size_append, size_B]; simp; omega)]
      rw [digs_pos hp, ByteArray.size_append, size_B]
      congr 1
      apply L_inj
      simp only [L_append, L_B, List.length_append, List.length_cons, List.length_nil, List.append_assoc]
      rw [show (digs (n / 256)).length + (0 + 1 + s.size) = (digs (n / 256)).length + (0 + 1) + s.size from by omega]
theorem number_ok (k : Nat) (hk : 12 ≤ k) (n : Nat) (h : n < 72057594037927936) : chartularylaw04_number.f k (n : Int) = some (numI (n : Int)) := by
  have hd := digs_length_le 7 n (by omega)
  unfold chartularylaw04_number.f
  rw [show (⟨#[]⟩ : ByteArray) = B [] from rfl, number_l0 k n (B []) (by omega) (by omega) (by rw [size_B]; simp; omega), numB_of, (numI_some (n := (n : Int)) (by omega) (by omega)).1]
  rfl
theorem leight_step (k n : Nat) (s : ByteArray) (i : Nat) (hi : i < 8) (hn : n < 18446744073709551616) (hs : s.size ≤ 100) :
    chartularylaw04_eight.l0 (k + 1) (n : Int) s (i : Int) = chartularylaw04_eight.l0 k ((n / 256 : Nat) : Int) (B [UInt8.ofNat (n % 256)] ++ s) ((i + 1 : Nat) : Int) := by
  rw [chartularylaw04_eight.l0, if_pos (by omega), bind_some', if_pos (by rw [one_size]; omega), tdiv_nat, u64_wrap, tmod_nat, show ((n / 256 : Nat) : Int) % 18446744073709551616 = ((n / 256 : Nat) : Int) from by omega,
    show ((n % 256 : Nat) : Int) % 256 = ((n % 256 : Nat) : Int) from by omega, strOfNums_one _ (Nat.mod_lt _ (by omega)), wrap64_id (by omega) (by omega), show ((i : Int) + 1) = ((i + 1 : Nat) : Int) from by omega]
theorem leight_ok (k n : Nat) (hk : 9 ≤ k) (h : n < 18446744073709551616) : chartularylaw04_eight.f k (n : Int) = some (B (eightL n)) := by
  obtain ⟨k, rfl⟩ : ∃ q, k = q + 9 := ⟨k - 9, by omega⟩
  unfold chartularylaw04_eight.f
  rw [show (⟨#[]⟩ : ByteArray) = B [] from rfl, show (0 : Int) = ((0 : Nat) : Int) from rfl]
  rw [leight_step (k + 8) n _ 0 (by omega) h (by rw [size_B]; simp)]
  rw [leight_step (k + 7) _ _ 1 (by omega) (by omega) (by simp only [ByteArray.size_append, size_B, List.length_cons, List.length_nil]; omega)]
  rw [leight_step (k + 6) _ _ 2 (by omega) (by omega) (by simp only [ByteArray.size_append, size_B, List.length_cons, List.length_nil]; omega)]
  rw [leight_step (k + 5) _ _ 3 (by omega) (by omega) (by simp only [ByteArray.size_append, size_B, List.length_cons, List.length_nil]; omega)]
  rw [leight_step (k + 4) _ _ 4 (by omega) (by omega) (by simp only [ByteArray.size_append, size_B, List.length_cons, List.length_nil]; omega)]
  rw [leight_step (k + 3) _ _ 5 (by omega) (by omega) (by simp only [ByteArray.size_append, size_B, List.length_cons, List.length_nil]; omega)]
  rw [leight_step (k + 2) _ _ 6 (by omega) (by omega) (by simp only [ByteArray.size_append, size_B, List.length_cons, List.length_nil]; omega)]
  rw [leight_step (k + 1) _ _ 7 (by omega) (by omega) (by simp only [ByteArray.size_append, size_B, List.length_cons, List.length_nil]; omega)]
  rw [chartularylaw04_eight.l0, if_neg (by decide)]
  rfl
theorem lbytes_ok (q : Nat) (hq : 20 ≤ q) (k : Int) (f : Bool) (n b : Int) (t : ByteArray) (h : rightV k f n b t = true) (h0 : 0 ≤ b) (h1 : b < 18446744073709551616) :
    chartularylaw04_bytes.f q k f n b t = some (valL k f n b t) := by
  obtain ⟨hk0, hk4, ht, _⟩ := rightV_facts h
  obtain ⟨m, rfl⟩ := Int.eq_ofNat_of_zero_le hk0
  have hnk := numI_size (m : Int)
  unfold chartularylaw04_bytes.f valL
  rw [number_ok q (by omega) m (by omega), bind_some']
  by_cases q1 : (m : Int) = 1
  · rw [if_pos q1, if_pos q1]
    cases f
    · rw [if_neg (by decide), if_pos (by omega)]; rfl
    · rw [if_pos rfl, if_pos (by omega)]; rfl
  rw [if_neg q1, if_neg q1]
  by_cases q2 : (m : Int) = 2
  · rw [if_pos q2, if_pos q2, u64_wrap]
    obtain ⟨z, hz⟩ := Int.eq_ofNat_of_zero_le (show 0 ≤ n % 18446744073709551616 from by omega)
    rw [hz, leight_ok q z (by omega) (by omega), bind_some', if_pos (by rw [size_B]; simp [eightL]; omega), Int.toNat_natCast]
  rw [if_neg q2, if_neg q2]
  by_cases q3 : (m : Int) = 3
  · rw [if_pos q3, if_pos q3]
    obtain ⟨z, rfl⟩ := Int.eq_ofNat_of_zero_le h0
    rw [leight_ok q z (by omega) (by omega), bind_some', if_pos (by rw [size_B]; simp [eightL]; omega), Int.toNat_natCast]
  rw [if_neg q3, if_neg q3]
  by_cases q4 : (m : Int) = 4
  · rw [if_pos q4, if_pos q4, number_ok q (by omega) t.size (by omega), bind_some']
    have := numI_size (t.size : Int)
    rw [if_pos (by omega), if_pos (by rw [ByteArray.size_append]; omega)]
    congr 1
    apply L_inj
    unfold textB
    simp only [L_append, List.append_assoc]
  rw [if_neg q4, if_neg q4, append_B_nil]
end Go.Proofs.Ytnedfkfelagmpaa.Q
