/- Plain laws of chapter 5: values as bytes, and read again. -/
import Derived.Test.YtabdmnoejoiboaaP05c
import Derived.Test.YtabdmnoejoiboaaOOne
namespace Go.Proofs.Ytabdmnoejoiboaa.Pure
open Go Go.Proofs.Ytabdmnoejoiboaa.E Go.Proofs.Ytabdmnoejoiboaa.Eng
set_option linter.unusedVariables false
set_option linter.unusedSimpArgs false

theorem nil_app (s : ByteArray) : ByteArray.empty ++ s = s := by
  have : (ByteArray.empty ++ s).data = s.data := by rw [ByteArray.data_append]; simp
  cases s; cases h2 : ByteArray.empty ++ _; rw [h2] at this; simp only at this; rw [this]
theorem app_nil (s : ByteArray) : s ++ (⟨#[]⟩ : ByteArray) = s := by
  have : (s ++ (⟨#[]⟩ : ByteArray)).data = s.data := by rw [ByteArray.data_append]; simp
  cases s; cases h2 : _ ++ (⟨#[]⟩ : ByteArray); rw [h2] at this; simp only at this; rw [this]
theorem w_flag (b : Bool) {s : ByteArray} (hs : s.size ≤ 1000000000) (x : Bool) : Runs (fun k => octet_Writer_Flag.f k b s x) ((), ((s ++ flagB b, x, ()), ())) := by
  have e1 : (⟨#[1]⟩ : ByteArray).size = 1 := rfl
  have e0 : (⟨#[0]⟩ : ByteArray).size = 1 := rfl
  refine Runs.step (fun k => rfl) ?_
  cases b with
  | true => exact Runs.ck (by apply decide_eq_true; rw [e1]; omega) Runs.some
  | false => exact Runs.ck (by apply decide_eq_true; rw [e0]; omega) Runs.some
theorem w_raw {t s : ByteArray} (h : t.size ≤ 1048576) (hs : s.size ≤ 1000000000) (x : Bool) : Runs (fun k => octet_Writer_Raw.f k t s x) ((), ((s ++ t, x, ()), ())) :=
  Runs.step (fun k => rfl) (Runs.ck (by apply decide_eq_true; omega) Runs.some)
theorem w_num {x : Int} (h0 : 0 ≤ x) (h1 : x < 72057594037927936) {s : ByteArray} (hs : s.size ≤ 1000000000) : Runs (fun k => octet_Writer_Num.f k x s false) ((), ((s ++ numI x, false, ()), ())) := writer_num h0 h1 hs
theorem w_text {t s : ByteArray} (h : t.size ≤ 1048576) (hs : s.size ≤ 1000000000) : Runs (fun k => octet_Writer_Text.f k t s false) ((), ((s ++ textB t, false, ()), ())) := writer_text h hs false

/-! ## Eight bytes -/
def b8 (a i : Nat) : Nat := a / 2 ^ (56 - 8 * i) % 256
def eightL (a : Nat) : List UInt8 := [UInt8.ofNat (b8 a 0), UInt8.ofNat (b8 a 1), UInt8.ofNat (b8 a 2), UInt8.ofNat (b8 a 3), UInt8.ofNat (b8 a 4), UInt8.ofNat (b8 a 5), UInt8.ofNat (b8 a 6), UInt8.ofNat (b8 a 7)]
def eightB (a : Nat) : ByteArray := ofL (eightL a)
theorem eightB_size (a : Nat) : (eightB a).size = 8 := rfl
theorem eight_step (a : Nat) (xs : List Int) (i : Nat) (hi : i < 8) (hx : xs.length = 8) {v : value_eight.R} (h : Runs (fun k => value_eight.l0 k (a : Int) (xs.set i ((b8 a i : Nat) : Int)) 8 ((i + 1 : Nat) : Int)) v) :
    Runs (fun k => value_eight.l0 k (a : Int) xs 8 (i : Int)) v := by
  have w1 : IntKind.wrap .i64 (8 * (i : Int)) = ((8 * i : Nat) : Int) := by rw [wrap_i64 (by omega) (by omega)]; omega
  have w2 : IntKind.wrap .i64 (56 - ((8 * i : Nat) : Int)) = ((56 - 8 * i : Nat) : Int) := by rw [wrap_i64 (by omega) (by omega)]; omega
  have w3 : IntKind.wrap .i64 ((i : Int) + 1) = ((i + 1 : Nat) : Int) := by rw [wrap_i64 (by omega) (by omega)]; rfl
  refine Runs.step (fun k => rfl) (Runs.yes (by apply decide_eq_true; omega) ?_)
  rw [w1, w2, w3]
  refine Runs.ck (by rw [decide_eq_false (by omega)]; rfl) (Runs.ck (by simp only [Bool.and_eq_true, decide_eq_true_eq]; omega) ?_)
  have e : IntKind.wrap .u8 (Int.fdiv (a : Int) (2 ^ (min ((56 - 8 * i : Nat) : Int).toNat (IntKind.bits .u64)))) = ((b8 a i : Nat) : Int) := by
    rw [Int.toNat_natCast, Nat.min_eq_left (show 56 - 8 * i ≤ IntKind.bits .u64 by simp [IntKind.bits]; omega)]
    have : Int.fdiv (a : Int) (2 ^ (56 - 8 * i)) = ((a / 2 ^ (56 - 8 * i) : Nat) : Int) := by
      rw [Int.fdiv_eq_ediv_of_nonneg _ (by exact Int.pow_nonneg (by decide))]
      rw [Int.natCast_ediv, Int.natCast_pow]; rfl
    rw [this, wrap_u8_mod]; rfl
  rw [Int.toNat_natCast]
  exact e ▸ h
theorem eight_ok (a : Nat) : Runs (fun k => value_eight.f k (a : Int)) ((eightB a, ()), ()) := by
  refine Runs.step (body := fun k => value_eight.l0 k (a : Int) (List.replicate 8 (0 : Int)) 8 ((0 : Nat) : Int)) (fun k => rfl) ?_
  refine eight_step a _ 0 (by omega) rfl (eight_step a _ 1 (by omega) rfl (eight_step a _ 2 (by omega) rfl (eight_step a _ 3 (by omega) rfl (eight_step a _ 4 (by omega) rfl (eight_step a _ 5 (by omega) rfl (eight_step a _ 6 (by omega) rfl (eight_step a _ 7 (by omega) rfl ?_)))))))
  refine Runs.step (fun k => rfl) (Runs.no (by rfl) (Runs.some' ?_))
  rfl
theorem or_byteU {x t : Int} (h0 : 0 ≤ x) (h1 : x < 72057594037927936) (h2 : 0 ≤ t) (h3 : t < 256) :
    IntKind.wrap .u64 ((BitVec.ofInt (IntKind.bits .u64) (IntKind.wrap .u64 (x * 2 ^ (min (8 : Int).toNat (IntKind.bits .u64)))) ||| BitVec.ofInt (IntKind.bits .u64) (IntKind.wrap .u64 t)).toNat : Int) = 256 * x + t := by
  obtain ⟨n, rfl⟩ := Int.eq_ofNat_of_zero_le h0
  obtain ⟨m, rfl⟩ := Int.eq_ofNat_of_zero_le h2
  have wu : ∀ n : Nat, n < 18446744073709551616 → IntKind.wrap .u64 (n : Int) = (n : Int) := by
    intro n hn
    simp only [IntKind.wrap, IntKind.bits, IntKind.signed, Bool.false_and]
    simp; omega
  have e0 : (n : Int) * 2 ^ (min (8 : Int).toNat (IntKind.bits .u64)) = ((n * 256 : Nat) : Int) := by
    have e : (2 : Int) ^ (min (8 : Int).toNat (IntKind.bits .u64)) = 256 := rfl
    rw [e]; omega
  rw [e0, wu (n * 256) (by omega), wu m (by omega)]
  have e1 : (BitVec.ofInt (IntKind.bits .u64) ((n * 256 : Nat) : Int) ||| BitVec.ofInt (IntKind.bits .u64) (m : Int)).toNat = 256 * n + m := by
    rw [BitVec.toNat_or, BitVec.toNat_ofInt, BitVec.toNat_ofInt]
    show ((((n * 256 : Nat) : Int) % (2 ^ 64 : Nat)).toNat ||| (((m : Nat) : Int) % (2 ^ 64 : Nat)).toNat) = _
    have e2 : ((((n * 256 : Nat) : Int) % (2 ^ 64 : Nat)).toNat) = 2 ^ 8 * n := by omega
    have e3 : ((((m : Nat) : Int) % (2 ^ 64 : Nat)).toNat) = m := by omega
    rw [e2, e3, ← Nat.two_pow_add_eq_or_of_lt (by omega)]
  rw [e1, wu (256 * n + m) (by omega)]
  omega
theorem of_loop {L : List UInt8} (hL : L.length ≤ 8) : ∀ (m i : Nat) (x : Int), i + m = L.length → 0 ≤ x → x + 1 ≤ ((256 ^ i : Nat) : Int) →
    Runs (fun k => value_of.l0 k x (L.map fun b => (b.toNat : Int)) ((L.map fun b => (b.toNat : Int)).length : Int) (i : Int)) ((accum x (L.drop i), ()), ())
  | 0, i, x, hi, hx, hb => by
    rw [List.drop_of_length_le (by omega)]
    exact Runs.step (fun k => rfl) (Runs.no (by simp; omega) Runs.some)
  | m + 1, i, x, hi, hx, hb => by
    have hlt : i < L.length := by omega
    have hb2 : x < 72057594037927936 := by
      have : 256 ^ i ≤ 256 ^ 7 := Nat.pow_le_pow_right (by decide) (by omega)
      have e6 : 256 ^ 7 = 72057594037927936 := rfl
      omega
    have hby := byte_lt L[i]
    refine Runs.step (fun k => rfl) (Runs.yes (by simp; omega) (Runs.opt (v := (L[i].toNat : Int)) (by rw [rdo_at (by simpa using hlt)]; simp) (Runs.ck (by rfl) ?_)))
    rw [or_byteU hx hb2 (by omega) hby, wrap_i64 (n := (i : Int) + 1) (by omega) (by omega), List.drop_eq_getElem_cons hlt]
    exact of_loop hL m (i + 1) (256 * x + (L[i].toNat : Int)) (by omega) (by omega) (by rw [Nat.pow_succ]; omega)
theorem of_ok (t : ByteArray) (h : t.size ≤ 8) : Runs (fun k => value_of.f k t) ((accum 0 t.data.toList, ()), ()) := by
  have := of_loop (L := t.data.toList) (by rw [← size_list]; exact h) _ 0 0 (Nat.zero_add _) (by decide) (by decide)
  exact Runs.step (fun k => rfl) this
theorem accum_eight (a : Nat) (h : a < 18446744073709551616) : accum 0 (eightB a).data.toList = (a : Int) := by
  show accum 0 (eightL a) = _
  unfold eightL accum accum accum accum accum accum accum accum accum
  have e : ∀ i, (UInt8.ofNat (b8 a i)).toNat = b8 a i := by intro i; rw [UInt8.toNat_ofNat']; unfold b8; omega
  simp only [e]
  unfold b8
  simp only [Nat.reduceMul, Nat.reduceSub, Nat.reducePow]
  omega

/-! ## A value as it is laid -/
def unI (n : Int) : Nat := (n % 18446744073709551616).toNat
theorem wrap_u64 (n : Int) : IntKind.wrap .u64 n = ((unI n : Nat) : Int) := by
  unfold unI
  simp only [IntKind.wrap, IntKind.bits, IntKind.signed, Bool.false_and]
  simp; omega
theorem wrap_un {n : Int} (h1 : -9223372036854775808 ≤ n) (h2 : n ≤ 9223372036854775807) : IntKind.wrap .i64 ((unI n : Nat) : Int) = n := by
  unfold unI
  simp only [IntKind.wrap, IntKind.bits, IntKind.signed, Bool.true_and]
  split <;> simp_all <;> omega
theorem wrap_range (n : Int) : -9223372036854775808 ≤ IntKind.wrap .i64 n ∧ IntKind.wrap .i64 n ≤ 9223372036854775807 := by
  simp only [IntKind.wrap, IntKind.bits, IntKind.signed, Bool.true_and]
  split <;> simp_all <;> omega
/-- What stands behind the kind. -/
def bodyB (v : Vlu) : ByteArray := if v.1 = 1 then flagB v.2.1 else if v.1 = 2 then eightB (unI v.2.2.1) else if v.1 = 3 then eightB v.2.2.2.1.toNat else if v.1 = 4 then textB v.2.2.2.2.1 else ⟨#[]⟩
def valB (v : Vlu) : ByteArray := numI v.1 ++ bodyB v
theorem right_facts {v : Vlu} (h : rightV v = true) : 0 ≤ v.1 ∧ v.1 ≤ 4 ∧ v.2.2.2.2.1.size ≤ 200 ∧ v = cleanV v := by
  unfold rightV at h
  simp only [Bool.and_eq_true, decide_eq_true_eq, eqVal_iff] at h
  obtain ⟨h1, h2, h3, h4⟩ := h
  exact ⟨h1, h2, by omega, h4⟩
theorem bodyB_size {v : Vlu} (h : v.2.2.2.2.1.size ≤ 200) : (bodyB v).size ≤ 208 := by
  have := textB_size (t := v.2.2.2.2.1) (by omega)
  unfold bodyB
  split
  · rw [flagB_size]; omega
  · split
    · rw [eightB_size]; omega
    · split
      · rw [eightB_size]; omega
      · split
        · omega
        · show 0 ≤ 208; omega
theorem valbytes_ok {v : Vlu} (hr : rightV v = true) (hv : VOk v) : Runs (fun k => value_Bytes.f k v) ((valB v, ()), ()) := by
  obtain ⟨hk0, hk4, ht, hc⟩ := right_facts hr
  have hsz := numI_size (x := v.1) (by omega)
  have hsz : (numI v.1).size ≤ 8 := hsz
  have fin : ∀ s : ByteArray, s = valB v → Runs (fun k => value_Bytes.j0 k s false) ((valB v, ()), ()) := fun s hs => by
    subst hs
    exact Runs.step (fun k => rfl) (Runs.bind (v := ((valB v, true, ()), ())) (Runs.step (fun k => rfl) Runs.some) Runs.some)
  have hn := w_num hk0 (by omega) (s := ByteArray.empty) (by show 0 ≤ 1000000000; omega)
  rw [nil_app] at hn
  refine Runs.step (fun k => rfl) (Runs.bind (right_ok v) (Runs.no (by dsimp only; rw [hr]; rfl) (Runs.bind hn ?_)))
  refine Runs.cond (fun h1 => ?_) fun h1 => Runs.cond (fun h2 => ?_) fun h2 => Runs.cond (fun h3 => ?_) fun h3 => Runs.cond (fun h4 => ?_) fun h4 => ?_
  · have h1 : v.1 = 1 := eq_of_beq h1
    refine Runs.bind (w_flag v.2.1 (by dsimp only; omega) false) (fin _ ?_)
    unfold valB bodyB; rw [if_pos h1]
  · have h1 : v.1 ≠ 1 := by simpa using h1
    have h2 : v.1 = 2 := eq_of_beq h2
    rw [wrap_u64]
    refine Runs.bind (eight_ok _) (Runs.bind (w_raw (by rw [eightB_size]; omega) (by dsimp only; omega) false) (fin _ ?_))
    unfold valB bodyB; rw [if_neg h1, if_pos h2]
  · have h1 : v.1 ≠ 1 := by simpa using h1
    have h2 : v.1 ≠ 2 := by simpa using h2
    have h3 : v.1 = 3 := eq_of_beq h3
    have e : v.2.2.2.1 = ((v.2.2.2.1.toNat : Nat) : Int) := by have := hv.b1; omega
    refine Runs.bind (v := ((eightB v.2.2.2.1.toNat, ()), ())) (by have := eight_ok v.2.2.2.1.toNat; rw [← e] at this; exact this) (Runs.bind (w_raw (by rw [eightB_size]; omega) (by dsimp only; omega) false) (fin _ ?_))
    unfold valB bodyB; rw [if_neg h1, if_neg h2, if_pos h3]
  · have h1 : v.1 ≠ 1 := by simpa using h1
    have h2 : v.1 ≠ 2 := by simpa using h2
    have h3 : v.1 ≠ 3 := by simpa using h3
    have h4 : v.1 = 4 := eq_of_beq h4
    refine Runs.bind (w_text (by omega) (by dsimp only; omega)) (fin _ ?_)
    unfold valB bodyB; rw [if_neg h1, if_neg h2, if_neg h3, if_pos h4]
  · have h1 : v.1 ≠ 1 := by simpa using h1
    have h2 : v.1 ≠ 2 := by simpa using h2
    have h3 : v.1 ≠ 3 := by simpa using h3
    have h4 : v.1 ≠ 4 := by simpa using h4
    refine fin _ ?_
    unfold valB bodyB; rw [if_neg h1, if_neg h2, if_neg h3, if_neg h4, app_nil]
theorem valB_size {v : Vlu} (hr : rightV v = true) : (valB v).size ≤ 216 := by
  obtain ⟨hk0, hk4, ht, hc⟩ := right_facts hr
  have h1 : (numI v.1).size ≤ 8 := numI_size (by omega)
  have h2 := bodyB_size ht
  unfold valB; rw [ByteArray.size_append]; omega

/-! ## Read -/
theorem read_ok (s : ByteArray) : Runs (fun k => octet_Read.f k s) (((), ()), ((s, ((0 : Nat) : Int), 0, ()), ())) := Runs.step (fun k => rfl) Runs.some
theorem vread_end {s : ByteArray} (hs : s.size ≤ 30000000) {v : Vlu} (hr : rightV v = true) {a : Nat} (ha : a = s.size) :
    Runs (fun k => value_Read.j0 k 0 false 0 0 ByteArray.empty s (a : Int) 0 v.1 v.2.1 v.2.2.1 v.2.2.2.1 v.2.2.2.2.1) ((v, 0, ()), ()) := by
  have he := end_ok hs (a := a) (by omega) 0
  rw [if_neg (by omega)] at he
  refine Runs.step (fun k => rfl) (Runs.bind he (Runs.no (by rfl) (Runs.bind (right_ok _) (Runs.no ?_ Runs.some))))
  show (!rightV v) = false
  rw [hr]; rfl
theorem value_read_ok {v : Vlu} (hr : rightV v = true) (hv : VOk v) : Runs (fun k => value_Read.f k (valB v)) ((v, 0, ()), ()) := by
  obtain ⟨hk0, hk4, ht, hc⟩ := right_facts hr
  have hsz := valB_size hr
  have hat := at_all (valB v)
  have hs : (valB v).size ≤ 30000000 := by omega
  have hbody : At (valB v) (0 + (numI v.1).size) (bodyB v) := At.right (b := numI v.1) hat
  have hn := At.num (n := v.1.toNat) (by omega) (lim := 4) (by omega) (At.left (b := numI v.1) hat)
  have hnum := reader_num hs (a := 0) (by omega) 0 4
  rw [hn] at hnum
  have ek : ((v.1.toNat : Nat) : Int) = v.1 := by omega
  have ea : 0 + (numB v.1.toNat).size = 0 + (numI v.1).size := rfl
  rw [ea] at hnum
  have hend : 0 + (numI v.1).size + (bodyB v).size = (valB v).size := by unfold valB; rw [ByteArray.size_append]; omega
  generalize h0 : 0 + (numI v.1).size = a at hbody hnum hend
  have hal : a ≤ (valB v).size := by omega
  refine Runs.step (fun k => rfl) (Runs.bind (read_ok _) (Runs.bind hnum ?_))
  dsimp only
  rw [ek]
  refine Runs.cond (fun h1 => ?_) fun h1 => Runs.cond (fun h2 => ?_) fun h2 => Runs.cond (fun h3 => ?_) fun h3 => Runs.cond (fun h4 => ?_) fun h4 => ?_
  · have e1 : v.1 = 1 := eq_of_beq h1
    have eb : bodyB v = flagB v.2.1 := by unfold bodyB; rw [if_pos e1]
    rw [eb] at hbody hend
    rw [flagB_size] at hend
    have hf := flag_ok hs hal 0
    rw [raw_bool hbody] at hf
    have ec : v = (v.1, v.2.1, 0, 0, ByteArray.empty, ()) := by
      conv => lhs; rw [hc]
      unfold cleanV; rw [h1]; rfl
    refine Runs.bind hf ?_
    have := vread_end hs hr hend
    rw [ec] at this ⊢
    exact this
  · have e1 : v.1 ≠ 1 := by simpa using h1
    have e2 : v.1 = 2 := eq_of_beq h2
    have eb : bodyB v = eightB (unI v.2.2.1) := by unfold bodyB; rw [if_neg e1, if_pos e2]
    rw [eb] at hbody hend
    have hf := reader_raw hs hal 0 8
    have hra := hbody.raw
    rw [eightB_size] at hend hra
    rw [show (8 : Int) = ((8 : Nat) : Int) from rfl, hra] at hf
    have hof := of_ok (eightB (unI v.2.2.1)) (by rw [eightB_size]; omega)
    rw [accum_eight _ (by unfold unI; omega)] at hof
    have ec : v = (v.1, false, v.2.2.1, 0, ByteArray.empty, ()) := by
      conv => lhs; rw [hc]
      unfold cleanV; rw [h1, h2]; rfl
    refine Runs.bind hf (Runs.bind hof ?_)
    dsimp only
    rw [wrap_un hv.i1 hv.i2]
    have := vread_end hs hr hend
    rw [ec] at this ⊢
    exact this
  · have e1 : v.1 ≠ 1 := by simpa using h1
    have e2 : v.1 ≠ 2 := by simpa using h2
    have e3 : v.1 = 3 := eq_of_beq h3
    have eb : bodyB v = eightB v.2.2.2.1.toNat := by unfold bodyB; rw [if_neg e1, if_neg e2, if_pos e3]
    rw [eb] at hbody hend
    have hf := reader_raw hs hal 0 8
    have hra := hbody.raw
    rw [eightB_size] at hend hra
    rw [show (8 : Int) = ((8 : Nat) : Int) from rfl, hra] at hf
    have hof := of_ok (eightB v.2.2.2.1.toNat) (by rw [eightB_size]; omega)
    have hb1 := hv.b1
    have hb2 := hv.b2
    rw [accum_eight _ (by omega), show ((v.2.2.2.1.toNat : Nat) : Int) = v.2.2.2.1 by omega] at hof
    have ec : v = (v.1, false, 0, v.2.2.2.1, ByteArray.empty, ()) := by
      have hc' := hc
      unfold cleanV at hc'; rw [h1, h2, h3] at hc'
      cases hq : nanB v.2.2.2.1 with
      | true =>
        rw [hq] at hc'
        have hc' : v = (v.1, false, 0, 9221120237041090561, ByteArray.empty, ()) := hc'
        have e4 : v.2.2.2.1 = 9221120237041090561 := by rw [hc']
        rw [e4]; exact hc'
      | false => rw [hq] at hc'; exact hc'
    refine Runs.bind hf (Runs.bind hof ?_)
    have := vread_end hs hr hend
    rw [ec] at this ⊢
    exact this
  · have e1 : v.1 ≠ 1 := by simpa using h1
    have e2 : v.1 ≠ 2 := by simpa using h2
    have e3 : v.1 ≠ 3 := by simpa using h3
    have e4 : v.1 = 4 := eq_of_beq h4
    have eb : bodyB v = textB v.2.2.2.2.1 := by unfold bodyB; rw [if_neg e1, if_neg e2, if_neg e3, if_pos e4]
    rw [eb] at hbody hend
    have hf := reader_text hs hal 0 200
    have htx := At.text (t := v.2.2.2.2.1) (by omega) (lim := 200) (by omega) hbody
    rw [htx] at hf
    have ec : v = (v.1, false, 0, 0, v.2.2.2.2.1, ()) := by
      conv => lhs; rw [hc]
      unfold cleanV; rw [h1, h2, h3, h4]; rfl
    refine Runs.bind hf ?_
    have := vread_end hs hr hend
    rw [ec] at this ⊢
    exact this
  · have e1 : v.1 ≠ 1 := by simpa using h1
    have e2 : v.1 ≠ 2 := by simpa using h2
    have e3 : v.1 ≠ 3 := by simpa using h3
    have e4 : v.1 ≠ 4 := by simpa using h4
    have eb : bodyB v = ⟨#[]⟩ := by unfold bodyB; rw [if_neg e1, if_neg e2, if_neg e3, if_neg e4]
    rw [eb] at hend
    have ec : v = (v.1, false, 0, 0, ByteArray.empty, ()) := by
      conv => lhs; rw [hc]
      unfold cleanV; rw [h1, h2, h3, h4]; rfl
    have := vread_end hs hr (a := a) (by have : (⟨#[]⟩ : ByteArray).size = 0 := rfl; omega)
    rw [ec] at this ⊢
    exact this
end Go.Proofs.Ytabdmnoejoiboaa.Pure
