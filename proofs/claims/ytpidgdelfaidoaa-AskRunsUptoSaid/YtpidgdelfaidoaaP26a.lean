/- Plain laws of chapter 26: texts as lists of bytes; a text between quotes. -/
import Derived.Test.YtpidgdelfaidoaaPWord
import Derived.Test.YtpidgdelfaidoaaPComb
namespace Go.Proofs.Ytpidgdelfaidoaa.Pure
open Go Go.Proofs.Ytpidgdelfaidoaa.E Go.Proofs.Ytpidgdelfaidoaa.Eng
set_option linter.unusedVariables false
set_option linter.unusedSimpArgs false
abbrev Tx := List UInt8
def tx (l : Tx) : ByteArray := ⟨l.toArray⟩
theorem tx_list (l : Tx) : (tx l).data.toList = l := by simp [tx]
theorem tx_self (s : ByteArray) : tx s.data.toList = s := by unfold tx; cases s; simp
theorem tx_size (l : Tx) : (tx l).size = l.length := by rw [size_list, tx_list]
theorem tx_append (a b : Tx) : tx (a ++ b) = tx a ++ tx b := by
 apply ByteArray.ext; simp [tx]
theorem tx_inj {a b : Tx} (h : tx a = tx b) : a = b := by rw [← tx_list a, ← tx_list b, h]
def ni (l : Tx) : List Int := l.map fun c => (c.toNat : Int)
theorem ni_append (a b : Tx) : ni (a ++ b) = ni a ++ ni b := by simp [ni]
theorem ni_length (l : Tx) : (ni l).length = l.length := by simp [ni]
theorem strOf_ni (l : Tx) : strOf (ni l) = tx l := by
 have h : ∀ c : UInt8, UInt8.ofNat ((c.toNat : Int).toNat) = c := fun c => by simp
 unfold strOf ni tx
 rw [List.map_map]
 congr 2
 simp [Function.comp_def, h]
theorem bytesOf_tx (l : Tx) : bytesOf (tx l) = ni l := by unfold bytesOf ni; rw [tx_list]
theorem tx_extract (l : Tx) (i j : Nat) (h : i ≤ j) (hj : j ≤ l.length) : (tx l).extract i j = tx ((l.take j).drop i) := by
 apply ByteArray.ext
 rw [ByteArray.data_extract]
 apply Array.ext'
 simp [tx, List.take_drop, List.extract_eq_take_drop]
 rw [Nat.add_sub_cancel' h]
theorem bto_tx {l : Tx} {i : Nat} (h : i < l.length) : bto (tx l) (i : Int) = some ((l[i]).toNat : Int) := by
 have h' : i < (tx l).data.toList.length := by rw [tx_list]; exact h
 rw [bto_at h']
 congr 2
theorem bto_mid {l a b : Tx} {c : UInt8} (h : l = a ++ c :: b) : bto (tx l) (a.length : Int) = some (c.toNat : Int) := by
 subst h
 rw [bto_tx (by simp)]
 simp
theorem nil_tx : (⟨#[]⟩ : ByteArray) = tx [] := rfl
def plainB (c : UInt8) : Bool := decide (32 ≤ c.toNat) && (decide (c.toNat < 127) && (decide (c.toNat ≠ 34) && decide (c.toNat ≠ 92)))
theorem plain_nums (n : Nat) : decide ((n : Int) ≥ 32) = decide (32 ≤ n) ∧ decide ((n : Int) < 127) = decide (n < 127) ∧ decide ((n : Int) ≤ 126) = decide (n < 127) ∧ ((n : Int) != 34) = decide (n ≠ 34) ∧ ((n : Int) != 92) = decide (n ≠ 92) := by
 refine ⟨?_, ?_, ?_, ?_, ?_⟩ <;> rw [Bool.eq_iff_iff] <;> simp <;> omega
theorem plain_ok (c : UInt8) : Runs (fun k => say_plain.f k (c.toNat : Int)) ((plainB c, ()), ()) := by
 refine ⟨1, fun k hk => ?_⟩
 obtain ⟨k, rfl⟩ : ∃ q, k = q + 1 := ⟨k - 1, by omega⟩
 obtain ⟨h1, h2, h3, h4, h5⟩ := plain_nums c.toNat
 show say_plain.f (k + 1) _ = _
 show (bif decide ((c.toNat : Int) ≥ 32) then bif decide ((c.toNat : Int) < 127) then bif (c.toNat : Int) != 34 then some ((((c.toNat : Int) != 92, ()), ()) : V1 Bool) else some ((false, ()), ()) else some ((false, ()), ()) else some ((false, ()), ())) = _
 unfold plainB
 rw [h1, h2, h4, h5]
 cases decide (32 ≤ c.toNat) <;> cases decide (c.toNat < 127) <;> cases decide (c.toNat ≠ 34) <;> rfl
def hexU (n : Nat) : UInt8 := if n < 10 then UInt8.ofNat (48 + n) else UInt8.ofNat (87 + n)
def hexT : Tx := [48, 49, 50, 51, 52, 53, 54, 55, 56, 57, 97, 98, 99, 100, 101, 102]
theorem hexT_tx : (⟨#[48, 49, 50, 51, 52, 53, 54, 55, 56, 57, 97, 98, 99, 100, 101, 102]⟩ : ByteArray) = tx hexT := rfl
theorem hex_at : ∀ n, n < 16 → hexT[n]? = some (hexU n) := by decide
theorem bto_hex (n : Nat) (h : n < 16) : bto (tx hexT) (n : Int) = some ((hexU n).toNat : Int) := by
 have hl : n < hexT.length := h
 rw [bto_tx hl]
 have := hex_at n h
 rw [List.getElem?_eq_getElem hl] at this
 injection this with this; rw [this]
def esc (c : UInt8) : Tx := if plainB c then [c] else [92, 120, hexU (c.toNat / 16), hexU (c.toNat % 16)]
def escs : Tx → Tx
 | [] => []
 | c :: r => esc c ++ escs r
def quotedL (l : Tx) : Tx := 34 :: (escs l ++ [34])
theorem esc_len (c : UInt8) : (esc c).length ≤ 4 := by unfold esc; split <;> simp
theorem escs_len : ∀ l : Tx, (escs l).length ≤ 4 * l.length
 | [] => by simp [escs]
 | c :: r => by
  have := esc_len c
  have := escs_len r
  simp only [escs, List.length_append, List.length_cons]; omega
theorem u8_lt (c : UInt8) : c.toNat < 256 := c.toNat_lt
theorem fdiv16 (c : UInt8) : Int.fdiv (c.toNat : Int) (2 ^ (min (4 : Int).toNat (IntKind.bits .u8))) = ((c.toNat / 16 : Nat) : Int) := by
 have h : (2 : Int) ^ (min (4 : Int).toNat (IntKind.bits .u8)) = 16 := by decide
 rw [h, Int.fdiv_eq_ediv_of_nonneg _ (by omega)]
 rfl
theorem and15 (c : UInt8) : IntKind.wrap .u8 ((BitVec.ofInt (IntKind.bits .u8) (c.toNat : Int) &&& BitVec.ofInt (IntKind.bits .u8) 15).toNat : Int) = ((c.toNat % 16 : Nat) : Int) := by
 have h := u8_lt c
 have e : (BitVec.ofInt (IntKind.bits .u8) (c.toNat : Int) &&& BitVec.ofInt (IntKind.bits .u8) 15).toNat = c.toNat % 16 := by
  show (BitVec.ofInt 8 (c.toNat : Int) &&& BitVec.ofInt 8 15).toNat = _
  rw [BitVec.toNat_and]
  have h1 : (BitVec.ofInt 8 (c.toNat : Int)).toNat = c.toNat := by simp [BitVec.toNat_ofInt]
  have h2 : (BitVec.ofInt 8 15).toNat = 2 ^ 4 - 1 := rfl
  rw [h1, h2, Nat.and_two_pow_sub_one_eq_mod]
 rw [e]
 exact wrap_u8 (by omega) (by omega)
-- strings.Builder's
theorem wb0_ok (c : Int) : Runs (fun k => strings_Builder_WriteByte_v0.f k c) (((), ()), (((), [c], ()), ())) :=
 Runs.step (fun k => rfl) Runs.some
theorem wb1_ok (c : Int) (o : List Int) (h : o.length ≤ 1000000000) : Runs (fun k => strings_Builder_WriteByte_v1.f k c o) (((), ()), (((), o ++ [c], ()), ())) :=
 Runs.step (fun k => rfl) (Runs.ck (by apply decide_eq_true; simp; omega) Runs.some)
theorem ws_ok (s : ByteArray) (o : List Int) (h : o.length ≤ 1000000000) (hs : s.size ≤ 1000000000) : Runs (fun k => strings_Builder_WriteString_v0.f k s o) (((s.size : Int), (), ()), (((), o ++ bytesOf s, ()), ())) :=
 Runs.step (fun k => rfl) (Runs.ck (by
  apply decide_eq_true
  have : (bytesOf s).length = s.size := by rw [← tx_self s, bytesOf_tx, ni_length, tx_size]
  rw [this]; omega) Runs.some)
theorem str_ok (l : Tx) (h0 : l ≠ []) (h : l.length ≤ 1000000000) : Runs (fun k => strUsed.f k (ni l)) ((tx l, [], ()), (((), (), ()), ())) := by
 refine ⟨0, fun k _ => ?_⟩
 show bsOf (ni l) = _
 cases l with
 | nil => exact absurd rfl h0
 | cons c r =>
  show (match decide ((ni r).length ≤ 4611686018427387904) with | true => _ | false => _) = _
  rw [decide_eq_true (by rw [ni_length]; simp at h; omega)]
  have := strOf_ni (c :: r)
  show some ((strOf (ni (c :: r)), _, _), _) = _
  rw [this]
theorem quoted_loop (s : Tx) (hs : s.length ≤ 100000) : ∀ (r o : Tx) (i : Nat), i + r.length = s.length → s.drop i = r → o ≠ [] → o.length ≤ 1 + 4 * i →
  Runs (fun k => say_Quoted.l0 k (tx s) (s.length : Int) (i : Int) (ni o)) ((tx (o ++ escs r ++ [34]), ()), ()) := by
 intro r
 induction r with
 | nil =>
  intro o i hi hd h0 ho
  refine Runs.step (fun k => rfl) (Runs.no (by apply decide_eq_false; simp at hi; omega) ?_)
  refine Runs.bind (wb1_ok 34 (ni o) (by rw [ni_length]; simp at hi; omega)) ?_
  have e : ni o ++ [34] = ni (o ++ [34]) := by rw [ni_append]; rfl
  show Runs (fun k => (strUsed.f k (ni o ++ [34])).bind _) _
  rw [e]
  exact Runs.bind (str_ok (o ++ [34]) (by simp) (by simp at hi ⊢; omega)) (Runs.some' (by simp [escs]))
 | cons c r ih =>
  intro o i hi hd h0 ho
  have hil : i < s.length := by simp at hi; omega
  have hc : s[i] = c := by
   have := List.drop_eq_getElem_cons hil
   rw [hd] at this; injection this with h1 h2; exact h1.symm
  have hd' : s.drop (i + 1) = r := by
   have := List.drop_eq_getElem_cons hil
   rw [hd] at this; injection this with h1 h2; exact h2.symm
  have hw : IntKind.wrap .i64 ((i : Int) + 1) = ((i + 1 : Nat) : Int) := by rw [wrap_i64 (by omega) (by omega)]; rfl
  have hc16 := u8_lt c
  refine Runs.step (fun k => rfl) (Runs.yes (by apply decide_eq_true; omega) (Runs.opt (bto_tx hil) ?_))
  rw [hc]
  refine Runs.bind (plain_ok c) (Runs.cond (fun hp => ?_) (fun hp => ?_))
  ·refine Runs.bind (wb1_ok _ (ni o) (by rw [ni_length]; omega)) ?_
   show Runs (fun k => say_Quoted.l0 k (tx s) (s.length : Int) (IntKind.wrap .i64 ((i : Int) + 1)) (ni o ++ [(c.toNat : Int)])) _
   have e : ni o ++ [(c.toNat : Int)] = ni (o ++ [c]) := by rw [ni_append]; rfl
   have hp : plainB c = true := hp
   rw [hw, e]
   refine (ih (o ++ [c]) (i + 1) (by simp at hi ⊢; omega) hd' (by simp) (by simp; omega)).of_eq ?_
   simp [escs, esc, hp]
  ·have hp : plainB c = false := hp
   refine Runs.bind (ws_ok _ (ni o) (by rw [ni_length]; omega) (by decide)) ?_
   refine Runs.ck rfl ?_
   rw [fdiv16, hexT_tx]
   refine Runs.opt (bto_hex _ (by omega)) ?_
   have e1 : ni o ++ bytesOf (⟨#[92, 120]⟩ : ByteArray) = ni (o ++ [92, 120]) := by
    show ni o ++ bytesOf (tx [92, 120]) = _
    rw [bytesOf_tx, ni_append]
   show Runs (fun k => (strings_Builder_WriteByte_v1.f k _ (ni o ++ bytesOf (⟨#[92, 120]⟩ : ByteArray))).bind _) _
   rw [e1]
   refine Runs.bind (wb1_ok _ _ (by rw [ni_length]; simp; omega)) ?_
   rw [and15]
   refine Runs.opt (bto_hex _ (by omega)) ?_
   have e2 : ni (o ++ [92, 120]) ++ [((hexU (c.toNat / 16)).toNat : Int)] = ni (o ++ [92, 120] ++ [hexU (c.toNat / 16)]) := by rw [ni_append (o ++ [92, 120])]; rfl
   show Runs (fun k => (strings_Builder_WriteByte_v1.f k _ (ni (o ++ [92, 120]) ++ [((hexU (c.toNat / 16)).toNat : Int)])).bind _) _
   rw [e2]
   refine Runs.bind (wb1_ok _ _ (by rw [ni_length]; simp; omega)) ?_
   have e3 : ni (o ++ [92, 120] ++ [hexU (c.toNat / 16)]) ++ [((hexU (c.toNat % 16)).toNat : Int)] = ni (o ++ [92, 120] ++ [hexU (c.toNat / 16)] ++ [hexU (c.toNat % 16)]) := by rw [ni_append (o ++ [92, 120] ++ [hexU (c.toNat / 16)])]; rfl
   show Runs (fun k => say_Quoted.l0 k (tx s) (s.length : Int) (IntKind.wrap .i64 ((i : Int) + 1)) (ni (o ++ [92, 120] ++ [hexU (c.toNat / 16)]) ++ [((hexU (c.toNat % 16)).toNat : Int)])) _
   rw [hw, e3]
   refine (ih _ (i + 1) (by simp at hi ⊢; omega) hd' (by simp) (by simp; omega)).of_eq ?_
   simp [escs, esc, hp]
theorem quoted_ok (s : Tx) (hs : s.length ≤ 100000) : Runs (fun k => say_Quoted.f k (tx s)) ((tx (quotedL s), ()), ()) := by
 refine Runs.step (fun k => rfl) (Runs.bind (wb0_ok 34) ?_)
 show Runs (fun k => say_Quoted.l0 k (tx s) ((tx s).size : Int) 0 [34]) _
 rw [tx_size]
 exact quoted_loop s hs s [34] 0 (by omega) rfl (by simp) (by simp)
end Go.Proofs.Ytpidgdelfaidoaa.Pure
