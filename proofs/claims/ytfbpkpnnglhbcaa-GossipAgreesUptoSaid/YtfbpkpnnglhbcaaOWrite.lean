/- Plain laws: the writer of octets, and what was written, read. -/
import Derived.Test.YtfbpkpnnglhbcaaORead
import Derived.Test.YtfbpkpnnglhbcaaONum
namespace Go.Proofs.Ytfbpkpnnglhbcaa.Pure
open Go Go.Proofs.Ytfbpkpnnglhbcaa.E Go.Proofs.Ytfbpkpnnglhbcaa.Eng
set_option linter.unusedVariables false
set_option linter.unusedSimpArgs false
theorem accum_app (l r : List UInt8) : ∀ x, accum x (l ++ r) = accum (accum x l) r := by
 induction l with
 | nil => intro x; rfl
 | cons b l ih => intro x; exact ih _
theorem accum_digs (n : Nat) : accum 0 (digs n) = (n : Int) := by
 induction n using Nat.strongRecOn with
 | ind n ih =>
  by_cases h : n = 0
  ·subst h; rw [digs_zero]; rfl
  ·rw [digs_pos h, accum_app, ih (n / 256) (by omega)]
   show 256 * ((n / 256 : Nat) : Int) + ((UInt8.ofNat (n % 256)).toNat : Int) = n
   rw [UInt8.toNat_ofNat']
   omega
theorem digs_head (n : Nat) : (digs n).head? ≠ some 0 := by
 induction n using Nat.strongRecOn with
 | ind n ih =>
  by_cases h : n = 0
  ·subst h; rw [digs_zero]; simp
  ·rw [digs_pos h]
   by_cases h1 : n / 256 = 0
   ·rw [h1, digs_zero]
    simp only [List.nil_append, List.head?_cons, ne_eq, Option.some.injEq]
    intro h2
    have h3 := congrArg UInt8.toNat h2
    rw [UInt8.toNat_ofNat'] at h3
    have : (0 : UInt8).toNat = 0 := rfl
    omega
   ·have := ih (n / 256) (by omega)
    have hne : digs (n / 256) ≠ [] := by rw [digs_pos h1]; simp
    cases hd : digs (n / 256) with
    | nil => exact absurd hd hne
    | cons b r => rw [hd] at this; simpa using this
theorem numV_numB {s : ByteArray} {a n : Nat} (hn : n < 72057594037927936) {lim : Int} (hl : (n : Int) ≤ lim) (ha : a + (numB n).size ≤ s.size) (hat : s.extract a (a + (numB n).size) = numB n) :
  numV s a 0 lim = ((n : Int), a + (numB n).size, 0) := by
 have hlen : (digs n).length ≤ 7 := digs_len 7 n hn
 have hsz : (numB n).size = (digs n).length + 1 := by unfold numB; rw [ofL_size]; simp
 have hx : ∀ i j, i ≤ j → j ≤ (numB n).size → (s.extract (a + i) (a + j)).data.toList = ((numB n).data.toList.drop i).take (j - i) := by
  intro i j hij hj
  have : s.extract (a + i) (a + j) = (numB n).extract i j := by
   rw [← hat, ByteArray.extract_extract]; congr 1 <;> omega
  rw [this, ByteArray.data_extract, Array.toList_extract]
 have hd : (numB n).data.toList = UInt8.ofNat (digs n).length :: digs n := by simp [numB, ofL]
 have h1 : rawV s a 0 1 = (s.extract a (a + 1), a + 1, 0) := by rw [rawV_in rfl (by decide) (by omega)]; rfl
 have hl1 : (s.extract a (a + 1)).data.toList = [UInt8.ofNat (digs n).length] := by
  have := hx 0 1 (by omega) (by omega)
  rw [hd] at this; simpa using this
 have ht : (UInt8.ofNat (digs n).length).toNat = (digs n).length := by rw [UInt8.toNat_ofNat']; omega
 have h2 : rawV s (a + 1) 0 ((digs n).length : Int) = (s.extract (a + 1) (a + 1 + (digs n).length), a + 1 + (digs n).length, 0) := by
  rw [rawV_in rfl (by omega) (by omega)]; simp
 have hl2 : (s.extract (a + 1) (a + 1 + (digs n).length)).data.toList = digs n := by
  have := hx 1 (1 + (digs n).length) (by omega) (by omega)
  rw [hd, ← Nat.add_assoc] at this
  rw [this]; simp
 unfold numV
 rw [h1]; simp only
 rw [hl1]; simp only
 rw [ht, if_neg (by omega), h2]; simp only
 rw [hl2, if_neg (by simp), if_neg (digs_head n), accum_digs, show finV (n : Int) lim = ((n : Int), 0) from if_neg (by omega), hsz]
 simp only [Prod.mk.injEq, true_and, and_true]; try omega
def textsB : List ByteArray → ByteArray
 | [] => ⟨#[]⟩
 | t :: l => (numB t.size ++ t) ++ textsB l
theorem writer_text {t s : ByteArray} (h : t.size ≤ 1048576) (hs : s.size ≤ 1000000000) (b : Bool) : Runs (fun k => octet_Writer_Text.f k t s b) ((), ((s ++ (numB t.size ++ t), b, ()), ())) := by
 have := numB_size (n := t.size) (by omega)
 refine Runs.step (fun k => rfl) (Runs.bind (octet_text h) (Runs.ck ?_ Runs.some))
 apply decide_eq_true; dsimp only; rw [ByteArray.size_append]; omega
def roomL : List ByteArray → Nat
 | [] => 0
 | t :: l => t.size + 9 + roomL l
theorem writer_texts_loop (l : List ByteArray) (hl : l.length ≤ 1048576) (hb : ∀ t ∈ l, t.size ≤ 1048576) (b : Bool) : ∀ (m i : Nat), i + m = l.length → ∀ s : ByteArray, s.size + roomL (l.drop i) ≤ 1000000000 →
  Runs (fun k => octet_Writer_Texts.l0 k l (l.length : Int) (i : Int) s b) ((), ((s ++ textsB (l.drop i), b, ()), ())) := by
 intro m
 induction m with
 | zero =>
  intro i hi s hs
  rw [List.drop_of_length_le (by omega)]
  refine Runs.step (fun k => rfl) (Runs.no (by apply decide_eq_false; omega) (Runs.some' ?_))
  rw [show s ++ textsB [] = s from by
   have : (s ++ textsB []).data = s.data := by rw [ByteArray.data_append]; simp [textsB]
   cases s; cases h2 : _ ++ textsB []; rw [h2] at this; simp only at this; rw [this]]
 | succ m ih =>
  intro i hi s hs
  have hlt : i < l.length := by omega
  have hmem := List.getElem_mem hlt
  rw [List.drop_eq_getElem_cons hlt] at hs ⊢
  simp only [roomL] at hs
  have hsz := numB_size (n := (l[i]).size) (by have := hb _ hmem; omega)
  refine Runs.step (fun k => rfl) (Runs.yes (by apply decide_eq_true; omega) (Runs.opt (rdo_at hlt) (Runs.bind (writer_text (hb _ hmem) (by omega) b) ?_)))
  rw [wrap_i64 (n := (i : Int) + 1) (by omega) (by omega)]
  have := ih (i + 1) (by omega) (s ++ (numB (l[i]).size ++ l[i])) (by simp only [ByteArray.size_append]; omega)
  simp only [textsB]
  rw [bapp_assoc s] at this
  exact this
theorem writer_num {x : Int} (h0 : 0 ≤ x) (h1 : x < 72057594037927936) {s : ByteArray} (hs : s.size ≤ 1000000000) : Runs (fun k => octet_Writer_Num.f k x s false) ((), ((s ++ numB x.toNat, false, ()), ())) := by
 have := numB_size (n := x.toNat) (by omega)
 refine Runs.step (fun k => rfl) (Runs.bind (octet_num h0 h1) (Runs.no (by rfl) (Runs.ck ?_ (Runs.some' ?_))))
 ·apply decide_eq_true; dsimp only; omega
 ·dsimp only; rw [beq_text, decide_eq_false numB_ne]
def At (s : ByteArray) (a : Nat) (b : ByteArray) : Prop := a + b.size ≤ s.size ∧ s.extract a (a + b.size) = b
theorem At.left {s : ByteArray} {a : Nat} {b c : ByteArray} (h : At s a (b ++ c)) : At s a b := by
 obtain ⟨h1, h2⟩ := h
 rw [ByteArray.size_append] at h1 h2
 refine ⟨by omega, ?_⟩
 have : s.extract a (a + b.size) = (b ++ c).extract 0 b.size := by
  rw [← h2, ByteArray.extract_extract]; congr 1; omega
 rw [this]
 have e : ((b ++ c).extract 0 b.size).data = b.data := by
  rw [ByteArray.data_extract, ByteArray.data_append, ← ByteArray.size_data]; simp
 cases h3 : (b ++ c).extract 0 b.size; rw [h3] at e; cases b; simp only at e; rw [e]
theorem At.right {s : ByteArray} {a : Nat} {b c : ByteArray} (h : At s a (b ++ c)) : At s (a + b.size) c := by
 obtain ⟨h1, h2⟩ := h
 rw [ByteArray.size_append] at h1 h2
 refine ⟨by omega, ?_⟩
 have : s.extract (a + b.size) (a + b.size + c.size) = (b ++ c).extract b.size (b.size + c.size) := by
  rw [← h2, ByteArray.extract_extract]; congr 1 <;> omega
 rw [this]
 have e : ((b ++ c).extract b.size (b.size + c.size)).data = c.data := by
  rw [ByteArray.data_extract, ByteArray.data_append]
  apply Array.toList_inj.1
  rw [Array.toList_extract, Array.toList_append]
  have hb : b.size = b.data.toList.length := by simp [← ByteArray.size_data]
  have hc : c.size = c.data.toList.length := by simp [← ByteArray.size_data]
  rw [hb, hc]
  simp only [List.extract, List.drop_left, Nat.add_sub_cancel_left, List.take_length]
 cases h3 : (b ++ c).extract b.size (b.size + c.size); rw [h3] at e; cases c; simp only at e; rw [e]
theorem At.num {s : ByteArray} {a n : Nat} (hn : n < 72057594037927936) {lim : Int} (hl : (n : Int) ≤ lim) (h : At s a (numB n)) : numV s a 0 lim = ((n : Int), a + (numB n).size, 0) := numV_numB hn hl h.1 h.2
theorem At.raw {s : ByteArray} {a : Nat} {b : ByteArray} (h : At s a b) : rawV s a 0 (b.size : Int) = (b, a + b.size, 0) := by
 have := h.1
 rw [rawV_in rfl (by omega) (by omega), Int.toNat_natCast, h.2]
theorem At.text {s : ByteArray} {a : Nat} {t : ByteArray} (hn : t.size < 72057594037927936) {lim : Int} (hl : (t.size : Int) ≤ lim) (h : At s a (numB t.size ++ t)) : textV s a 0 lim = (t, a + (numB t.size ++ t).size, 0) := by
 unfold textV
 rw [h.left.num hn hl]
 simp only
 rw [h.right.raw, ByteArray.size_append, Nat.add_assoc]
theorem texts_read {s : ByteArray} (hs : s.size ≤ 30000000) (lim : Int) (l : List ByteArray) (hl : l.length ≤ 1048576) (hb : ∀ t ∈ l, (t.size : Int) ≤ lim) : ∀ (m i : Nat), i + m = l.length → ∀ a : Nat, a ≤ s.size → At s a (textsB (l.drop i)) →
  Runs (fun k => octet_Reader_Texts.l0 k lim (l.take i) (l.length : Int) (i : Int) s (a : Int) 0) ((l, ()), ((s, ((a + (textsB (l.drop i)).size : Nat) : Int), 0, ()), ())) := by
 intro m
 induction m with
 | zero =>
  intro i hi a ha hat
  rw [List.drop_of_length_le (by omega), List.take_of_length_le (by omega)]
  exact Runs.step (fun k => rfl) (Runs.no (by apply decide_eq_false; omega) Runs.some)
 | succ m ih =>
  intro i hi a ha hat
  have hlt : i < l.length := by omega
  have hmem := List.getElem_mem hlt
  rw [List.drop_eq_getElem_cons hlt] at hat ⊢
  simp only [textsB] at hat ⊢
  have hleft := hat.left
  have hsz : (l[i]).size ≤ s.size := by have := hleft.1; rw [ByteArray.size_append] at this; omega
  have ht := hleft.text (by omega) (hb _ hmem)
  have hr := reader_text hs ha 0 lim
  rw [ht] at hr
  have := ih (i + 1) (by omega) (a + (numB (l[i]).size ++ l[i]).size) hleft.1 hat.right
  refine Runs.step (fun k => rfl) (Runs.yes (by apply decide_eq_true; omega) (Runs.bind hr (Runs.bind (err_ok _ _ _) (Runs.no (by rfl) (Runs.ck ?_ ?_)))))
  ·apply decide_eq_true; simp; omega
  ·rw [wrap_i64 (n := (i : Int) + 1) (by omega) (by omega)]
   rw [List.take_succ_eq_append_getElem hlt] at this
   rw [ByteArray.size_append (a := numB (l[i]).size ++ l[i]), ← Nat.add_assoc]
   exact this
end Go.Proofs.Ytfbpkpnnglhbcaa.Pure
