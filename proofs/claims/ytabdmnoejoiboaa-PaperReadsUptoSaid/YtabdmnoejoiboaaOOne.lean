/- Plain laws: what is read stands there, in its one form. -/
import Derived.Test.YtabdmnoejoiboaaOWrite
namespace Go.Proofs.Ytabdmnoejoiboaa.Pure
open Go Go.Proofs.Ytabdmnoejoiboaa.E Go.Proofs.Ytabdmnoejoiboaa.Eng
set_option linter.unusedVariables false
set_option linter.unusedSimpArgs false

def flagB (b : Bool) : ByteArray := if b then ⟨#[1]⟩ else ⟨#[0]⟩
theorem flagB_size (b : Bool) : (flagB b).size = 1 := by cases b <;> rfl
def textB (t : ByteArray) : ByteArray := numB t.size ++ t
theorem textB_size {t : ByteArray} (h : t.size ≤ 1048576) : (textB t).size ≤ t.size + 8 := by
  unfold textB; rw [ByteArray.size_append]; have := numB_size (n := t.size) (by omega); omega
theorem numI_size {x : Int} (h : x < 72057594037927936) : (numB x.toNat).size ≤ 8 := (numB_size (by omega)).1
def numI (x : Int) : ByteArray := numB x.toNat
def listB (l : List ByteArray) : ByteArray := numB l.length ++ textsB l
theorem At.app {s : ByteArray} {a : Nat} {b c : ByteArray} (h : At s a b) (h' : At s (a + b.size) c) : At s a (b ++ c) := by
  obtain ⟨h1, h2⟩ := h
  obtain ⟨h3, h4⟩ := h'
  refine ⟨by rw [ByteArray.size_append]; omega, ?_⟩
  have e : (s.extract a (a + (b ++ c).size)).data = (b ++ c).data := by
    rw [ByteArray.data_append, ByteArray.data_extract]
    apply Array.toList_inj.1
    rw [Array.toList_extract, Array.toList_append]
    have hb : b.data.toList = (s.data.toList.drop a).take b.size := by
      conv => lhs; rw [← h2]
      rw [ByteArray.data_extract, Array.toList_extract]; simp [List.extract]
    have hc : c.data.toList = (s.data.toList.drop (a + b.size)).take c.size := by
      conv => lhs; rw [← h4]
      rw [ByteArray.data_extract, Array.toList_extract]; simp [List.extract]
    rw [hb, hc, ByteArray.size_append]
    simp only [List.extract]
    rw [show a + (b.size + c.size) - a = b.size + c.size by omega, List.take_add, List.drop_drop]
  cases h5 : s.extract a (a + (b ++ c).size); cases h6 : b ++ c
  rw [h5, h6] at e; simp only at e; rw [e]
theorem At.size {s : ByteArray} {a : Nat} {b : ByteArray} (h : At s a b) : a + b.size ≤ s.size := h.1
theorem At.nil {s : ByteArray} {a : Nat} (h : a ≤ s.size) : At s a ⟨#[]⟩ := by
  refine ⟨h, ?_⟩
  have : (⟨#[]⟩ : ByteArray).size = 0 := rfl
  rw [this]; simp; rfl
theorem At.all {s b : ByteArray} (h : At s 0 b) (h' : b.size = s.size) : b = s := by
  have := h.2
  rw [h', Nat.zero_add] at this
  simpa using this.symm
theorem at_all (s : ByteArray) : At s 0 s := ⟨by omega, by simp⟩

theorem accum_ge : ∀ (l : List UInt8) (x : Int), 0 ≤ x → 0 ≤ accum x l
  | [], x, h => h
  | b :: l, x, h => accum_ge l _ (by have := byte_lt b; omega)
theorem digs_accum : ∀ (n : Nat) (l : List UInt8), l.length = n → l.head? ≠ some 0 → digs (accum 0 l).toNat = l := by
  intro n
  induction n with
  | zero => intro l hl _; rw [List.eq_nil_of_length_eq_zero hl]; show digs 0 = []; exact digs_zero
  | succ n ih =>
    intro l hl hh
    have hne : l ≠ [] := by intro h; rw [h] at hl; cases hl
    have hl2 := (List.dropLast_concat_getLast hne).symm
    generalize l.dropLast = p at hl2
    generalize l.getLast hne = b at hl2
    subst hl2
    have hp : p.length = n := by simpa using hl
    have hb := b.toNat_lt
    have hph : p.head? ≠ some 0 := by
      cases p with
      | nil => simp
      | cons x q => simpa using hh
    have hd := ih p hp hph
    have hge := accum_ge p 0 (by decide)
    rw [accum_app]
    show digs (256 * accum 0 p + (b.toNat : Int)).toNat = p ++ [b]
    have e : (256 * accum 0 p + (b.toNat : Int)).toNat = 256 * (accum 0 p).toNat + b.toNat := by omega
    rw [e]
    have hnz : 256 * (accum 0 p).toNat + b.toNat ≠ 0 := by
      intro h0
      have h1 : (accum 0 p).toNat = 0 := by omega
      have h2 : b.toNat = 0 := by omega
      rw [h1, digs_zero] at hd
      subst hd
      apply hh
      simp only [List.nil_append, List.head?_cons, Option.some.injEq]
      exact UInt8.toNat_inj.mp h2
    rw [digs_pos hnz, show (256 * (accum 0 p).toNat + b.toNat) / 256 = (accum 0 p).toNat by omega, hd, show (256 * (accum 0 p).toNat + b.toNat) % 256 = b.toNat by omega]
    congr 2
    apply UInt8.toNat_inj.mp
    rw [UInt8.toNat_ofNat']; omega
theorem accum_lt : ∀ (l : List UInt8) (x : Int) (m : Nat), 0 ≤ x → x < ((256 ^ m : Nat) : Int) → accum x l < ((256 ^ (m + l.length) : Nat) : Int)
  | [], x, m, _, h => h
  | b :: l, x, m, h0, h => by
    have hb := byte_lt b
    have := accum_lt l (256 * x + (b.toNat : Int)) (m + 1) (by omega) (by rw [Nat.pow_succ]; omega)
    rw [List.length_cons, show m + (l.length + 1) = m + 1 + l.length by omega]
    exact this
theorem numV_zero {s : ByteArray} {a : Nat} {e n : Int} (he : (numV s a e n).2.2 ≠ 0) : (numV s a e n).1 = 0 := by
  unfold numV at he ⊢
  split
  · rfl
  · rename_i t r hr
    rw [hr] at he
    simp only at he
    split
    · rfl
    · rename_i h7
      rw [if_neg h7] at he
      split
      · rfl
      · rename_i hb
        rw [if_neg hb] at he
        split
        · rfl
        · rename_i hh
          rw [if_neg hh] at he
          simp only at he ⊢
          unfold finV at he ⊢
          split
          · rfl
          · rename_i hl; rw [if_neg hl] at he; exact absurd rfl he
theorem rawV_ok {s : ByteArray} {a : Nat} {e : Int} {n : Nat} (h : (rawV s a e n).2.2 = 0) : e = 0 ∧ a + n ≤ s.size ∨ e = 0 ∧ s.size < a ∧ n = 0 ∨ e = 0 ∧ a + n ≤ s.size := by
  by_cases he : e ≠ 0
  · rw [rawV_err he] at h; exact absurd h he
  · have he : e = 0 := by simpa using he
    by_cases h2 : (n : Int) > (s.size : Int) - a
    · rw [rawV_out he (by omega) h2] at h; cases h
    · left; exact ⟨he, by omega⟩
theorem raw_one {s : ByteArray} {a : Nat} {e : Int} {n : Nat} (ha : a ≤ s.size) (h : (rawV s a e n).2.2 = 0) : e = 0 ∧ ∃ t : ByteArray, t.size = n ∧ rawV s a e n = (t, a + n, 0) ∧ At s a t := by
  have h3 : e = 0 ∧ a + n ≤ s.size := by rcases rawV_ok h with h | h | h <;> omega
  obtain ⟨he, hn⟩ := h3
  have hsz : (s.extract a (a + n)).size = n := by rw [ByteArray.size_extract]; omega
  refine ⟨he, s.extract a (a + n), hsz, ?_, ?_⟩
  · rw [rawV_in he (by omega) (by omega), Int.toNat_natCast]
  · exact ⟨by rw [hsz]; exact hn, by rw [hsz]⟩
theorem numV_one {s : ByteArray} {a : Nat} {e lim : Int} (ha : a ≤ s.size) (h : (numV s a e lim).2.2 = 0) : e = 0 ∧ ∃ n : Nat, n < 72057594037927936 ∧ (n : Int) ≤ lim ∧ numV s a e lim = ((n : Int), a + (numB n).size, 0) ∧ At s a (numB n) := by
  have he := (numV_gt h).2
  refine ⟨he, ?_⟩
  subst he
  by_cases h2 : (1 : Int) > (s.size : Int) - a
  · exfalso
    have hr : (rawV s a 0 1).1.data.toList = [] := by rw [rawV_out rfl (by decide) h2]
    have : numV s a 0 lim = (0, (rawV s a 0 1).2.1, (rawV s a 0 1).2.2) := by unfold numV; rw [hr]
    rw [this, rawV_out rfl (by decide) h2] at h; cases h
  · obtain ⟨_, t1, ht1, hr1, hat1⟩ := raw_one (s := s) (a := a) (e := 0) (n := 1) ha (by show (rawV s a 0 1).2.2 = 0; rw [rawV_in rfl (by decide) h2])
    have hr1 : rawV s a 0 1 = (t1, a + 1, 0) := hr1
    have hl1 : ∃ b : UInt8, t1.data.toList = [b] := by
      have : t1.data.toList.length = 1 := by rw [← ht1]; simp [← ByteArray.size_data]
      match hq : t1.data.toList, this with
      | [b], _ => exact ⟨b, rfl⟩
    obtain ⟨b, hb⟩ := hl1
    have hu : numV s a 0 lim = if 7 < b.toNat then (0, a + 1, 4) else if (rawV s (a + 1) 0 b.toNat).2.2 ≠ 0 then (0, (rawV s (a + 1) 0 b.toNat).2) else if (rawV s (a + 1) 0 b.toNat).1.data.toList.head? = some 0 then (0, (rawV s (a + 1) 0 b.toNat).2.1, 4) else
        ((finV (accum 0 (rawV s (a + 1) 0 b.toNat).1.data.toList) lim).1, (rawV s (a + 1) 0 b.toNat).2.1, (finV (accum 0 (rawV s (a + 1) 0 b.toNat).1.data.toList) lim).2) := by
      unfold numV; rw [hr1]; simp only; rw [hb]
    rw [hu] at h ⊢
    by_cases h7 : 7 < b.toNat
    · rw [if_pos h7] at h; cases h
    rw [if_neg h7] at h ⊢
    by_cases hx : (rawV s (a + 1) 0 b.toNat).2.2 ≠ 0
    · rw [if_pos hx] at h; exact absurd h hx
    rw [if_neg hx] at h ⊢
    obtain ⟨_, t2, ht2, hr2, hat2⟩ := raw_one (s := s) (a := a + 1) (e := 0) (n := b.toNat) (by omega) (by simpa using hx)
    rw [hr2] at h ⊢
    simp only at h ⊢
    by_cases hh : t2.data.toList.head? = some 0
    · rw [if_pos hh] at h; cases h
    rw [if_neg hh] at h ⊢
    have hd := digs_accum _ _ rfl hh
    have hge := accum_ge t2.data.toList 0 (by decide)
    have hlen : t2.data.toList.length = b.toNat := by rw [← ht2]; simp [← ByteArray.size_data]
    have hlt := accum_lt t2.data.toList 0 0 (by decide) (by decide)
    rw [Nat.zero_add, hlen] at hlt
    have hp : (256 ^ b.toNat : Nat) ≤ 256 ^ 7 := Nat.pow_le_pow_right (by decide) (by omega)
    have e7 : 256 ^ 7 = 72057594037927936 := rfl
    have hfin : ¬ accum 0 t2.data.toList > lim := by
      intro hg
      unfold finV at h; rw [if_pos hg] at h; cases h
    have hnb : numB (accum 0 t2.data.toList).toNat = t1 ++ t2 := by
      have e : (t1 ++ t2).data.toList = (numB (accum 0 t2.data.toList).toNat).data.toList := by
        rw [ByteArray.data_append, Array.toList_append, hb]
        unfold numB ofL
        rw [hd, hlen, UInt8.ofNat_toNat]; rfl
      have e2 := Array.toList_inj.1 e
      cases h5 : numB (accum 0 t2.data.toList).toNat; cases h6 : t1 ++ t2
      rw [h5, h6] at e2; simp only at e2; rw [e2]
    refine ⟨(accum 0 t2.data.toList).toNat, by omega, by omega, ?_, ?_⟩
    · unfold finV
      rw [if_neg hfin, hnb, ByteArray.size_append, ht1, ht2]
      simp only [Prod.mk.injEq, and_true]
      omega
    · rw [hnb]
      exact hat1.app (by rw [ht1]; exact hat2)
theorem text_one {s : ByteArray} {a : Nat} {e lim : Int} (ha : a ≤ s.size) (h : (textV s a e lim).2.2 = 0) : e = 0 ∧ ∃ t : ByteArray, (t.size : Int) ≤ lim ∧ textV s a e lim = (t, a + (numB t.size ++ t).size, 0) ∧ At s a (numB t.size ++ t) := by
  unfold textV at h ⊢
  have h1 := rawV_err0 h
  obtain ⟨he, n, hn, hl, hv, hat⟩ := numV_one ha h1
  refine ⟨he, ?_⟩
  rw [hv] at h ⊢
  simp only at h ⊢
  obtain ⟨_, t, ht, hr, hat2⟩ := raw_one (n := n) hat.1 h
  subst ht
  exact ⟨t, hl, by rw [hr, ByteArray.size_append, Nat.add_assoc], hat.app hat2⟩
theorem flag_one {s : ByteArray} {a : Nat} {e : Int} (ha : a ≤ s.size) (h : (flagV (rawV s a e 1)).2.2 = 0) : e = 0 ∧ ∃ b : Bool, flagV (rawV s a e 1) = (b, a + 1, 0) ∧ At s a (if b then ⟨#[1]⟩ else ⟨#[0]⟩) := by
  have h0 : (rawV s a e 1).2.2 = 0 := by
    unfold flagV at h
    split at h
    · simp only at h
      split at h
      · cases h
      · rename_i hn; exact absurd h hn
    · exact h
  obtain ⟨he, t, ht, hr, hat⟩ := raw_one (s := s) (a := a) (e := e) (n := 1) ha h0
  have hr : rawV s a e 1 = (t, a + 1, 0) := hr
  refine ⟨he, ?_⟩
  have hl1 : ∃ b : UInt8, t.data.toList = [b] := by
    have : t.data.toList.length = 1 := by rw [← ht]; simp [← ByteArray.size_data]
    match hq : t.data.toList, this with
    | [b], _ => exact ⟨b, rfl⟩
  obtain ⟨b, hb⟩ := hl1
  have et : t.toList = [b] := by rw [toList_eq, hb]
  have e1 : (⟨#[1]⟩ : ByteArray).toList = [1] := by rw [toList_eq]
  rw [hr] at h ⊢
  unfold flagV at h ⊢
  rw [et, e1, less_one] at h ⊢
  by_cases hg : (b.toNat : Int) > 1
  · rw [if_pos (decide_eq_true hg)] at h
    simp at h
  · rw [if_neg (by rw [decide_eq_false hg]; decide)]
    refine ⟨[b] == [1], rfl, ?_⟩
    have hcase : b = 0 ∨ b = 1 := by
      have : b.toNat = 0 ∨ b.toNat = 1 := by omega
      rcases this with h | h
      · left; exact UInt8.toNat_inj.mp h
      · right; exact UInt8.toNat_inj.mp h
    have eq : t = if ([b] == [(1 : UInt8)]) then ⟨#[1]⟩ else ⟨#[0]⟩ := by
      rcases hcase with rfl | rfl
      · show t = ⟨#[0]⟩
        cases t; congr 1; exact Array.toList_inj.1 hb
      · show t = ⟨#[1]⟩
        cases t; congr 1; exact Array.toList_inj.1 hb
    rw [← eq]; exact hat

/-- What a reader's function does: it reads what stands there in its one form, or fails. -/
def Rd {α : Type} (s : ByteArray) (a : Nat) (e : Int) (f : Nat → Option ((α × Unit) × ((ByteArray × Int × Int × Unit) × Unit))) (w : α → ByteArray) (P : α → Prop) : Prop :=
  ∃ x a' e', a' ≤ s.size ∧ Runs f ((x, ()), ((s, ((a' : Nat) : Int), e', ()), ())) ∧ (e' = 0 → e = 0 ∧ At s a (w x) ∧ a' = a + (w x).size ∧ P x)
theorem rd_num {s : ByteArray} (hs : s.size ≤ 30000000) {a : Nat} (ha : a ≤ s.size) (e lim : Int) : Rd s a e (fun k => octet_Reader_Num.f k lim s (a : Int) e) numI (fun x => 0 ≤ x ∧ x ≤ lim) :=
  ⟨_, _, _, numV_le ha e lim, reader_num hs ha e lim, fun h => by
    obtain ⟨he, n, hn, hl, hv, hat⟩ := numV_one ha h
    rw [hv]; exact ⟨he, hat, rfl, Int.natCast_nonneg n, hl⟩⟩
theorem rd_text {s : ByteArray} (hs : s.size ≤ 30000000) {a : Nat} (ha : a ≤ s.size) (e lim : Int) : Rd s a e (fun k => octet_Reader_Text.f k lim s (a : Int) e) textB (fun t => (t.size : Int) ≤ lim) :=
  ⟨_, _, _, textV_le ha e lim, reader_text hs ha e lim, fun h => by
    obtain ⟨he, t, hl, hv, hat⟩ := text_one ha h
    rw [hv]; exact ⟨he, hat, rfl, hl⟩⟩
theorem flagV_le {s : ByteArray} {a : Nat} (ha : a ≤ s.size) (e : Int) : (flagV (rawV s a e 1)).2.1 ≤ s.size := by
  have := rawV_le ha e 1
  unfold flagV; split <;> exact this
theorem rd_flag {s : ByteArray} (hs : s.size ≤ 30000000) {a : Nat} (ha : a ≤ s.size) (e : Int) : Rd s a e (fun k => octet_Reader_Flag.f k s (a : Int) e) flagB (fun _ => True) :=
  ⟨_, _, _, flagV_le ha e, flag_ok hs ha e, fun h => by
    obtain ⟨he, b, hv, hat⟩ := flag_one ha h
    rw [hv]; exact ⟨he, hat, by rw [flagB_size], trivial⟩⟩
end Go.Proofs.Ytabdmnoejoiboaa.Pure
