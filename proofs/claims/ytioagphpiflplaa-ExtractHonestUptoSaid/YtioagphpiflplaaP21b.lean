/- Plain laws of chapter 21: a proof read out of any bytes. -/
import Derived.Test.YtioagphpiflplaaP21a
namespace Go.Proofs.Ytioagphpiflplaa.Pure
open Go Go.Proofs.Ytioagphpiflplaa.E Go.Proofs.Ytioagphpiflplaa.Eng
set_option linter.unusedVariables false
set_option linter.unusedSimpArgs false

/-- A reader of these bytes, anywhere within. -/
def RdP (s : ByteArray) (st : ByteArray × Int × Int × Unit) : Prop := ∃ (a : Nat) (e : Int), a ≤ s.size ∧ st = (s, (a : Int), e, ())
theorem rawV_sz (s : ByteArray) (a : Nat) (e n : Int) : (rawV s a e n).1.size ≤ s.size := by
  unfold rawV
  split
  · exact Nat.zero_le _
  · split
    · exact Nat.zero_le _
    · split
      · exact Nat.zero_le _
      · show (s.extract _ _).size ≤ _
        rw [ByteArray.size_extract]; omega
theorem finV_lim {x lim : Int} (h : 0 ≤ lim) : (finV x lim).1 ≤ lim := by
  unfold finV; split
  · exact h
  · show x ≤ lim; omega
theorem numV_lim {s : ByteArray} {a : Nat} {e lim : Int} (h : 0 ≤ lim) : (numV s a e lim).1 ≤ lim := by
  unfold numV
  split
  · exact h
  · split
    · exact h
    · split
      · exact h
      · split
        · exact h
        · exact finV_lim h
theorem rde {s : ByteArray} {st} (h : RdP s st) : TP (fun k => octet_Reader_Err.f k st.1 st.2.1 st.2.2.1) (fun v => RdP s st) := (err_ok _ _ _).tp h
/-- What is read: a proof of bounded lists; if not, none that may be. -/
def RdO (v : proof_Read.R) : Prop := ShowOk v.1.1 ∧ (v.1.2.1 ≠ 0 → showB v.1.1 = false)
theorem noShow_no : showB (⟨#[]⟩, 0, 0, 0, [], [], 0, 0, [], ()) = false := by
  have : wordB ⟨#[]⟩ 24 = false := by unfold wordB; rfl
  unfold showB; rw [this]; rfl
theorem noShow_ok : ShowOk (⟨#[]⟩, 0, 0, 0, [], [], 0, 0, [], ()) := ⟨Nat.zero_le _, Nat.zero_le _, (fun t h => nomatch h), Nat.zero_le _, (fun t h => nomatch h), Nat.zero_le _, fun t h => nomatch h⟩
section
variable {s : ByteArray} (hs : s.size ≤ 30000000)
include hs
theorem rdn {st} (h : RdP s st) (lim : Int) (h0 : 0 ≤ lim) : TP (fun k => octet_Reader_Num.f k lim st.1 st.2.1 st.2.2.1) (fun v => v.1.1 ≤ lim ∧ RdP s v.2.1) := by
  obtain ⟨a, e, ha, rfl⟩ := h
  exact (reader_num hs ha e lim).tp ⟨numV_lim h0, _, _, numV_le ha _ _, rfl⟩
theorem rdt {st} (h : RdP s st) (lim : Int) : TP (fun k => octet_Reader_Text.f k lim st.1 st.2.1 st.2.2.1) (fun v => v.1.1.size ≤ 30000000 ∧ RdP s v.2.1) := by
  obtain ⟨a, e, ha, rfl⟩ := h
  exact (reader_text hs ha e lim).tp ⟨by have := rawV_sz s (numV s a e lim).2.1 (numV s a e lim).2.2 (numV s a e lim).1; dsimp only [textV]; omega, _, _, textV_le ha _ _, rfl⟩
theorem rdf {st} (h : RdP s st) : TP (fun k => octet_Reader_Flag.f k st.1 st.2.1 st.2.2.1) (fun v => RdP s v.2.1) := by
  obtain ⟨a, e, ha, rfl⟩ := h
  refine (flag_ok hs ha e).tp ⟨_, _, ?_, rfl⟩
  unfold flagV; split <;> exact rawV_le ha _ _
theorem rdr {st} (h : RdP s st) (n : Int) : TP (fun k => octet_Reader_Raw.f k n st.1 st.2.1 st.2.2.1) (fun v => v.1.1.size ≤ 30000000 ∧ RdP s v.2.1) := by
  obtain ⟨a, e, ha, rfl⟩ := h
  exact (reader_raw hs ha e n).tp ⟨by have := rawV_sz s a e n; dsimp only; omega, _, _, rawV_le ha _ _, rfl⟩
theorem rdend {st} (h : RdP s st) : TP (fun k => octet_Reader_End.f k st.1 st.2.1 st.2.2.1) (fun v => True) := by
  obtain ⟨a, e, ha, rfl⟩ := h
  exact (end_ok hs ha e).tp trivial
theorem rdl_loop (lim n : Int) : ∀ (m : Nat) (i : Int) (l : List ByteArray), n ≤ i + m → m ≤ 1000 → l.length + m ≤ 1000 → 0 ≤ i → i + m ≤ 1000 → (∀ t ∈ l, t.size ≤ 30000000) → ∀ st, RdP s st → TP (fun k => octet_Reader_Texts.l0 k lim l n i st.1 st.2.1 st.2.2.1) (fun v => (v.1.1.length ≤ 1000 ∧ ∀ t ∈ v.1.1, t.size ≤ 30000000) ∧ RdP s v.2.1)
  | 0, i, l, h, hm, hl, h0, h1, hz, st, hst => TP.step (fun k => rfl) (TP.dec (fun h' => absurd h' (by omega)) fun _ => TP.some ⟨⟨by dsimp only; omega, hz⟩, hst⟩)
  | m + 1, i, l, h, hm, hl, h0, h1, hz, st, hst => by
    refine TP.step (fun k => rfl) (TP.dec (fun h' => TP.bind (rdt hs hst lim) fun v hv => TP.bind (rde hv.2) fun w hw => TP.neI (fun _ => TP.some ⟨⟨Nat.zero_le _, fun t ht => nomatch ht⟩, hw⟩) fun _ => TP.ck (by apply decide_eq_true; simp only [List.length_cons, List.length_nil]; omega) ?_) fun _ => TP.some ⟨⟨by dsimp only; omega, hz⟩, hst⟩)
    rw [wrap_i64 (by omega) (by omega)]
    refine rdl_loop lim n m (i + 1) _ (by omega) (by omega) (by simp only [List.length_append, List.length_cons, List.length_nil]; omega) (by omega) (by omega) (fun t ht => ?_) v.2.1 hw
    rcases List.mem_append.1 ht with ht | ht
    · exact hz t ht
    · rw [List.mem_singleton.1 ht]; exact hv.1
theorem rdl {st} (h : RdP s st) (n lim : Int) (h0 : 0 ≤ n) (h1 : n ≤ 900) : TP (fun k => octet_Reader_Texts.f k n lim st.1 st.2.1 st.2.2.1) (fun v => (v.1.1.length ≤ 1000 ∧ ∀ t ∈ v.1.1, t.size ≤ 30000000) ∧ RdP s v.2.1) :=
  TP.step (fun k => rfl) (TP.bind (rdn hs h n h0) fun v hv => rdl_loop hs lim _ 900 0 [] (by have := hv.1; omega) (by omega) (by simp) (by omega) (by omega) (fun t ht => nomatch ht) _ hv.2)
def ItemO (t : Item) : Prop := t.2.1.size ≤ 30000000 ∧ t.2.2.2.1.size ≤ 30000000 ∧ t.2.2.2.2.1.size ≤ 30000000 ∧ t.2.2.2.2.2.1.size ≤ 30000000
theorem rditem {st} (h : RdP s st) : TP (fun k => proof_readItem.f k st.1 st.2.1 st.2.2.1) (fun v => ItemO v.1.1 ∧ RdP s v.2.1) := by
  refine TP.step (fun k => rfl) (TP.bind (rdn hs h 11 (by omega)) fun v1 h1 => TP.bind (rdt hs h1.2 16) fun v2 h2 => TP.bind (rdf hs h2.2) fun v3 h3 => TP.cond (fun _ => TP.bind (rdt hs h3 32) fun v4 h4 => TP.some ⟨⟨h2.1, Nat.zero_le _, Nat.zero_le _, h4.1⟩, h4.2⟩) fun _ => TP.bind (rdt hs h3 16) fun v4 h4 => TP.bind (rdt hs h4.2 208) fun v5 h5 => TP.some ⟨⟨h2.1, h4.1, h5.1, Nat.zero_le _⟩, h5.2⟩)
theorem rdj (z : Show) (id : ByteArray) (hid : id.size ≤ 30000000) (x1 x2 x3 : Int) (l : List Item) (hl : l.length ≤ 1000) (hi : ∀ t ∈ l, ItemO t) (w : List ByteArray) (x4 x5 : Int) (w2 : List ByteArray) {st} (h : RdP s st) :
    TP (fun k => proof_Read.j0 k z.1 z.2.1 z.2.2.1 z.2.2.2.1 z.2.2.2.2.1 z.2.2.2.2.2.1 z.2.2.2.2.2.2.1 z.2.2.2.2.2.2.2.1 z.2.2.2.2.2.2.2.2.1 st.1 st.2.1 st.2.2.1 id x1 x2 x3 l w x4 x5 w2) RdO := by
  refine TP.step (fun k => rfl) (TP.bind (rdl hs h 12 32 (by omega) (by omega)) fun v1 h1 => TP.bind (rdn hs h1.2 65536 (by omega)) fun v2 h2 => TP.bind (rdn hs h2.2 65536 (by omega)) fun v3 h3 => TP.bind (rdl hs h3.2 16 32 (by omega) (by omega)) fun v4 h4 => TP.bind (rdend hs h4.2) fun v5 _ => TP.neI (fun _ => TP.some ⟨noShow_ok, fun _ => noShow_no⟩) fun _ => ?_)
  have hok : ShowOk (id, x1, x2, x3, l, v1.1.1, v2.1.1, v3.1.1, v4.1.1, ()) := ⟨hid, by dsimp only; omega, hi, by have := h1.1.1; dsimp only; omega, h1.1.2, by have := h4.1.1; dsimp only; omega, h4.1.2⟩
  exact TP.bindR (right_ok _ hok) (TP.not (fun _ => TP.some ⟨noShow_ok, fun _ => noShow_no⟩) fun _ => TP.some ⟨hok, fun e => absurd rfl e⟩)
theorem rdloop (z : Show) (id : ByteArray) (hid : id.size ≤ 30000000) (x1 x2 x3 n : Int) (w : List ByteArray) (x4 x5 : Int) (w2 : List ByteArray) : ∀ (m : Nat) (i : Int) (l : List Item), n ≤ i + m → m ≤ 100 → l.length + m ≤ 100 → 0 ≤ i → i + m ≤ 1000 → (∀ t ∈ l, ItemO t) → ∀ st, RdP s st →
    TP (fun k => proof_Read.l0 k n i z.1 z.2.1 z.2.2.1 z.2.2.2.1 z.2.2.2.2.1 z.2.2.2.2.2.1 z.2.2.2.2.2.2.1 z.2.2.2.2.2.2.2.1 z.2.2.2.2.2.2.2.2.1 st.1 st.2.1 st.2.2.1 id x1 x2 x3 l w x4 x5 w2) RdO
  | 0, i, l, h, hm, hl, h0, h1, hi, st, hst => TP.step (fun k => rfl) (TP.dec (fun h' => absurd h' (by omega)) fun _ => rdj hs z id hid x1 x2 x3 l (by omega) hi w x4 x5 w2 hst)
  | m + 1, i, l, h, hm, hl, h0, h1, hi, st, hst => by
    refine TP.step (fun k => rfl) (TP.dec (fun h' => TP.bind (rditem hs hst) fun v hv => TP.bind (rde hv.2) fun u hu => TP.neI (fun _ => rdj hs z id hid x1 x2 x3 l (by omega) hi w x4 x5 w2 hu) fun _ => TP.ck (by apply decide_eq_true; simp only [List.length_cons, List.length_nil]; omega) ?_) fun _ => rdj hs z id hid x1 x2 x3 l (by omega) hi w x4 x5 w2 hst)
    rw [wrap_i64 (by omega) (by omega)]
    refine rdloop z id hid x1 x2 x3 n w x4 x5 w2 m (i + 1) _ (by omega) (by omega) (by simp only [List.length_append, List.length_cons, List.length_nil]; omega) (by omega) (by omega) (fun t ht => ?_) v.2.1 hu
    rcases List.mem_append.1 ht with ht | ht
    · exact hi t ht
    · rw [List.mem_singleton.1 ht]; exact hv.1
theorem read_tot : TP (fun k => proof_Read.f k s) RdO := by
  have h0 : RdP s (s, 0, 0, ()) := ⟨0, 0, Nat.zero_le _, rfl⟩
  refine TP.step (fun k => rfl) (TP.bindR (v := (((), ()), ((s, 0, 0, ()), ()))) (Runs.step (fun k => rfl) Runs.some) (TP.bind (rdt hs h0 24) fun v1 h1 => TP.bind (rdn hs h1.2 7 (by omega)) fun v2 h2 => TP.bind (rdn hs h2.2 1099511627776 (by omega)) fun v3 h3 => TP.bind (rdn hs h3.2 12 (by omega)) fun v4 h4 => TP.bind (rdn hs h4.2 12 (by omega)) fun v5 h5 => ?_))
  exact rdloop hs (⟨#[]⟩, 0, 0, 0, [], [], 0, 0, [], ()) v1.1.1 h1.1 _ _ _ _ _ _ _ _ 12 0 [] (by have := h5.1; omega) (by omega) (by simp) (by omega) (by omega) (fun t ht => nomatch ht) _ h5.2
end
end Go.Proofs.Ytioagphpiflplaa.Pure
