/- Plain laws: a proof's bytes, by the program and by the document. -/
import Derived.Test.YtfegehfdbcnepaaP19a
namespace Go.Proofs.Ytfegehfdbcnepaa.Pure
open Go Go.Proofs.Ytfegehfdbcnepaa.E Go.Proofs.Ytfegehfdbcnepaa.Eng
set_option linter.unusedVariables false
set_option linter.unusedSimpArgs false

theorem app_empty (s : ByteArray) : s ++ (⟨#[]⟩ : ByteArray) = s := empty_app s
theorem empty_left (s : ByteArray) : (⟨#[]⟩ : ByteArray) ++ s = s := by
  have : ((⟨#[]⟩ : ByteArray) ++ s).data = s.data := by rw [ByteArray.data_append]; simp
  cases s; cases h2 : (⟨#[]⟩ : ByteArray) ++ _; rw [h2] at this; simp only at this; rw [this]
theorem size_zero {s : ByteArray} (h : s.size = 0) : s = ⟨#[]⟩ := by
  rw [size_list] at h
  cases s; congr 1
  exact Array.toList_inj.1 (List.eq_nil_of_length_eq_zero h)
theorem w_flag (b : Bool) {s : ByteArray} (hs : s.size ≤ 1000000000) (x : Bool) : Runs (fun k => octet_Writer_Flag.f k b s x) ((), ((s ++ flagB b, x, ()), ())) := by
  have e1 : (⟨#[1]⟩ : ByteArray).size = 1 := rfl
  have e0 : (⟨#[0]⟩ : ByteArray).size = 1 := rfl
  refine Runs.step (fun k => rfl) ?_
  cases b with
  | true => exact Runs.ck (by apply decide_eq_true; rw [e1]; omega) Runs.some
  | false => exact Runs.ck (by apply decide_eq_true; rw [e0]; omega) Runs.some
theorem w_num {x : Int} (h0 : 0 ≤ x) (h1 : x < 72057594037927936) {s : ByteArray} (hs : s.size ≤ 1000000000) : Runs (fun k => octet_Writer_Num.f k x s false) ((), ((s ++ numI x, false, ()), ())) := writer_num h0 h1 hs
theorem w_text {t s : ByteArray} (h : t.size ≤ 1048576) (hs : s.size ≤ 1000000000) : Runs (fun k => octet_Writer_Text.f k t s false) ((), ((s ++ textB t, false, ()), ())) := writer_text h hs false
theorem w_texts (l : List ByteArray) (hl : l.length ≤ 1048576) (hb : ∀ t ∈ l, t.size ≤ 1048576) {s : ByteArray} (hs : s.size + 8 + roomL l ≤ 1000000000) : Runs (fun k => octet_Writer_Texts.f k l s false) ((), ((s ++ listB l, false, ()), ())) := by
  have hn := writer_num (x := (l.length : Int)) (by omega) (by omega) (s := s) (by omega)
  rw [Int.toNat_natCast] at hn
  have := numB_size (n := l.length) (by omega)
  refine Runs.step (fun k => rfl) (Runs.bind hn ?_)
  have hl2 := writer_texts_loop l hl hb false l.length 0 (Nat.zero_add _) (s ++ numB l.length) (by rw [List.drop_zero, ByteArray.size_append]; omega)
  rw [List.drop_zero, bapp_assoc] at hl2
  exact hl2
theorem numI_size' {x : Int} (h : x < 72057594037927936) : (numI x).size ≤ 8 := numI_size h

/-- A field as it is laid. -/
def itemL (t : Item) : ByteArray := numI t.1 ++ (textB t.2.1 ++ (flagB t.2.2.1 ++ (if t.2.2.1 = true then textB t.2.2.2.2.2.1 else textB t.2.2.2.1 ++ textB t.2.2.2.2.1)))
def itemsL : List Item → ByteArray
  | [] => ⟨#[]⟩
  | t :: l => itemL t ++ itemsL l
structure ItemSm (t : Item) : Prop where
  n : 0 ≤ t.1 ∧ t.1 < 12
  a : t.2.1.size ≤ 16
  e : t.2.2.1 = true → t.2.2.2.1 = ⟨#[]⟩ ∧ t.2.2.2.2.1 = ⟨#[]⟩
  f : t.2.2.1 = false → t.2.2.2.2.2.1 = ⟨#[]⟩
  s : t.2.2.2.1.size ≤ 16
  v : t.2.2.2.2.1.size ≤ 208
  p : t.2.2.2.2.2.1.size ≤ 32
theorem itemL_size {t : Item} (h : ItemSm t) : (itemL t).size ≤ 300 := by
  have h0 := numI_size' (x := t.1) (by have := h.n; omega)
  have h1 := textB_size (t := t.2.1) (by have := h.a; omega)
  have h2 := textB_size (t := t.2.2.2.1) (by have := h.s; omega)
  have h3 := textB_size (t := t.2.2.2.2.1) (by have := h.v; omega)
  have h4 := textB_size (t := t.2.2.2.2.2.1) (by have := h.p; omega)
  have h5 := flagB_size t.2.2.1
  have ha := h.a
  have hs := h.s
  have hv := h.v
  have hp := h.p
  unfold itemL
  simp only [ByteArray.size_append]
  split
  · omega
  · rw [ByteArray.size_append]; omega
theorem itemsL_size : ∀ (l : List Item), (∀ t ∈ l, ItemSm t) → (itemsL l).size ≤ 300 * l.length
  | [], _ => by simp [itemsL]; rfl
  | t :: l, h => by
    have h1 := itemL_size (h t (by simp))
    have h2 := itemsL_size l (fun x hx => h x (List.mem_cons_of_mem _ hx))
    simp only [itemsL, ByteArray.size_append, List.length_cons]; omega
theorem itemB_sm {cnt : Int} (hc : cnt ≤ 12) {t : Item} (h : itemB cnt t = true) : ItemSm t := by
  unfold itemB at h
  simp only [Bool.and_eq_true, Bool.not_eq_true', decide_eq_false_iff_not] at h
  obtain ⟨h1, h2, h3, h4⟩ := h
  have hw := (wordB_size h3).1
  cases hf : t.2.2.1 with
  | true =>
    rw [if_pos hf] at h4
    simp only [Bool.and_eq_true, decide_eq_true_eq] at h4
    exact ⟨⟨by omega, by omega⟩, by omega, fun _ => ⟨size_zero h4.2.1, size_zero h4.2.2⟩, fun h => by (rw [hf] at h; cases h), by omega, by omega, by omega⟩
  | false =>
    rw [if_neg (by rw [hf]; decide)] at h4
    simp only [Bool.and_eq_true, decide_eq_true_eq] at h4
    exact ⟨⟨by omega, by omega⟩, by omega, fun h => by (rw [hf] at h; cases h), fun _ => size_zero h4.1, by omega, by omega, by omega⟩
structure ShowSm (s : Show) : Prop where
  id : s.1.size ≤ 24
  a : 0 ≤ s.2.1 ∧ s.2.1 < 8
  b : 0 ≤ s.2.2.1 ∧ s.2.2.1 ≤ 1099511627776
  c : 1 ≤ s.2.2.2.1 ∧ s.2.2.2.1 ≤ 12
  l : 1 ≤ s.2.2.2.2.1.length ∧ s.2.2.2.2.1.length ≤ 12
  i : ∀ t ∈ s.2.2.2.2.1, ItemSm t
  n : s.2.2.2.2.2.1.length ≤ 12
  nt : ∀ t ∈ s.2.2.2.2.2.1, t.size = 32
  q : 0 ≤ s.2.2.2.2.2.2.1 ∧ s.2.2.2.2.2.2.1 < 65536
  z : 1 ≤ s.2.2.2.2.2.2.2.1 ∧ s.2.2.2.2.2.2.2.1 ≤ 65536
  p : s.2.2.2.2.2.2.2.2.1.length ≤ 16
  pt : ∀ t ∈ s.2.2.2.2.2.2.2.2.1, t.size = 32
theorem itemsB_all {cnt : Int} : ∀ (l : List Item) (p : Option Item), itemsB cnt p l = true → ∀ t ∈ l, itemB cnt t = true
  | [], _, _, t, ht => by cases ht
  | x :: l, p, h, t, ht => by
    simp only [itemsB, Bool.and_eq_true] at h
    rcases List.mem_cons.1 ht with rfl | ht
    · exact h.1
    · exact itemsB_all l _ h.2.2 t ht
theorem sumsB_facts {l : List ByteArray} {most : Int} (h : sumsB l most = true) : (l.length : Int) ≤ most ∧ ∀ t ∈ l, t.size = 32 := by
  unfold sumsB at h
  simp only [Bool.and_eq_true, decide_eq_true_eq, List.all_eq_true] at h
  exact ⟨h.2, h.1⟩
theorem showB_sm {s : Show} (h : showB s = true) : ShowSm s := by
  unfold showB restB at h
  simp only [Bool.and_eq_true, Bool.not_eq_true', decide_eq_false_iff_not] at h
  obtain ⟨h1, h2, h3, h4, h5, h6, h7, h8, h9, h10, h11, h12, h13, h14, h15, h16⟩ := h
  have hw := (wordB_size h1).1
  have n1 := sumsB_facts h15
  have n2 := sumsB_facts h16
  exact ⟨by omega, ⟨by omega, by omega⟩, ⟨by omega, by omega⟩, ⟨by omega, by omega⟩, ⟨by omega, by omega⟩, fun t ht => itemB_sm (by omega) (itemsB_all _ _ h14 t ht), by omega, n1.2, ⟨by omega, by omega⟩, ⟨by omega, by omega⟩, by omega, n2.2⟩
theorem item_ok (t : Item) (h : ItemSm t) {w : ByteArray} (hw : w.size ≤ 1000000) : Runs (fun k => proof_item.f k t w false) ((), ((w ++ itemL t, false, ()), ())) := by
  have h0 := numI_size' (x := t.1) (by have := h.n; omega)
  have h1 := textB_size (t := t.2.1) (by have := h.a; omega)
  have h2 := textB_size (t := t.2.2.2.1) (by have := h.s; omega)
  have h5 := flagB_size t.2.2.1
  have hn := h.n
  have ha := h.a
  have hs := h.s
  have hv := h.v
  have hp := h.p
  refine Runs.step (fun k => rfl) (Runs.bind (w_num (x := t.1) (by omega) (by omega) (by omega)) (Runs.bind (w_text (t := t.2.1) (by omega) (by dsimp only; rw [ByteArray.size_append]; omega)) (Runs.bind (w_flag _ (by dsimp only; rw [ByteArray.size_append, ByteArray.size_append]; omega) _) ?_)))
  unfold itemL
  cases hf : t.2.2.1 with
  | true =>
    rw [hf] at h5
    refine Runs.yes (by rfl) (Runs.bind (w_text (t := t.2.2.2.2.2.1) (by omega) (by dsimp only; simp only [ByteArray.size_append]; omega)) (Runs.some' ?_))
    rw [if_pos rfl]; simp only [bapp_assoc]
  | false =>
    rw [hf] at h5
    refine Runs.no (by rfl) (Runs.bind (w_text (t := t.2.2.2.1) (by omega) (by dsimp only; simp only [ByteArray.size_append]; omega)) (Runs.bind (w_text (t := t.2.2.2.2.1) (by omega) (by dsimp only; simp only [ByteArray.size_append]; omega)) (Runs.some' ?_)))
    rw [if_neg (by decide)]; simp only [bapp_assoc]
/-- A proof as it is laid. -/
def showL (s : Show) : ByteArray := textB s.1 ++ (numI s.2.1 ++ (numI s.2.2.1 ++ (numI s.2.2.2.1 ++ (numI (s.2.2.2.2.1.length : Int) ++ (itemsL s.2.2.2.2.1 ++ (listB s.2.2.2.2.2.1 ++ (numI s.2.2.2.2.2.2.1 ++ (numI s.2.2.2.2.2.2.2.1 ++ listB s.2.2.2.2.2.2.2.2.1))))))))
def tailL (s : Show) : ByteArray := listB s.2.2.2.2.2.1 ++ (numI s.2.2.2.2.2.2.1 ++ (numI s.2.2.2.2.2.2.2.1 ++ listB s.2.2.2.2.2.2.2.2.1))
theorem roomL_32 : ∀ l : List ByteArray, (∀ t ∈ l, t.size = 32) → roomL l ≤ 41 * l.length
  | [], _ => by simp [roomL]
  | t :: l, h => by
    have := h t (by simp)
    have := roomL_32 l (fun x hx => h x (List.mem_cons_of_mem _ hx))
    simp only [roomL, List.length_cons]; omega
theorem textsB_room : ∀ l : List ByteArray, (∀ t ∈ l, t.size ≤ 1048576) → (textsB l).size ≤ roomL l
  | [], _ => Nat.le_refl 0
  | t :: l, h => by
    have := textB_size (h t (by simp))
    unfold textB at this
    have := textsB_room l (fun x hx => h x (List.mem_cons_of_mem _ hx))
    simp only [textsB, roomL]; rw [ByteArray.size_append]; omega
theorem listB_size {l : List ByteArray} (hl : l.length ≤ 16) (h : ∀ t ∈ l, t.size = 32) : (listB l).size ≤ 700 := by
  have h1 := roomL_32 l h
  have h2 := textsB_room l (fun t ht => by have := h t ht; omega)
  have h3 := numB_size (n := l.length) (by omega)
  unfold listB; rw [ByteArray.size_append]; omega
noncomputable abbrev bytL1 (k : Nat) (i : Int) (s : Show) (w : ByteArray) := proof_Bytes.l1 k s.2.2.2.2.1 (s.2.2.2.2.1.length : Int) i s.1 s.2.1 s.2.2.1 s.2.2.2.1 s.2.2.2.2.1 s.2.2.2.2.2.1 s.2.2.2.2.2.2.1 s.2.2.2.2.2.2.2.1 s.2.2.2.2.2.2.2.2.1 w false
theorem bytes_l1 (s : Show) (h : ShowSm s) : ∀ (m i : Nat), i + m = s.2.2.2.2.1.length → ∀ w : ByteArray, w.size + 300 * m ≤ 100000 → Runs (fun k => bytL1 k (i : Int) s w) ((w ++ (itemsL (s.2.2.2.2.1.drop i) ++ tailL s), ()), ()) := by
  have hl := h.l
  have hn := h.n
  have hp := h.p
  have hq := h.q
  have hz := h.z
  intro m
  induction m with
  | zero =>
    intro i hi w hw
    rw [List.drop_of_length_le (by omega), show itemsL [] = ⟨#[]⟩ from rfl, empty_left]
    have z1 := listB_size (l := s.2.2.2.2.2.1) (by omega) h.nt
    have z2 := numI_size' (x := s.2.2.2.2.2.2.1) (by omega)
    have z3 := numI_size' (x := s.2.2.2.2.2.2.2.1) (by omega)
    have r1 := roomL_32 _ h.nt
    have r2 := roomL_32 _ h.pt
    refine Runs.step (fun k => rfl) (Runs.no (by apply decide_eq_false; omega) (Runs.bind (w_texts _ (by omega) (fun t ht => by have := h.nt t ht; omega) (by omega)) (Runs.bind (w_num (by omega) (by omega) (by dsimp only; rw [ByteArray.size_append]; omega)) (Runs.bind (w_num (by omega) (by omega) (by dsimp only; simp only [ByteArray.size_append]; omega)) (Runs.bind (w_texts _ (by omega) (fun t ht => by have := h.pt t ht; omega) (by dsimp only; simp only [ByteArray.size_append]; omega)) (Runs.bind (v := ((w ++ listB s.2.2.2.2.2.1 ++ numI s.2.2.2.2.2.2.1 ++ numI s.2.2.2.2.2.2.2.1 ++ listB s.2.2.2.2.2.2.2.2.1, true, ()), ())) (Runs.step (fun k => rfl) Runs.some) (Runs.some' ?_)))))))
    unfold tailL; simp only [bapp_assoc]
  | succ m ih =>
    intro i hi w hw
    have hlt : i < s.2.2.2.2.1.length := by omega
    have hm := h.i _ (List.getElem_mem hlt)
    have hz := itemL_size hm
    have nx := ih (i + 1) (by omega) (w ++ itemL (s.2.2.2.2.1)[i]) (by rw [ByteArray.size_append]; omega)
    rw [bapp_assoc, show ((i + 1 : Nat) : Int) = IntKind.wrap .i64 ((i : Int) + 1) from (wrap_i64 (by omega) (by omega)).symm] at nx
    rw [List.drop_eq_getElem_cons hlt]
    simp only [itemsL]
    rw [bapp_assoc]
    exact Runs.step (fun k => rfl) (Runs.yes (by apply decide_eq_true; omega) (Runs.opt (rdo_at hlt) (Runs.bind (item_ok _ hm (by omega)) nx)))
noncomputable abbrev bytL0 (k : Nat) (i : Int) (s : Show) (w : ByteArray) := proof_Bytes.l0 k (s.2.1, (s.2.2.1, (s.2.2.2.1, ((s.2.2.2.2.1.length : Int), ())))) i s.1 s.2.1 s.2.2.1 s.2.2.2.1 s.2.2.2.2.1 s.2.2.2.2.2.1 s.2.2.2.2.2.2.1 s.2.2.2.2.2.2.2.1 s.2.2.2.2.2.2.2.2.1 w false
theorem l0_step (s : Show) {i j v : Int} (h : i < 4) (hv : rdo [s.2.1, s.2.2.1, s.2.2.2.1, (s.2.2.2.2.1.length : Int)] i = some v) (hj : IntKind.wrap .i64 (i + 1) = j) (h0 : 0 ≤ v) (h1 : v < 72057594037927936) {w : ByteArray} (hw : w.size ≤ 1000000) {r : V1 ByteArray} (nx : Runs (fun k => bytL0 k j s (w ++ numI v)) r) : Runs (fun k => bytL0 k i s w) r := by
  subst hj
  exact Runs.step (fun k => rfl) (Runs.yes (decide_eq_true h) (Runs.opt hv (Runs.bind (w_num h0 h1 (by omega)) nx)))
theorem l0_end (s : Show) {i : Int} (h : ¬ i < 4) {w : ByteArray} {r : V1 ByteArray} (nx : Runs (fun k => bytL1 k 0 s w) r) : Runs (fun k => bytL0 k i s w) r :=
  Runs.step (fun k => rfl) (Runs.no (decide_eq_false h) nx)
theorem bytes_no (s : Show) (h : ShowOk s) (hb : showB s = false) : Runs (fun k => proof_Bytes.f k s) ((⟨#[]⟩, ()), ()) := by
  have hr := right_ok s h
  rw [hb] at hr
  exact Runs.step (fun k => rfl) (Runs.bind hr (Runs.yes (by rfl) Runs.some))
theorem bytes_ok (s : Show) (h : ShowOk s) (hb : showB s = true) : Runs (fun k => proof_Bytes.f k s) ((showL s, ()), ()) := by
  have hr := right_ok s h
  rw [hb] at hr
  have g := showB_sm hb
  have hid := g.id
  have ha := g.a
  have hb := g.b
  have hc := g.c
  have hl := g.l
  have z0 := textB_size (t := s.1) (by omega)
  have z1 := numI_size' (x := s.2.1) (by omega)
  have z2 := numI_size' (x := s.2.2.1) (by omega)
  have z3 := numI_size' (x := s.2.2.2.1) (by omega)
  have z4 := numI_size' (x := (s.2.2.2.2.1.length : Int)) (by omega)
  have ht := w_text (t := s.1) (s := ⟨#[]⟩) (by omega) (Nat.zero_le _)
  rw [empty_left] at ht
  have main := bytes_l1 s g _ 0 (Nat.zero_add _) (textB s.1 ++ numI s.2.1 ++ numI s.2.2.1 ++ numI s.2.2.2.1 ++ numI (s.2.2.2.2.1.length : Int)) (by simp only [ByteArray.size_append]; omega)
  refine Runs.step (fun k => rfl) (Runs.bind hr (Runs.no (by rfl) (Runs.bind ht ?_)))
  have w1 : IntKind.wrap .i64 ((0 : Int) + 1) = 1 := by decide
  have w2 : IntKind.wrap .i64 ((1 : Int) + 1) = 2 := by decide
  have w3 : IntKind.wrap .i64 ((2 : Int) + 1) = 3 := by decide
  have w4 : IntKind.wrap .i64 ((3 : Int) + 1) = 4 := by decide
  refine l0_step s (i := 0) (j := 1) (v := s.2.1) (by decide) rfl w1 (by omega) (by omega) (by dsimp only; omega) ?_
  refine l0_step s (i := 1) (j := 2) (v := s.2.2.1) (by decide) rfl w2 (by omega) (by omega) (by dsimp only; rw [ByteArray.size_append]; omega) ?_
  refine l0_step s (i := 2) (j := 3) (v := s.2.2.2.1) (by decide) rfl w3 (by omega) (by omega) (by dsimp only; simp only [ByteArray.size_append]; omega) ?_
  refine l0_step s (i := 3) (j := 4) (v := (s.2.2.2.2.1.length : Int)) (by decide) rfl w4 (by omega) (by omega) (by dsimp only; simp only [ByteArray.size_append]; omega) ?_
  refine l0_end s (i := 4) (by decide) (main.of_eq ?_)
  unfold showL tailL
  simp only [bapp_assoc, List.drop_zero]

/-- The document's: a list's bytes, a proof's bytes. -/
theorem o_num {x : Int} (h0 : 0 ≤ x) (h : x < 72057594037927936) : Runs (fun k => octet_Num.f k x) ((numI x, ()), ()) := octet_num h0 h
theorem o_text {t : ByteArray} (h : t.size ≤ 1048576) : Runs (fun k => octet_Text.f k t) ((textB t, ()), ()) := octet_text h
theorem list_loop (l : List ByteArray) (hl : l.length ≤ 16) (h : ∀ t ∈ l, t.size = 32) : ∀ (m i : Nat), i + m = l.length → ∀ w : ByteArray, w.size + 41 * m ≤ 100000 → Runs (fun k => chartularylaw19_list.l0 k l w (i : Int)) ((w ++ textsB (l.drop i), ()), ()) := by
  intro m
  induction m with
  | zero =>
    intro i hi w hw
    rw [List.drop_of_length_le (by omega), show textsB [] = ⟨#[]⟩ from rfl, app_empty]
    exact Runs.step (fun k => rfl) (Runs.no (by apply decide_eq_false; omega) Runs.some)
  | succ m ih =>
    intro i hi w hw
    have hlt : i < l.length := by omega
    have hm := h _ (List.getElem_mem hlt)
    have z := textB_size (t := l[i]) (by omega)
    have nx := ih (i + 1) (by omega) (w ++ textB l[i]) (by rw [ByteArray.size_append]; omega)
    rw [bapp_assoc, show ((i + 1 : Nat) : Int) = IntKind.wrap .i64 ((i : Int) + 1) from (wrap_i64 (by omega) (by omega)).symm] at nx
    rw [List.drop_eq_getElem_cons hlt]
    simp only [textsB]
    exact Runs.step (fun k => rfl) (Runs.yes (by apply decide_eq_true; omega) (Runs.opt (rdo_at hlt) (Runs.bind (o_text (by omega)) (Runs.ck (by apply decide_eq_true; dsimp only; omega) nx))))
theorem list_ok (l : List ByteArray) (hl : l.length ≤ 16) (h : ∀ t ∈ l, t.size = 32) : Runs (fun k => chartularylaw19_list.f k l) ((listB l, ()), ()) := by
  have hn := octet_num (x := (l.length : Int)) (by omega) (by omega)
  rw [Int.toNat_natCast] at hn
  have := numB_size (n := l.length) (by omega)
  have main := list_loop l hl h _ 0 (Nat.zero_add _) (numB l.length) (by omega)
  rw [List.drop_zero] at main
  exact Runs.step (fun k => rfl) (Runs.bind hn main)
theorem lb_l0 (s : Show) (h : ShowSm s) : ∀ (m i : Nat), i + m = s.2.2.2.2.1.length → ∀ w : ByteArray, w.size + 300 * m ≤ 100000 →
    Runs (fun k => chartularylaw19_bytes.l0 k w (i : Int) s.1 s.2.1 s.2.2.1 s.2.2.2.1 s.2.2.2.2.1 s.2.2.2.2.2.1 s.2.2.2.2.2.2.1 s.2.2.2.2.2.2.2.1 s.2.2.2.2.2.2.2.2.1) ((w ++ (itemsL (s.2.2.2.2.1.drop i) ++ tailL s), ()), ()) := by
  have hl := h.l
  have hn := h.n
  have hp := h.p
  have hq := h.q
  have hz := h.z
  intro m
  induction m with
  | zero =>
    intro i hi w hw
    rw [List.drop_of_length_le (by omega), show itemsL [] = ⟨#[]⟩ from rfl, empty_left]
    have z1 := listB_size (l := s.2.2.2.2.2.1) (by omega) h.nt
    have z2 := numI_size' (x := s.2.2.2.2.2.2.1) (by omega)
    have z3 := numI_size' (x := s.2.2.2.2.2.2.2.1) (by omega)
    have z4 := listB_size (l := s.2.2.2.2.2.2.2.2.1) (by omega) h.pt
    refine Runs.step (fun k => rfl) (Runs.no (by apply decide_eq_false; omega) (Runs.bind (list_ok _ (by omega) h.nt) (Runs.ck (by apply decide_eq_true; dsimp only; omega) (Runs.bind (o_num (by omega) (by omega)) (Runs.ck (by apply decide_eq_true; simp only [ByteArray.size_append]; omega) (Runs.bind (o_num (by omega) (by omega)) (Runs.ck (by apply decide_eq_true; simp only [ByteArray.size_append]; omega) (Runs.bind (list_ok _ (by omega) h.pt) (Runs.ck (by apply decide_eq_true; simp only [ByteArray.size_append]; omega) (Runs.some' ?_))))))))))
    unfold tailL; simp only [bapp_assoc]
  | succ m ih =>
    intro i hi w hw
    have hlt : i < s.2.2.2.2.1.length := by omega
    have hm := h.i _ (List.getElem_mem hlt)
    have hzz := itemL_size hm
    have nx := ih (i + 1) (by omega) (w ++ itemL (s.2.2.2.2.1)[i]) (by rw [ByteArray.size_append]; omega)
    rw [bapp_assoc, show ((i + 1 : Nat) : Int) = IntKind.wrap .i64 ((i : Int) + 1) from (wrap_i64 (by omega) (by omega)).symm] at nx
    rw [List.drop_eq_getElem_cons hlt]
    simp only [itemsL]
    rw [bapp_assoc]
    have ho : rdo s.2.2.2.2.1 (i : Int) = some (s.2.2.2.2.1)[i] := rdo_at hlt
    generalize (s.2.2.2.2.1)[i] = t at ho nx hm hzz ⊢
    generalize w ++ (itemL t ++ (itemsL (List.drop (i + 1) s.2.2.2.2.1) ++ tailL s)) = R at nx ⊢
    have h0 := numI_size' (x := t.1) (by have := hm.n; omega)
    have h1 := textB_size (t := t.2.1) (by have := hm.a; omega)
    have h2 := textB_size (t := t.2.2.2.1) (by have := hm.s; omega)
    have h3 := textB_size (t := t.2.2.2.2.1) (by have := hm.v; omega)
    have h4 := textB_size (t := t.2.2.2.2.2.1) (by have := hm.p; omega)
    have f1 : (⟨#[1]⟩ : ByteArray).size = 1 := rfl
    have f0 : (⟨#[0]⟩ : ByteArray).size = 1 := rfl
    have hn := hm.n
    have ha := hm.a
    have hs := hm.s
    have hv := hm.v
    have hp := hm.p
    refine Runs.step (fun k => rfl) (Runs.yes (by apply decide_eq_true; omega) (Runs.opt ho (Runs.bind (o_num (x := t.1) (by omega) (by omega)) (Runs.ck (by apply decide_eq_true; dsimp only; omega) (Runs.bind (o_text (t := t.2.1) (by omega)) (Runs.ck (by apply decide_eq_true; simp only [ByteArray.size_append]; omega) ?_))))))
    unfold itemL at nx
    cases hf : t.2.2.1 with
    | true =>
      rw [hf, if_pos rfl, ← bapp_assoc, ← bapp_assoc, ← bapp_assoc] at nx
      exact Runs.yes (by rfl) (Runs.ck (by apply decide_eq_true; simp only [ByteArray.size_append, f1]; omega) (Runs.bind (o_text (t := t.2.2.2.2.2.1) (by omega)) (Runs.ck (by apply decide_eq_true; simp only [ByteArray.size_append, f1]; omega) nx)))
    | false =>
      rw [hf, if_neg (by decide), ← bapp_assoc, ← bapp_assoc, ← bapp_assoc, ← bapp_assoc] at nx
      exact Runs.no (by rfl) (Runs.ck (by apply decide_eq_true; simp only [ByteArray.size_append, f0]; omega) (Runs.bind (o_text (t := t.2.2.2.1) (by omega)) (Runs.ck (by apply decide_eq_true; simp only [ByteArray.size_append, f0]; omega) (Runs.bind (o_text (t := t.2.2.2.2.1) (by omega)) (Runs.ck (by apply decide_eq_true; simp only [ByteArray.size_append, f0]; omega) nx)))))
theorem law_bytes (s : Show) (hb : showB s = true) : Runs (fun k => chartularylaw19_bytes.f k s) ((showL s, ()), ()) := by
  have g := showB_sm hb
  have hid := g.id
  have ha := g.a
  have hb := g.b
  have hc := g.c
  have hl := g.l
  have z0 := textB_size (t := s.1) (by omega)
  have z1 := numI_size' (x := s.2.1) (by omega)
  have z2 := numI_size' (x := s.2.2.1) (by omega)
  have z3 := numI_size' (x := s.2.2.2.1) (by omega)
  have z4 := numI_size' (x := (s.2.2.2.2.1.length : Int)) (by omega)
  have main := lb_l0 s g _ 0 (Nat.zero_add _) (textB s.1 ++ numI s.2.1 ++ numI s.2.2.1 ++ numI s.2.2.2.1 ++ numI (s.2.2.2.2.1.length : Int)) (by simp only [ByteArray.size_append]; omega)
  refine Runs.step (fun k => rfl) (Runs.bind (o_text (by omega)) (Runs.bind (o_num (by omega) (by omega)) (Runs.ck (by apply decide_eq_true; dsimp only; omega) (Runs.bind (o_num (by omega) (by omega)) (Runs.ck (by apply decide_eq_true; simp only [ByteArray.size_append]; omega) (Runs.bind (o_num (by omega) (by omega)) (Runs.ck (by apply decide_eq_true; simp only [ByteArray.size_append]; omega) (Runs.bind (o_num (by omega) (by omega)) (Runs.ck (by apply decide_eq_true; simp only [ByteArray.size_append]; omega) (main.of_eq ?_))))))))))
  unfold showL tailL
  simp only [bapp_assoc, List.drop_zero]
end Go.Proofs.Ytfegehfdbcnepaa.Pure
