/- Plain laws of chapter 21: a proof's bytes; a proof cut. -/
import Derived.Test.YtioagphpiflplaaP21a
import Derived.Test.YtioagphpiflplaaOOne
namespace Go.Proofs.Ytioagphpiflplaa.Pure
open Go Go.Proofs.Ytioagphpiflplaa.E Go.Proofs.Ytioagphpiflplaa.Eng
set_option linter.unusedVariables false
set_option linter.unusedSimpArgs false

theorem empty_left (s : ByteArray) : (⟨#[]⟩ : ByteArray) ++ s = s := by
  have : ((⟨#[]⟩ : ByteArray) ++ s).data = s.data := by rw [ByteArray.data_append]; simp
  cases s; cases h2 : (⟨#[]⟩ : ByteArray) ++ _; rw [h2] at this; simp only at this; rw [this]
theorem w_flag (b : Bool) {s : ByteArray} (hs : s.size ≤ 1000000000) (x : Bool) : Runs (fun k => octet_Writer_Flag.f k b s x) ((), ((s ++ flagB b, x, ()), ())) := by
  have e1 : (⟨#[1]⟩ : ByteArray).size = 1 := rfl
  have e0 : (⟨#[0]⟩ : ByteArray).size = 1 := rfl
  refine Runs.step (fun k => rfl) ?_
  cases b with
  | true => exact Runs.ck (by apply decide_eq_true; rw [e1]; omega) Runs.some
  | false => exact Runs.ck (by apply decide_eq_true; rw [e0]; omega) Runs.some
theorem w_num {x : Int} (h0 : 0 ≤ x) (h1 : x < 72057594037927936) {s : ByteArray} (hs : s.size ≤ 1000000000) : Runs (fun k => octet_Writer_Num.f k x s false) ((), ((s ++ numI x, false, ()), ())) := writer_num h0 h1 hs
theorem w_text {t s : ByteArray} (h : t.size ≤ 1048576) (hs : s.size ≤ 1000000000) : Runs (fun k => octet_Writer_Text.f k t s false) ((), ((s ++ textB t, false, ()), ())) := writer_text h hs false
theorem w_texts (l : List ByteArray) (hl : l.length ≤ 1048576) (hb : ∀ t ∈ l, t.size ≤ 1048576) {s : ByteArray} (hs : s.size + 8 + roomL l ≤ 1000000000) : Runs (fun k => octet_Writer_Texts.f k l s false) ((), ((s ++ listB l, false, ()), ())) := by
  have hn := writer_num (x := (l.length : Int)) (by omega) (by omega) (s := s) (by omega)
  rw [Int.toNat_natCast] at hn
  have := numB_size (n := l.length) (by omega)
  refine Runs.step (fun k => rfl) (Runs.bind hn ?_)
  have hl2 := writer_texts_loop l hl hb false l.length 0 (Nat.zero_add _) (s ++ numB l.length) (by rw [List.drop_zero, ByteArray.size_append]; omega)
  rw [List.drop_zero, bapp_assoc] at hl2
  exact hl2
theorem numI_size' {x : Int} (h : x < 72057594037927936) : (numI x).size ≤ 8 := numI_size h
/-- A field as it is laid. -/
def itemL (t : Item) : ByteArray := numI t.1 ++ (textB t.2.1 ++ (flagB t.2.2.1 ++ (if t.2.2.1 = true then textB t.2.2.2.2.2.1 else textB t.2.2.2.1 ++ textB t.2.2.2.2.1)))
def itemsL : List Item → ByteArray
  | [] => ⟨#[]⟩
  | t :: l => itemL t ++ itemsL l
theorem itemL_size {t : Item} (h : ItemSm t) : (itemL t).size ≤ 300 := by
  have h0 := numI_size' (x := t.1) (by have := h.n; omega)
  have h1 := textB_size (t := t.2.1) (by have := h.a; omega)
  have h2 := textB_size (t := t.2.2.2.1) (by have := h.s; omega)
  have h3 := textB_size (t := t.2.2.2.2.1) (by have := h.v; omega)
  have h4 := textB_size (t := t.2.2.2.2.2.1) (by have := h.p; omega)
  have h5 := flagB_size t.2.2.1
  have ha := h.a
  have hs := h.s
  have hv := h.v
  have hp := h.p
  unfold itemL
  simp only [ByteArray.size_append]
  split
  · omega
  · rw [ByteArray.size_append]; omega
theorem itemsL_size : ∀ (l : List Item), (∀ t ∈ l, ItemSm t) → (itemsL l).size ≤ 300 * l.length
  | [], _ => by simp [itemsL]; rfl
  | t :: l, h => by
    have h1 := itemL_size (h t (by simp))
    have h2 := itemsL_size l (fun x hx => h x (List.mem_cons_of_mem _ hx))
    simp only [itemsL, ByteArray.size_append, List.length_cons]; omega
theorem item_ok (t : Item) (h : ItemSm t) {w : ByteArray} (hw : w.size ≤ 1000000) : Runs (fun k => proof_item.f k t w false) ((), ((w ++ itemL t, false, ()), ())) := by
  have h0 := numI_size' (x := t.1) (by have := h.n; omega)
  have h1 := textB_size (t := t.2.1) (by have := h.a; omega)
  have h2 := textB_size (t := t.2.2.2.1) (by have := h.s; omega)
  have h5 := flagB_size t.2.2.1
  have hn := h.n
  have ha := h.a
  have hs := h.s
  have hv := h.v
  have hp := h.p
  refine Runs.step (fun k => rfl) (Runs.bind (w_num (x := t.1) (by omega) (by omega) (by omega)) (Runs.bind (w_text (t := t.2.1) (by omega) (by dsimp only; rw [ByteArray.size_append]; omega)) (Runs.bind (w_flag _ (by dsimp only; rw [ByteArray.size_append, ByteArray.size_append]; omega) _) ?_)))
  unfold itemL
  cases hf : t.2.2.1 with
  | true =>
    rw [hf] at h5
    refine Runs.yes (by rfl) (Runs.bind (w_text (t := t.2.2.2.2.2.1) (by omega) (by dsimp only; simp only [ByteArray.size_append]; omega)) (Runs.some' ?_))
    rw [if_pos rfl]; simp only [bapp_assoc]
  | false =>
    rw [hf] at h5
    refine Runs.no (by rfl) (Runs.bind (w_text (t := t.2.2.2.1) (by omega) (by dsimp only; simp only [ByteArray.size_append]; omega)) (Runs.bind (w_text (t := t.2.2.2.2.1) (by omega) (by dsimp only; simp only [ByteArray.size_append]; omega)) (Runs.some' ?_)))
    rw [if_neg (by decide)]; simp only [bapp_assoc]
/-- A proof as it is laid. -/
def showL (s : Show) : ByteArray := textB s.1 ++ (numI s.2.1 ++ (numI s.2.2.1 ++ (numI s.2.2.2.1 ++ (numI (s.2.2.2.2.1.length : Int) ++ (itemsL s.2.2.2.2.1 ++ (listB s.2.2.2.2.2.1 ++ (numI s.2.2.2.2.2.2.1 ++ (numI s.2.2.2.2.2.2.2.1 ++ listB s.2.2.2.2.2.2.2.2.1))))))))
def tailL (s : Show) : ByteArray := listB s.2.2.2.2.2.1 ++ (numI s.2.2.2.2.2.2.1 ++ (numI s.2.2.2.2.2.2.2.1 ++ listB s.2.2.2.2.2.2.2.2.1))
theorem roomL_32 : ∀ l : List ByteArray, (∀ t ∈ l, t.size = 32) → roomL l ≤ 41 * l.length
  | [], _ => by simp [roomL]
  | t :: l, h => by
    have := h t (by simp)
    have := roomL_32 l (fun x hx => h x (List.mem_cons_of_mem _ hx))
    simp only [roomL, List.length_cons]; omega
theorem textsB_room : ∀ l : List ByteArray, (∀ t ∈ l, t.size ≤ 1048576) → (textsB l).size ≤ roomL l
  | [], _ => Nat.le_refl 0
  | t :: l, h => by
    have := textB_size (h t (by simp))
    unfold textB at this
    have := textsB_room l (fun x hx => h x (List.mem_cons_of_mem _ hx))
    simp only [textsB, roomL]; rw [ByteArray.size_append]; omega
theorem listB_size {l : List ByteArray} (hl : l.length ≤ 16) (h : ∀ t ∈ l, t.size = 32) : (listB l).size ≤ 700 := by
  have h1 := roomL_32 l h
  have h2 := textsB_room l (fun t ht => by have := h t ht; omega)
  have h3 := numB_size (n := l.length) (by omega)
  unfold listB; rw [ByteArray.size_append]; omega
noncomputable abbrev bytL1 (k : Nat) (i : Int) (s : Show) (w : ByteArray) := proof_Bytes.l1 k s.2.2.2.2.1 (s.2.2.2.2.1.length : Int) i s.1 s.2.1 s.2.2.1 s.2.2.2.1 s.2.2.2.2.1 s.2.2.2.2.2.1 s.2.2.2.2.2.2.1 s.2.2.2.2.2.2.2.1 s.2.2.2.2.2.2.2.2.1 w false
theorem bytes_l1 (s : Show) (h : ShowSm s) : ∀ (m i : Nat), i + m = s.2.2.2.2.1.length → ∀ w : ByteArray, w.size + 300 * m ≤ 100000 → Runs (fun k => bytL1 k (i : Int) s w) ((w ++ (itemsL (s.2.2.2.2.1.drop i) ++ tailL s), ()), ()) := by
  have hl := h.l
  have hn := h.n
  have hp := h.p
  have hq := h.q
  have hz := h.z
  intro m
  induction m with
  | zero =>
    intro i hi w hw
    rw [List.drop_of_length_le (by omega), show itemsL [] = ⟨#[]⟩ from rfl, empty_left]
    have z1 := listB_size (l := s.2.2.2.2.2.1) (by omega) h.nt
    have z2 := numI_size' (x := s.2.2.2.2.2.2.1) (by omega)
    have z3 := numI_size' (x := s.2.2.2.2.2.2.2.1) (by omega)
    have r1 := roomL_32 _ h.nt
    have r2 := roomL_32 _ h.pt
    refine Runs.step (fun k => rfl) (Runs.no (by apply decide_eq_false; omega) (Runs.bind (w_texts _ (by omega) (fun t ht => by have := h.nt t ht; omega) (by omega)) (Runs.bind (w_num (by omega) (by omega) (by dsimp only; rw [ByteArray.size_append]; omega)) (Runs.bind (w_num (by omega) (by omega) (by dsimp only; simp only [ByteArray.size_append]; omega)) (Runs.bind (w_texts _ (by omega) (fun t ht => by have := h.pt t ht; omega) (by dsimp only; simp only [ByteArray.size_append]; omega)) (Runs.bind (v := ((w ++ listB s.2.2.2.2.2.1 ++ numI s.2.2.2.2.2.2.1 ++ numI s.2.2.2.2.2.2.2.1 ++ listB s.2.2.2.2.2.2.2.2.1, true, ()), ())) (Runs.step (fun k => rfl) Runs.some) (Runs.some' ?_)))))))
    unfold tailL; simp only [bapp_assoc]
  | succ m ih =>
    intro i hi w hw
    have hlt : i < s.2.2.2.2.1.length := by omega
    have hm := h.i _ (List.getElem_mem hlt)
    have hz := itemL_size hm
    have nx := ih (i + 1) (by omega) (w ++ itemL (s.2.2.2.2.1)[i]) (by rw [ByteArray.size_append]; omega)
    rw [bapp_assoc, show ((i + 1 : Nat) : Int) = IntKind.wrap .i64 ((i : Int) + 1) from (wrap_i64 (by omega) (by omega)).symm] at nx
    rw [List.drop_eq_getElem_cons hlt]
    simp only [itemsL]
    rw [bapp_assoc]
    exact Runs.step (fun k => rfl) (Runs.yes (by apply decide_eq_true; omega) (Runs.opt (rdo_at hlt) (Runs.bind (item_ok _ hm (by omega)) nx)))
noncomputable abbrev bytL0 (k : Nat) (i : Int) (s : Show) (w : ByteArray) := proof_Bytes.l0 k (s.2.1, (s.2.2.1, (s.2.2.2.1, ((s.2.2.2.2.1.length : Int), ())))) i s.1 s.2.1 s.2.2.1 s.2.2.2.1 s.2.2.2.2.1 s.2.2.2.2.2.1 s.2.2.2.2.2.2.1 s.2.2.2.2.2.2.2.1 s.2.2.2.2.2.2.2.2.1 w false
theorem l0_step (s : Show) {i j v : Int} (h : i < 4) (hv : rdo [s.2.1, s.2.2.1, s.2.2.2.1, (s.2.2.2.2.1.length : Int)] i = some v) (hj : IntKind.wrap .i64 (i + 1) = j) (h0 : 0 ≤ v) (h1 : v < 72057594037927936) {w : ByteArray} (hw : w.size ≤ 1000000) {r : V1 ByteArray} (nx : Runs (fun k => bytL0 k j s (w ++ numI v)) r) : Runs (fun k => bytL0 k i s w) r := by
  subst hj
  exact Runs.step (fun k => rfl) (Runs.yes (decide_eq_true h) (Runs.opt hv (Runs.bind (w_num h0 h1 (by omega)) nx)))
theorem l0_end (s : Show) {i : Int} (h : ¬ i < 4) {w : ByteArray} {r : V1 ByteArray} (nx : Runs (fun k => bytL1 k 0 s w) r) : Runs (fun k => bytL0 k i s w) r :=
  Runs.step (fun k => rfl) (Runs.no (decide_eq_false h) nx)
theorem bytes_no (s : Show) (h : ShowOk s) (hb : showB s = false) : Runs (fun k => proof_Bytes.f k s) ((⟨#[]⟩, ()), ()) := by
  have hr := right_ok s h
  rw [hb] at hr
  exact Runs.step (fun k => rfl) (Runs.bind hr (Runs.yes (by rfl) Runs.some))
theorem bytes_ok (s : Show) (h : ShowOk s) (hb : showB s = true) : Runs (fun k => proof_Bytes.f k s) ((showL s, ()), ()) := by
  have hr := right_ok s h
  rw [hb] at hr
  have g := showB_sm hb
  have hid := g.id
  have ha := g.a
  have hb := g.b
  have hc := g.c
  have hl := g.l
  have z0 := textB_size (t := s.1) (by omega)
  have z1 := numI_size' (x := s.2.1) (by omega)
  have z2 := numI_size' (x := s.2.2.1) (by omega)
  have z3 := numI_size' (x := s.2.2.2.1) (by omega)
  have z4 := numI_size' (x := (s.2.2.2.2.1.length : Int)) (by omega)
  have ht := w_text (t := s.1) (s := ⟨#[]⟩) (by omega) (Nat.zero_le _)
  rw [empty_left] at ht
  have main := bytes_l1 s g _ 0 (Nat.zero_add _) (textB s.1 ++ numI s.2.1 ++ numI s.2.2.1 ++ numI s.2.2.2.1 ++ numI (s.2.2.2.2.1.length : Int)) (by simp only [ByteArray.size_append]; omega)
  refine Runs.step (fun k => rfl) (Runs.bind hr (Runs.no (by rfl) (Runs.bind ht ?_)))
  have w1 : IntKind.wrap .i64 ((0 : Int) + 1) = 1 := by decide
  have w2 : IntKind.wrap .i64 ((1 : Int) + 1) = 2 := by decide
  have w3 : IntKind.wrap .i64 ((2 : Int) + 1) = 3 := by decide
  have w4 : IntKind.wrap .i64 ((3 : Int) + 1) = 4 := by decide
  refine l0_step s (i := 0) (j := 1) (v := s.2.1) (by decide) rfl w1 (by omega) (by omega) (by dsimp only; omega) ?_
  refine l0_step s (i := 1) (j := 2) (v := s.2.2.1) (by decide) rfl w2 (by omega) (by omega) (by dsimp only; rw [ByteArray.size_append]; omega) ?_
  refine l0_step s (i := 2) (j := 3) (v := s.2.2.2.1) (by decide) rfl w3 (by omega) (by omega) (by dsimp only; simp only [ByteArray.size_append]; omega) ?_
  refine l0_step s (i := 3) (j := 4) (v := (s.2.2.2.2.1.length : Int)) (by decide) rfl w4 (by omega) (by omega) (by dsimp only; simp only [ByteArray.size_append]; omega) ?_
  refine l0_end s (i := 4) (by decide) (main.of_eq ?_)
  unfold showL tailL
  simp only [bapp_assoc, List.drop_zero]
abbrev noShow : Show := (⟨#[]⟩, 0, 0, 0, [], [], 0, 0, [], ())
theorem showL_size {s : Show} (hb : showB s = true) : (showL s).size ≤ 100000 := by
  have g := showB_sm hb
  have hid := g.id
  have ha := g.a
  have hb := g.b
  have hc := g.c
  have hl := g.l
  have hq := g.q
  have hz := g.z
  have hn := g.n
  have hp := g.p
  have z0 := textB_size (t := s.1) (by omega)
  have z1 := numI_size' (x := s.2.1) (by omega)
  have z2 := numI_size' (x := s.2.2.1) (by omega)
  have z3 := numI_size' (x := s.2.2.2.1) (by omega)
  have z4 := numI_size' (x := (s.2.2.2.2.1.length : Int)) (by omega)
  have z5 := itemsL_size _ g.i
  have z6 := listB_size (l := s.2.2.2.2.2.1) (by omega) g.nt
  have z7 := numI_size' (x := s.2.2.2.2.2.2.1) (by omega)
  have z8 := numI_size' (x := s.2.2.2.2.2.2.2.1) (by omega)
  have z9 := listB_size (l := s.2.2.2.2.2.2.2.2.1) (by omega) g.pt
  unfold showL
  simp only [ByteArray.size_append]; omega
def cutB (a : ByteArray) : ByteArray := if 300 < a.size then a.extract 0 300 else a
theorem cutB_size (a : ByteArray) : (cutB a).size ≤ 300 := by
  unfold cutB
  split
  · rw [ByteArray.size_extract]; omega
  · omega
theorem cut_ok (a : ByteArray) : Runs (fun k => chartularylaw19_cut.f k a) ((cutB a, ()), ()) := by
  unfold cutB
  refine Runs.step (fun k => rfl) (Runs.dec (fun h => Runs.ck (by simp; omega) (Runs.some' ?_)) (fun h => Runs.some' ?_))
  · rw [if_pos (by omega)]; rfl
  · rw [if_neg (by omega)]
def cutH (l : List ByteArray) : List ByteArray := (l.take 30).map cutB
def cutI (t : Item) : Item := (t.1, cutB t.2.1, t.2.2.1, cutB t.2.2.2.1, cutB t.2.2.2.2.1, cutB t.2.2.2.2.2.1, ())
def cutIs (l : List Item) : List Item := (l.take 30).map cutI
theorem texts_loop (h : List ByteArray) : ∀ (m i : Nat) (acc : List ByteArray), min h.length 30 - i = m → i ≤ h.length → i ≤ 30 → acc.length = i → Runs (fun k => chartularylaw19_texts.l0 k h acc (i : Int)) ((acc ++ ((h.take 30).drop i).map cutB, ()), ()) := by
  intro m
  induction m with
  | zero =>
    intro i acc hm hi h30 ha
    rw [List.drop_of_length_le (by rw [List.length_take]; omega), List.map_nil, List.append_nil]
    refine Runs.step (fun k => rfl) (Runs.dec (fun hh => Runs.no (by apply decide_eq_false; omega) Runs.some) (fun hh => Runs.some))
  | succ m ih =>
    intro i acc hm hi h30 ha
    have hlt : i < h.length := by omega
    have nx := ih (i + 1) (acc ++ [cutB h[i]]) (by omega) (by omega) (by omega) (by rw [List.length_append, ha]; rfl)
    have h2 : i < (h.take 30).length := by rw [List.length_take]; omega
    rw [List.drop_eq_getElem_cons h2, List.map_cons, List.getElem_take]
    rw [List.append_assoc, show ((i + 1 : Nat) : Int) = IntKind.wrap .i64 ((i : Int) + 1) from (wrap_i64 (by omega) (by omega)).symm] at nx
    exact Runs.step (fun k => rfl) (Runs.yes (by apply decide_eq_true; omega) (Runs.yes (by apply decide_eq_true; omega) (Runs.opt (rdo_at hlt) (Runs.bind (cut_ok _) (Runs.ck (by apply decide_eq_true; simp; omega) nx)))))
theorem texts_ok (h : List ByteArray) : Runs (fun k => chartularylaw19_texts.f k h) ((cutH h, ()), ()) := by
  have := texts_loop h _ 0 [] rfl (by omega) (by omega) rfl
  rw [List.drop_zero, List.nil_append] at this
  exact Runs.step (fun k => rfl) this
theorem few_loop (x z : Show) (l : List Item) (id : ByteArray) (n p : List ByteArray) : ∀ (m i : Nat) (acc : List Item), min l.length 30 - i = m → i ≤ l.length → i ≤ 30 → acc.length = i →
    Runs (fun k => chartularylaw19_Few.l0 k acc (i : Int) id x.2.1 x.2.2.1 x.2.2.2.1 l n x.2.2.2.2.2.2.1 x.2.2.2.2.2.2.2.1 p z.1 z.2.1 z.2.2.1 z.2.2.2.1 z.2.2.2.2.1 z.2.2.2.2.2.1 z.2.2.2.2.2.2.1 z.2.2.2.2.2.2.2.1 z.2.2.2.2.2.2.2.2.1) (((id, x.2.1, x.2.2.1, x.2.2.2.1, acc ++ ((l.take 30).drop i).map cutI, n, x.2.2.2.2.2.2.1, x.2.2.2.2.2.2.2.1, p, ()), ()), ()) := by
  intro m
  induction m with
  | zero =>
    intro i acc hm hi h30 ha
    rw [List.drop_of_length_le (by rw [List.length_take]; omega), List.map_nil, List.append_nil]
    refine Runs.step (fun k => rfl) (Runs.dec (fun hh => Runs.no (by apply decide_eq_false; omega) Runs.some) (fun hh => Runs.some))
  | succ m ih =>
    intro i acc hm hi h30 ha
    have hlt : i < l.length := by omega
    have nx := ih (i + 1) (acc ++ [cutI l[i]]) (by omega) (by omega) (by omega) (by rw [List.length_append, ha]; rfl)
    have h2 : i < (l.take 30).length := by rw [List.length_take]; omega
    rw [List.drop_eq_getElem_cons h2, List.map_cons, List.getElem_take]
    rw [List.append_assoc, show ((i + 1 : Nat) : Int) = IntKind.wrap .i64 ((i : Int) + 1) from (wrap_i64 (by omega) (by omega)).symm] at nx
    exact Runs.step (fun k => rfl) (Runs.yes (by apply decide_eq_true; omega) (Runs.yes (by apply decide_eq_true; omega) (Runs.opt (rdo_at hlt) (Runs.bind (cut_ok _) (Runs.bind (cut_ok _) (Runs.bind (cut_ok _) (Runs.bind (cut_ok _) (Runs.ck (by apply decide_eq_true; simp; omega) nx))))))))
def fewS (x : Show) : Show := (cutB x.1, x.2.1, x.2.2.1, x.2.2.2.1, cutIs x.2.2.2.2.1, cutH x.2.2.2.2.2.1, x.2.2.2.2.2.2.1, x.2.2.2.2.2.2.2.1, cutH x.2.2.2.2.2.2.2.2.1, ())
theorem few_ok (x : Show) : Runs (fun k => chartularylaw19_Few.f k x) ((fewS x, ()), ()) := by
  have key := few_loop x noShow x.2.2.2.2.1 (cutB x.1) (cutH x.2.2.2.2.2.1) (cutH x.2.2.2.2.2.2.2.2.1) _ 0 [] rfl (by omega) (by omega) rfl
  rw [List.drop_zero, List.nil_append] at key
  exact Runs.step (fun k => rfl) (Runs.bind (cut_ok _) (Runs.bind (texts_ok _) (Runs.bind (texts_ok _) key)))
theorem cutB_size' (a : ByteArray) : (cutB a).size ≤ 30000000 := by have := cutB_size a; omega
theorem few_good (x : Show) : ShowOk (fewS x) := by
  refine ⟨cutB_size' _, ?_, fun t ht => ?_, ?_, fun t ht => ?_, ?_, fun t ht => ?_⟩
  · show (cutIs x.2.2.2.2.1).length ≤ _; unfold cutIs; simp; omega
  · obtain ⟨y, _, rfl⟩ := List.mem_map.1 ht
    exact ⟨cutB_size' _, cutB_size' _, cutB_size' _, cutB_size' _⟩
  · show (cutH x.2.2.2.2.2.1).length ≤ _; unfold cutH; simp; omega
  · obtain ⟨y, _, rfl⟩ := List.mem_map.1 ht
    exact cutB_size' y
  · show (cutH x.2.2.2.2.2.2.2.2.1).length ≤ _; unfold cutH; simp; omega
  · obtain ⟨y, _, rfl⟩ := List.mem_map.1 ht
    exact cutB_size' y
end Go.Proofs.Ytioagphpiflplaa.Pure
