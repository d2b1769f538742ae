/- Plain laws: a proof laid is read as it was; which proofs are one; what is cut off. -/
import Derived.Test.YtfegehfdbcnepaaP19b
namespace Go.Proofs.Ytfegehfdbcnepaa.Pure
open Go Go.Proofs.Ytfegehfdbcnepaa.E Go.Proofs.Ytfegehfdbcnepaa.Eng
set_option linter.unusedVariables false
set_option linter.unusedSimpArgs false

theorem bk_num {s : ByteArray} (hs : s.size ≤ 30000000) {a : Nat} {x lim : Int} (h0 : 0 ≤ x) (hx : x < 72057594037927936) (hl : x ≤ lim) (h : At s a (numI x)) : Runs (fun k => octet_Reader_Num.f k lim s (a : Int) 0) ((x, ()), ((s, ((a + (numI x).size : Nat) : Int), 0, ()), ())) := by
  have hr := reader_num hs (a := a) (by have := h.1; omega) 0 lim
  have hv := At.num (n := x.toNat) (by omega) (lim := lim) (by omega) h
  rw [hv, Int.toNat_of_nonneg h0] at hr
  exact hr
theorem bk_text {s : ByteArray} (hs : s.size ≤ 30000000) {a : Nat} {t : ByteArray} {lim : Int} (hl : (t.size : Int) ≤ lim) (h : At s a (textB t)) : Runs (fun k => octet_Reader_Text.f k lim s (a : Int) 0) ((t, ()), ((s, ((a + (textB t).size : Nat) : Int), 0, ()), ())) := by
  have hz := h.1
  have hsz : t.size ≤ (textB t).size := by unfold textB; rw [ByteArray.size_append]; omega
  have hr := reader_text hs (a := a) (by omega) 0 lim
  have hv := At.text (t := t) (by omega) hl h
  rw [hv] at hr
  exact hr
theorem bk_flag {s : ByteArray} (hs : s.size ≤ 30000000) {a : Nat} {b : Bool} (h : At s a (flagB b)) : Runs (fun k => octet_Reader_Flag.f k s (a : Int) 0) ((b, ()), ((s, ((a + (flagB b).size : Nat) : Int), 0, ()), ())) := by
  have hr := flag_ok hs (a := a) (by have := h.1; omega) 0
  have hv : flagV (rawV s a 0 1) = (b, a + 1, 0) := raw_bool h
  rw [hv] at hr
  rw [flagB_size]
  exact hr
theorem bk_texts {s : ByteArray} (hs : s.size ≤ 30000000) {a : Nat} {l : List ByteArray} {n lim : Int} (hn : (l.length : Int) ≤ n) (hl : ∀ t ∈ l, (t.size : Int) ≤ lim) (hlen : l.length ≤ 1048576) (h : At s a (listB l)) : Runs (fun k => octet_Reader_Texts.f k n lim s (a : Int) 0) ((l, ()), ((s, ((a + (listB l).size : Nat) : Int), 0, ()), ())) := by
  unfold listB at h ⊢
  have hr := reader_num hs (a := a) (by have := h.1; omega) 0 n
  have hv := h.left.num (lim := n) (by omega) hn
  rw [hv] at hr
  have hin := texts_read hs lim l hlen hl _ 0 (Nat.zero_add _) _ h.left.1 (by rw [List.drop_zero]; exact h.right)
  rw [List.drop_zero, List.take_zero, Nat.add_assoc, ← ByteArray.size_append] at hin
  exact Runs.step (fun k => rfl) (Runs.bind hr hin)
theorem bk_item {s : ByteArray} (hs : s.size ≤ 30000000) {a : Nat} {t : Item} (hx : ItemSm t) (h : At s a (itemL t)) : Runs (fun k => proof_readItem.f k s (a : Int) 0) ((t, ()), ((s, ((a + (itemL t).size : Nat) : Int), 0, ()), ())) := by
  have hn := hx.n
  have ha := hx.a
  have hss := hx.s
  have hv := hx.v
  have hp := hx.p
  have r1 := bk_num hs (x := t.1) (lim := 11) (by omega) (by omega) (by omega) h.left
  have r2 := bk_text hs (lim := 16) (by omega) h.right.left
  have r3 := bk_flag hs h.right.right.left
  have hat := h.right.right.right
  have hz : (itemL t).size = (numI t.1).size + ((textB t.2.1).size + ((flagB t.2.2.1).size + (if t.2.2.1 = true then textB t.2.2.2.2.2.1 else textB t.2.2.2.1 ++ textB t.2.2.2.2.1).size)) := by unfold itemL; simp only [ByteArray.size_append]
  refine Runs.step (fun k => rfl) (Runs.bind r1 (Runs.bind r2 (Runs.bind r3 ?_)))
  cases hf : t.2.2.1 with
  | true =>
    rw [hf, if_pos rfl] at hz hat
    have he := hx.e hf
    have r4 := bk_text hs (lim := 32) (by omega) hat
    refine Runs.yes (by rfl) (Runs.bind r4 (Runs.some' ?_))
    rw [hz, ← hf, ← Nat.add_assoc, ← Nat.add_assoc, ← Nat.add_assoc]
    have hx2 : ((t.1, t.2.1, t.2.2.1, (⟨#[]⟩ : ByteArray), (⟨#[]⟩ : ByteArray), t.2.2.2.2.2.1, ()) : Item) = t := by
      conv => rhs; rw [show t = (t.1, t.2.1, t.2.2.1, t.2.2.2.1, t.2.2.2.2.1, t.2.2.2.2.2.1, ()) from rfl, he.1, he.2]
    show (((t.1, t.2.1, t.2.2.1, (⟨#[]⟩ : ByteArray), (⟨#[]⟩ : ByteArray), t.2.2.2.2.2.1, ()), ()), _) = _
    rw [hx2]
  | false =>
    rw [hf, if_neg (by decide)] at hz hat
    have he := hx.f hf
    have r4 := bk_text hs (lim := 16) (by omega) hat.left
    have r5 := bk_text hs (lim := 208) (by omega) hat.right
    refine Runs.no (by rfl) (Runs.bind r4 (Runs.bind r5 (Runs.some' ?_)))
    rw [hz, ← hf, ByteArray.size_append, ← Nat.add_assoc, ← Nat.add_assoc, ← Nat.add_assoc, ← Nat.add_assoc]
    have hx2 : ((t.1, t.2.1, t.2.2.1, t.2.2.2.1, t.2.2.2.2.1, (⟨#[]⟩ : ByteArray), ()) : Item) = t := by
      conv => rhs; rw [show t = (t.1, t.2.1, t.2.2.1, t.2.2.2.1, t.2.2.2.2.1, t.2.2.2.2.2.1, ()) from rfl, he]
    show (((t.1, t.2.1, t.2.2.1, t.2.2.2.1, t.2.2.2.2.1, (⟨#[]⟩ : ByteArray), ()), ()), _) = _
    rw [hx2]
abbrev noShow : Show := (⟨#[]⟩, 0, 0, 0, [], [], 0, 0, [], ())
theorem showL_size {s : Show} (hb : showB s = true) : (showL s).size ≤ 100000 := by
  have g := showB_sm hb
  have hid := g.id
  have ha := g.a
  have hb := g.b
  have hc := g.c
  have hl := g.l
  have hq := g.q
  have hz := g.z
  have hn := g.n
  have hp := g.p
  have z0 := textB_size (t := s.1) (by omega)
  have z1 := numI_size' (x := s.2.1) (by omega)
  have z2 := numI_size' (x := s.2.2.1) (by omega)
  have z3 := numI_size' (x := s.2.2.2.1) (by omega)
  have z4 := numI_size' (x := (s.2.2.2.2.1.length : Int)) (by omega)
  have z5 := itemsL_size _ g.i
  have z6 := listB_size (l := s.2.2.2.2.2.1) (by omega) g.nt
  have z7 := numI_size' (x := s.2.2.2.2.2.2.1) (by omega)
  have z8 := numI_size' (x := s.2.2.2.2.2.2.2.1) (by omega)
  have z9 := listB_size (l := s.2.2.2.2.2.2.2.2.1) (by omega) g.pt
  unfold showL
  simp only [ByteArray.size_append]; omega
/-- The end of reading: from the lists on. -/
theorem read_j0 {L : ByteArray} (hs : L.size ≤ 30000000) (s z : Show) (hok : ShowOk s) (hb : showB s = true) {a : Nat} (h : At L a (tailL s)) (he : a + (tailL s).size = L.size) :
    Runs (fun k => proof_Read.j0 k z.1 z.2.1 z.2.2.1 z.2.2.2.1 z.2.2.2.2.1 z.2.2.2.2.2.1 z.2.2.2.2.2.2.1 z.2.2.2.2.2.2.2.1 z.2.2.2.2.2.2.2.2.1 L (a : Int) 0 s.1 s.2.1 s.2.2.1 s.2.2.2.1 s.2.2.2.2.1 z.2.2.2.2.2.1 z.2.2.2.2.2.2.1 z.2.2.2.2.2.2.2.1 z.2.2.2.2.2.2.2.2.1) ((s, 0, ()), ()) := by
  have g := showB_sm hb
  have hn := g.n
  have hp := g.p
  have hq := g.q
  have hz := g.z
  unfold tailL at h he
  have r1 := bk_texts hs (l := s.2.2.2.2.2.1) (n := 12) (lim := 32) (by omega) (fun t ht => by have := g.nt t ht; omega) (by omega) h.left
  have r2 := bk_num hs (x := s.2.2.2.2.2.2.1) (lim := 65536) (by omega) (by omega) (by omega) h.right.left
  have r3 := bk_num hs (x := s.2.2.2.2.2.2.2.1) (lim := 65536) (by omega) (by omega) (by omega) h.right.right.left
  have r4 := bk_texts hs (l := s.2.2.2.2.2.2.2.2.1) (n := 16) (lim := 32) (by omega) (fun t ht => by have := g.pt t ht; omega) (by omega) h.right.right.right
  have hend := end_ok hs (a := a + (listB s.2.2.2.2.2.1).size + (numI s.2.2.2.2.2.2.1).size + (numI s.2.2.2.2.2.2.2.1).size + (listB s.2.2.2.2.2.2.2.2.1).size) (by simp only [ByteArray.size_append] at he; omega) 0
  rw [if_neg (by simp only [ByteArray.size_append] at he; omega)] at hend
  have hr := right_ok s hok
  rw [hb] at hr
  exact Runs.step (fun k => rfl) (Runs.bind r1 (Runs.bind r2 (Runs.bind r3 (Runs.bind r4 (Runs.bind hend (Runs.no (by rfl) (Runs.bind hr (Runs.no (by rfl) Runs.some))))))))
theorem read_items {L : ByteArray} (hs : L.size ≤ 30000000) (s z : Show) (hok : ShowOk s) (hb : showB s = true) : ∀ (m i : Nat), i + m = s.2.2.2.2.1.length → ∀ a : Nat, At L a (itemsL (s.2.2.2.2.1.drop i) ++ tailL s) → a + (itemsL (s.2.2.2.2.1.drop i) ++ tailL s).size = L.size →
    Runs (fun k => proof_Read.l0 k (s.2.2.2.2.1.length : Int) (i : Int) z.1 z.2.1 z.2.2.1 z.2.2.2.1 z.2.2.2.2.1 z.2.2.2.2.2.1 z.2.2.2.2.2.2.1 z.2.2.2.2.2.2.2.1 z.2.2.2.2.2.2.2.2.1 L (a : Int) 0 s.1 s.2.1 s.2.2.1 s.2.2.2.1 (s.2.2.2.2.1.take i) z.2.2.2.2.2.1 z.2.2.2.2.2.2.1 z.2.2.2.2.2.2.2.1 z.2.2.2.2.2.2.2.2.1) ((s, 0, ()), ()) := by
  have g := showB_sm hb
  have hl := g.l
  intro m
  induction m with
  | zero =>
    intro i hi a h he
    rw [List.drop_of_length_le (by omega), show itemsL [] = ⟨#[]⟩ from rfl, empty_left] at h he
    rw [List.take_of_length_le (by omega)]
    exact Runs.step (fun k => rfl) (Runs.no (by apply decide_eq_false; omega) (read_j0 hs s z hok hb h he))
  | succ m ih =>
    intro i hi a h he
    have hlt : i < s.2.2.2.2.1.length := by omega
    rw [List.drop_eq_getElem_cons hlt] at h he
    simp only [itemsL] at h he
    rw [bapp_assoc] at h he
    have r1 := bk_item hs (g.i _ (List.getElem_mem hlt)) h.left
    have nx := ih (i + 1) (by omega) _ h.right (by rw [ByteArray.size_append] at he; omega)
    rw [List.take_succ_eq_append_getElem hlt, show ((i + 1 : Nat) : Int) = IntKind.wrap .i64 ((i : Int) + 1) from (wrap_i64 (by omega) (by omega)).symm] at nx
    exact Runs.step (fun k => rfl) (Runs.yes (by apply decide_eq_true; omega) (Runs.bind r1 (Runs.bind (err_ok _ _ _) (Runs.no (by rfl) (Runs.ck (by apply decide_eq_true; simp; omega) nx)))))
theorem read_back (s : Show) (hok : ShowOk s) (hb : showB s = true) : Runs (fun k => proof_Read.f k (showL s)) ((s, 0, ()), ()) := by
  have hs : (showL s).size ≤ 30000000 := by have := showL_size hb; omega
  have g := showB_sm hb
  have hid := g.id
  have ha := g.a
  have hbb := g.b
  have hc := g.c
  have hl := g.l
  have h := at_all (showL s)
  have he : (showL s).size = (showL s).size := rfl
  generalize hL : showL s = L at hs h he ⊢
  have hat : At L 0 (textB s.1 ++ (numI s.2.1 ++ (numI s.2.2.1 ++ (numI s.2.2.2.1 ++ (numI (s.2.2.2.2.1.length : Int) ++ (itemsL s.2.2.2.2.1 ++ tailL s)))))) := by
    have e : L = textB s.1 ++ (numI s.2.1 ++ (numI s.2.2.1 ++ (numI s.2.2.2.1 ++ (numI (s.2.2.2.2.1.length : Int) ++ (itemsL s.2.2.2.2.1 ++ tailL s))))) := by rw [← hL]; rfl
    rw [← e]; exact h
  have hsz : L.size = (textB s.1).size + ((numI s.2.1).size + ((numI s.2.2.1).size + ((numI s.2.2.2.1).size + ((numI (s.2.2.2.2.1.length : Int)).size + (itemsL s.2.2.2.2.1 ++ tailL s).size)))) := by
    rw [← hL]; unfold showL tailL; simp only [ByteArray.size_append]
  have r1 := bk_text hs (lim := 24) (by omega) hat.left
  have r2 := bk_num hs (x := s.2.1) (lim := 7) (by omega) (by omega) (by omega) hat.right.left
  have r3 := bk_num hs (x := s.2.2.1) (lim := 1099511627776) (by omega) (by omega) (by omega) hat.right.right.left
  have r4 := bk_num hs (x := s.2.2.2.1) (lim := 12) (by omega) (by omega) (by omega) hat.right.right.right.left
  have r5 := bk_num hs (x := (s.2.2.2.2.1.length : Int)) (lim := 12) (by omega) (by omega) (by omega) hat.right.right.right.right.left
  have main := read_items hs s noShow hok hb _ 0 (Nat.zero_add _) _ hat.right.right.right.right.right (by rw [List.drop_zero]; omega)
  have r0 : Runs (fun k => octet_Read.f k L) (((), ()), ((L, 0, 0, ()), ())) := Runs.step (fun k => rfl) Runs.some
  exact Runs.step (fun k => rfl) (Runs.bind r0 (Runs.bind r1 (Runs.bind r2 (Runs.bind r3 (Runs.bind r4 (Runs.bind r5 main))))))

theorem awake_ok : Runs (fun k => chartularylaw19_awake.f k) ((true, ()), ()) := by
  refine ⟨14, fun k hk => ?_⟩
  obtain ⟨k, rfl⟩ : ∃ q, k = q + 14 := ⟨k - 14, by omega⟩
  kernel_rfl
theorem seqB_eq (a b : ByteArray) : seqB a b = decide (a = b) := by
  have e : seqB a b = (a.data == b.data) := by cases a; cases b; rfl
  rw [e]
  by_cases h : a = b
  · subst h; simp
  · rw [decide_eq_false h]
    have : a.data ≠ b.data := fun e => h (by cases a; cases b; simp only at e; rw [e])
    simpa using this
noncomputable instance itemDec (x y : Item) : Decidable (x = y) := Classical.propDecidable _
noncomputable instance showDec (x y : Show) : Decidable (x = y) := Classical.propDecidable _
theorem item_eq (x y : Item) : (((x.1 : Int) == y.1 && (seqB x.2.1 y.2.1 && (x.2.2.1 == y.2.2.1 && (seqB x.2.2.2.1 y.2.2.2.1 && (seqB x.2.2.2.2.1 y.2.2.2.2.1 && (seqB x.2.2.2.2.2.1 y.2.2.2.2.2.1 && true))))))) = decide (x = y) := by
  obtain ⟨a, b, c, d, e, f, ⟨⟩⟩ := x
  obtain ⟨a', b', c', d', e', f', ⟨⟩⟩ := y
  simp only [seqB_eq]
  rw [Bool.eq_iff_iff]
  simp only [Bool.and_eq_true, decide_eq_true_eq, beq_iff_eq, and_true, Prod.mk.injEq]
theorem cons_dec {α : Type} [DecidableEq α] (x y : α) (l l' : List α) : (decide (x = y) && decide (l = l')) = decide (x :: l = y :: l') := by
  rw [Bool.eq_iff_iff]; simp
theorem sameList_loop (x y : List ByteArray) (hl : x.length = y.length) (hb : x.length ≤ 1000000000) : ∀ (m i : Nat), i + m = x.length → Runs (fun k => chartularylaw19_sameList.l0 k x y (i : Int)) ((decide (x.drop i = y.drop i), ()), ()) := by
  intro m
  induction m with
  | zero =>
    intro i hi
    rw [List.drop_of_length_le (by omega), List.drop_of_length_le (by omega)]
    exact Runs.step (fun k => rfl) (Runs.no (by apply decide_eq_false; omega) Runs.some)
  | succ m ih =>
    intro i hi
    have hlt : i < x.length := by omega
    have hlt2 : i < y.length := by omega
    rw [List.drop_eq_getElem_cons hlt, List.drop_eq_getElem_cons hlt2, ← cons_dec]
    refine Runs.step (fun k => rfl) (Runs.yes (by apply decide_eq_true; omega) (Runs.opt (rdo_at hlt) (Runs.opt (rdo_at hlt2) ?_)))
    rw [beq_text]
    refine Runs.nand' Runs.some (fun _ => ?_)
    rw [wrap_i64 (n := (i : Int) + 1) (by omega) (by omega)]
    exact ih (i + 1) (by omega)
theorem sameList_ok (x y : List ByteArray) (hb : x.length ≤ 1000000000) : Runs (fun k => chartularylaw19_sameList.f k x y) ((decide (x = y), ()), ()) := by
  refine Runs.step (fun k => rfl) (Runs.cond (fun h => Runs.some' ?_) (fun h => ?_))
  · rw [decide_eq_false]; intro e; subst e; simp at h
  · have hl : x.length = y.length := by simp at h; omega
    have := sameList_loop x y hl hb _ 0 (Nat.zero_add _)
    rw [List.drop_zero, List.drop_zero] at this
    exact this
theorem same_loop (x y : Show) (hl : x.2.2.2.2.1.length = y.2.2.2.2.1.length) (hx : ShowOk x) : ∀ (m i : Nat), i + m = x.2.2.2.2.1.length → Runs (fun k => chartularylaw19_same.l0 k (i : Int) x.1 x.2.1 x.2.2.1 x.2.2.2.1 x.2.2.2.2.1 x.2.2.2.2.2.1 x.2.2.2.2.2.2.1 x.2.2.2.2.2.2.2.1 x.2.2.2.2.2.2.2.2.1 y.1 y.2.1 y.2.2.1 y.2.2.2.1 y.2.2.2.2.1 y.2.2.2.2.2.1 y.2.2.2.2.2.2.1 y.2.2.2.2.2.2.2.1 y.2.2.2.2.2.2.2.2.1)
    ((decide (x.2.2.2.2.1.drop i = y.2.2.2.2.1.drop i) && (decide (x.2.2.2.2.2.1 = y.2.2.2.2.2.1) && decide (x.2.2.2.2.2.2.2.2.1 = y.2.2.2.2.2.2.2.2.1)), ()), ()) := by
  have hlx := hx.l
  intro m
  induction m with
  | zero =>
    intro i hi
    rw [List.drop_of_length_le (by omega), List.drop_of_length_le (by omega), decide_eq_true (rfl : ([] : List Item) = []), Bool.true_and]
    exact Runs.step (fun k => rfl) (Runs.no (by apply decide_eq_false; omega) (Runs.bind (sameList_ok _ _ (by have := hx.n; omega)) (Runs.and (fun _ => Runs.bind (sameList_ok _ _ (by have := hx.p; omega)) Runs.some) Runs.some)))
  | succ m ih =>
    intro i hi
    have hlt : i < x.2.2.2.2.1.length := by omega
    have hlt2 : i < y.2.2.2.2.1.length := by omega
    rw [List.drop_eq_getElem_cons hlt, List.drop_eq_getElem_cons hlt2, ← cons_dec, Bool.and_assoc]
    refine Runs.step (fun k => rfl) (Runs.yes (by apply decide_eq_true; omega) (Runs.opt (rdo_at hlt) (Runs.opt (rdo_at hlt2) ?_)))
    rw [item_eq]
    refine Runs.nand' Runs.some (fun _ => ?_)
    rw [wrap_i64 (n := (i : Int) + 1) (by omega) (by omega)]
    exact ih (i + 1) (by omega)
theorem same_ok (x y : Show) (hx : ShowOk x) : Runs (fun k => chartularylaw19_same.f k x y) ((decide (x = y), ()), ()) := by
  have no : ∀ {f : Nat → Option (V1 Bool)}, x ≠ y → Runs f ((false, ()), ()) → Runs f ((decide (x = y), ()), ()) := fun h hr => hr.vbool (decide_eq_false h).symm
  refine Runs.step (fun k => rfl) (Runs.cond (fun h => no ?_ Runs.some) (fun h1 => ?_))
  · rw [beq_text] at h; intro e; subst e; simp at h
  rw [beq_text] at h1
  refine Runs.cond (fun h => no ?_ Runs.some) (fun h2 => ?_)
  · intro e; subst e; simp at h
  refine Runs.cond (fun h => no ?_ Runs.some) (fun h3 => ?_)
  · intro e; subst e; simp at h
  refine Runs.cond (fun h => no ?_ Runs.some) (fun h4 => ?_)
  · intro e; subst e; simp at h
  refine Runs.cond (fun h => no ?_ Runs.some) (fun h5 => ?_)
  · intro e; subst e; simp at h
  refine Runs.cond (fun h => no ?_ Runs.some) (fun h6 => ?_)
  · intro e; subst e; simp at h
  refine Runs.cond (fun h => no ?_ Runs.some) (fun h7 => ?_)
  · intro e; subst e; simp at h
  have h7 : x.2.2.2.2.1.length = y.2.2.2.2.1.length := by simp at h7; omega
  have main := same_loop x y h7 hx _ 0 (Nat.zero_add _)
  rw [List.drop_zero, List.drop_zero] at main
  refine Runs.step (fun k => rfl) (main.vbool ?_)
  obtain ⟨a, b, c, d, l, n, q, z, p, ⟨⟩⟩ := x
  obtain ⟨a', b', c', d', l', n', q', z', p', ⟨⟩⟩ := y
  simp only [Bool.not_eq_false', decide_eq_true_eq, bne_eq_false_iff_eq, beq_iff_eq] at h1 h2 h3 h4 h5 h6
  rw [Bool.eq_iff_iff]
  simp only [Bool.and_eq_true, decide_eq_true_eq, Prod.mk.injEq, h1, h2, h3, h4, h5, h6, true_and, and_true]

def cutB (a : ByteArray) : ByteArray := if 300 < a.size then a.extract 0 300 else a
theorem cutB_size (a : ByteArray) : (cutB a).size ≤ 300 := by
  unfold cutB
  split
  · rw [ByteArray.size_extract]; omega
  · omega
theorem cut_ok (a : ByteArray) : Runs (fun k => chartularylaw19_cut.f k a) ((cutB a, ()), ()) := by
  unfold cutB
  refine Runs.step (fun k => rfl) (Runs.dec (fun h => Runs.ck (by simp; omega) (Runs.some' ?_)) (fun h => Runs.some' ?_))
  · rw [if_pos (by omega)]; rfl
  · rw [if_neg (by omega)]
def cutH (l : List ByteArray) : List ByteArray := (l.take 30).map cutB
def cutI (t : Item) : Item := (t.1, cutB t.2.1, t.2.2.1, cutB t.2.2.2.1, cutB t.2.2.2.2.1, cutB t.2.2.2.2.2.1, ())
def cutIs (l : List Item) : List Item := (l.take 30).map cutI
theorem texts_loop (h : List ByteArray) : ∀ (m i : Nat) (acc : List ByteArray), min h.length 30 - i = m → i ≤ h.length → i ≤ 30 → acc.length = i → Runs (fun k => chartularylaw19_texts.l0 k h acc (i : Int)) ((acc ++ ((h.take 30).drop i).map cutB, ()), ()) := by
  intro m
  induction m with
  | zero =>
    intro i acc hm hi h30 ha
    rw [List.drop_of_length_le (by rw [List.length_take]; omega), List.map_nil, List.append_nil]
    refine Runs.step (fun k => rfl) (Runs.dec (fun hh => Runs.no (by apply decide_eq_false; omega) Runs.some) (fun hh => Runs.some))
  | succ m ih =>
    intro i acc hm hi h30 ha
    have hlt : i < h.length := by omega
    have nx := ih (i + 1) (acc ++ [cutB h[i]]) (by omega) (by omega) (by omega) (by rw [List.length_append, ha]; rfl)
    have h2 : i < (h.take 30).length := by rw [List.length_take]; omega
    rw [List.drop_eq_getElem_cons h2, List.map_cons, List.getElem_take]
    rw [List.append_assoc, show ((i + 1 : Nat) : Int) = IntKind.wrap .i64 ((i : Int) + 1) from (wrap_i64 (by omega) (by omega)).symm] at nx
    exact Runs.step (fun k => rfl) (Runs.yes (by apply decide_eq_true; omega) (Runs.yes (by apply decide_eq_true; omega) (Runs.opt (rdo_at hlt) (Runs.bind (cut_ok _) (Runs.ck (by apply decide_eq_true; simp; omega) nx)))))
theorem texts_ok (h : List ByteArray) : Runs (fun k => chartularylaw19_texts.f k h) ((cutH h, ()), ()) := by
  have := texts_loop h _ 0 [] rfl (by omega) (by omega) rfl
  rw [List.drop_zero, List.nil_append] at this
  exact Runs.step (fun k => rfl) this
theorem few_loop (x z : Show) (l : List Item) (id : ByteArray) (n p : List ByteArray) : ∀ (m i : Nat) (acc : List Item), min l.length 30 - i = m → i ≤ l.length → i ≤ 30 → acc.length = i →
    Runs (fun k => chartularylaw19_Few.l0 k acc (i : Int) id x.2.1 x.2.2.1 x.2.2.2.1 l n x.2.2.2.2.2.2.1 x.2.2.2.2.2.2.2.1 p z.1 z.2.1 z.2.2.1 z.2.2.2.1 z.2.2.2.2.1 z.2.2.2.2.2.1 z.2.2.2.2.2.2.1 z.2.2.2.2.2.2.2.1 z.2.2.2.2.2.2.2.2.1) (((id, x.2.1, x.2.2.1, x.2.2.2.1, acc ++ ((l.take 30).drop i).map cutI, n, x.2.2.2.2.2.2.1, x.2.2.2.2.2.2.2.1, p, ()), ()), ()) := by
  intro m
  induction m with
  | zero =>
    intro i acc hm hi h30 ha
    rw [List.drop_of_length_le (by rw [List.length_take]; omega), List.map_nil, List.append_nil]
    refine Runs.step (fun k => rfl) (Runs.dec (fun hh => Runs.no (by apply decide_eq_false; omega) Runs.some) (fun hh => Runs.some))
  | succ m ih =>
    intro i acc hm hi h30 ha
    have hlt : i < l.length := by omega
    have nx := ih (i + 1) (acc ++ [cutI l[i]]) (by omega) (by omega) (by omega) (by rw [List.length_append, ha]; rfl)
    have h2 : i < (l.take 30).length := by rw [List.length_take]; omega
    rw [List.drop_eq_getElem_cons h2, List.map_cons, List.getElem_take]
    rw [List.append_assoc, show ((i + 1 : Nat) : Int) = IntKind.wrap .i64 ((i : Int) + 1) from (wrap_i64 (by omega) (by omega)).symm] at nx
    exact Runs.step (fun k => rfl) (Runs.yes (by apply decide_eq_true; omega) (Runs.yes (by apply decide_eq_true; omega) (Runs.opt (rdo_at hlt) (Runs.bind (cut_ok _) (Runs.bind (cut_ok _) (Runs.bind (cut_ok _) (Runs.bind (cut_ok _) (Runs.ck (by apply decide_eq_true; simp; omega) nx))))))))
def fewS (x : Show) : Show := (cutB x.1, x.2.1, x.2.2.1, x.2.2.2.1, cutIs x.2.2.2.2.1, cutH x.2.2.2.2.2.1, x.2.2.2.2.2.2.1, x.2.2.2.2.2.2.2.1, cutH x.2.2.2.2.2.2.2.2.1, ())
theorem few_ok (x : Show) : Runs (fun k => chartularylaw19_Few.f k x) ((fewS x, ()), ()) := by
  have key := few_loop x noShow x.2.2.2.2.1 (cutB x.1) (cutH x.2.2.2.2.2.1) (cutH x.2.2.2.2.2.2.2.2.1) _ 0 [] rfl (by omega) (by omega) rfl
  rw [List.drop_zero, List.nil_append] at key
  exact Runs.step (fun k => rfl) (Runs.bind (cut_ok _) (Runs.bind (texts_ok _) (Runs.bind (texts_ok _) key)))
theorem few_good (x : Show) : ShowOk (fewS x) := by
  refine ⟨cutB_size _, ?_, fun t ht => ?_, ?_, fun t ht => ?_, ?_, fun t ht => ?_⟩
  · show (cutIs x.2.2.2.2.1).length ≤ _; unfold cutIs; simp; omega
  · obtain ⟨y, _, rfl⟩ := List.mem_map.1 ht
    exact ⟨cutB_size _, cutB_size _, cutB_size _, cutB_size _⟩
  · show (cutH x.2.2.2.2.2.1).length ≤ _; unfold cutH; simp; omega
  · obtain ⟨y, _, rfl⟩ := List.mem_map.1 ht
    exact cutB_size y
  · show (cutH x.2.2.2.2.2.2.2.2.1).length ≤ _; unfold cutH; simp; omega
  · obtain ⟨y, _, rfl⟩ := List.mem_map.1 ht
    exact cutB_size y
end Go.Proofs.Ytfegehfdbcnepaa.Pure
