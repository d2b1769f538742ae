/- Plain laws: an event laid is read as it was, clean. -/
import Derived.Test.YthedgoefiffogaaPReadB
namespace Go.Proofs.Ythedgoefiffogaa.Pure
open Go Go.Proofs.Ythedgoefiffogaa.E Go.Proofs.Ythedgoefiffogaa.Eng
set_option linter.unusedVariables false
set_option linter.unusedSimpArgs false

theorem bk_num {s : ByteArray} (hs : s.size ≤ 30000000) {a : Nat} {x lim : Int} (h0 : 0 ≤ x) (hx : x < 72057594037927936) (hl : x ≤ lim) (h : At s a (numI x)) : Runs (fun k => octet_Reader_Num.f k lim s (a : Int) 0) ((x, ()), ((s, ((a + (numI x).size : Nat) : Int), 0, ()), ())) := by
  have hr := reader_num hs (a := a) (by have := h.1; omega) 0 lim
  have hv := At.num (n := x.toNat) (by omega) (lim := lim) (by omega) h
  rw [hv, Int.toNat_of_nonneg h0] at hr
  exact hr
theorem bk_text {s : ByteArray} (hs : s.size ≤ 30000000) {a : Nat} {t : ByteArray} {lim : Int} (hl : (t.size : Int) ≤ lim) (h : At s a (textB t)) : Runs (fun k => octet_Reader_Text.f k lim s (a : Int) 0) ((t, ()), ((s, ((a + (textB t).size : Nat) : Int), 0, ()), ())) := by
  have hz := h.1
  have hsz : t.size ≤ (textB t).size := by unfold textB; rw [ByteArray.size_append]; omega
  have hr := reader_text hs (a := a) (by omega) 0 lim
  have hv := At.text (t := t) (by omega) hl h
  rw [hv] at hr
  exact hr
theorem bk_flag {s : ByteArray} (hs : s.size ≤ 30000000) {a : Nat} {b : Bool} (h : At s a (flagB b)) : Runs (fun k => octet_Reader_Flag.f k s (a : Int) 0) ((b, ()), ((s, ((a + (flagB b).size : Nat) : Int), 0, ()), ())) := by
  have hr := flag_ok hs (a := a) (by have := h.1; omega) 0
  have hv : flagV (rawV s a 0 1) = (b, a + 1, 0) := raw_bool h
  rw [hv] at hr
  rw [flagB_size]
  exact hr
theorem bk_texts {s : ByteArray} (hs : s.size ≤ 30000000) {a : Nat} {l : List ByteArray} {n lim : Int} (hn : (l.length : Int) ≤ n) (hl : ∀ t ∈ l, (t.size : Int) ≤ lim) (hlen : l.length ≤ 1048576) (h : At s a (listB l)) : Runs (fun k => octet_Reader_Texts.f k n lim s (a : Int) 0) ((l, ()), ((s, ((a + (listB l).size : Nat) : Int), 0, ()), ())) := by
  unfold listB at h ⊢
  have hr := reader_num hs (a := a) (by have := h.1; omega) 0 n
  have hv := h.left.num (lim := n) (by omega) hn
  rw [hv] at hr
  have hin := texts_read hs lim l hlen hl _ 0 (Nat.zero_add _) _ h.left.1 (by rw [List.drop_zero]; exact h.right)
  rw [List.drop_zero, List.take_zero, Nat.add_assoc, ← ByteArray.size_append] at hin
  exact Runs.step (fun k => rfl) (Runs.bind hr hin)
theorem bk_slip {s : ByteArray} (hs : s.size ≤ 30000000) {a : Nat} {x : Slip} (hx : x.1.size ≤ 16 ∧ x.2.1.size = 32 ∧ x.2.2.1.size ≤ 224 ∧ (x.2.2.2.1 = true → x.2.2.1 = ⟨#[]⟩)) (h : At s a (slipL x)) : Runs (fun k => event_readSlip.f k s (a : Int) 0) ((x, ()), ((s, ((a + (slipL x).size : Nat) : Int), 0, ()), ())) := by
  obtain ⟨h1, h2, h3, h4⟩ := hx
  have r1 := bk_text hs (lim := 16) (by omega) h.left
  have r2 := bk_text hs (lim := 32) (by omega) h.right.left
  have r3 := bk_flag hs h.right.right.left
  refine Runs.step (fun k => rfl) (Runs.bind r1 (Runs.bind r2 (Runs.bind r3 ?_)))
  have hat := h.right.right.right
  have hz : (slipL x).size = (textB x.1).size + ((textB x.2.1).size + ((flagB x.2.2.2.1).size + (if x.2.2.2.1 = true then ⟨#[]⟩ else textB x.2.2.1).size)) := by unfold slipL; simp only [ByteArray.size_append]
  cases hf : x.2.2.2.1 with
  | true =>
    rw [hf, if_pos rfl] at hz
    refine Runs.no (by rfl) (Runs.some' ?_)
    have he := h4 hf
    rw [hz, ← hf, ← Nat.add_assoc, ← Nat.add_assoc, ← Nat.add_assoc]
    have hx2 : ((x.1, x.2.1, (⟨#[]⟩ : ByteArray), x.2.2.2.1, ()) : Slip) = x := by rw [← he]
    show (((x.1, x.2.1, (⟨#[]⟩ : ByteArray), x.2.2.2.1, ()), ()), _) = _
    rw [hx2]; rfl
  | false =>
    rw [hf, if_neg (by decide)] at hz
    rw [hf, if_neg (by decide)] at hat
    have r4 := bk_text hs (lim := 224) (by omega) hat
    refine Runs.yes (by rfl) (Runs.bind r4 (Runs.some' ?_))
    rw [hz, ← hf, ← Nat.add_assoc, ← Nat.add_assoc, ← Nat.add_assoc]
theorem bk_slips {s : ByteArray} (hs : s.size ≤ 30000000) (z0 : ByteArray) (z1 z2 z3 : Int) (z4 : List Slip) (z5 : Bool) (z6 : List ByteArray) (id : ByteArray) (x y z : Int) (gone : Bool) (holds : List ByteArray) (l : List Slip) (hl : l.length ≤ 12)
    (hx : ∀ x ∈ l, x.1.size ≤ 16 ∧ x.2.1.size = 32 ∧ x.2.2.1.size ≤ 224 ∧ (x.2.2.2.1 = true → x.2.2.1 = ⟨#[]⟩)) : ∀ (m i : Nat), i + m = l.length → ∀ a : Nat, At s a (slipsL (l.drop i)) →
    Runs (fun k => event_readEntry.l0 k (l.length : Int) (i : Int) s (a : Int) 0 z0 z1 z2 z3 z4 z5 z6 id x y z (l.take i) gone holds) (((id, x, y, z, l, gone, holds, ()), ()), ((s, ((a + (slipsL (l.drop i)).size : Nat) : Int), 0, ()), ())) := by
  intro m
  induction m with
  | zero =>
    intro i hi a h
    rw [List.drop_of_length_le (by omega), List.take_of_length_le (by omega)]
    exact Runs.step (fun k => rfl) (Runs.no (by apply decide_eq_false; omega) Runs.some)
  | succ m ih =>
    intro i hi a h
    have hlt : i < l.length := by omega
    rw [List.drop_eq_getElem_cons hlt] at h ⊢
    simp only [slipsL] at h ⊢
    have r1 := bk_slip hs (hx _ (List.getElem_mem hlt)) h.left
    have nx := ih (i + 1) (by omega) _ h.right
    rw [List.take_succ_eq_append_getElem hlt, show ((i + 1 : Nat) : Int) = IntKind.wrap .i64 ((i : Int) + 1) from (wrap_i64 (by omega) (by omega)).symm, Nat.add_assoc, ← ByteArray.size_append] at nx
    exact Runs.step (fun k => rfl) (Runs.yes (by apply decide_eq_true; omega) (Runs.bind r1 (Runs.bind (err_ok _ _ _) (Runs.no (by rfl) (Runs.ck (by apply decide_eq_true; simp; omega) nx)))))
theorem bk_entry {s : ByteArray} (hs : s.size ≤ 30000000) {a : Nat} {x : Entry} (hx : EntrySm x) (hid : x.1.size ≤ 24) (h : At s a (entryL x)) : Runs (fun k => event_readEntry.f k s (a : Int) 0) ((x, ()), ((s, ((a + (entryL x).size : Nat) : Int), 0, ()), ())) := by
  have ha := hx.a
  have hb := hx.b
  have hc := hx.c
  have hl := hx.l
  have hh := hx.h
  have r1 := bk_text hs (lim := 24) (by omega) h.left
  have g2 := h.right
  have r2 := bk_num hs (lim := 7) (x := x.2.1) (by omega) (by omega) (by omega) g2.left
  have g3 := g2.right
  have r3 := bk_num hs (lim := 1099511627776) (x := x.2.2.1) (by omega) (by omega) (by omega) g3.left
  have g4 := g3.right
  have r4 := bk_num hs (lim := 63) (x := x.2.2.2.1) (by omega) (by omega) (by omega) g4.left
  have g5 := g4.right
  have r5 := bk_flag hs g5.left
  have g6 := g5.right
  have r6 := bk_texts hs (l := x.2.2.2.2.2.2.1) (n := 4) (lim := 16) (by omega) (fun t ht => by have := hx.t t ht; omega) (by omega) g6.left
  have g7 := g6.right
  have r7 := bk_num hs (lim := 12) (x := (x.2.2.2.2.1.length : Int)) (by omega) (by omega) (by omega) g7.left
  have r8 := bk_slips hs ⟨#[]⟩ 0 0 0 [] false [] x.1 x.2.1 x.2.2.1 x.2.2.2.1 x.2.2.2.2.2.1 x.2.2.2.2.2.2.1 x.2.2.2.2.1 hl.2 hx.n _ 0 (Nat.zero_add _) _ g7.right
  refine (Runs.step (fun k => rfl) (Runs.bind r1 (Runs.bind r2 (Runs.bind r3 (Runs.bind r4 (Runs.bind r5 (Runs.bind r6 (Runs.bind r7 r8)))))))).of_eq ?_
  have hz : (entryL x).size = (textB x.1).size + ((numB x.2.1.toNat).size + ((numB x.2.2.1.toNat).size + ((numB x.2.2.2.1.toNat).size + ((flagB x.2.2.2.2.2.1).size + ((numB x.2.2.2.2.2.2.1.length ++ textsB x.2.2.2.2.2.2.1).size + ((numB x.2.2.2.2.1.length).size + (slipsL x.2.2.2.2.1).size)))))) := by
    unfold entryL; simp only [ByteArray.size_append]
  rw [hz, List.drop_zero]
  simp only [← Nat.add_assoc]
theorem clean_ok {v : Event} (h : EventOk v) : EventOk (cleanV v) := by
  unfold cleanV
  split
  · exact ⟨h.e, empty_z, empty_z⟩
  split
  · exact ⟨emptyE_ok, empty_z, empty_z⟩
  split
  · exact ⟨emptyE_ok, empty_z, empty_z⟩
  split
  · exact ⟨emptyE_ok, h.n, empty_z⟩
  split
  · exact ⟨emptyE_ok, empty_z, h.r⟩
  split
  · exact ⟨emptyE_ok, empty_z, empty_z⟩
  · exact ⟨emptyE_ok, empty_z, empty_z⟩
theorem clean_kind (v : Event) : (cleanV v).1 = v.1 := by
  unfold cleanV
  split
  · rename_i h; exact h.symm
  split
  · rename_i h; exact h.symm
  split
  · rename_i h; exact h.symm
  split
  · rfl
  split
  · rename_i h; exact h.symm
  split
  · rename_i h; exact h.symm
  · rfl
theorem clean_right (v : Event) : eventB (cleanV v) = eventB v := by
  by_cases g1 : v.1 = 1
  · unfold cleanV eventB; simp only [if_pos g1, if_pos]
  by_cases g2 : v.1 = 2
  · unfold cleanV eventB; simp only [if_neg g1, if_pos g2]; rfl
  by_cases g3 : v.1 = 3
  · unfold cleanV eventB; simp only [if_neg g1, if_neg g2, if_pos g3]; rfl
  by_cases g4 : v.1 = 4 ∨ v.1 = 5
  · unfold cleanV eventB; simp only [if_neg g1, if_neg g2, if_neg g3, if_pos g4]
  by_cases g6 : v.1 = 6
  · unfold cleanV eventB; simp only [if_neg g1, if_neg g2, if_neg g3, if_neg g4, if_pos g6]; rfl
  by_cases g7 : v.1 = 7
  · unfold cleanV eventB; simp only [if_neg g1, if_neg g2, if_neg g3, if_neg g4, if_neg g6, if_pos g7]; rfl
  · unfold cleanV eventB; simp only [if_neg g1, if_neg g2, if_neg g3, if_neg g4, if_neg g6, if_neg g7]
theorem read_back {v : Event} (hok : EventOk v) (hb : eventB v = true) (hs : (eventL v).size ≤ 30000000) : Runs (fun k => event_Read.f k (eventL v)) ((cleanV v, 0, ()), ()) := by
  have hk := eventB_kind hb
  have hkind : 1 ≤ v.1 ∧ v.1 ≤ 7 := by cases hk <;> omega
  have hat := at_all (eventL v)
  have fin : ∀ (z : Event) (a : Nat), a = (eventL v).size → Runs (fun k => event_Read.j0 k z.1 z.2.1 z.2.2.1 z.2.2.2.1 z.2.2.2.2.1 z.2.2.2.2.2.1 z.2.2.2.2.2.2.1 (eventL v) (a : Int) 0 (cleanV v).1 (cleanV v).2.1 (cleanV v).2.2.1 (cleanV v).2.2.2.1 (cleanV v).2.2.2.2.1 (cleanV v).2.2.2.2.2.1 (cleanV v).2.2.2.2.2.2.1) ((cleanV v, 0, ()), ()) := fun z a ha => by
    have main := read_j0 hs (a := a) (by omega) 0 (cleanV v) z (fun _ => clean_ok hok)
    rw [if_neg (fun h => h rfl), if_neg (by omega), if_pos (by rw [clean_right]; exact hb)] at main
    exact main
  generalize hL : eventL v = L at hat fin hs ⊢
  have r0 := octet_read L
  cases hk with
  | paper g e =>
    have h := entryB_sm e
    have e0 : L = numI v.1 ++ entryL v.2.1 := by rw [← hL]; unfold eventL; rw [if_pos g]; rfl
    have hc : cleanV v = (v.1, v.2.1, 0, 0, ⟨#[]⟩, (0, ⟨#[]⟩, ()), 0, ()) := by unfold cleanV; rw [if_pos g, g]
    have hid : v.2.1.1.size ≤ 24 := by
      unfold entryB at e; simp only [Bool.and_eq_true] at e
      have := (wordB_size e.1).1; omega
    have ht : At L 0 (numI v.1 ++ entryL v.2.1) := by rw [← e0]; exact hat
    have r1 := bk_num hs (lim := 7) (x := v.1) (by omega) (by omega) (by omega) ht.left
    have r2 := bk_entry hs h hid ht.right
    have fn := fin noEvent (0 + (numI v.1).size + (entryL v.2.1).size) (by rw [e0]; simp only [ByteArray.size_append]; omega)
    rw [hc] at fn ⊢
    exact Runs.step (fun k => rfl) (Runs.bind r0 (Runs.bind r1 (Runs.yes (by rw [g]; rfl) (Runs.bind r2 fn))))
  | field g p i =>
    have e0 : L = numI v.1 ++ (numI v.2.2.1 ++ numI v.2.2.2.1) := by rw [← hL]; unfold eventL; rw [if_neg (by omega), if_pos g]; rfl
    have hc : cleanV v = (v.1, emptyE, v.2.2.1, v.2.2.2.1, ⟨#[]⟩, (0, ⟨#[]⟩, ()), 0, ()) := by unfold cleanV; rw [if_neg (by omega), if_pos g, g]
    have ht : At L 0 (numI v.1 ++ (numI v.2.2.1 ++ numI v.2.2.2.1)) := by rw [← e0]; exact hat
    have r1 := bk_num hs (lim := 7) (x := v.1) (by omega) (by omega) (by omega) ht.left
    have r2 := bk_num hs (lim := 63) (x := v.2.2.1) (by omega) (by omega) (by omega) ht.right.left
    have r3 := bk_num hs (lim := 11) (x := v.2.2.2.1) (by omega) (by omega) (by omega) ht.right.right
    have fn := fin noEvent (0 + (numI v.1).size + (numI v.2.2.1).size + (numI v.2.2.2.1).size) (by rw [e0]; simp only [ByteArray.size_append]; omega)
    rw [hc] at fn ⊢
    exact Runs.step (fun k => rfl) (Runs.bind r0 (Runs.bind r1 (Runs.no (by rw [g]; rfl) (Runs.yes (by rw [g]; rfl) (Runs.bind r2 (Runs.bind r3 fn))))))
  | gone g p =>
    have e0 : L = numI v.1 ++ numI v.2.2.1 := by rw [← hL]; unfold eventL; rw [if_neg (by omega), if_neg (by omega), if_pos g]; rfl
    have hc : cleanV v = (v.1, emptyE, v.2.2.1, 0, ⟨#[]⟩, (0, ⟨#[]⟩, ()), 0, ()) := by unfold cleanV; rw [if_neg (by omega), if_neg (by omega), if_pos g, g]
    have ht : At L 0 (numI v.1 ++ numI v.2.2.1) := by rw [← e0]; exact hat
    have r1 := bk_num hs (lim := 7) (x := v.1) (by omega) (by omega) (by omega) ht.left
    have r2 := bk_num hs (lim := 63) (x := v.2.2.1) (by omega) (by omega) (by omega) ht.right
    have fn := fin noEvent (0 + (numI v.1).size + (numI v.2.2.1).size) (by rw [e0]; simp only [ByteArray.size_append]; omega)
    rw [hc] at fn ⊢
    exact Runs.step (fun k => rfl) (Runs.bind r0 (Runs.bind r1 (Runs.no (by rw [g]; rfl) (Runs.no (by rw [g]; rfl) (Runs.yes (by rw [g]; rfl) (Runs.bind r2 fn))))))
  | hold g p n =>
    have hw := (wordB_size n).1
    have e0 : L = numI v.1 ++ (numI v.2.2.1 ++ textB v.2.2.2.2.1) := by rw [← hL]; unfold eventL; rw [if_neg (by omega), if_neg (by omega), if_neg (by omega), if_pos g]; rfl
    have hc : cleanV v = (v.1, emptyE, v.2.2.1, 0, v.2.2.2.2.1, (0, ⟨#[]⟩, ()), 0, ()) := by unfold cleanV; rw [if_neg (by omega), if_neg (by omega), if_neg (by omega), if_pos g]
    have ht : At L 0 (numI v.1 ++ (numI v.2.2.1 ++ textB v.2.2.2.2.1)) := by rw [← e0]; exact hat
    have r1 := bk_num hs (lim := 7) (x := v.1) (by omega) (by omega) (by omega) ht.left
    have r2 := bk_num hs (lim := 63) (x := v.2.2.1) (by omega) (by omega) (by omega) ht.right.left
    have r3 := bk_text hs (lim := 16) (by omega) ht.right.right
    have fn := fin noEvent (0 + (numI v.1).size + (numI v.2.2.1).size + (textB v.2.2.2.2.1).size) (by rw [e0]; simp only [ByteArray.size_append]; omega)
    rw [hc] at fn ⊢
    have j1 : Runs (fun k => event_Read.j1 k v.1 true 0 emptyE 0 0 ⟨#[]⟩ (0, ⟨#[]⟩, ()) 0 L ((0 + (numI v.1).size : Nat) : Int) 0 v.1 emptyE 0 0 ⟨#[]⟩ (0, ⟨#[]⟩, ()) 0) (((v.1, emptyE, v.2.2.1, 0, v.2.2.2.2.1, (0, ⟨#[]⟩, ()), 0, ()), 0, ()), ()) := Runs.step (fun k => rfl) (Runs.bind r2 (Runs.bind r3 fn))
    refine Runs.step (fun k => rfl) (Runs.bind r0 (Runs.bind r1 (Runs.no (by simpa using (by omega : ¬ v.1 = 1)) (Runs.no (by simpa using (by omega : ¬ v.1 = 2)) (Runs.no (by simpa using (by omega : ¬ v.1 = 3)) (Runs.cond (fun h4 => ?_) (fun h4 => ?_)))))))
    · rw [h4]; exact j1
    · have h4' : ¬ v.1 = 4 := by simpa using h4
      rw [show (v.1 == 5) = true from by simpa using (by omega : v.1 = 5)]; exact j1
  | point g p r =>
    have e0 : L = numI v.1 ++ (numI v.2.2.2.2.2.1.1 ++ textB v.2.2.2.2.2.1.2.1) := by rw [← hL]; unfold eventL; rw [if_neg (by omega), if_neg (by omega), if_neg (by omega), if_neg (by omega), if_pos g]; rfl
    have hc : cleanV v = (v.1, emptyE, 0, 0, ⟨#[]⟩, v.2.2.2.2.2.1, 0, ()) := by unfold cleanV; rw [if_neg (by omega), if_neg (by omega), if_neg (by omega), if_neg (by omega), if_pos g, g]
    have ht : At L 0 (numI v.1 ++ (numI v.2.2.2.2.2.1.1 ++ textB v.2.2.2.2.2.1.2.1)) := by rw [← e0]; exact hat
    have r1 := bk_num hs (lim := 7) (x := v.1) (by omega) (by omega) (by omega) ht.left
    have r2 := bk_num hs (lim := 64) (x := v.2.2.2.2.2.1.1) (by omega) (by omega) (by omega) ht.right.left
    have r3 := bk_text hs (lim := 32) (by omega) ht.right.right
    have fn := fin noEvent (0 + (numI v.1).size + (numI v.2.2.2.2.2.1.1).size + (textB v.2.2.2.2.2.1.2.1).size) (by rw [e0]; simp only [ByteArray.size_append]; omega)
    rw [hc] at fn ⊢
    exact Runs.step (fun k => rfl) (Runs.bind r0 (Runs.bind r1 (Runs.no (by rw [g]; rfl) (Runs.no (by rw [g]; rfl) (Runs.no (by rw [g]; rfl) (Runs.no (by rw [g]; rfl) (Runs.step (fun k => rfl) (Runs.no (by rw [g]; rfl) (Runs.yes (by rw [g]; rfl) (Runs.bind r2 (Runs.bind r3 fn)))))))))))
  | clock g p =>
    have e0 : L = numI v.1 ++ numI v.2.2.2.2.2.2.1 := by rw [← hL]; unfold eventL; rw [if_neg (by omega), if_neg (by omega), if_neg (by omega), if_neg (by omega), if_neg (by omega)]; rfl
    have hc : cleanV v = (v.1, emptyE, 0, 0, ⟨#[]⟩, (0, ⟨#[]⟩, ()), v.2.2.2.2.2.2.1, ()) := by unfold cleanV; rw [if_neg (by omega), if_neg (by omega), if_neg (by omega), if_neg (by omega), if_neg (by omega), if_pos g, g]
    have ht : At L 0 (numI v.1 ++ numI v.2.2.2.2.2.2.1) := by rw [← e0]; exact hat
    have r1 := bk_num hs (lim := 7) (x := v.1) (by omega) (by omega) (by omega) ht.left
    have r2 := bk_num hs (lim := 1099511627776) (x := v.2.2.2.2.2.2.1) (by omega) (by omega) (by omega) ht.right
    have fn := fin noEvent (0 + (numI v.1).size + (numI v.2.2.2.2.2.2.1).size) (by rw [e0]; simp only [ByteArray.size_append]; omega)
    rw [hc] at fn ⊢
    exact Runs.step (fun k => rfl) (Runs.bind r0 (Runs.bind r1 (Runs.no (by rw [g]; rfl) (Runs.no (by rw [g]; rfl) (Runs.no (by rw [g]; rfl) (Runs.no (by rw [g]; rfl) (Runs.step (fun k => rfl) (Runs.no (by rw [g]; rfl) (Runs.no (by rw [g]; rfl) (Runs.yes (by rw [g]; rfl) (Runs.bind r2 fn)))))))))))
end Go.Proofs.Ythedgoefiffogaa.Pure
