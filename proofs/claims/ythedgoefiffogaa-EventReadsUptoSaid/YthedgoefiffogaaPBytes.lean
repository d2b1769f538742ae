/- Plain laws: an event's bytes, by the program and by the document. -/
import Derived.Test.YthedgoefiffogaaOOne
import Derived.Test.YthedgoefiffogaaPRight2
namespace Go.Proofs.Ythedgoefiffogaa.Pure
open Go Go.Proofs.Ythedgoefiffogaa.E Go.Proofs.Ythedgoefiffogaa.Eng
set_option linter.unusedVariables false
set_option linter.unusedSimpArgs false

def slipL (s : Slip) : ByteArray := textB s.1 ++ (textB s.2.1 ++ (flagB s.2.2.2.1 ++ (if s.2.2.2.1 = true then ⟨#[]⟩ else textB s.2.2.1)))
def slipsL : List Slip → ByteArray
  | [] => ⟨#[]⟩
  | s :: l => slipL s ++ slipsL l
def slipsRoom : List Slip → Nat
  | [] => 0
  | s :: l => s.1.size + s.2.1.size + s.2.2.1.size + 25 + slipsRoom l
structure SlipSm (s : Slip) : Prop where
  a : s.1.size ≤ 300
  b : s.2.1.size ≤ 300
  c : s.2.2.1.size ≤ 300
theorem slipL_size (s : Slip) (h : SlipSm s) : (slipL s).size ≤ s.1.size + s.2.1.size + s.2.2.1.size + 25 := by
  unfold slipL
  have h0 := textB_size (t := s.1) (by have := h.a; omega)
  have h1 := textB_size (t := s.2.1) (by have := h.b; omega)
  have h2 := textB_size (t := s.2.2.1) (by have := h.c; omega)
  have h3 := flagB_size s.2.2.2.1
  rw [ByteArray.size_append, ByteArray.size_append, ByteArray.size_append]
  split
  · have : (⟨#[]⟩ : ByteArray).size = 0 := rfl
    omega
  · omega
theorem slipsL_size : ∀ (l : List Slip), (∀ s ∈ l, SlipSm s) → (slipsL l).size ≤ slipsRoom l
  | [], _ => Nat.le_refl _
  | s :: l, h => by
    simp only [slipsL, slipsRoom, ByteArray.size_append]
    have := slipL_size s (h s (by simp))
    have := slipsL_size l (fun x hx => h x (List.mem_cons_of_mem _ hx))
    omega
theorem app_empty (s : ByteArray) : s ++ (⟨#[]⟩ : ByteArray) = s := empty_app s
theorem w_flag (b : Bool) {s : ByteArray} (hs : s.size ≤ 1000000000) (x : Bool) : Runs (fun k => octet_Writer_Flag.f k b s x) ((), ((s ++ flagB b, x, ()), ())) := by
  have e1 : (⟨#[1]⟩ : ByteArray).size = 1 := rfl
  have e0 : (⟨#[0]⟩ : ByteArray).size = 1 := rfl
  refine Runs.step (fun k => rfl) ?_
  cases b with
  | true => exact Runs.ck (by apply decide_eq_true; rw [e1]; omega) Runs.some
  | false => exact Runs.ck (by apply decide_eq_true; rw [e0]; omega) Runs.some
theorem w_num {x : Int} (h0 : 0 ≤ x) (h1 : x < 72057594037927936) {s : ByteArray} (hs : s.size ≤ 1000000000) : Runs (fun k => octet_Writer_Num.f k x s false) ((), ((s ++ numB x.toNat, false, ()), ())) := writer_num h0 h1 hs
theorem w_text {t s : ByteArray} (h : t.size ≤ 1048576) (hs : s.size ≤ 1000000000) : Runs (fun k => octet_Writer_Text.f k t s false) ((), ((s ++ textB t, false, ()), ())) := writer_text h hs false
theorem w_texts (l : List ByteArray) (hl : l.length ≤ 1048576) (hb : ∀ t ∈ l, t.size ≤ 1048576) {s : ByteArray} (hs : s.size + 8 + roomL l ≤ 1000000000) : Runs (fun k => octet_Writer_Texts.f k l s false) ((), ((s ++ (numB l.length ++ textsB l), false, ()), ())) := by
  have hn := w_num (x := (l.length : Int)) (by omega) (by omega) (s := s) (by omega)
  rw [Int.toNat_natCast] at hn
  have := numB_size (n := l.length) (by omega)
  refine Runs.step (fun k => rfl) (Runs.bind hn ?_)
  have hl2 := writer_texts_loop l hl hb false l.length 0 (Nat.zero_add _) (s ++ numB l.length) (by rw [List.drop_zero, ByteArray.size_append]; omega)
  rw [List.drop_zero, bapp_assoc] at hl2
  exact hl2
theorem slip_ok (s : Slip) (h : SlipSm s) {w : ByteArray} (hw : w.size ≤ 1000000) : Runs (fun k => event_slip.f k s w false) ((), ((w ++ slipL s, false, ()), ())) := by
  have h0 := textB_size (t := s.1) (by have := h.a; omega)
  have h1 := textB_size (t := s.2.1) (by have := h.b; omega)
  have h2 := textB_size (t := s.2.2.1) (by have := h.c; omega)
  have h3 := flagB_size s.2.2.2.1
  have ha := h.a
  have hb := h.b
  have hc := h.c
  refine Runs.step (fun k => rfl) (Runs.bind (w_text (by omega) (by omega)) (Runs.bind (w_text (by omega) (by dsimp only; rw [ByteArray.size_append]; omega)) (Runs.bind (w_flag _ (by dsimp only; rw [ByteArray.size_append, ByteArray.size_append]; omega) _) ?_)))
  unfold slipL
  cases hf : s.2.2.2.1 with
  | true => exact Runs.no (by rfl) (Runs.some' (by rw [if_pos rfl, app_empty, bapp_assoc, bapp_assoc]))
  | false =>
    rw [hf] at h3
    refine Runs.yes (by rfl) (Runs.bind (w_text (by omega) (by dsimp only; rw [ByteArray.size_append, ByteArray.size_append, ByteArray.size_append]; omega)) (Runs.some' ?_))
    rw [if_neg (by decide), bapp_assoc, bapp_assoc, bapp_assoc]
theorem slips_loop (l : List Slip) (hl : l.length ≤ 1048576) (hs : ∀ s ∈ l, SlipSm s) : ∀ (m i : Nat), i + m = l.length → ∀ w : ByteArray, w.size + slipsRoom (l.drop i) ≤ 1000000 →
    Runs (fun k => event_entry.l0 k l (l.length : Int) (i : Int) w false) ((), ((w ++ slipsL (l.drop i), false, ()), ())) := by
  intro m
  induction m with
  | zero =>
    intro i hi w hw
    rw [List.drop_of_length_le (by omega)]
    exact Runs.step (fun k => rfl) (Runs.no (by apply decide_eq_false; omega) (Runs.some' (by rw [show slipsL [] = ⟨#[]⟩ from rfl, app_empty])))
  | succ m ih =>
    intro i hi w hw
    have hlt : i < l.length := by omega
    have hm := hs _ (List.getElem_mem hlt)
    rw [List.drop_eq_getElem_cons hlt] at hw ⊢
    simp only [slipsRoom] at hw
    have hz := slipL_size _ hm
    refine Runs.step (fun k => rfl) (Runs.yes (by apply decide_eq_true; omega) (Runs.opt (rdo_at hlt) (Runs.bind (slip_ok _ hm (by omega)) ?_)))
    rw [wrap_i64 (n := (i : Int) + 1) (by omega) (by omega)]
    have := ih (i + 1) (by omega) (w ++ slipL l[i]) (by rw [ByteArray.size_append]; omega)
    rw [bapp_assoc] at this
    exact this
/-- A paper as it is laid. -/
def entryL (e : Entry) : ByteArray :=
  textB e.1 ++ (numB e.2.1.toNat ++ (numB e.2.2.1.toNat ++ (numB e.2.2.2.1.toNat ++ (flagB e.2.2.2.2.2.1 ++ (numB e.2.2.2.2.2.2.1.length ++ textsB e.2.2.2.2.2.2.1 ++ (numB e.2.2.2.2.1.length ++ slipsL e.2.2.2.2.1))))))
structure EntrySm (e : Entry) : Prop where
  id : e.1.size ≤ 300
  a : 0 ≤ e.2.1 ∧ e.2.1 < 8
  b : 0 ≤ e.2.2.1 ∧ e.2.2.1 ≤ 1099511627776
  c : 0 ≤ e.2.2.2.1 ∧ e.2.2.2.1 < 64
  l : 1 ≤ e.2.2.2.2.1.length ∧ e.2.2.2.2.1.length ≤ 12
  h : e.2.2.2.2.2.2.1.length ≤ 4
  t : ∀ a ∈ e.2.2.2.2.2.2.1, a.size ≤ 16
  s : ∀ s ∈ e.2.2.2.2.1, SlipSm s
  n : ∀ s ∈ e.2.2.2.2.1, s.1.size ≤ 16 ∧ s.2.1.size = 32 ∧ s.2.2.1.size ≤ 224 ∧ (s.2.2.2.1 = true → s.2.2.1 = ⟨#[]⟩)
theorem riseB_sizes : ∀ (l : List ByteArray) (p : Option ByteArray), riseB p l = true → ∀ a ∈ l, a.size ≤ 16
  | [], p, _, a, ha => by cases ha
  | x :: l, p, h, a, ha => by
    rw [riseB_cons'] at h
    simp only [Bool.and_eq_true] at h
    rcases List.mem_cons.1 ha with rfl | ha
    · have := (wordB_size h.1).1; omega
    · exact riseB_sizes l _ h.2.2 a ha
theorem size_zero {s : ByteArray} (h : s.size = 0) : s = ⟨#[]⟩ := by
  rw [size_list] at h
  cases s; congr 1
  exact Array.toList_inj.1 (List.eq_nil_of_length_eq_zero h)
theorem slipB_facts {s : Slip} (h : slipB s = true) : s.1.size ≤ 16 ∧ s.2.1.size = 32 ∧ s.2.2.1.size ≤ 224 ∧ (s.2.2.2.1 = true → s.2.2.1 = ⟨#[]⟩) := by
  unfold slipB at h
  simp only [Bool.and_eq_true, decide_eq_true_eq] at h
  obtain ⟨h1, h2, h3⟩ := h
  refine ⟨by have := (wordB_size h1).1; omega, h2, ?_, fun ht => ?_⟩
  · split at h3
    · have : s.2.2.1.size = 0 := by simpa using h3
      omega
    · simp only [Bool.and_eq_true, decide_eq_true_eq] at h3; exact h3.2
  · rw [if_pos ht] at h3; exact size_zero (by simpa using h3)
theorem entryB_sm {e : Entry} (h : entryB e = true) : EntrySm e := by
  unfold entryB at h
  simp only [Bool.and_eq_true, Bool.not_eq_true', decide_eq_false_iff_not] at h
  obtain ⟨h1, h2, h3, h4, h5, h6, h7, h8, h9, h10, h11, h12, h13⟩ := h
  have hf : ∀ s ∈ e.2.2.2.2.1, s.1.size ≤ 16 ∧ s.2.1.size = 32 ∧ s.2.2.1.size ≤ 224 ∧ (s.2.2.2.1 = true → s.2.2.1 = ⟨#[]⟩) := fun s hs => by
    unfold slipsB at h12
    have := List.all_eq_true.1 h12 s hs
    simp only [Bool.and_eq_true] at this
    exact slipB_facts this.1
  refine ⟨by have := (wordB_size h1).1; omega, ⟨by omega, by omega⟩, ⟨by omega, by omega⟩, ⟨by omega, by omega⟩, ⟨by omega, by omega⟩, by omega, riseB_sizes _ _ h11, fun s hs => ?_, hf⟩
  have := hf s hs
  exact ⟨by omega, by omega, by omega⟩
theorem roomL_16 : ∀ l : List ByteArray, (∀ t ∈ l, t.size ≤ 16) → roomL l ≤ 25 * l.length
  | [], _ => by simp [roomL]
  | t :: l, h => by
    have := h t (by simp)
    have := roomL_16 l (fun x hx => h x (List.mem_cons_of_mem _ hx))
    simp only [roomL, List.length_cons]; omega
theorem textsB_room : ∀ l : List ByteArray, (∀ t ∈ l, t.size ≤ 1048576) → (textsB l).size ≤ roomL l
  | [], _ => Nat.le_refl 0
  | t :: l, h => by
    have := textB_size (h t (by simp))
    unfold textB at this
    have := textsB_room l (fun x hx => h x (List.mem_cons_of_mem _ hx))
    simp only [textsB, roomL]; rw [ByteArray.size_append]; omega
theorem slipsRoom_le : ∀ l : List Slip, (∀ s ∈ l, s.1.size ≤ 16 ∧ s.2.1.size = 32 ∧ s.2.2.1.size ≤ 224 ∧ (s.2.2.2.1 = true → s.2.2.1 = ⟨#[]⟩)) → slipsRoom l ≤ l.length * 297
  | [], _ => by simp [slipsRoom]
  | s :: l, h => by
    have h1 := h s (by simp)
    have h2 := slipsRoom_le l (fun x hx => h x (List.mem_cons_of_mem _ hx))
    simp only [slipsRoom, List.length_cons]
    omega
theorem EntrySm.room {e : Entry} (h : EntrySm e) : roomL e.2.2.2.2.2.2.1 ≤ 100 ∧ slipsRoom e.2.2.2.2.1 ≤ 3564 := by
  have h1 := roomL_16 _ h.t
  have h2 := slipsRoom_le _ h.n
  have h3 := h.l
  have h4 := h.h
  omega
theorem entry_ok (e : Entry) (h : EntrySm e) {w : ByteArray} (hw : w.size ≤ 100000) : Runs (fun k => event_entry.f k e w false) ((), ((w ++ entryL e, false, ()), ())) := by
  have hid := h.id
  have ha := h.a
  have hb := h.b
  have hc := h.c
  have hl := h.l
  have hh := h.h
  have hr := h.room
  have ht : ∀ t ∈ e.2.2.2.2.2.2.1, t.size ≤ 1048576 := fun t hx => by have := h.t t hx; omega
  have z0 := textB_size (t := e.1) (by omega)
  have z1 := numI_size (x := e.2.1) (by omega)
  have z2 := numI_size (x := e.2.2.1) (by omega)
  have z3 := numI_size (x := e.2.2.2.1) (by omega)
  have z4 := flagB_size e.2.2.2.2.2.1
  have z5 := numB_size (n := e.2.2.2.2.2.2.1.length) (by omega)
  have z6 := textsB_room _ ht
  have z7 := numB_size (n := e.2.2.2.2.1.length) (by omega)
  have hn := w_num (x := (e.2.2.2.2.1.length : Int)) (by omega) (by omega) (s := w ++ textB e.1 ++ numB e.2.1.toNat ++ numB e.2.2.1.toNat ++ numB e.2.2.2.1.toNat ++ flagB e.2.2.2.2.2.1 ++ (numB e.2.2.2.2.2.2.1.length ++ textsB e.2.2.2.2.2.2.1)) (by simp only [ByteArray.size_append]; omega)
  rw [Int.toNat_natCast] at hn
  have hloop := slips_loop e.2.2.2.2.1 (by omega) h.s _ 0 (Nat.zero_add _) (w ++ textB e.1 ++ numB e.2.1.toNat ++ numB e.2.2.1.toNat ++ numB e.2.2.2.1.toNat ++ flagB e.2.2.2.2.2.1 ++ (numB e.2.2.2.2.2.2.1.length ++ textsB e.2.2.2.2.2.2.1) ++ numB e.2.2.2.2.1.length) (by simp only [ByteArray.size_append, List.drop_zero]; omega)
  refine Runs.step (fun k => rfl) (Runs.bind (w_text (by omega) (by omega)) (Runs.bind (w_num (by omega) (by omega) (by simp only [ByteArray.size_append]; omega)) (Runs.bind (w_num (by omega) (by omega) (by simp only [ByteArray.size_append]; omega)) (Runs.bind (w_num (by omega) (by omega) (by simp only [ByteArray.size_append]; omega)) (Runs.bind (w_flag _ (by simp only [ByteArray.size_append]; omega) _) (Runs.bind (w_texts _ (by omega) ht (by simp only [ByteArray.size_append]; omega)) (Runs.bind hn (hloop.of_eq ?_))))))))
  unfold entryL
  simp only [bapp_assoc, List.drop_zero]
/-- An event as it is laid. -/
noncomputable def eventL (v : Event) : ByteArray :=
  numB v.1.toNat ++ (if v.1 = 1 then entryL v.2.1
  else if v.1 = 2 then numB v.2.2.1.toNat ++ numB v.2.2.2.1.toNat
  else if v.1 = 3 then numB v.2.2.1.toNat
  else if v.1 = 4 ∨ v.1 = 5 then numB v.2.2.1.toNat ++ textB v.2.2.2.2.1
  else if v.1 = 6 then numB v.2.2.2.2.2.1.1.toNat ++ textB v.2.2.2.2.2.1.2.1
  else numB v.2.2.2.2.2.2.1.toNat)
/-- What an event that may be is. -/
inductive Kind (v : Event) : Prop
  | paper (h : v.1 = 1) (e : entryB v.2.1 = true)
  | field (h : v.1 = 2) (s : 0 ≤ v.2.2.1 ∧ v.2.2.1 < 64) (i : 0 ≤ v.2.2.2.1 ∧ v.2.2.2.1 < 12)
  | gone (h : v.1 = 3) (s : 0 ≤ v.2.2.1 ∧ v.2.2.1 < 64)
  | hold (h : v.1 = 4 ∨ v.1 = 5) (s : 0 ≤ v.2.2.1 ∧ v.2.2.1 < 64) (n : wordB v.2.2.2.2.1 16 = true)
  | point (h : v.1 = 6) (s : 0 ≤ v.2.2.2.2.2.1.1 ∧ v.2.2.2.2.2.1.1 ≤ 64) (r : v.2.2.2.2.2.1.2.1.size = 32)
  | clock (h : v.1 = 7) (n : 0 ≤ v.2.2.2.2.2.2.1 ∧ v.2.2.2.2.2.2.1 ≤ 1099511627776)
theorem eventB_kind {v : Event} (h : eventB v = true) : Kind v := by
  unfold eventB at h
  split at h
  · exact .paper (by assumption) h
  · split at h
    · simp only [Bool.and_eq_true, decide_eq_true_eq] at h; exact .field (by assumption) h.1 h.2
    · split at h
      · simp only [decide_eq_true_eq] at h; exact .gone (by assumption) h
      · split at h
        · simp only [Bool.and_eq_true, decide_eq_true_eq] at h; exact .hold (by assumption) h.1 h.2
        · split at h
          · simp only [Bool.and_eq_true, decide_eq_true_eq] at h; exact .point (by assumption) h.1 h.2
          · split at h
            · simp only [decide_eq_true_eq] at h; exact .clock (by assumption) h
            · cases h
theorem bytes_j0 (s : ByteArray) : Runs (fun k => event_Bytes.j0 k s false) ((s, ()), ()) :=
  Runs.step (fun k => rfl) (Runs.bind (v := ((s, true, ()), ())) (Runs.step (fun k => rfl) Runs.some) Runs.some)
theorem empty_left (s : ByteArray) : (⟨#[]⟩ : ByteArray) ++ s = s := by
  have : ((⟨#[]⟩ : ByteArray) ++ s).data = s.data := by rw [ByteArray.data_append]; simp
  cases s; cases h2 : (⟨#[]⟩ : ByteArray) ++ _; rw [h2] at this; simp only at this; rw [this]
theorem bytes_no (v : Event) (h : EventOk v) (hb : eventB v = false) : Runs (fun k => event_Bytes.f k v) ((⟨#[]⟩, ()), ()) := by
  have hr := right_ok v h
  rw [hb] at hr
  exact Runs.step (fun k => rfl) (Runs.bind hr (Runs.yes (by rfl) Runs.some))
theorem bytes_ok (v : Event) (h : EventOk v) (hb : eventB v = true) : Runs (fun k => event_Bytes.f k v) ((eventL v, ()), ()) := by
  have hr := right_ok v h
  rw [hb] at hr
  have hk := eventB_kind hb
  have hkind : 1 ≤ v.1 ∧ v.1 ≤ 7 := by cases hk <;> omega
  have z := numI_size (x := v.1) (by omega)
  have hn := w_num (x := v.1) (by omega) (by omega) (s := ⟨#[]⟩) (Nat.zero_le _)
  rw [empty_left] at hn
  refine Runs.step (fun k => rfl) (Runs.bind hr (Runs.no (by rfl) (Runs.bind hn ?_)))
  unfold eventL
  cases hk with
  | paper g e =>
    refine Runs.yes (by rw [g]; rfl) (Runs.bind (entry_ok v.2.1 (entryB_sm e) (by dsimp only; omega)) ((bytes_j0 _).of_eq ?_))
    rw [if_pos g]
  | field g s i =>
    have z1 := numI_size (x := v.2.2.1) (by omega)
    refine Runs.no (by rw [g]; rfl) (Runs.yes (by rw [g]; rfl) (Runs.bind (w_num (by omega) (by omega) (by dsimp only; omega)) (Runs.bind (w_num (by omega) (by omega) (by dsimp only; rw [ByteArray.size_append]; omega)) ((bytes_j0 _).of_eq ?_))))
    rw [if_neg (by omega), if_pos g, bapp_assoc]
  | gone g s =>
    refine Runs.no (by rw [g]; rfl) (Runs.no (by rw [g]; rfl) (Runs.yes (by rw [g]; rfl) (Runs.bind (w_num (by omega) (by omega) (by dsimp only; omega)) ((bytes_j0 _).of_eq ?_))))
    rw [if_neg (by omega), if_neg (by omega), if_pos g]
  | hold g s n =>
    have hw := (wordB_size n).1
    have z1 := numI_size (x := v.2.2.1) (by omega)
    have j1 : ∀ t : Bool, t = true → Runs (fun k => event_Bytes.j1 k v.1 t v.1 v.2.1 v.2.2.1 v.2.2.2.1 v.2.2.2.2.1 v.2.2.2.2.2.1 v.2.2.2.2.2.2.1 (numB v.1.toNat) false) ((numB v.1.toNat ++ (numB v.2.2.1.toNat ++ textB v.2.2.2.2.1), ()), ()) := fun t ht => by
      subst ht
      refine Runs.step (fun k => rfl) (Runs.bind (w_num (by omega) (by omega) (by omega)) (Runs.bind (w_text (by omega) (by dsimp only; rw [ByteArray.size_append]; omega)) ((bytes_j0 _).of_eq ?_)))
      rw [bapp_assoc]
    rw [if_neg (by omega), if_neg (by omega), if_neg (by omega), if_pos g]
    refine Runs.no (by simpa using (by omega : ¬ v.1 = 1)) (Runs.no (by simpa using (by omega : ¬ v.1 = 2)) (Runs.no (by simpa using (by omega : ¬ v.1 = 3)) (Runs.cond (fun h4 => ?_) (fun h4 => ?_))))
    · exact j1 _ h4
    · exact j1 _ (by have : ¬ v.1 = 4 := by simpa using h4
                     simpa using (by omega : v.1 = 5))
  | point g s r =>
    have z1 := numI_size (x := v.2.2.2.2.2.1.1) (by omega)
    have z2 := textB_size (t := v.2.2.2.2.2.1.2.1) (by omega)
    rw [if_neg (by omega), if_neg (by omega), if_neg (by omega), if_neg (by omega), if_pos g]
    refine Runs.no (by rw [g]; rfl) (Runs.no (by rw [g]; rfl) (Runs.no (by rw [g]; rfl) (Runs.no (by rw [g]; rfl) ?_)))
    refine Runs.step (fun k => rfl) (Runs.no (by rw [g]; rfl) (Runs.yes (by rw [g]; rfl) (Runs.bind (w_num (by omega) (by omega) (by dsimp only; omega)) (Runs.bind (w_text (by dsimp only; omega) (by dsimp only; rw [ByteArray.size_append]; omega)) ((bytes_j0 _).of_eq ?_)))))
    rw [bapp_assoc]
  | clock g n =>
    rw [if_neg (by omega), if_neg (by omega), if_neg (by omega), if_neg (by omega), if_neg (by omega)]
    refine Runs.no (by rw [g]; rfl) (Runs.no (by rw [g]; rfl) (Runs.no (by rw [g]; rfl) (Runs.no (by rw [g]; rfl) ?_)))
    exact Runs.step (fun k => rfl) (Runs.no (by rw [g]; rfl) (Runs.no (by rw [g]; rfl) (Runs.yes (by rw [g]; rfl) (Runs.bind (w_num (by omega) (by omega) (by dsimp only; omega)) (bytes_j0 _)))))
end Go.Proofs.Ythedgoefiffogaa.Pure
