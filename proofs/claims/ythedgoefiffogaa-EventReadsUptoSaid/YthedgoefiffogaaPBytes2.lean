/- Plain laws: an event's bytes by the document. -/
import Derived.Test.YthedgoefiffogaaPBytes
namespace Go.Proofs.Ythedgoefiffogaa.Pure
open Go Go.Proofs.Ythedgoefiffogaa.E Go.Proofs.Ythedgoefiffogaa.Eng
set_option linter.unusedVariables false
set_option linter.unusedSimpArgs false

theorem ref_num_loop : ∀ (m n : Nat), n < 256 ^ m → m ≤ 7 → ∀ L : List UInt8, L.length + m ≤ 200 →
    Runs (fun k => chartularyref14_num.l0 k (n : Int) (ofL L)) ((headed (digs n ++ L), ()), ()) := by
  have fin : ∀ L : List UInt8, L.length ≤ 200 → Runs (fun k => chartularyref14_num.l0 k 0 (ofL L)) ((headed L, ()), ()) := fun L hL => by
    refine Runs.step (fun k => rfl) (Runs.ck ?_ (Runs.some' ?_))
    · apply decide_eq_true
      rw [ofL_size, strOf_one, ofL_size]; simp; omega
    · rw [ofL_size, wrap_u8_mod, strOf_one, ofL_app]
      have : (L.length % 256) = L.length := by omega
      rw [this]; rfl
  intro m
  induction m with
  | zero =>
    intro n h hm L hL
    have h0 : n = 0 := by simpa using h
    subst h0
    rw [digs_zero]; exact fin L (by omega)
  | succ m ih =>
    intro n h hm L hL
    by_cases h0 : n = 0
    · subst h0; rw [digs_zero]; exact fin L (by omega)
    · have hlt : n / 256 < 256 ^ m := by rw [Nat.pow_succ] at h; omega
      have hn7 : n < 256 ^ 7 := Nat.lt_of_lt_of_le h (Nat.pow_le_pow_right (by decide) hm)
      have e7 : 256 ^ 7 = 72057594037927936 := rfl
      have := ih (n / 256) hlt (by omega) (UInt8.ofNat (n % 256) :: L) (by simp; omega)
      have e0 : Int.tmod (n : Int) 256 = ((n % 256 : Nat) : Int) := by rw [Int.tmod_eq_emod_of_nonneg (by omega)]; omega
      have e1 : IntKind.wrap .i64 (Int.tdiv (n : Int) 256) = ((n / 256 : Nat) : Int) := by
        rw [Int.tdiv_eq_ediv_of_nonneg (by omega), wrap_i64 (by omega) (by omega)]; omega
      refine Runs.step (fun k => rfl) (Runs.yes (by apply decide_eq_true; omega) (Runs.ck (by rfl) (Runs.ck ?_ (Runs.ck (by rfl) ?_))))
      · apply decide_eq_true
        rw [ofL_size, strOf_one, ofL_size]; simp; omega
      · rw [e0, e1, wrap_u8_mod, strOf_one, ofL_app, digs_pos h0, List.append_assoc]
        rw [Nat.mod_mod]
        exact this
theorem ref_num {x : Int} (h0 : 0 ≤ x) (h : x < 72057594037927936) : Runs (fun k => chartularyref14_num.f k x) ((numB x.toNat, ()), ()) := by
  have := ref_num_loop 7 x.toNat (by show x.toNat < 72057594037927936; omega) (by omega) [] (by simp)
  rw [List.append_nil, show ((x.toNat : Nat) : Int) = x by omega] at this
  exact Runs.step (fun k => rfl) this
theorem ref_text {t : ByteArray} (h : t.size ≤ 1048576) : Runs (fun k => chartularyref14_text.f k t) ((textB t, ()), ()) := by
  have hn := ref_num (x := (t.size : Int)) (by omega) (by omega)
  have := numB_size (n := t.size) (by omega)
  rw [Int.toNat_natCast] at hn
  refine Runs.step (fun k => rfl) (Runs.bind hn (Runs.ck ?_ Runs.some))
  apply decide_eq_true; dsimp only; omega
theorem ref_truth (b : Bool) : Runs (fun k => chartularyref14_truth.f k b) ((flagB b, ()), ()) :=
  Runs.step (fun k => rfl) (by cases b with | true => exact Runs.some | false => exact Runs.some)
theorem ref_l1 (e : Entry) (h : EntrySm e) : ∀ (m i : Nat), i + m = e.2.2.2.2.1.length → ∀ w : ByteArray, w.size + slipsRoom (e.2.2.2.2.1.drop i) ≤ 1000000 →
    Runs (fun k => chartularyref14_Bytes.l1 k w (i : Int) e.1 e.2.1 e.2.2.1 e.2.2.2.1 e.2.2.2.2.1 e.2.2.2.2.2.1 e.2.2.2.2.2.2.1) ((w ++ slipsL (e.2.2.2.2.1.drop i), ()), ()) := by
  have hl := h.l
  intro m
  induction m with
  | zero =>
    intro i hi w hw
    rw [List.drop_of_length_le (by omega)]
    exact Runs.step (fun k => rfl) (Runs.no (by apply decide_eq_false; omega) (Runs.some' (by rw [show slipsL [] = ⟨#[]⟩ from rfl, app_empty])))
  | succ m ih =>
    intro i hi w hw
    have hlt : i < e.2.2.2.2.1.length := by omega
    have hm := h.s _ (List.getElem_mem hlt)
    rw [List.drop_eq_getElem_cons hlt] at hw ⊢
    simp only [slipsRoom] at hw
    have hz := slipL_size _ hm
    have nx := ih (i + 1) (by omega) (w ++ slipL (e.2.2.2.2.1)[i]) (by rw [ByteArray.size_append]; omega)
    rw [bapp_assoc, show ((i + 1 : Nat) : Int) = IntKind.wrap .i64 ((i : Int) + 1) from (wrap_i64 (by omega) (by omega)).symm] at nx
    have nx : Runs (fun k => chartularyref14_Bytes.l1 k (w ++ slipL (e.2.2.2.2.1)[i]) (IntKind.wrap .i64 ((i : Int) + 1)) e.1 e.2.1 e.2.2.1 e.2.2.2.1 e.2.2.2.2.1 e.2.2.2.2.2.1 e.2.2.2.2.2.2.1) ((w ++ slipsL ((e.2.2.2.2.1)[i] :: List.drop (i + 1) e.2.2.2.2.1), ()), ()) := nx
    generalize slipsL ((e.2.2.2.2.1)[i] :: List.drop (i + 1) e.2.2.2.2.1) = L at nx ⊢
    have ho : rdo e.2.2.2.2.1 (i : Int) = some (e.2.2.2.2.1)[i] := rdo_at hlt
    generalize (e.2.2.2.2.1)[i] = s at ho nx hw hz hm ⊢
    have h0 := textB_size (t := s.1) (by have := hm.a; omega)
    have h1 := textB_size (t := s.2.1) (by have := hm.b; omega)
    have h2 := textB_size (t := s.2.2.1) (by have := hm.c; omega)
    have h3 := flagB_size s.2.2.2.1
    have ha := hm.a
    have hb := hm.b
    have hc := hm.c
    refine Runs.step (fun k => rfl) (Runs.yes (by apply decide_eq_true; omega) (Runs.opt ho (Runs.bind (ref_text (by omega)) (Runs.ck (by apply decide_eq_true; dsimp only; omega) (Runs.bind (ref_text (by omega)) (Runs.ck (by apply decide_eq_true; simp only [ByteArray.size_append]; omega) (Runs.bind (ref_truth _) (Runs.ck (by apply decide_eq_true; simp only [ByteArray.size_append]; omega) ?_))))))))
    unfold slipL at nx
    cases hf : s.2.2.2.1 with
    | true =>
      rw [hf, if_pos rfl, app_empty, ← bapp_assoc, ← bapp_assoc] at nx
      exact Runs.no (by rfl) nx
    | false =>
      rw [hf, if_neg (by decide), ← bapp_assoc, ← bapp_assoc, ← bapp_assoc] at nx
      rw [hf] at h3
      exact Runs.yes (by rfl) (Runs.bind (ref_text (by omega)) (Runs.ck (by apply decide_eq_true; simp only [ByteArray.size_append]; omega) nx))
theorem ref_l0 (e : Entry) (h : EntrySm e) : ∀ (m i : Nat), i + m = e.2.2.2.2.2.2.1.length → ∀ w : ByteArray, w.size + roomL (e.2.2.2.2.2.2.1.drop i) ≤ 100000 →
    Runs (fun k => chartularyref14_Bytes.l0 k w (i : Int) e.1 e.2.1 e.2.2.1 e.2.2.2.1 e.2.2.2.2.1 e.2.2.2.2.2.1 e.2.2.2.2.2.2.1) ((w ++ (textsB (e.2.2.2.2.2.2.1.drop i) ++ (numB e.2.2.2.2.1.length ++ slipsL e.2.2.2.2.1)), ()), ()) := by
  have hl := h.l
  have hh := h.h
  have hr := h.room
  intro m
  induction m with
  | zero =>
    intro i hi w hw
    rw [List.drop_of_length_le (by omega)] at hw ⊢
    have hn := ref_num (x := (e.2.2.2.2.1.length : Int)) (by omega) (by omega)
    rw [Int.toNat_natCast] at hn
    have z := numB_size (n := e.2.2.2.2.1.length) (by omega)
    have main := ref_l1 e h _ 0 (Nat.zero_add _) (w ++ numB e.2.2.2.2.1.length) (by rw [List.drop_zero, ByteArray.size_append]; omega)
    rw [List.drop_zero, bapp_assoc] at main
    refine Runs.step (fun k => rfl) (Runs.no (by apply decide_eq_false; omega) (Runs.bind hn (Runs.ck (by apply decide_eq_true; dsimp only; omega) (main.of_eq ?_))))
    rw [show textsB [] = ⟨#[]⟩ from rfl, empty_left]
  | succ m ih =>
    intro i hi w hw
    have hlt : i < e.2.2.2.2.2.2.1.length := by omega
    have hm := h.t _ (List.getElem_mem hlt)
    rw [List.drop_eq_getElem_cons hlt] at hw ⊢
    simp only [roomL] at hw
    have z := textB_size (t := (e.2.2.2.2.2.2.1)[i]) (by omega)
    have nx := ih (i + 1) (by omega) (w ++ textB (e.2.2.2.2.2.2.1)[i]) (by rw [ByteArray.size_append]; omega)
    rw [show ((i + 1 : Nat) : Int) = IntKind.wrap .i64 ((i : Int) + 1) from (wrap_i64 (by omega) (by omega)).symm] at nx
    refine Runs.step (fun k => rfl) (Runs.yes (by apply decide_eq_true; omega) (Runs.opt (rdo_at hlt) (Runs.bind (ref_text (by omega)) (Runs.ck (by apply decide_eq_true; dsimp only; omega) (nx.of_eq ?_)))))
    simp only [textsB, textB, bapp_assoc]
theorem ref_jb (v : Event) (w : ByteArray) (hw : w.size ≤ 100) (hn : 0 ≤ v.2.2.2.2.2.2.1 ∧ v.2.2.2.2.2.2.1 < 72057594037927936 ∨ v.1 ≠ 7) (hs : 0 ≤ v.2.2.1 ∧ v.2.2.1 < 64 ∨ v.1 > 5) (hp : 0 ≤ v.2.2.2.2.2.1.1 ∧ v.2.2.2.2.2.1.1 ≤ 64 ∨ v.1 ≠ 6) (h1 : v.2.2.2.2.1.size ≤ 300 ∨ v.1 > 5) (h2 : v.2.2.2.2.2.1.2.1.size ≤ 300 ∨ v.1 ≠ 6) (h4 : 4 ≤ v.1 ∧ v.1 ≤ 7) (t : Bool) (ht : t = decide (v.1 = 4 ∨ v.1 = 5)) :
    Runs (fun k => chartularyref14_Bytes.j0 k w v.1 t v.1 v.2.1 v.2.2.1 v.2.2.2.1 v.2.2.2.2.1 v.2.2.2.2.2.1 v.2.2.2.2.2.2.1) ((w ++ (if v.1 = 4 ∨ v.1 = 5 then numB v.2.2.1.toNat ++ textB v.2.2.2.2.1 else if v.1 = 6 then numB v.2.2.2.2.2.1.1.toNat ++ textB v.2.2.2.2.2.1.2.1 else numB v.2.2.2.2.2.2.1.toNat), ()), ()) := by
  refine Runs.step (fun k => rfl) (Runs.cond (fun g => ?_) (fun g => ?_))
  · have g4 : v.1 = 4 ∨ v.1 = 5 := by rw [ht] at g; simpa using g
    have z := numI_size (x := v.2.2.1) (by omega)
    have z2 := textB_size (t := v.2.2.2.2.1) (by omega)
    refine Runs.bind (ref_num (by omega) (by omega)) (Runs.ck (by apply decide_eq_true; dsimp only; omega) (Runs.bind (ref_text (by omega)) (Runs.ck (by apply decide_eq_true; simp only [ByteArray.size_append]; omega) (Runs.some' ?_))))
    rw [if_pos g4, bapp_assoc]
  · have g4 : ¬ (v.1 = 4 ∨ v.1 = 5) := by rw [ht] at g; simpa using g
    rw [if_neg g4]
    refine Runs.cond (fun g6 => ?_) (fun g6 => ?_)
    · have g6 : v.1 = 6 := by simpa using g6
      have z := numI_size (x := v.2.2.2.2.2.1.1) (by omega)
      have z2 := textB_size (t := v.2.2.2.2.2.1.2.1) (by omega)
      refine Runs.bind (ref_num (by omega) (by omega)) (Runs.ck (by apply decide_eq_true; dsimp only; omega) (Runs.bind (ref_text (by omega)) (Runs.ck (by apply decide_eq_true; simp only [ByteArray.size_append]; omega) (Runs.some' ?_))))
      rw [if_pos g6, bapp_assoc]
    · have g6 : ¬ v.1 = 6 := by simpa using g6
      have z := numI_size (x := v.2.2.2.2.2.2.1) (by omega)
      refine Runs.bind (ref_num (by omega) (by omega)) (Runs.ck (by apply decide_eq_true; dsimp only; omega) (Runs.some' ?_))
      rw [if_neg g6]
theorem ref_bytes (v : Event) (hb : eventB v = true) : Runs (fun k => chartularyref14_Bytes.f k v) ((eventL v, ()), ()) := by
  have hk := eventB_kind hb
  have hkind : 1 ≤ v.1 ∧ v.1 ≤ 7 := by cases hk <;> omega
  have z := numI_size (x := v.1) (by omega)
  refine Runs.step (fun k => rfl) (Runs.bind (ref_num (by omega) (by omega)) ?_)
  unfold eventL
  cases hk with
  | paper g e =>
    have h := entryB_sm e
    rw [if_pos g]
    have hid := h.id
    have ha := h.a
    have hb := h.b
    have hc := h.c
    have hl := h.l
    have hh := h.h
    have hr := h.room
    have z0 := textB_size (t := v.2.1.1) (by omega)
    have z1 := numI_size (x := v.2.1.2.1) (by omega)
    have z2 := numI_size (x := v.2.1.2.2.1) (by omega)
    have z3 := numI_size (x := v.2.1.2.2.2.1) (by omega)
    have z4 := flagB_size v.2.1.2.2.2.2.2.1
    have z5 := numB_size (n := v.2.1.2.2.2.2.2.2.1.length) (by omega)
    have hn := ref_num (x := (v.2.1.2.2.2.2.2.2.1.length : Int)) (by omega) (by omega)
    rw [Int.toNat_natCast] at hn
    have hloop := ref_l0 v.2.1 h _ 0 (Nat.zero_add _) (numB v.1.toNat ++ textB v.2.1.1 ++ numB v.2.1.2.1.toNat ++ numB v.2.1.2.2.1.toNat ++ numB v.2.1.2.2.2.1.toNat ++ flagB v.2.1.2.2.2.2.2.1 ++ numB v.2.1.2.2.2.2.2.2.1.length) (by simp only [ByteArray.size_append, List.drop_zero]; omega)
    refine Runs.yes (by rw [g]; rfl) (Runs.bind (ref_text (by omega)) (Runs.ck (by apply decide_eq_true; simp only [ByteArray.size_append]; omega) (Runs.bind (ref_num (by omega) (by omega)) (Runs.ck (by apply decide_eq_true; simp only [ByteArray.size_append]; omega) (Runs.bind (ref_num (by omega) (by omega)) (Runs.ck (by apply decide_eq_true; simp only [ByteArray.size_append]; omega) (Runs.bind (ref_num (by omega) (by omega)) (Runs.ck (by apply decide_eq_true; simp only [ByteArray.size_append]; omega) (Runs.bind (ref_truth _) (Runs.ck (by apply decide_eq_true; simp only [ByteArray.size_append]; omega) (Runs.bind hn (Runs.ck (by apply decide_eq_true; simp only [ByteArray.size_append]; omega) (hloop.of_eq ?_)))))))))))))
    unfold entryL
    simp only [bapp_assoc, List.drop_zero]
  | field g s i =>
    have z1 := numI_size (x := v.2.2.1) (by omega)
    have z2 := numI_size (x := v.2.2.2.1) (by omega)
    refine Runs.no (by rw [g]; rfl) (Runs.yes (by rw [g]; rfl) (Runs.bind (ref_num (by omega) (by omega)) (Runs.ck (by apply decide_eq_true; dsimp only; omega) (Runs.bind (ref_num (by omega) (by omega)) (Runs.ck (by apply decide_eq_true; simp only [ByteArray.size_append]; omega) (Runs.some' ?_))))))
    rw [if_neg (by omega), if_pos g, bapp_assoc]
  | gone g s =>
    have z1 := numI_size (x := v.2.2.1) (by omega)
    refine Runs.no (by rw [g]; rfl) (Runs.no (by rw [g]; rfl) (Runs.yes (by rw [g]; rfl) (Runs.bind (ref_num (by omega) (by omega)) (Runs.ck (by apply decide_eq_true; dsimp only; omega) (Runs.some' ?_)))))
    rw [if_neg (by omega), if_neg (by omega), if_pos g]
  | hold g s n =>
    have hw := (wordB_size n).1
    have j0 := ref_jb v (numB v.1.toNat) (by omega) (by omega) (by omega) (by omega) (by omega) (by omega) (by omega)
    rw [if_neg (by omega), if_neg (by omega), if_neg (by omega)]
    refine Runs.no (by simpa using (by omega : ¬ v.1 = 1)) (Runs.no (by simpa using (by omega : ¬ v.1 = 2)) (Runs.no (by simpa using (by omega : ¬ v.1 = 3)) (Runs.cond (fun h4 => ?_) (fun h4 => ?_))))
    · exact j0 _ (by rw [show v.1 = 4 by simpa using h4]; rfl)
    · have h4' : ¬ v.1 = 4 := by simpa using h4
      exact j0 _ (by rw [show v.1 = 5 by omega]; rfl)
  | point g s r =>
    have j0 := ref_jb v (numB v.1.toNat) (by omega) (by omega) (by omega) (by omega) (by omega) (by omega) (by omega)
    rw [if_neg (by omega), if_neg (by omega), if_neg (by omega)]
    exact Runs.no (by rw [g]; rfl) (Runs.no (by rw [g]; rfl) (Runs.no (by rw [g]; rfl) (Runs.no (by rw [g]; rfl) (j0 _ (by rw [g]; rfl)))))
  | clock g n =>
    have j0 := ref_jb v (numB v.1.toNat) (by omega) (by omega) (by omega) (by omega) (by omega) (by omega) (by omega)
    rw [if_neg (by omega), if_neg (by omega), if_neg (by omega)]
    exact Runs.no (by rw [g]; rfl) (Runs.no (by rw [g]; rfl) (Runs.no (by rw [g]; rfl) (Runs.no (by rw [g]; rfl) (j0 _ (by rw [g]; rfl)))))
end Go.Proofs.Ythedgoefiffogaa.Pure
