/- Plain laws of chapter 8: leaves, roots, papers. -/
import Derived.Test.YtioagphpiflplaaPMerkR
import Derived.Test.YtioagphpiflplaaONum
namespace Go.Proofs.Ytioagphpiflplaa.Pure
open Go Go.Proofs.Ytioagphpiflplaa.E Go.Proofs.Ytioagphpiflplaa.Eng
set_option linter.unusedVariables false
set_option linter.unusedSimpArgs false

def textO (t : ByteArray) : ByteArray := numB t.size ++ t
theorem textO_size {t : ByteArray} (h : t.size ≤ 1048576) : (textO t).size ≤ t.size + 8 := by
  unfold textO; rw [ByteArray.size_append]; have := numB_size (n := t.size) (by omega); omega
def numO (n : Int) : ByteArray := if n < 0 ∨ n ≥ 72057594037927936 then ⟨#[]⟩ else numB n.toNat
theorem numO_size (n : Int) : (numO n).size ≤ 8 := by
  unfold numO; split
  · exact Nat.zero_le _
  · exact (numB_size (by omega)).1
theorem numO_ok (n : Int) : Runs (fun k => octet_Num.f k n) ((numO n, ()), ()) := by
  unfold numO
  split
  · next h => exact octet_num_none h
  · next h => exact octet_num (by omega) (by omega)
abbrev Slip := ByteArray × ByteArray × ByteArray × Bool × Unit
abbrev MStS := (Unit × Unit × (ByteArray × ByteArray × Unit) × Bool × Bool × Int × Unit) × ((List (ByteArray × ByteArray)) × Unit) × Unit
noncomputable def sleafV (T : Tab) (a b : ByteArray) : ByteArray := leafV T (textO a ++ textO b)
def SlipsOk (l : List Slip) : Prop := ∀ s ∈ l, s.1.size ≤ 100000 ∧ s.2.1.size ≤ 100000
noncomputable def sleavesV (T : Tab) (l : List Slip) : List ByteArray := l.map fun s => sleafV T s.1 s.2.1
theorem sleavesV_s32 {T : Tab} (hT : Tok T) (l : List Slip) : S32 (sleavesV T l) := fun x hx => by
  obtain ⟨y, _, rfl⟩ := List.mem_map.1 hx
  exact hashV_size hT _
theorem sleavesV_len {T : Tab} (l : List Slip) : (sleavesV T l).length = l.length := List.length_map ..
section
variable {T : Tab}
theorem sleaf_ok (a b : ByteArray) (ha : a.size ≤ 100000) (hb : b.size ≤ 100000) (t f1 f2 n N) : TP (fun k => sheet_Leaf.f k a b t f1 f2 n T N) (fun v => v.1 = (sleafV T a b, ())) := by
  have h1 := textO_size (t := a) (by omega)
  have h2 := textO_size (t := b) (by omega)
  unfold textO at h1 h2
  refine TP.step (fun k => rfl) (TP.bindR (octet_text (t := a) (by omega)) (TP.bindR (octet_text (t := b) (by omega)) (TP.ck (by apply decide_eq_true; dsimp only; omega) ?_)))
  exact TP.bindM (leaf_ok _ (by dsimp only; rw [ByteArray.size_append]; omega) _ _ _ _ _) fun _ => TP.some rfl
theorem sleaves_loop (l : List Slip) (hb : l.length ≤ 1000000000) (hl : SlipsOk l) : ∀ (m i : Nat) (out : List ByteArray), i + m = l.length → out = sleavesV T (l.take i) → ∀ t f1 f2 n N, TP (fun k => sheet_leaves.l0 k out l (l.length : Int) (i : Int) t f1 f2 n T N) (fun v => v.1 = (sleavesV T l, ()))
  | 0, i, out, h, ho, t, f1, f2, n, N => TP.step (fun k => rfl) (TP.dec (fun h' => absurd h' (by omega)) fun _ => TP.some (by rw [ho, List.take_of_length_le (by omega)]))
  | m + 1, i, out, h, ho, t, f1, f2, n, N => by
    have hi : i < l.length := by omega
    have hlen : out.length = i := by rw [ho, sleavesV_len, List.length_take]; omega
    have e : IntKind.wrap .i64 ((i : Int) + 1) = ((i + 1 : Nat) : Int) := by rw [wrap_i64 (by omega) (by omega)]; rfl
    have hs := hl _ (List.getElem_mem hi)
    refine TP.step (fun k => rfl) (TP.dec (fun h' => ?_) fun h' => absurd (by omega : (i : Int) < l.length) h')
    refine TP.optE (rdo_at hi) (TP.bindM (sleaf_ok _ _ hs.1 hs.2 _ _ _ _ _) fun _ => TP.ck (by apply decide_eq_true; simp only [List.length_cons, List.length_nil]; omega) ?_)
    rw [e]
    refine sleaves_loop l hb hl m (i + 1) _ (by omega) ?_ _ _ _ _ _
    rw [List.take_succ_eq_append_getElem hi, ho]
    unfold sleavesV
    rw [List.map_append]; rfl
theorem sleaves_ok (l : List Slip) (hb : l.length ≤ 1000000000) (hl : SlipsOk l) (t f1 f2 n N) : TP (fun k => sheet_leaves.f k l t f1 f2 n T N) (fun v => v.1 = (sleavesV T l, ())) :=
  TP.step (fun k => rfl) (sleaves_loop l hb hl l.length 0 [] (Nat.zero_add _) rfl _ _ _ _ _)
noncomputable def srootV (T : Tab) (l : List Slip) : ByteArray := rootV T (sleavesV T l)
theorem sroot_ok (hT : Tok T) (l : List Slip) (hb : l.length ≤ 1000000000) (hl : SlipsOk l) (t f1 f2 n N) : TP (fun k => sheet_Root.f k l t f1 f2 n T N) (fun v => v.1 = (srootV T l, ())) :=
  TP.step (fun k => rfl) (TP.bindM (sleaves_ok l hb hl _ _ _ _ _) fun _ => TP.bindM (root_is hT _ (by rw [sleavesV_len]; exact hb) (sleavesV_s32 hT l) _ _ _ _ _) fun _ => TP.some rfl)
/-- Do places rise, below n? From place i on, m places. -/
def riseB (l : List Int) (n : Int) : Nat → Nat → Bool
  | 0, _ => true
  | m + 1, i => if l.getD i 0 < 0 ∨ l.getD i 0 ≥ n ∨ (0 < i ∧ l.getD (i - 1) 0 ≥ l.getD i 0) then false else riseB l n m (i + 1)
def risingB (l : List Int) (n : Int) : Bool := riseB l n l.length 0
theorem getD_at {α : Type} {l : List α} {i : Nat} (h : i < l.length) (d : α) : l.getD i d = l[i] := by rw [List.getD_eq_getElem?_getD, List.getElem?_eq_getElem h]; rfl
theorem rdo_getD {l : List Int} {i : Nat} (h : i < l.length) : rdo l (i : Int) = some (l.getD i 0) := by rw [rdo_at h, getD_at h]
theorem rising_loop (l : List Int) (n : Int) (hb : l.length ≤ 1000000000) : ∀ (m i : Nat), i + m = l.length → TP (fun k => sheet_Rising.l0 k l n l (l.length : Int) (i : Int)) (fun v => v.1 = (riseB l n m i, ()))
  | 0, i, h => TP.step (fun k => rfl) (TP.dec (fun h' => absurd h' (by omega)) fun _ => TP.some rfl)
  | m + 1, i, h => by
    have hi : i < l.length := by omega
    have e : IntKind.wrap .i64 ((i : Int) + 1) = ((i + 1 : Nat) : Int) := by rw [wrap_i64 (by omega) (by omega)]; rfl
    refine TP.step (fun k => rfl) (TP.dec (fun h' => ?_) fun h' => absurd (by omega : (i : Int) < l.length) h')
    refine TP.optE (rdo_getD hi) (TP.dec (fun h1 => TP.some ?_) fun h1 => TP.dec (fun h2 => TP.some ?_) fun h2 => TP.dec (fun h3 => ?_) fun h3 => ?_)
    · rw [riseB, if_pos (Or.inl h1)]
    · rw [riseB, if_pos (Or.inr (Or.inl h2))]
    · have e1 : IntKind.wrap .i64 ((i : Int) - 1) = ((i - 1 : Nat) : Int) := by rw [wrap_i64 (by omega) (by omega)]; omega
      rw [e1]
      refine TP.optE (rdo_getD (by omega)) (TP.dec (fun h4 => TP.some ?_) fun h4 => ?_)
      · rw [riseB, if_pos (Or.inr (Or.inr ⟨by omega, h4⟩))]
      · rw [e]
        refine TP.mono (rising_loop l n hb m (i + 1) (by omega)) fun v hv => ?_
        rw [hv, riseB, if_neg]
        rintro (h | h | h)
        · exact h1 h
        · exact h2 h
        · exact h4 h.2
    · rw [e]
      refine TP.mono (rising_loop l n hb m (i + 1) (by omega)) fun v hv => ?_
      rw [hv, riseB, if_neg]
      rintro (h | h | h)
      · exact h1 h
      · exact h2 h
      · omega
theorem rising_ok (l : List Int) (n : Int) (hb : l.length ≤ 1000000000) : TP (fun k => sheet_Rising.f k l n) (fun v => v.1 = (risingB l n, ())) := TP.step (fun k => rfl) (rising_loop l n hb l.length 0 (Nat.zero_add _))
def pickedB (l : List Int) (a b : Int) : Bool := l.any fun x => decide (a ≤ x) && decide (x < b)
theorem picked_loop (l : List Int) (a b : Int) (hb : l.length ≤ 1000000000) : ∀ (m i : Nat), i + m = l.length → TP (fun k => sheet_picked.l0 k a b l (l.length : Int) (i : Int)) (fun v => v.1 = (pickedB (l.drop i) a b, ()))
  | 0, i, h => TP.step (fun k => rfl) (TP.dec (fun h' => absurd h' (by omega)) fun _ => TP.some (by rw [List.drop_eq_nil_of_le (by omega)]; rfl))
  | m + 1, i, h => by
    have hi : i < l.length := by omega
    have e : IntKind.wrap .i64 ((i : Int) + 1) = ((i + 1 : Nat) : Int) := by rw [wrap_i64 (by omega) (by omega)]; rfl
    have hd : pickedB (l.drop i) a b = ((decide (a ≤ l[i]) && decide (l[i] < b)) || pickedB (l.drop (i + 1)) a b) := by rw [List.drop_eq_getElem_cons hi]; rfl
    refine TP.step (fun k => rfl) (TP.dec (fun h' => ?_) fun h' => absurd (by omega : (i : Int) < l.length) h')
    refine TP.optE (rdo_at hi) (TP.dec (fun h1 => TP.dec (fun h2 => TP.some ?_) fun h2 => ?_) fun h1 => ?_)
    · rw [hd, decide_eq_true (show a ≤ l[i] from h1), decide_eq_true h2]; rfl
    · rw [e]
      refine TP.mono (picked_loop l a b hb m (i + 1) (by omega)) fun v hv => ?_
      rw [hv, hd, decide_eq_false h2, Bool.and_false, Bool.false_or]
    · rw [e]
      refine TP.mono (picked_loop l a b hb m (i + 1) (by omega)) fun v hv => ?_
      rw [hv, hd, decide_eq_false (show ¬ a ≤ l[i] from h1), Bool.false_and, Bool.false_or]
theorem picked_ok (l : List Int) (a b : Int) (hb : l.length ≤ 1000000000) : TP (fun k => sheet_picked.f k l a b) (fun v => v.1 = (pickedB l a b, ())) := TP.step (fun k => rfl) (picked_loop l a b hb l.length 0 (Nat.zero_add _))
theorem ssplit_loop {n : Nat} (hn : 2 ≤ n) (hb : n ≤ 1000000000) : ∀ (m j : Nat), j + m = Nat.log2 (n - 1) → TP (fun k => sheet_split.l0 k n ((2 ^ j : Nat) : Int)) (fun v => v.1 = ((belowN n : Int), ()))
  | m, j, h => by
    have hle : 2 ^ j ≤ belowN n := Nat.pow_le_pow_right (by decide) (by omega)
    have hlt := below_lt hn
    have e2 : IntKind.wrap .i64 (2 * ((2 ^ j : Nat) : Int)) = ((2 ^ (j + 1) : Nat) : Int) := by rw [Nat.pow_succ]; exact wdbl' (by omega)
    have e3 : IntKind.wrap .i64 (((2 ^ j : Nat) : Int) * 2) = ((2 ^ (j + 1) : Nat) : Int) := by rw [Nat.pow_succ]; exact wdbl (by omega)
    have hiff : j + 1 ≤ Nat.log2 (n - 1) ↔ 2 ^ (j + 1) ≤ n - 1 := Nat.le_log2 (by omega)
    refine TP.step (fun k => rfl) (TP.dec (fun hc => ?_) fun hc => ?_)
    · rw [e2] at hc
      have : j + 1 ≤ Nat.log2 (n - 1) := hiff.2 (by have := Int.ofNat_lt.1 hc; omega)
      cases m with
      | zero => omega
      | succ m =>
        rw [e3]
        exact ssplit_loop hn hb m (j + 1) (by omega)
    · rw [e2] at hc
      have : ¬ j + 1 ≤ Nat.log2 (n - 1) := fun h => hc (Int.ofNat_lt.2 (by have := hiff.1 h; omega))
      refine TP.some ?_
      show (((2 ^ j : Nat) : Int), ()) = _
      rw [show j = Nat.log2 (n - 1) by omega]; rfl
theorem ssplit_ok {n : Nat} (hn : 2 ≤ n) (hb : n ≤ 1000000000) : TP (fun k => sheet_split.f k (n : Int)) (fun v => v.1 = ((belowN n : Int), ())) := TP.step (fun k => rfl) (ssplit_loop hn hb _ 0 (Nat.zero_add _))
end
section
variable {T : Tab}
/-- A paper's leaf. -/
noncomputable def paperV (T : Tab) (id : ByteArray) (c b k : Int) (r : ByteArray) : ByteArray := if numO c = ⟨#[]⟩ ∨ numO b = ⟨#[]⟩ ∨ numO k = ⟨#[]⟩ then ⟨#[]⟩ else leafV T ((((textO id ++ numO c) ++ numO b) ++ numO k) ++ textO r)
theorem wtext_ok {x : ByteArray} (hx : x.size ≤ 1048576) {s : ByteArray} (hs : s.size ≤ 1000000000) (b : Bool) : Runs (fun k => octet_Writer_Text.f k x s b) ((), ((s ++ textO x, b, ()), ())) := by
  have := textO_size hx
  unfold textO at this
  exact Runs.step (fun k => rfl) (Runs.bind (octet_text hx) (Runs.ck (by apply decide_eq_true; dsimp only; omega) Runs.some))
theorem wnum_ok (x : Int) {s : ByteArray} (hs : s.size ≤ 1000000000) (b : Bool) : Runs (fun k => octet_Writer_Num.f k x s b) ((), ((s ++ numO x, b || decide (numO x = ⟨#[]⟩), ()), ())) := by
  have := numO_size x
  refine Runs.step (fun k => rfl) (Runs.bind (numO_ok x) (Runs.cond (fun h => Runs.ck (by apply decide_eq_true; dsimp only; omega) ?_) fun h => Runs.ck (by apply decide_eq_true; dsimp only; omega) ?_))
  · subst h; exact Runs.some
  · subst h; exact Runs.some' (by dsimp only; rw [beq_text]; rfl)
theorem spaper_ok (id : ByteArray) (hi : id.size ≤ 100000) (c b k : Int) (r : ByteArray) (hr : r.size ≤ 100000) (t f1 f2 n N) : TP (fun q => sheet_Paper.f q id c b k r t f1 f2 n T N) (fun v => v.1 = (paperV T id c b k r, ())) := by
  have s0 := textO_size (t := id) (by omega)
  have s1 := numO_size c
  have s2 := numO_size b
  have s3 := numO_size k
  have s4 := textO_size (t := r) (by omega)
  have e0 : ByteArray.empty.size = 0 := rfl
  have e1 : ByteArray.empty ++ textO id = textO id := by
    have : (ByteArray.empty ++ textO id).data = (textO id).data := by rw [ByteArray.data_append]; simp
    cases h : textO id; cases h2 : ByteArray.empty ++ _; rw [h, h2] at this; simp only at this; rw [this]
  have z1 : (textO id ++ numO c).size ≤ 200000 := by rw [ByteArray.size_append]; omega
  have z2 : (textO id ++ numO c ++ numO b).size ≤ 200008 := by rw [ByteArray.size_append]; omega
  have z3 : (textO id ++ numO c ++ numO b ++ numO k).size ≤ 200016 := by rw [ByteArray.size_append]; omega
  have z4 : (textO id ++ numO c ++ numO b ++ numO k ++ textO r).size ≤ 400000 := by rw [ByteArray.size_append]; omega
  refine TP.step (fun k => rfl) (TP.bindR (wtext_ok (by omega) (by omega) false) ?_)
  rw [e1]
  refine TP.bindR (wnum_ok c (by dsimp only; omega) _) (TP.bindR (wnum_ok b (by dsimp only; omega) _) (TP.bindR (wnum_ok k (by dsimp only; omega) _) (TP.bindR (wtext_ok (by omega) (by dsimp only; omega) _) ?_)))
  refine TP.bindR (v := ((if numO c = ⟨#[]⟩ ∨ numO b = ⟨#[]⟩ ∨ numO k = ⟨#[]⟩ then (⟨#[]⟩ : ByteArray) else textO id ++ numO c ++ numO b ++ numO k ++ textO r, !decide (numO c = ⟨#[]⟩ ∨ numO b = ⟨#[]⟩ ∨ numO k = ⟨#[]⟩), ()), ())) ?_ ?_
  · refine Runs.step (fun k => rfl) (Runs.cond (fun h => Runs.some' ?_) fun h => Runs.some' ?_)
    · have h : (((false || decide (numO c = ⟨#[]⟩)) || decide (numO b = ⟨#[]⟩)) || decide (numO k = ⟨#[]⟩)) = true := h
      have : numO c = ⟨#[]⟩ ∨ numO b = ⟨#[]⟩ ∨ numO k = ⟨#[]⟩ := by simpa [or_assoc] using h
      rw [if_pos this, decide_eq_true this]; rfl
    · have h : (((false || decide (numO c = ⟨#[]⟩)) || decide (numO b = ⟨#[]⟩)) || decide (numO k = ⟨#[]⟩)) = false := h
      have : ¬ (numO c = ⟨#[]⟩ ∨ numO b = ⟨#[]⟩ ∨ numO k = ⟨#[]⟩) := by simpa [not_or, and_assoc] using h
      rw [if_neg this, decide_eq_false this]; rfl
  · unfold paperV
    by_cases hc : numO c = ⟨#[]⟩ ∨ numO b = ⟨#[]⟩ ∨ numO k = ⟨#[]⟩
    · rw [if_pos hc, if_pos hc, decide_eq_true hc]
      exact TP.yes rfl (TP.some rfl)
    · rw [if_neg hc, if_neg hc, decide_eq_false hc]
      exact TP.no rfl (TP.bindM (leaf_ok _ (by dsimp only; omega) _ _ _ _ _) fun _ => TP.some rfl)
end
end Go.Proofs.Ytioagphpiflplaa.Pure
