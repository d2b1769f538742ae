/- OctetBack: what was laid is read as it was. -/
import Derived.Test.YtnlanlhhcgdjiaaPBack2
import Derived.Test.YtnlanlhhcgdjiaaESOctetBack
namespace Go.Proofs.Ytnlanlhhcgdjiaa.Pure
open Go Go.Proofs.Ytnlanlhhcgdjiaa.E Go.Proofs.Ytnlanlhhcgdjiaa.Eng
set_option linter.unusedVariables false
set_option linter.unusedSimpArgs false

/-- Items' bytes, one behind the other (those that have none are left out). -/
def itemsB : List Item → ByteArray
  | [] => ⟨#[]⟩
  | x :: l => (match itemB x with | some b => b | none => ⟨#[]⟩) ++ itemsB l
theorem empty_left (s : ByteArray) : (⟨#[]⟩ : ByteArray) ++ s = s := by
  have : ((⟨#[]⟩ : ByteArray) ++ s).data = s.data := by rw [ByteArray.data_append]; simp
  cases s; cases h2 : (⟨#[]⟩ : ByteArray) ++ _; rw [h2] at this; simp only at this; rw [this]
theorem items_app (l r : List Item) : itemsB (l ++ r) = itemsB l ++ itemsB r := by
  induction l with
  | nil => rw [List.nil_append]; exact (empty_left _).symm
  | cons x l ih => simp only [List.cons_append, itemsB, ih, bapp_assoc]
theorem back_loop {s : ByteArray} (hs : s.size ≤ 30000000) (L : List Item) (hL : L.length ≤ 1048576) (hx : ∀ x ∈ L, Small x ∧ itemB x ≠ none) : ∀ (m i : Nat), i + m = L.length → ∀ a : Nat, At s a (itemsB (L.drop i)) → a + (itemsB (L.drop i)).size = s.size →
    Runs (fun k => chartularylaw01_OctetBack.l1 k L true (i : Int) s (a : Int) 0) ((true, ()), ()) := by
  intro m
  induction m with
  | zero =>
    intro i hi a hat he
    rw [List.drop_of_length_le (by omega)] at he
    have ha : a = s.size := he
    have hend := end_ok hs (a := a) (by omega) 0
    rw [if_neg (by omega)] at hend
    exact Runs.step (fun k => rfl) (Runs.no (by apply decide_eq_false; omega) (Runs.yes (by rfl) (Runs.bind hend (Runs.yes (by rfl) (Runs.bind awake_ok Runs.some)))))
  | succ m ih =>
    intro i hi a hat he
    have hlt : i < L.length := by omega
    obtain ⟨h1, h2⟩ := hx _ (List.getElem_mem hlt)
    cases hb : itemB L[i] with
    | none => exact absurd hb h2
    | some b =>
      rw [List.drop_eq_getElem_cons hlt] at hat he
      simp only [itemsB, hb] at hat he
      rw [ByteArray.size_append, ← Nat.add_assoc] at he
      exact item_read hs L hL hlt h1 hb (by omega) hat.left (ih (i + 1) (by omega) (a + b.size) hat.right he)

/-- How much room items need. -/
def roomI : List Item → Nat
  | [] => 0
  | x :: l => (match itemB x with | some b => b.size | none => 0) + roomI l
theorem lay_loop (x0 : List Item) (hl : x0.length ≤ 1048576) (hx : ∀ x ∈ x0, Small x) : ∀ (m i : Nat), i + m = x0.length → ∀ (K : List Item), K.length ≤ i → (∀ x ∈ K, Small x ∧ itemB x ≠ none) → (itemsB K).size + roomI (x0.drop i) ≤ 20000000 →
    Runs (fun k => chartularylaw01_OctetBack.l0 k x0 K (i : Int) (itemsB K) false) ((true, ()), ()) := by
  have fin : ∀ (K : List Item), K.length ≤ 1048576 → (∀ x ∈ K, Small x ∧ itemB x ≠ none) → (itemsB K).size ≤ 20000000 → Runs (fun k => chartularylaw01_OctetBack.l1 k K true 0 (itemsB K) 0 0) ((true, ()), ()) := fun K h1 h2 h3 =>
    back_loop (by omega) K h1 h2 _ 0 (Nat.zero_add _) 0 (by rw [List.drop_zero]; exact ⟨by omega, by simp⟩) (by rw [List.drop_zero]; omega)
  have all : ∀ K : List Item, Runs (fun k => octet_Writer_All.f k (itemsB K) false) ((itemsB K, true, ()), ()) := fun K => Runs.step (fun k => rfl) Runs.some
  have read : ∀ s : ByteArray, Runs (fun k => octet_Read.f k s) (((), ()), ((s, 0, 0, ()), ())) := fun s => Runs.step (fun k => rfl) Runs.some
  intro m
  induction m with
  | zero =>
    intro i hi K hK hKx hr
    exact Runs.step (fun k => rfl) (Runs.no (by apply decide_eq_false; omega) (Runs.bind (all K) (Runs.bind (read _) (fin K (by omega) hKx (by omega)))))
  | succ m ih =>
    intro i hi K hK hKx hr
    have hlt : i < x0.length := by omega
    have hs := hx _ (List.getElem_mem hlt)
    rw [List.drop_eq_getElem_cons hlt] at hr
    simp only [roomI] at hr
    have hw : IntKind.wrap .i64 ((i : Int) + 1) = ((i + 1 : Nat) : Int) := wrap_i64 (by omega) (by omega)
    refine Runs.step (fun k => rfl) (Runs.yes (by apply decide_eq_true; omega) (Runs.dec (fun _ => Runs.opt (rdo_at hlt) (Runs.bind (laid_ok _ hs) ?_)) (fun _ => Runs.bind (all K) (Runs.bind (read _) (fin K (by omega) hKx (by omega))))))
    cases hb : itemB x0[i] with
    | none =>
      rw [hb] at hr
      refine Runs.no (by rfl) ?_
      rw [hw]; exact ih (i + 1) (by omega) K (by omega) hKx (by simpa using hr)
    | some b =>
      rw [hb] at hr
      simp only at hr
      have hitems : itemsB (K ++ [x0[i]]) = itemsB K ++ b := by
        rw [items_app]; simp only [itemsB, hb]
        have := empty_app b
        exact congrArg _ this
      refine Runs.yes (by rfl) (Runs.opt (rdo_at hlt) (Runs.bind (lay_ok _ hs hb (by omega)) (Runs.opt (rdo_at hlt) (Runs.ck ?_ ?_))))
      · apply decide_eq_true; simp; omega
      · rw [hw, ← hitems]
        exact ih (i + 1) (by omega) (K ++ [x0[i]]) (by simp; omega) (fun x hxm => by
          rcases List.mem_append.mp hxm with h | h
          · exact hKx x h
          · simp at h; subst h; exact ⟨hs, by rw [hb]; simp⟩) (by rw [hitems, ByteArray.size_append]; omega)

abbrev itemT : Ty := .cons (.int .i64) (.cons (.int .i64) (.cons .str (.cons .bool (.cons (.sl .str) .nil))))
theorem bulk_item (x : Item) : bulkT itemT x = 1 + (1 + ((x.2.2.1.size + 1) + (1 + (sumB (fun t : ByteArray => t.size + 1) x.2.2.2.2.1 + 0)))) := rfl
theorem roomL_le (l : List ByteArray) : roomL l ≤ 9 * sumB (fun t : ByteArray => t.size + 1) l := by
  induction l with
  | nil => simp [roomL]
  | cons t l ih => simp only [roomL, sumB]; omega
theorem textsB_size (l : List ByteArray) (h : ∀ t ∈ l, t.size ≤ 1048576) : (textsB l).size ≤ roomL l := by
  induction l with
  | nil => exact Nat.le_refl 0
  | cons t l ih =>
    have h1 := numB_size (n := t.size) (by have := h t (by simp); omega)
    have := ih (fun t ht => h t (List.mem_cons_of_mem _ ht))
    simp only [textsB, roomL, ByteArray.size_append]; omega
theorem small_of {x : Item} (h : bulkT itemT x ≤ 1048576) : Small x := by
  rw [bulk_item] at h
  have h1 := roomL_le x.2.2.2.2.1
  have h2 := sumB_len (fun t : ByteArray => t.size + 1) (fun t => by omega) x.2.2.2.2.1
  refine ⟨by omega, by omega, fun t ht => ?_, by omega⟩
  have : t.size + 1 ≤ _ := sumB_ge (fun t : ByteArray => t.size + 1) _ t ht
  omega
theorem item_room {x : Item} (h : bulkT itemT x ≤ 1048576) {b : ByteArray} (hb : itemB x = some b) : b.size ≤ 9 * bulkT itemT x := by
  have hs := small_of h
  rw [bulk_item] at h ⊢
  unfold itemB at hb
  have g : ∀ n, n < 72057594037927936 → (numB n).size ≤ 8 := fun n hn => (numB_size hn).1
  have h1 := roomL_le x.2.2.2.2.1
  have h2 := textsB_size x.2.2.2.2.1 hs.l
  have hn := hs.n
  have ht := hs.t
  split at hb
  · split at hb <;> first | (cases hb; done) | skip
    injection hb with hb; subst hb
    have := g (x.2.1.toNat) (by omega); omega
  · split at hb
    · injection hb with hb; subst hb
      have := g x.2.2.1.size (by omega)
      rw [ByteArray.size_append]; omega
    · split at hb
      · injection hb with hb; subst hb
        have : (if x.2.2.2.1 then (⟨#[1]⟩ : ByteArray) else ⟨#[0]⟩).size = 1 := by split <;> rfl
        omega
      · split at hb
        · injection hb with hb; subst hb; omega
        · injection hb with hb; subst hb
          have := g x.2.2.2.2.1.length (by omega)
          rw [ByteArray.size_append]; omega
theorem roomI_le : ∀ l : List Item, (∀ x ∈ l, bulkT itemT x ≤ 1048576) → roomI l ≤ 9 * sumB (bulkT itemT) l
  | [], _ => by simp [roomI]
  | x :: l, h => by
    have ih := roomI_le l (fun y hy => h y (List.mem_cons_of_mem _ hy))
    have h1 := h x (by simp)
    simp only [roomI, sumB]
    cases hb : itemB x with
    | none => simp only; omega
    | some b => have := item_room h1 hb; simp only; omega
/-- OctetBack, in plain numbers and lists. -/
theorem OctetBack : chartularylaw01_OctetBack.Pure := by
  intro x0 _ hb
  have hb' : sumB (bulkT itemT) x0 ≤ 1048576 := hb
  have hl : x0.length ≤ 1048576 := Nat.le_trans (sumB_len (bulkT itemT) (fun y => by have := bulk_item y; have h : bulkT itemT y = _ := this; omega) x0) hb'
  have hx : ∀ x ∈ x0, bulkT itemT x ≤ 1048576 := fun x hx => Nat.le_trans (sumB_ge (bulkT itemT) x0 x hx) hb'
  have hr := roomI_le x0 hx
  exact Runs.ex (f := fun k => chartularylaw01_OctetBack.f k x0) (Runs.step (fun k => rfl) (lay_loop x0 hl (fun x h => small_of (hx x h)) _ 0 (Nat.zero_add _) [] (by simp) (by simp) (by rw [List.drop_zero]; show 0 + roomI x0 ≤ _; omega)))
end Go.Proofs.Ytnlanlhhcgdjiaa.Pure
