/- Plain laws: trees of sums whose texts are told apart by their sums have one list of leaves. -/
import Derived.Test.YtioagphpiflplaaPMerkV
namespace Go.Proofs.Ytioagphpiflplaa.Pure
open Go Go.Proofs.Ytioagphpiflplaa.E Go.Proofs.Ytioagphpiflplaa.Eng
set_option linter.unusedVariables false
set_option linter.unusedSimpArgs false

section
variable (T : Tab)
def nodeT (a b : ByteArray) : ByteArray := ((⟨#[1]⟩ : ByteArray) ++ a) ++ b
/-- The texts that are summed. -/
noncomputable def rootW (l : List ByteArray) : List ByteArray :=
  if l.length = 0 then [⟨#[]⟩] else if l.length < 2 then [] else nodeT (rootV T (l.take (belowN l.length))) (rootV T (l.drop (belowN l.length))) :: (rootW (l.drop (belowN l.length)) ++ rootW (l.take (belowN l.length)))
termination_by l.length
decreasing_by
  all_goals first
    | (have := below_pos l.length; rw [List.length_drop]; omega)
    | (have := below_lt (n := l.length) (by omega); rw [List.length_take]; omega)
noncomputable def climbW (leaf : ByteArray) (i n : Nat) (p : List ByteArray) : List ByteArray :=
  if n < 2 then [] else if i < belowN n then nodeT (climbV T leaf i (belowN n) p.dropLast) (lastV p) :: climbW leaf i (belowN n) p.dropLast else nodeT (lastV p) (climbV T leaf (i - belowN n) (n - belowN n) p.dropLast) :: climbW leaf (i - belowN n) (n - belowN n) p.dropLast
termination_by n
decreasing_by
  all_goals first
    | exact below_lt (n := n) (by omega)
    | (have := below_pos n; omega)
noncomputable def bothW (a n : Nat) (whole : Bool) (old : ByteArray) (p : List ByteArray) : List ByteArray :=
  if a = n then [] else if n < 2 then [] else
  if a ≤ belowN n then nodeT (bothV T a (belowN n) whole old p.dropLast).2 (lastV p) :: bothW a (belowN n) whole old p.dropLast
  else nodeT (lastV p) (bothV T (a - belowN n) (n - belowN n) false ⟨#[]⟩ p.dropLast).2 :: (nodeT (lastV p) (bothV T (a - belowN n) (n - belowN n) false ⟨#[]⟩ p.dropLast).1 :: bothW (a - belowN n) (n - belowN n) false ⟨#[]⟩ p.dropLast)
termination_by n
decreasing_by
  all_goals first
    | exact below_lt (n := n) (by omega)
    | (have := below_pos n; omega)
end
section
variable {T : Tab}
theorem rootW_nil {l : List ByteArray} (h : l.length = 0) : rootW T l = [⟨#[]⟩] := by rw [rootW, if_pos h]
theorem rootW_one {l : List ByteArray} (h : l.length = 1) : rootW T l = [] := by rw [rootW, if_neg (by omega), if_pos (by omega)]
theorem rootW_two {l : List ByteArray} (h : 2 ≤ l.length) : rootW T l = nodeT (rootV T (l.take (belowN l.length))) (rootV T (l.drop (belowN l.length))) :: (rootW T (l.drop (belowN l.length)) ++ rootW T (l.take (belowN l.length))) := by rw [rootW, if_neg (by omega), if_neg (by omega)]
theorem climbW_one {n : Nat} (h : n < 2) (x : ByteArray) (i : Nat) (p : List ByteArray) : climbW T x i n p = [] := by rw [climbW, if_pos h]
theorem climbW_left {n : Nat} (h : 2 ≤ n) {i : Nat} (hi : i < belowN n) (x : ByteArray) (p : List ByteArray) : climbW T x i n p = nodeT (climbV T x i (belowN n) p.dropLast) (lastV p) :: climbW T x i (belowN n) p.dropLast := by rw [climbW, if_neg (by omega), if_pos hi]
theorem climbW_right {n : Nat} (h : 2 ≤ n) {i : Nat} (hi : ¬ i < belowN n) (x : ByteArray) (p : List ByteArray) : climbW T x i n p = nodeT (lastV p) (climbV T x (i - belowN n) (n - belowN n) p.dropLast) :: climbW T x (i - belowN n) (n - belowN n) p.dropLast := by rw [climbW, if_neg (by omega), if_neg hi]
theorem bothW_all (n : Nat) (w : Bool) (x : ByteArray) (p : List ByteArray) : bothW T n n w x p = [] := by rw [bothW, if_pos rfl]
theorem bothW_left {n : Nat} (h : 2 ≤ n) {a : Nat} {w : Bool} (hn : a ≠ n) (hi : a ≤ belowN n) (x : ByteArray) (p : List ByteArray) : bothW T a n w x p = nodeT (bothV T a (belowN n) w x p.dropLast).2 (lastV p) :: bothW T a (belowN n) w x p.dropLast := by rw [bothW, if_neg hn, if_neg (by omega), if_pos hi]
theorem bothW_right {n : Nat} (h : 2 ≤ n) {a : Nat} {w : Bool} (hn : a ≠ n) (hi : ¬ a ≤ belowN n) (x : ByteArray) (p : List ByteArray) : bothW T a n w x p = nodeT (lastV p) (bothV T (a - belowN n) (n - belowN n) false ⟨#[]⟩ p.dropLast).2 :: (nodeT (lastV p) (bothV T (a - belowN n) (n - belowN n) false ⟨#[]⟩ p.dropLast).1 :: bothW T (a - belowN n) (n - belowN n) false ⟨#[]⟩ p.dropLast) := by rw [bothW, if_neg hn, if_neg (by omega), if_neg hi]

theorem app_inj {a b c d : ByteArray} (h : a ++ b = c ++ d) (hs : a.size = c.size) : a = c ∧ b = d := by
  have e := congrArg (fun s => s.data.toList) h
  simp only [ByteArray.data_append, Array.toList_append] at e
  have hl : a.data.toList.length = c.data.toList.length := by rw [Array.length_toList, Array.length_toList, ByteArray.size_data, ByteArray.size_data]; exact hs
  obtain ⟨h1, h2⟩ := List.append_inj e hl
  refine ⟨?_, ?_⟩
  · cases a; cases c; congr 1; exact Array.toList_inj.1 h1
  · cases b; cases d; congr 1; exact Array.toList_inj.1 h2
theorem nodeT_inj {a b c d : ByteArray} (h : nodeT a b = nodeT c d) (hs : a.size = c.size) : a = c ∧ b = d := by
  unfold nodeT at h
  obtain ⟨h1, h2⟩ := app_inj h (by rw [ByteArray.size_append, ByteArray.size_append, hs])
  exact ⟨(app_inj h1 rfl).2, h2⟩
/-- Of these texts no two unlike ones have one sum. -/
def Apart (T : Tab) (W : List ByteArray) : Prop := ∀ x ∈ W, ∀ y ∈ W, hashV T x = hashV T y → x = y
theorem Apart.sub {W V : List ByteArray} (h : Apart T W) (hs : ∀ x ∈ V, x ∈ W) : Apart T V := fun x hx y hy e => h x (hs x hx) y (hs y hy) e
theorem Apart.node {W : List ByteArray} (h : Apart T W) {a b c d : ByteArray} (h1 : nodeT a b ∈ W) (h2 : nodeT c d ∈ W) (hs : a.size = c.size) (e : nodeV T a b = nodeV T c d) : a = c ∧ b = d := nodeT_inj (h _ h1 _ h2 e) hs
theorem climbV_size (hT : Tok T) {x : ByteArray} (hx : x.size = 32) (i n : Nat) (p : List ByteArray) : (climbV T x i n p).size = 32 := by
  rw [climbV]; split
  · exact hx
  · split <;> exact hashV_size hT _
theorem climb_inj (hT : Tok T) {W : List ByteArray} (hW : Apart T W) {x y : ByteArray} (hx : x.size = 32) (hy : y.size = 32) : ∀ (m n i : Nat) (p q : List ByteArray), n ≤ m → S32 p → S32 q → p.length = depthV i n → q.length = depthV i n → (∀ t ∈ climbW T x i n p, t ∈ W) → (∀ t ∈ climbW T y i n q, t ∈ W) → climbV T x i n p = climbV T y i n q → x = y
  | m, n, i, p, q, hm, hp, hq, lp, lq, wp, wq, e => by
    by_cases h2 : n < 2
    · rw [climbV_one h2, climbV_one h2] at e; exact e
    have h2 : 2 ≤ n := by omega
    have hlt := below_lt h2
    have hpos := below_pos n
    cases m with
    | zero => omega
    | succ m =>
      have dp : p.dropLast.length = p.length - 1 := List.length_dropLast
      have dq : q.dropLast.length = q.length - 1 := List.length_dropLast
      by_cases hi : i < belowN n
      · rw [climbW_left h2 hi] at wp wq
        rw [climbV_left h2 hi, climbV_left h2 hi] at e
        rw [depthV_left h2 hi] at lp lq
        obtain ⟨e1, e2⟩ := hW.node (wp _ (List.mem_cons_self ..)) (wq _ (List.mem_cons_self ..)) (by rw [climbV_size hT hx, climbV_size hT hy]) e
        exact climb_inj hT hW hx hy m _ i p.dropLast q.dropLast (by omega) hp.dropLast hq.dropLast (by omega) (by omega) (fun t h => wp t (List.mem_cons_of_mem _ h)) (fun t h => wq t (List.mem_cons_of_mem _ h)) e1
      · rw [climbW_right h2 hi] at wp wq
        rw [climbV_right h2 hi, climbV_right h2 hi] at e
        rw [depthV_right h2 hi] at lp lq
        obtain ⟨e1, e2⟩ := hW.node (wp _ (List.mem_cons_self ..)) (wq _ (List.mem_cons_self ..)) (by rw [hp.last (by omega), hq.last (by omega)]) e
        exact climb_inj hT hW hx hy m _ (i - belowN n) p.dropLast q.dropLast (by omega) hp.dropLast hq.dropLast (by omega) (by omega) (fun t h => wp t (List.mem_cons_of_mem _ h)) (fun t h => wq t (List.mem_cons_of_mem _ h)) e2
theorem root_inj (hT : Tok T) {W : List ByteArray} (hW : Apart T W) : ∀ (m : Nat) (o y : List ByteArray), o.length ≤ m → o.length = y.length → S32 o → S32 y → (∀ t ∈ rootW T o, t ∈ W) → (∀ t ∈ rootW T y, t ∈ W) → rootV T o = rootV T y → o = y
  | m, o, y, hm, hl, so, sy, wo, wy, e => by
    by_cases h0 : o.length = 0
    · rw [List.eq_nil_of_length_eq_zero h0, List.eq_nil_of_length_eq_zero (by omega : y.length = 0)]
    by_cases h1 : o.length = 1
    · obtain ⟨a, rfl⟩ := List.length_eq_one_iff.1 h1
      obtain ⟨b, rfl⟩ := List.length_eq_one_iff.1 (hl ▸ h1 : y.length = 1)
      rw [rootV_one rfl, rootV_one rfl] at e
      have : a = b := e
      rw [this]
    have h2 : 2 ≤ o.length := by omega
    have hlt := below_lt h2
    have hpos := below_pos o.length
    cases m with
    | zero => omega
    | succ m =>
      rw [rootW_two h2] at wo
      rw [rootW_two (by omega : 2 ≤ y.length)] at wy
      rw [rootV_two h2, rootV_two (by omega : 2 ≤ y.length)] at e
      obtain ⟨e1, e2⟩ := hW.node (wo _ (List.mem_cons_self ..)) (wy _ (List.mem_cons_self ..)) (by rw [rootV_size hT (so.take _), rootV_size hT (sy.take _)]) e
      rw [← hl] at e1 e2 wy
      have r1 := root_inj hT hW m (o.take (belowN o.length)) (y.take (belowN o.length)) (by rw [List.length_take]; omega) (by rw [List.length_take, List.length_take, hl]) (so.take _) (sy.take _)
        (fun t h => wo t (List.mem_cons_of_mem _ (List.mem_append_right _ h))) (fun t h => wy t (List.mem_cons_of_mem _ (List.mem_append_right _ h))) e1
      have r2 := root_inj hT hW m (o.drop (belowN o.length)) (y.drop (belowN o.length)) (by rw [List.length_drop]; omega) (by rw [List.length_drop, List.length_drop, hl]) (so.drop _) (sy.drop _)
        (fun t h => wo t (List.mem_cons_of_mem _ (List.mem_append_left _ h))) (fun t h => wy t (List.mem_cons_of_mem _ (List.mem_append_left _ h))) e2
      rw [← List.take_append_drop (belowN o.length) o, r1, r2, List.take_append_drop]
theorem bothV_size (hT : Tok T) : ∀ (m a n : Nat) (w : Bool) (old : ByteArray) (p : List ByteArray), n ≤ m → 1 ≤ a → a ≤ n → (w = true → old.size = 32) → S32 p → p.length = longV a n w → (bothV T a n w old p).1.size = 32 ∧ (bothV T a n w old p).2.size = 32
  | m, a, n, w, old, p, hm, h1, ha, ho, hp, hl => by
    by_cases hn : a = n
    · subst hn
      cases w with
      | true => rw [bothV_all]; exact ⟨ho rfl, ho rfl⟩
      | false =>
        rw [longV_part] at hl
        rw [bothV_part]; exact ⟨hp.last (by omega), hp.last (by omega)⟩
    have h2 : 2 ≤ n := by omega
    have hlt := below_lt h2
    have hpos := below_pos n
    have dp : p.dropLast.length = p.length - 1 := List.length_dropLast
    cases m with
    | zero => omega
    | succ m =>
      by_cases hi : a ≤ belowN n
      · rw [longV_left h2 hn hi] at hl
        rw [bothV_left h2 hn hi]
        exact ⟨(bothV_size hT m a (belowN n) w old p.dropLast (by omega) h1 hi ho hp.dropLast (by omega)).1, hashV_size hT _⟩
      · rw [bothV_right h2 hn hi]
        exact ⟨hashV_size hT _, hashV_size hT _⟩
theorem both_inj (hT : Tok T) {W : List ByteArray} (hW : Apart T W) : ∀ (m : Nat) (o y : List ByteArray) (w : Bool) (old : ByteArray) (p : List ByteArray), y.length ≤ m → 1 ≤ o.length → o.length ≤ y.length → S32 o → S32 y → (w = true → old.size = 32) → S32 p → p.length = longV o.length y.length w →
    (∀ t ∈ rootW T o, t ∈ W) → (∀ t ∈ rootW T y, t ∈ W) → (∀ t ∈ bothW T o.length y.length w old p, t ∈ W) → bothV T o.length y.length w old p = (rootV T o, rootV T y) → o = y.take o.length
  | m, o, y, w, old, p, hm, h1, ha, so, sy, ho, hp, hl, wo, wy, wb, e => by
    by_cases hn : o.length = y.length
    · have e' : rootV T o = rootV T y := by
        cases w with
        | true => rw [hn, bothV_all] at e; exact (Prod.mk.inj e).1.symm.trans (Prod.mk.inj e).2
        | false => rw [hn, bothV_part] at e; exact (Prod.mk.inj e).1.symm.trans (Prod.mk.inj e).2
      rw [hn, List.take_length]
      exact root_inj hT hW _ o y (Nat.le_refl _) hn so sy wo wy e'
    have h2 : 2 ≤ y.length := by omega
    have hlt := below_lt h2
    have hpos := below_pos y.length
    have hh := below_half h2
    have dp : p.dropLast.length = p.length - 1 := List.length_dropLast
    have tl := take_len h2
    have dl : (y.drop (belowN y.length)).length = y.length - belowN y.length := List.length_drop
    cases m with
    | zero => omega
    | succ m =>
      have wy0 := wy
      rw [rootW_two h2] at wy
      rw [rootV_two h2] at e
      by_cases hi : o.length ≤ belowN y.length
      · rw [longV_left h2 hn hi] at hl
        rw [bothW_left h2 hn hi] at wb
        rw [bothV_left h2 hn hi] at e
        obtain ⟨e1, e2⟩ := Prod.mk.inj e
        obtain ⟨s1, s2⟩ := bothV_size hT _ o.length (belowN y.length) w old p.dropLast (Nat.le_refl _) h1 hi ho hp.dropLast (by omega)
        obtain ⟨e3, e4⟩ := hW.node (wb _ (List.mem_cons_self ..)) (wy _ (List.mem_cons_self ..)) (by rw [s2, rootV_size hT (sy.take _)]) e2
        have r := both_inj hT hW m o (y.take (belowN y.length)) w old p.dropLast (by omega) h1 (by omega) so (sy.take _) ho hp.dropLast (by rw [tl]; omega) wo
          (fun t h => wy t (List.mem_cons_of_mem _ (List.mem_append_right _ h))) (fun t h => wb t (List.mem_cons_of_mem _ (by rw [tl] at h; exact h))) (by rw [tl]; exact Prod.ext e1 e3)
        rw [List.take_take, Nat.min_eq_left hi] at r
        exact r
      · have hb : belowN o.length = belowN y.length := by
          unfold belowN
          have e1 : Nat.log2 (y.length - 1) ≤ Nat.log2 (o.length - 1) := (Nat.le_log2 (by omega)).2 (by unfold belowN at hi; omega)
          have e2 : Nat.log2 (o.length - 1) ≤ Nat.log2 (y.length - 1) := (Nat.le_log2 (by omega)).2 (Nat.le_trans (Nat.log2_self_le (by omega)) (by omega))
          rw [Nat.le_antisymm e1 e2]
        have ol : (o.take (belowN y.length)).length = belowN y.length := by rw [List.length_take]; omega
        have od : (o.drop (belowN y.length)).length = o.length - belowN y.length := List.length_drop
        rw [rootW_two (by omega : 2 ≤ o.length), hb] at wo
        rw [rootV_two (by omega : 2 ≤ o.length), hb] at e
        rw [longV_right h2 hn hi] at hl
        rw [bothW_right h2 hn hi] at wb
        rw [bothV_right h2 hn hi] at e
        obtain ⟨e1, e2⟩ := Prod.mk.inj e
        have sl := hp.last (by omega)
        obtain ⟨e3, e4⟩ := hW.node (wb _ (List.mem_cons_of_mem _ (List.mem_cons_self ..))) (wo _ (List.mem_cons_self ..)) (by rw [sl, rootV_size hT (so.take _)]) e1
        obtain ⟨e5, e6⟩ := hW.node (wb _ (List.mem_cons_self ..)) (wy _ (List.mem_cons_self ..)) (by rw [sl, rootV_size hT (sy.take _)]) e2
        have r1 := root_inj hT hW _ (o.take (belowN y.length)) (y.take (belowN y.length)) (Nat.le_refl _) (by omega) (so.take _) (sy.take _)
          (fun t h => wo t (List.mem_cons_of_mem _ (List.mem_append_right _ h))) (fun t h => wy t (List.mem_cons_of_mem _ (List.mem_append_right _ h))) (e3.symm.trans e5)
        have r2 := both_inj hT hW m (o.drop (belowN y.length)) (y.drop (belowN y.length)) false ⟨#[]⟩ p.dropLast (by omega) (by omega) (by omega) (so.drop _) (sy.drop _) (fun h => by cases h) hp.dropLast (by rw [od, dl]; omega)
          (fun t h => wo t (List.mem_cons_of_mem _ (List.mem_append_left _ h))) (fun t h => wy t (List.mem_cons_of_mem _ (List.mem_append_left _ h)))
          (fun t h => wb t (List.mem_cons_of_mem _ (List.mem_cons_of_mem _ (by rw [od, dl] at h; exact h)))) (by rw [od, dl]; exact Prod.ext e4 e6)
        rw [od] at r2
        have ea : o.take (belowN y.length) ++ o.drop (belowN y.length) = y.take (belowN y.length + (o.length - belowN y.length)) := by rw [List.take_add, r1, r2]
        rw [List.take_append_drop, Nat.add_sub_cancel' (by omega)] at ea
        exact ea
end
end Go.Proofs.Ytioagphpiflplaa.Pure
