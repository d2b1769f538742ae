/- Plain laws: an item read. -/
import Derived.Test.YtnlanlhhcgdjiaaPBack
import Derived.Test.YtnlanlhhcgdjiaaPureOctetReads
namespace Go.Proofs.Ytnlanlhhcgdjiaa.Pure
open Go Go.Proofs.Ytnlanlhhcgdjiaa.E Go.Proofs.Ytnlanlhhcgdjiaa.Eng
set_option linter.unusedVariables false
set_option linter.unusedSimpArgs false

theorem raw_bool {s : ByteArray} {a : Nat} {b : Bool} (h : At s a (if b then ⟨#[1]⟩ else ⟨#[0]⟩)) : flagV (rawV s a 0 1) = (b, a + 1, 0) := by
  have hr := h.raw
  have hsz : (if b then (⟨#[1]⟩ : ByteArray) else ⟨#[0]⟩).size = 1 := by cases b <;> rfl
  rw [hsz] at hr
  rw [show (1 : Int) = ((1 : Nat) : Int) from rfl, hr]
  have e1 : (⟨#[1]⟩ : ByteArray).toList = [1] := by rw [ByteArray.toList_eq]
  have e0 : (⟨#[0]⟩ : ByteArray).toList = [0] := by rw [ByteArray.toList_eq]
  unfold flagV
  cases b with
  | true => simp only [if_true]; rw [e1]; rfl
  | false => simp only [Bool.false_eq_true, if_false]; rw [e0, e1]; rfl

theorem l2_loop (l : List ByteArray) (hl : l.length ≤ 1048576) (L : List Item) (ok : Bool) {i : Nat} (s : ByteArray) (a e : Int) (o0 o1 : Int) (o2 : ByteArray) (o3 : Bool) {v : (Bool × Unit) × Unit} (next : Runs (fun k => chartularylaw01_OctetBack.l1 k L ok (IntKind.wrap .i64 ((i : Int) + 1)) s a e) v) :
    ∀ (m j : Nat), j + m = l.length → Runs (fun k => chartularylaw01_OctetBack.l2 k L ok (i : Int) true l (j : Int) s a e o0 o1 o2 o3 l) v := by
  intro m
  induction m with
  | zero => intro j hj; exact Runs.step (fun k => rfl) (Runs.no (by apply decide_eq_false; omega) (Runs.no (by rfl) next))
  | succ m ih =>
    intro j hj
    have hlt : j < l.length := by omega
    refine Runs.step (fun k => rfl) (Runs.yes (by apply decide_eq_true; omega) (Runs.yes (by rfl) (Runs.opt (rdo_at hlt) (Runs.opt (rdo_at hlt) ?_))))
    rw [wrap_i64 (n := (j : Int) + 1) (by omega) (by omega), beq_self_eq_true]
    exact ih (j + 1) (by omega)
theorem item_read {s : ByteArray} (hs : s.size ≤ 30000000) (L : List Item) (hL : L.length ≤ 1048576) {ok : Bool} {i : Nat} (hlt : i < L.length) (hx : Small L[i]) {b : ByteArray} (hi : itemB L[i] = some b) {a : Nat} (ha : a ≤ s.size) (hat : At s a b) {v : (Bool × Unit) × Unit}
    (next : Runs (fun k => chartularylaw01_OctetBack.l1 k L ok ((i + 1 : Nat) : Int) s ((a + b.size : Nat) : Int) 0) v) : Runs (fun k => chartularylaw01_OctetBack.l1 k L ok (i : Int) s (a : Int) 0) v := by
  have hw : IntKind.wrap .i64 ((i : Int) + 1) = ((i + 1 : Nat) : Int) := wrap_i64 (by omega) (by omega)
  have ht := hx.t
  have hn := hx.n
  unfold itemB at hi
  refine Runs.step (fun k => rfl) (Runs.yes (by apply decide_eq_true; omega) (Runs.opt (rdo_at hlt) ?_))
  by_cases h0 : (L[i]).1 = 0
  · rw [if_pos h0] at hi
    split at hi <;> first | (cases hi; done) | skip
    rename_i h1
    injection hi with hi; subst hi
    have hv := hat.num (lim := (L[i]).2.1) (by omega) (by omega)
    have hr := reader_num hs ha 0 (L[i]).2.1
    rw [hv] at hr
    refine Runs.yes (by rw [h0]; rfl) (Runs.bind hr (Runs.no ?_ ?_))
    · dsimp only; rw [Int.toNat_of_nonneg h1.1, beq_self_eq_true]; rfl
    · rw [hw]; exact next
  rw [if_neg h0] at hi
  refine Runs.no (by simpa using h0) ?_
  by_cases h1 : (L[i]).1 = 1
  · rw [if_pos h1] at hi; injection hi with hi; subst hi
    have hv := hat.text (lim := ((L[i]).2.2.1.size : Int)) (by omega) (by omega)
    have hr := reader_text hs ha 0 ((L[i]).2.2.1.size : Int)
    rw [hv] at hr
    refine Runs.yes (by rw [h1]; rfl) (Runs.bind hr (Runs.no ?_ ?_))
    · dsimp only; rw [beq_self_eq_true]; rfl
    · rw [hw]; exact next
  rw [if_neg h1] at hi
  refine Runs.no (by simpa using h1) ?_
  by_cases h2 : (L[i]).1 = 2
  · rw [if_pos h2] at hi; injection hi with hi; subst hi
    have hv := raw_bool hat
    have hr := flag_ok hs ha 0
    rw [hv] at hr
    have hsz : (if (L[i]).2.2.2.1 then (⟨#[1]⟩ : ByteArray) else ⟨#[0]⟩).size = 1 := by split <;> rfl
    rw [hsz] at next
    refine Runs.yes (by rw [h2]; rfl) (Runs.bind hr (Runs.no ?_ ?_))
    · dsimp only; rw [beq_self_eq_true]; rfl
    · rw [hw]; exact next
  rw [if_neg h2] at hi
  refine Runs.no (by simpa using h2) ?_
  by_cases h3 : (L[i]).1 = 3
  · rw [if_pos h3] at hi; injection hi with hi; subst hi
    have hr := reader_raw hs ha 0 ((L[i]).2.2.1.size : Int)
    rw [hat.raw] at hr
    refine Runs.yes (by rw [h3]; rfl) (Runs.bind hr (Runs.no ?_ ?_))
    · dsimp only; rw [beq_self_eq_true]; rfl
    · rw [hw]; exact next
  · rw [if_neg h3] at hi; injection hi with hi; subst hi
    obtain ⟨M, hM, hlong⟩ := longest_ok (L[i]).2.2.2.2.1 hn
    have hv := hat.left.num (lim := ((L[i]).2.2.2.2.1.length : Int)) (by omega) (by omega)
    have hr := reader_num hs ha 0 ((L[i]).2.2.2.2.1.length : Int)
    rw [hv] at hr
    have hin := texts_read hs M (L[i]).2.2.2.2.1 hn hM _ 0 (Nat.zero_add _) _ hat.left.1 (by rw [List.drop_zero]; exact hat.right)
    rw [List.drop_zero, List.take_zero] at hin
    rw [← hw, ByteArray.size_append, ← Nat.add_assoc] at next
    refine Runs.no (by simpa using h3) (Runs.bind hlong (Runs.bind (v := (((L[i]).2.2.2.2.1, ()), ((s, ((a + (numB (L[i]).2.2.2.2.1.length).size + (textsB (L[i]).2.2.2.2.1).size : Nat) : Int), 0, ()), ()))) (Runs.step (fun k => rfl) (Runs.bind hr hin)) ?_))
    dsimp only
    rw [beq_self_eq_true]
    exact l2_loop _ hn L ok s _ 0 _ _ _ _ next _ 0 (Nat.zero_add _)
end Go.Proofs.Ytnlanlhhcgdjiaa.Pure
