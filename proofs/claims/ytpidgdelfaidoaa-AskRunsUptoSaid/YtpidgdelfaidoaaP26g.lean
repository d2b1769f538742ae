/- Plain laws of chapter 26: what Print prints. -/
import Derived.Test.YtpidgdelfaidoaaP26f
namespace Go.Proofs.Ytpidgdelfaidoaa.Pure
open Go Go.Proofs.Ytpidgdelfaidoaa.E Go.Proofs.Ytpidgdelfaidoaa.Eng
set_option linter.unusedVariables false
set_option linter.unusedSimpArgs false
def termsP : Bool → List Trm → List Tx
 | _, [] => []
 | b, t :: r => (if b = true then [119, 104, 101, 114, 101] else [97, 110, 100]) :: termW t :: termsP false r
def byP (q : Qry) : List Tx := if q.2.1 = ⟨#[]⟩ then [] else [[98, 121], quotedL q.2.1.data.toList] ++ (if q.2.2.1 = true then [[100, 111, 119, 110]] else [])
theorem joinB_append : ∀ a b : List Tx, joinB (a ++ b) = joinB a ++ joinB b
 | [], b => rfl
 | x :: a, b => by simp [joinB, joinB_append a b]
theorem joinB_terms : ∀ (l : List Trm) (b : Bool), joinB (termsP b l) = termsL b l
 | [], _ => rfl
 | t :: r, b => by
  have h := termW_eq t
  have ih := joinB_terms r false
  unfold termsP termsL joinB
  unfold joinB
  rw [ih, ← h]
  cases b <;> simp
theorem joinB_by (q : Qry) : joinB (byP q) = byL q := by
 unfold byP byL
 split
 ·rfl
 ·split <;> simp [joinB]
def piecesL (q : Qry) : List Tx := termsP true q.1 ++ byP q ++ [[109, 111, 115, 116], wholeL q.2.2.2.1]
theorem pieces_join (q : Qry) : joinB (piecesL q) = printL q ++ [32] := by
 unfold piecesL printL
 rw [joinB_append, joinB_append, joinB_terms, joinB_by]
 simp [joinB]
theorem joinB_lens : ∀ l : List Tx, (joinB l).length = lens l + l.length
 | [] => rfl
 | x :: r => by simp [joinB, lens, joinB_lens r]; omega
theorem pieces_cons (q : Qry) : ∃ x y r, piecesL q = x :: y :: r ∧ x ≠ [] := by
 unfold piecesL
 cases hq : q.1 with
 | cons t r => exact ⟨_, _, _, rfl, by simp⟩
 | nil =>
  simp only [termsP, List.nil_append]
  unfold byP
  split
  ·exact ⟨_, _, _, rfl, by simp⟩
  ·exact ⟨_, _, _, rfl, by simp⟩
theorem pieces_ok (q : Qry) (h : QOk q) : Runs (fun k => strings_Join.f k ((piecesL q).map tx) (tx [32])) ((tx (printL q), ()), ()) := by
 obtain ⟨x, y, r, e, hx⟩ := pieces_cons q
 have hj := pieces_join q
 have hl := joinB_lens (piecesL q)
 have hp := printL_len q h
 rw [hj] at hl
 rw [e] at hl hj ⊢
 refine (join_ok x (y :: r) (by simp at hl ⊢; omega) (by simp) hx).of_eq ?_
 have : joinL (x :: y :: r) = printL q := by
  have := joinL_eq x (y :: r)
  rw [hj] at this
  exact List.append_cancel_right this
 rw [this]
theorem pt_j0 (q : Qry) (h : QOk q) (p : List Tx) (hp : p.length ≤ 1000) (he : p ++ [[109, 111, 115, 116], wholeL q.2.2.2.1] = piecesL q) (a b c : _) : Runs (fun k => ask_Print.j0 k (p.map tx) a b c q.2.2.2.1) ((tx (printL q), ()), ()) := by
 have v := value_ok (2, (false, (q.2.2.2.1, (0, (ByteArray.empty, ()))))) ⟨h.m1, h.m2, by show (0 : Int) ≤ 0; omega, by show (0 : Int) < _; omega, by show (0 : Nat) ≤ _; omega⟩
 refine Runs.step (fun k => rfl) (Runs.bind v (Runs.ck (by apply decide_eq_true; rw [List.length_map]; show (p.length + 2) * 16 ≤ _; omega) ?_))
 have e : p.map tx ++ ([(⟨#[109, 111, 115, 116]⟩ : ByteArray), tx (valueL (2, (false, (q.2.2.2.1, (0, (ByteArray.empty, ()))))))] : List ByteArray) = (piecesL q).map tx := by
  rw [← he, List.map_append]; rfl
 show Runs (fun k => (strings_Join.f k (p.map tx ++ ([(⟨#[109, 111, 115, 116]⟩ : ByteArray), tx (valueL (2, (false, (q.2.2.2.1, (0, (ByteArray.empty, ()))))))] : List ByteArray)) (tx [32])).bind _) _
 rw [e]
 exact Runs.bind (pieces_ok q h) Runs.some
theorem pt_loop (q : Qry) (h : QOk q) (a0 : List Trm) : ∀ (r : List Trm) (i : Nat) (p : List Tx), q.1.drop i = r → i + r.length = q.1.length → p.length = 2 * i → p ++ termsP (decide (i = 0)) r = termsP true q.1 →
  Runs (fun k => ask_Print.l0 k (p.map tx) q.1 (q.1.length : Int) (i : Int) a0 q.2.1 q.2.2.1 q.2.2.2.1) ((tx (printL q), ()), ()) := by
 have hn := h.n
 intro r
 induction r with
 | nil =>
  intro i p hd hi hp he
  have he : p = termsP true q.1 := by simpa [termsP] using he
  have hb := h.b
  have hil : i = q.1.length := by simpa using hi
  have qq := quoted_ok q.2.1.data.toList (by rw [← size_list]; omega)
  rw [tx_self] at qq
  refine Runs.step (fun k => rfl) (Runs.no (by apply decide_eq_false; omega) (Runs.cond (fun hc => ?_) fun hc => ?_))
  ·have hc : ¬ q.2.1 = ⟨#[]⟩ := by rw [by_empty] at hc; simpa using hc
   have hby : byP q = [[98, 121], quotedL q.2.1.data.toList] ++ (if q.2.2.1 = true then [[100, 111, 119, 110]] else []) := by unfold byP; rw [if_neg hc]
   refine Runs.bind qq (Runs.ck (by apply decide_eq_true; rw [List.length_map]; show (p.length + 2) * 16 ≤ _; omega) ?_)
   have e : p.map tx ++ ([(⟨#[98, 121]⟩ : ByteArray), tx (quotedL q.2.1.data.toList)] : List ByteArray) = (p ++ [[98, 121], quotedL q.2.1.data.toList]).map tx := by rw [List.map_append]; rfl
   show Runs (fun k => bif q.2.2.1 then (ck (decide (((p.map tx ++ ([(⟨#[98, 121]⟩ : ByteArray), tx (quotedL q.2.1.data.toList)] : List ByteArray)).length + _) * 16 ≤ _))).bind fun _ => ask_Print.j0 k ((p.map tx ++ ([(⟨#[98, 121]⟩ : ByteArray), tx (quotedL q.2.1.data.toList)] : List ByteArray)) ++ _) a0 q.2.1 q.2.2.1 q.2.2.2.1 else ask_Print.j0 k (p.map tx ++ ([(⟨#[98, 121]⟩ : ByteArray), tx (quotedL q.2.1.data.toList)] : List ByteArray)) a0 q.2.1 q.2.2.1 q.2.2.2.1) _
   rw [e]
   refine Runs.cond (fun hd => ?_) fun hd => ?_
   ·refine Runs.ck (by apply decide_eq_true; rw [List.length_map]; show ((p ++ [[98, 121], quotedL q.2.1.data.toList]).length + 1) * 16 ≤ _; simp; omega) ?_
    have e2 : (p ++ [[98, 121], quotedL q.2.1.data.toList]).map tx ++ ([(⟨#[100, 111, 119, 110]⟩ : ByteArray)] : List ByteArray) = (p ++ [[98, 121], quotedL q.2.1.data.toList] ++ [[100, 111, 119, 110]]).map tx := by rw [List.map_append (l₁ := p ++ [[98, 121], quotedL q.2.1.data.toList])]; rfl
    rw [e2]
    refine pt_j0 q h _ (by simp; omega) ?_ _ _ _
    unfold piecesL; rw [hby, if_pos hd, he]; simp
   ·refine pt_j0 q h _ (by simp; omega) ?_ _ _ _
    unfold piecesL; rw [hby, if_neg (by rw [hd]; decide), he]; simp
  ·have hc : q.2.1 = ⟨#[]⟩ := by rw [by_empty] at hc; simpa using hc
   have hby : byP q = [] := by unfold byP; rw [if_pos hc]
   refine pt_j0 q h _ (by omega) ?_ _ _ _
   unfold piecesL; rw [hby, he]; simp
 | cons t r ih =>
  intro i p hd hi hp he
  have hil : i < q.1.length := by simp at hi; omega
  have ht : q.1[i] = t := by
   have := List.drop_eq_getElem_cons hil
   rw [hd] at this; injection this with h1 h2; exact h1.symm
  have hd' : q.1.drop (i + 1) = r := by
   have := List.drop_eq_getElem_cons hil
   rw [hd] at this; injection this with h1 h2; exact h2.symm
  have htk : TOk t := h.t t (by rw [← ht]; exact List.getElem_mem hil)
  have tk := term_ok t htk
  have hw : IntKind.wrap .i64 ((i : Int) + 1) = ((i + 1 : Nat) : Int) := by rw [wrap_i64 (by omega) (by omega)]; rfl
  have nx (w : Tx) (hpw : p ++ [w, termW t] ++ termsP false r = termsP true q.1) := ih (i + 1) (p ++ [w, termW t]) hd' (by simp at hi ⊢; omega) (by simp; omega) (by rw [decide_eq_false (by omega : ¬ i + 1 = 0)]; exact hpw)
  refine Runs.step (fun k => rfl) (Runs.yes (by apply decide_eq_true; omega) (Runs.opt (rdo_at hil) ?_))
  rw [ht, hw]
  refine Runs.cond (fun h0 => ?_) fun h0 => ?_
  ·have h0 : i = 0 := by have := eq_of_beq h0; omega
   refine Runs.ck (by apply decide_eq_true; rw [List.length_map]; show (p.length + 1) * 16 ≤ _; omega) (Runs.bind tk (Runs.ck (by apply decide_eq_true; rw [List.length_append, List.length_map]; show (p.length + 1 + 1) * 16 ≤ _; omega) ?_))
   have e : (p.map tx ++ ([(⟨#[119, 104, 101, 114, 101]⟩ : ByteArray)] : List ByteArray)) ++ ([tx (termW t)] : List ByteArray) = (p ++ [[119, 104, 101, 114, 101], termW t]).map tx := by rw [List.map_append, List.append_assoc]; rfl
   show Runs (fun k => ask_Print.l0 k ((p.map tx ++ ([(⟨#[119, 104, 101, 114, 101]⟩ : ByteArray)] : List ByteArray)) ++ ([tx (termW t)] : List ByteArray)) _ _ _ _ _ _ _) _
   rw [e]
   exact nx _ (by rw [← he, decide_eq_true h0]; simp [termsP])
  ·have h0 : ¬ i = 0 := fun e => by subst e; cases h0
   refine Runs.ck (by apply decide_eq_true; rw [List.length_map]; show (p.length + 1) * 16 ≤ _; omega) (Runs.bind tk (Runs.ck (by apply decide_eq_true; rw [List.length_append, List.length_map]; show (p.length + 1 + 1) * 16 ≤ _; omega) ?_))
   have e : (p.map tx ++ ([(⟨#[97, 110, 100]⟩ : ByteArray)] : List ByteArray)) ++ ([tx (termW t)] : List ByteArray) = (p ++ [[97, 110, 100], termW t]).map tx := by rw [List.map_append, List.append_assoc]; rfl
   show Runs (fun k => ask_Print.l0 k ((p.map tx ++ ([(⟨#[97, 110, 100]⟩ : ByteArray)] : List ByteArray)) ++ ([tx (termW t)] : List ByteArray)) _ _ _ _ _ _ _) _
   rw [e]
   exact nx _ (by rw [← he, decide_eq_false h0]; simp [termsP])
theorem print_ok (q : Qry) (h : QOk q) (hq : QryOk q) (hc : checkA q = 0) : Runs (fun k => ask_Print.f k q) ((tx (printL q), ()), ()) := by
 refine Runs.step (fun k => rfl) (Runs.bind (fcheck_ok q hq) (Runs.no (by rw [hc]; rfl) ?_))
 exact pt_loop q h q.1 q.1 0 [] rfl (by simp) rfl (by simp)
theorem print_no (q : Qry) (hq : QryOk q) (hc : checkA q ≠ 0) : Runs (fun k => ask_Print.f k q) ((tx [], ()), ()) := by
 refine Runs.step (fun k => rfl) (Runs.bind (fcheck_ok q hq) (Runs.yes ?_ Runs.some))
 simpa using hc
end Go.Proofs.Ytpidgdelfaidoaa.Pure
