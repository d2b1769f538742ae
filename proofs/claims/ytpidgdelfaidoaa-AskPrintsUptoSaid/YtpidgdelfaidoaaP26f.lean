/- Plain laws of chapter 26: what Print prints is the document's text of a question. -/
import Derived.Test.YtpidgdelfaidoaaP26e
namespace Go.Proofs.Ytpidgdelfaidoaa.Pure
open Go Go.Proofs.Ytpidgdelfaidoaa.E Go.Proofs.Ytpidgdelfaidoaa.Eng
set_option linter.unusedVariables false
set_option linter.unusedSimpArgs false
def termsL : Bool → List Trm → Tx
 | _, [] => []
 | b, t :: r => (if b = true then [119, 104, 101, 114, 101, 32] else [97, 110, 100, 32]) ++ termL t ++ termsL false r
def byL (q : Qry) : Tx := if q.2.1 = ⟨#[]⟩ then [] else [98, 121, 32] ++ quotedL q.2.1.data.toList ++ [32] ++ (if q.2.2.1 = true then [100, 111, 119, 110, 32] else [])
def printL (q : Qry) : Tx := termsL true q.1 ++ byL q ++ [109, 111, 115, 116, 32] ++ wholeL q.2.2.2.1
structure QOk (q : Qry) : Prop where
 n : q.1.length ≤ 12
 t : ∀ t ∈ q.1, TOk t
 b : q.2.1.size ≤ 300
 m1 : -9223372036854775808 ≤ q.2.2.2.1
 m2 : q.2.2.2.1 ≤ 9223372036854775807
theorem termsL_len : ∀ (l : List Trm) (b : Bool), (∀ t ∈ l, TOk t) → (termsL b l).length ≤ 4000 * l.length
 | [], _, _ => by simp [termsL]
 | t :: r, b, h => by
  have h1 := termL_len t (h t (List.mem_cons_self ..))
  have h2 := termsL_len r false (fun x hx => h x (List.mem_cons_of_mem _ hx))
  unfold termsL
  split <;> simp <;> omega
theorem byL_len (q : Qry) (h : QOk q) : (byL q).length ≤ 1300 := by
 have h1 := quotedL_len q.2.1.data.toList
 rw [← size_list] at h1
 have := h.b
 unfold byL
 repeat' split
 all_goals simp
 all_goals omega
theorem printL_len (q : Qry) (h : QOk q) : (printL q).length ≤ 50000 := by
 have h1 := termsL_len q.1 true h.t
 have h2 := byL_len q h
 have h3 := wholeL_len _ h.m1 h.m2
 have := h.n
 unfold printL; simp; omega
theorem by_empty (b : ByteArray) : (b.toList == (⟨#[]⟩ : ByteArray).toList) = decide (b = ⟨#[]⟩) := beq_text _ _
-- the document's
theorem pr_j1 (q : Qry) (h : QOk q) (o : Tx) (ho : o.length ≤ 100000) (a b c : _) : Runs (fun k => chartularylaw26_printed.j1 k (tx o) a b c q.2.2.2.1) ((tx (o ++ [109, 111, 115, 116, 32] ++ wholeL q.2.2.2.1), ()), ()) := by
 have h3 := wholeL_len _ h.m1 h.m2
 refine Runs.step (fun k => rfl) (app_ok (b := [109, 111, 115, 116, 32]) (by omega) (by simp) (Runs.bind (rwhole_ok _ h.m1 h.m2) ?_))
 have e : tx o ++ (⟨#[109, 111, 115, 116, 32]⟩ : ByteArray) = tx (o ++ [109, 111, 115, 116, 32]) := (tx_append _ _).symm
 rw [e]
 exact app_ok (by simp; omega) (by omega) (Runs.some' (congrArg (fun x => ((x, ()), ())) (tx_append _ _).symm))
theorem pr_end (q : Qry) (h : QOk q) (o : Tx) (ho : o.length ≤ 50000) (i : Nat) (hi : i = q.1.length) : Runs (fun k => chartularylaw26_printed.l0 k (tx o) (i : Int) q.1 q.2.1 q.2.2.1 q.2.2.2.1) ((tx (o ++ byL q ++ [109, 111, 115, 116, 32] ++ wholeL q.2.2.2.1), ()), ()) := by
 have hb := h.b
 have hq := quotedL_len q.2.1.data.toList
 rw [← size_list] at hq
 have qq := rquoted_ok q.2.1.data.toList (by rw [← size_list]; omega)
 rw [tx_self] at qq
 refine Runs.step (fun k => rfl) (Runs.no (by apply decide_eq_false; omega) (Runs.cond (fun hc => ?_) fun hc => ?_))
 ·have hc : ¬ q.2.1 = ⟨#[]⟩ := by rw [by_empty] at hc; simpa using hc
  have hby : byL q = [98, 121, 32] ++ quotedL q.2.1.data.toList ++ [32] ++ (if q.2.2.1 = true then [100, 111, 119, 110, 32] else []) := by unfold byL; rw [if_neg hc]
  refine app_ok (b := [98, 121, 32]) (by omega) (by simp) (Runs.bind qq ?_)
  have e : tx o ++ (⟨#[98, 121, 32]⟩ : ByteArray) = tx (o ++ [98, 121, 32]) := (tx_append _ _).symm
  rw [e]
  refine app_ok (by simp; omega) (by omega) ?_
  rw [← tx_append]
  refine app_ok (b := [32]) (by simp; omega) (by simp) ?_
  have e2 : tx (o ++ [98, 121, 32] ++ quotedL q.2.1.data.toList) ++ (⟨#[32]⟩ : ByteArray) = tx (o ++ [98, 121, 32] ++ quotedL q.2.1.data.toList ++ [32]) := (tx_append _ _).symm
  rw [e2]
  refine Runs.cond (fun hd => ?_) fun hd => ?_
  ·refine app_ok (b := [100, 111, 119, 110, 32]) (by simp; omega) (by simp) ?_
   have e3 : tx (o ++ [98, 121, 32] ++ quotedL q.2.1.data.toList ++ [32]) ++ (⟨#[100, 111, 119, 110, 32]⟩ : ByteArray) = tx (o ++ [98, 121, 32] ++ quotedL q.2.1.data.toList ++ [32] ++ [100, 111, 119, 110, 32]) := (tx_append _ _).symm
   rw [e3]
   refine (pr_j1 q h _ (by simp; omega) _ _ _).of_eq ?_
   rw [hby, if_pos hd]; simp
  ·refine (pr_j1 q h _ (by simp; omega) _ _ _).of_eq ?_
   rw [hby, if_neg (by rw [hd]; decide)]; simp
 ·have hc : q.2.1 = ⟨#[]⟩ := by rw [by_empty] at hc; simpa using hc
  have hby : byL q = [] := by unfold byL; rw [if_pos hc]
  refine (pr_j1 q h _ (by omega) _ _ _).of_eq ?_
  rw [hby]; simp
theorem pr_j4 (t : Trm) (ht : TOk t) (o : Tx) (ho : o.length ≤ 100000) {w : _} (i : Nat) (hi : i ≤ 1000) (x1 x2 x3 x4 a0 a3 a5 : _) {a1 : ValueT}
  (nx : ∀ p : Tx, p = o ++ (if t.2.2.2.2.1 = true then [116, 111, 32] ++ valueL t.2.2.1 ++ [32] else []) → Runs (fun k => chartularylaw26_printed.l0 k (tx p) ((i + 1 : Nat) : Int) x1 x2 x3 x4) w) :
  Runs (fun k => chartularylaw26_printed.j4 k (tx o) (i : Int) x1 x2 x3 x4 a0 a1 t.2.2.1 a3 t.2.2.2.2.1 a5) w := by
 have hv := valueL_len _ ht.h
 have hw : IntKind.wrap .i64 ((i : Int) + 1) = ((i + 1 : Nat) : Int) := by rw [wrap_i64 (by omega) (by omega)]; rfl
 refine Runs.step (fun k => rfl) (Runs.cond (fun hb => ?_) fun hb => ?_)
 ·refine app_ok (b := [116, 111, 32]) (by omega) (by simp) (Runs.bind (rvalue_ok _ ht.h) ?_)
  have e : tx o ++ (⟨#[116, 111, 32]⟩ : ByteArray) = tx (o ++ [116, 111, 32]) := (tx_append _ _).symm
  rw [e]
  refine app_ok (by simp; omega) (by omega) ?_
  rw [← tx_append]
  refine app_ok (b := [32]) (by simp; omega) (by simp) ?_
  have e2 : tx (o ++ [116, 111, 32] ++ valueL t.2.2.1) ++ (⟨#[32]⟩ : ByteArray) = tx (o ++ [116, 111, 32] ++ valueL t.2.2.1 ++ [32]) := (tx_append _ _).symm
  rw [e2, hw]
  exact nx _ (by rw [if_pos hb]; simp)
 ·rw [hw]
  exact nx _ (by rw [if_neg (by rw [hb]; decide)]; simp)
theorem pr_j3 (t : Trm) (ht : TOk t) (o : Tx) (ho : o.length ≤ 90000) {w : _} (i : Nat) (hi : i ≤ 1000) (x1 x2 x3 x4 a0 a5 : _)
  (nx : ∀ p : Tx, p = o ++ (if t.2.2.2.1 = true then [102, 114, 111, 109, 32] ++ valueL t.2.1 ++ [32] else []) ++ (if t.2.2.2.2.1 = true then [116, 111, 32] ++ valueL t.2.2.1 ++ [32] else []) → Runs (fun k => chartularylaw26_printed.l0 k (tx p) ((i + 1 : Nat) : Int) x1 x2 x3 x4) w) :
  Runs (fun k => chartularylaw26_printed.j3 k (tx o) (i : Int) x1 x2 x3 x4 a0 t.2.1 t.2.2.1 t.2.2.2.1 t.2.2.2.2.1 a5) w := by
 have hv := valueL_len _ ht.l
 refine Runs.step (fun k => rfl) (Runs.cond (fun hb => ?_) fun hb => ?_)
 ·refine app_ok (b := [102, 114, 111, 109, 32]) (by omega) (by simp) (Runs.bind (rvalue_ok _ ht.l) ?_)
  have e : tx o ++ (⟨#[102, 114, 111, 109, 32]⟩ : ByteArray) = tx (o ++ [102, 114, 111, 109, 32]) := (tx_append _ _).symm
  rw [e]
  refine app_ok (by simp; omega) (by omega) ?_
  rw [← tx_append]
  refine app_ok (b := [32]) (by simp; omega) (by simp) ?_
  have e2 : tx (o ++ [102, 114, 111, 109, 32] ++ valueL t.2.1) ++ (⟨#[32]⟩ : ByteArray) = tx (o ++ [102, 114, 111, 109, 32] ++ valueL t.2.1 ++ [32]) := (tx_append _ _).symm
  rw [e2]
  exact pr_j4 t ht _ (by simp; omega) i hi _ _ _ _ _ _ _ (fun p hp => nx p (by rw [hp, if_pos hb]; simp))
 ·exact pr_j4 t ht _ (by omega) i hi _ _ _ _ _ _ _ (fun p hp => nx p (by rw [hp, if_neg (show ¬ t.2.2.2.1 = true by rw [hb]; decide)]; simp))
theorem pr_j2 (t : Trm) (ht : TOk t) (o : Tx) (ho : o.length ≤ 80000) {w : _} (i : Nat) (hi : i ≤ 1000) (x1 x2 x3 x4 a5 : _)
  (nx : ∀ p : Tx, p = o ++ quotedL t.1.data.toList ++ [32] ++ tailL t → Runs (fun k => chartularylaw26_printed.l0 k (tx p) ((i + 1 : Nat) : Int) x1 x2 x3 x4) w) :
  Runs (fun k => chartularylaw26_printed.j2 k (tx o) (i : Int) x1 x2 x3 x4 t.1 t.2.1 t.2.2.1 t.2.2.2.1 t.2.2.2.2.1 a5) w := by
 have hn := ht.n
 have hq := quotedL_len t.1.data.toList
 rw [← size_list] at hq
 have qq := rquoted_ok t.1.data.toList (by rw [← size_list]; omega)
 rw [tx_self] at qq
 have hv := valueL_len _ ht.l
 have hw : IntKind.wrap .i64 ((i : Int) + 1) = ((i + 1 : Nat) : Int) := by rw [wrap_i64 (by omega) (by omega)]; rfl
 obtain ⟨p0, hp0⟩ : ∃ p0, p0 = o ++ quotedL t.1.data.toList ++ [32] := ⟨_, rfl⟩
 have hp0l : p0.length ≤ 82000 := by rw [hp0]; simp; omega
 rw [← hp0] at nx
 refine Runs.step (fun k => rfl) (Runs.bind qq (app_ok (by omega) (by omega) ?_))
 rw [← tx_append]
 refine app_ok (b := [32]) (by simp; omega) (by simp) ?_
 have e : tx (o ++ quotedL t.1.data.toList) ++ (⟨#[32]⟩ : ByteArray) = tx p0 := by rw [hp0]; exact (tx_append _ _).symm
 rw [e]
 have there (he : t.2.2.2.1 = false) (hf : t.2.2.2.2.1 = false) : Runs (fun k => (ck (decide ((tx p0).size + (⟨#[116, 104, 101, 114, 101, 32]⟩ : ByteArray).size ≤ 9223372036854775807))).bind fun _ => chartularylaw26_printed.j3 k (tx p0 ++ (⟨#[116, 104, 101, 114, 101, 32]⟩ : ByteArray)) (i : Int) x1 x2 x3 x4 t.1 t.2.1 t.2.2.1 t.2.2.2.1 t.2.2.2.2.1 a5) w := by
  refine app_ok (b := [116, 104, 101, 114, 101, 32]) (by omega) (by simp) ?_
  have e3 : tx p0 ++ (⟨#[116, 104, 101, 114, 101, 32]⟩ : ByteArray) = tx (p0 ++ [116, 104, 101, 114, 101, 32]) := (tx_append _ _).symm
  rw [e3]
  refine pr_j3 t ht _ (by simp; omega) i hi _ _ _ _ _ _ (fun p hp => nx p ?_)
  rw [hp, if_neg (show ¬ t.2.2.2.1 = true by rw [he]; decide), if_neg (show ¬ t.2.2.2.2.1 = true by rw [hf]; decide)]
  unfold tailL; rw [if_neg (fun e => by rw [he] at e; cases e.1), if_pos ⟨he, hf⟩]; simp
 have more (hs : tailL t = (if t.2.2.2.1 = true then [102, 114, 111, 109, 32] ++ valueL t.2.1 ++ [32] else []) ++ (if t.2.2.2.2.1 = true then [116, 111, 32] ++ valueL t.2.2.1 ++ [32] else [])) : Runs (fun k => chartularylaw26_printed.j3 k (tx p0) (i : Int) x1 x2 x3 x4 t.1 t.2.1 t.2.2.1 t.2.2.2.1 t.2.2.2.2.1 a5) w :=
  pr_j3 t ht _ (by omega) i hi _ _ _ _ _ _ (fun p hp => nx p (by rw [hp, hs]; simp))
 refine Runs.cond (fun hd => Runs.cond (fun he => Runs.cond (fun hq => ?_) fun hq => ?_) fun he => ?_) fun hd => ?_
 ·have hq' : t.2.1 = t.2.2.1 := (eqVB_iff _ _).mp hq
  refine app_ok (b := [105, 115, 32]) (by omega) (by simp) (Runs.bind (rvalue_ok _ ht.l) ?_)
  have e3 : tx p0 ++ (⟨#[105, 115, 32]⟩ : ByteArray) = tx (p0 ++ [105, 115, 32]) := (tx_append _ _).symm
  rw [e3]
  refine app_ok (by simp; omega) (by omega) ?_
  rw [← tx_append]
  refine app_ok (b := [32]) (by simp; omega) (by simp) ?_
  have e4 : tx (p0 ++ [105, 115, 32] ++ valueL t.2.1) ++ (⟨#[32]⟩ : ByteArray) = tx (p0 ++ [105, 115, 32] ++ valueL t.2.1 ++ [32]) := (tx_append _ _).symm
  rw [e4, hw]
  refine nx _ ?_
  unfold tailL; rw [if_pos ⟨hd, he, hq'⟩]; simp
 ·have hq : ¬ t.2.1 = t.2.2.1 := fun e => by have := (eqVB_iff _ _).mpr e; unfold eqVB at this; rw [this] at hq; cases hq
  refine Runs.no (by rw [hd]; rfl) (more ?_)
  unfold tailL; rw [if_neg (fun e => hq e.2.2), if_neg (fun e => by rw [hd] at e; cases e.1)]
 ·refine Runs.no (by rw [hd]; rfl) (more ?_)
  unfold tailL; rw [if_neg (fun e => by rw [he] at e; cases e.2.1), if_neg (fun e => by rw [hd] at e; cases e.1)]
 ·refine Runs.yes (by rw [hd]; rfl) (Runs.cond (fun he => ?_) fun he => ?_)
  ·exact there hd (by simpa using he)
  ·have he : t.2.2.2.2.1 = true := by simpa using he
   refine more ?_
   unfold tailL; rw [if_neg (fun e => by rw [hd] at e; cases e.1), if_neg (fun e => by rw [he] at e; cases e.2)]
theorem pr_j0 (t : Trm) (ht : TOk t) (o : Tx) (ho : o.length ≤ 70000) {w : _} (i : Nat) (hi : i ≤ 1000) (x1 x2 x3 x4 : _)
  (nx : ∀ p : Tx, p = o ++ termL t → Runs (fun k => chartularylaw26_printed.l0 k (tx p) ((i + 1 : Nat) : Int) x1 x2 x3 x4) w) :
  Runs (fun k => chartularylaw26_printed.j0 k (tx o) (i : Int) x1 x2 x3 x4 t.1 t.2.1 t.2.2.1 t.2.2.2.1 t.2.2.2.2.1 t.2.2.2.2.2.1) w := by
 refine Runs.step (fun k => rfl) (Runs.cond (fun hb => ?_) fun hb => ?_)
 ·refine app_ok (b := [110, 111, 116, 32]) (by omega) (by simp) ?_
  have e : tx o ++ (⟨#[110, 111, 116, 32]⟩ : ByteArray) = tx (o ++ [110, 111, 116, 32]) := (tx_append _ _).symm
  rw [e]
  exact pr_j2 t ht _ (by simp; omega) i hi _ _ _ _ _ (fun p hp => nx p (by rw [hp]; unfold termL; rw [if_pos hb]; simp))
 ·exact pr_j2 t ht _ (by omega) i hi _ _ _ _ _ (fun p hp => nx p (by rw [hp]; unfold termL; rw [if_neg (show ¬ t.2.2.2.2.2.1 = true by rw [hb]; decide)]; simp))
theorem pr_loop (q : Qry) (h : QOk q) : ∀ (r : List Trm) (i : Nat) (o : Tx), q.1.drop i = r → i + r.length = q.1.length → o.length ≤ 4000 * i →
  Runs (fun k => chartularylaw26_printed.l0 k (tx o) (i : Int) q.1 q.2.1 q.2.2.1 q.2.2.2.1) ((tx (o ++ termsL (decide (i = 0)) r ++ byL q ++ [109, 111, 115, 116, 32] ++ wholeL q.2.2.2.1), ()), ()) := by
 have hn := h.n
 intro r
 induction r with
 | nil =>
  intro i o hd hi ho
  refine (pr_end q h o (by simp at hi; omega) i (by simpa using hi)).of_eq ?_
  simp [termsL]
 | cons t r ih =>
  intro i o hd hi ho
  have hil : i < q.1.length := by simp at hi; omega
  have ht : q.1[i] = t := by
   have := List.drop_eq_getElem_cons hil
   rw [hd] at this; injection this with h1 h2; exact h1.symm
  have hd' : q.1.drop (i + 1) = r := by
   have := List.drop_eq_getElem_cons hil
   rw [hd] at this; injection this with h1 h2; exact h2.symm
  have htk : TOk t := h.t t (by rw [← ht]; exact List.getElem_mem hil)
  have htl := termL_len t htk
  have nx (p : Tx) (hp : p.length ≤ 4000 * (i + 1)) := ih (i + 1) p hd' (by simp at hi ⊢; omega) hp
  refine Runs.step (fun k => rfl) (Runs.yes (by apply decide_eq_true; omega) (Runs.opt (rdo_at hil) ?_))
  rw [ht]
  refine Runs.cond (fun h0 => ?_) fun h0 => ?_
  ·have h0 : i = 0 := by have := eq_of_beq h0; omega
   refine app_ok (b := [119, 104, 101, 114, 101, 32]) (by omega) (by simp) ?_
   have e : tx o ++ (⟨#[119, 104, 101, 114, 101, 32]⟩ : ByteArray) = tx (o ++ [119, 104, 101, 114, 101, 32]) := (tx_append _ _).symm
   rw [e]
   refine pr_j0 t htk _ (by simp; omega) i (by omega) _ _ _ _ (fun p hp => ?_)
   refine (nx p (by rw [hp]; simp; omega)).of_eq ?_
   rw [hp, decide_eq_false (by omega : ¬ i + 1 = 0), decide_eq_true h0]; simp [termsL]
  ·have h0 : ¬ i = 0 := fun e => by subst e; cases h0
   refine app_ok (b := [97, 110, 100, 32]) (by omega) (by simp) ?_
   have e : tx o ++ (⟨#[97, 110, 100, 32]⟩ : ByteArray) = tx (o ++ [97, 110, 100, 32]) := (tx_append _ _).symm
   rw [e]
   refine pr_j0 t htk _ (by simp; omega) i (by omega) _ _ _ _ (fun p hp => ?_)
   refine (nx p (by rw [hp]; simp; omega)).of_eq ?_
   rw [hp, decide_eq_false (by omega : ¬ i + 1 = 0), decide_eq_false h0]; simp [termsL]
theorem printed_ok (q : Qry) (h : QOk q) : Runs (fun k => chartularylaw26_printed.f k q) ((tx (printL q), ()), ()) :=
 Runs.step (fun k => rfl) ((pr_loop q h q.1 0 [] rfl (by simp) (by simp)).of_eq (by simp [printL]))
end Go.Proofs.Ytpidgdelfaidoaa.Pure
