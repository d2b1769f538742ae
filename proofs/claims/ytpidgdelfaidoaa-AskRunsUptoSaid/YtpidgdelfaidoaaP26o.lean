/- Plain laws of chapter 26: questions read; queries cut, said, compared. -/
import Derived.Test.YtpidgdelfaidoaaP26n
namespace Go.Proofs.Ytpidgdelfaidoaa.Pure
open Go Go.Proofs.Ytpidgdelfaidoaa.E Go.Proofs.Ytpidgdelfaidoaa.Eng
set_option linter.unusedVariables false
set_option linter.unusedSimpArgs false
section
variable (L : List Tok) (hL : L.length ≤ 100000) (e : Int)
def saidQ (q : Qry) : Qry := (q.1.map saidT, q.2.1, q.2.2.1 && !decide (q.2.1 = ⟨#[]⟩), q.2.2.2.1, ())
theorem by_head (q : Qry) {x : Int × Tx} (hx : x ≠ (0, [109, 111, 115, 116])) (h2 : x ≠ (0, [98, 121])) : (byT q ++ [(0, [109, 111, 115, 116]), (1, wholeL q.2.2.2.1)]).head? ≠ some x := by
 unfold byT
 split
 ·intro e; injection e with e; exact hx e.symm
 ·intro e; injection e with e; exact h2 e.symm
theorem terms_head (q : Qry) (r : List Trm) {x : Int × Tx} (hx : x ≠ (0, [109, 111, 115, 116])) (h2 : x ≠ (0, [98, 121])) (h3 : x ≠ (0, [97, 110, 100])) : (termsT false r ++ (byT q ++ [(0, [109, 111, 115, 116]), (1, wholeL q.2.2.2.1)])).head? ≠ some x := by
 cases r with
 | nil => exact by_head q hx h2
 | cons t r => intro e; injection e with e; exact h3 e.symm
include hL
theorem read_j1 (q : Qry) (z0 : 0 ≤ q.2.2.2.1) (z2 : q.2.2.2.1 ≤ 9223372036854775807) (i : Nat) (h : RestT L i [(0, [109, 111, 115, 116]), (1, wholeL q.2.2.2.1)]) (a0 a1 a2 a3 ts) (b : ByteArray) (d : Bool) (m : Int) :
  Runs (fun n => ask_Read.j1 n a0 a1 a2 a3 L (i : Int) e (-1) ts b d m) (((ts, (b, (d, (q.2.2.2.1, ())))), 0, 0, ()), ()) := by
 have hn := h.n
 simp at hn
 refine Runs.step (fun n => rfl) (Runs.bind (word_yes L hL e i [109, 111, 115, 116] h) (Runs.yes rfl (Runs.bind (anumber_ok L hL e q.2.2.2.1 z0 z2 (i + 1) h.next) ?_)))
 exact Runs.step (fun n => rfl) (Runs.no (by apply decide_eq_false; show ¬ (((i + 1 + 1 : Nat) : Int) < (L.length : Int)); omega) (Runs.step (fun n => rfl) Runs.some))
theorem read_j0 (q : Qry) (z0 : 0 ≤ q.2.2.2.1) (z2 : q.2.2.2.1 ≤ 9223372036854775807) (i : Nat) (h : RestT L i (byT q ++ [(0, [109, 111, 115, 116]), (1, wholeL q.2.2.2.1)])) (a0 a1 a2 a3 ts) (m : Int) :
  Runs (fun n => ask_Read.j0 n a0 a1 a2 a3 L (i : Int) e (-1) ts ByteArray.empty false m) (((ts, (q.2.1, (q.2.2.1 && !decide (q.2.1 = ⟨#[]⟩), (q.2.2.2.1, ())))), 0, 0, ()), ()) := by
 unfold byT at h
 by_cases hb : q.2.1 = ⟨#[]⟩
 ·rw [if_pos hb] at h
  have h : RestT L i [(0, [109, 111, 115, 116]), (1, wholeL q.2.2.2.1)] := h
  have e1 : (q.2.2.1 && !decide (q.2.1 = ⟨#[]⟩)) = false := by rw [decide_eq_true hb]; simp
  rw [e1]
  refine Runs.step (fun n => rfl) (Runs.bind (word_no L hL e i [98, 121] h (by simp)) (Runs.no rfl ?_))
  have := read_j1 L hL e q z0 z2 i h a0 a1 a2 a3 ts ByteArray.empty false m
  rw [hb]
  exact this
 ·rw [if_neg hb] at h
  have e1 : (q.2.2.1 && !decide (q.2.1 = ⟨#[]⟩)) = q.2.2.1 := by rw [decide_eq_false hb]; simp
  rw [e1]
  have hne : ((tx q.2.1.data.toList).toList == (⟨#[]⟩ : ByteArray).toList) = false := by rw [tx_self, beq_text]; exact decide_eq_false hb
  cases hd : q.2.2.1
  ·rw [hd] at h
   have h : RestT L i ((0, [98, 121]) :: (2, q.2.1.data.toList) :: [(0, [109, 111, 115, 116]), (1, wholeL q.2.2.2.1)]) := h
   refine Runs.step (fun n => rfl) (Runs.bind (word_yes L hL e i [98, 121] h) (Runs.yes rfl (Runs.bind (name_ok L hL e (i + 1) _ h.next) (Runs.no hne (Runs.bind (word_no L hL e (i + 1 + 1) [100, 111, 119, 110] h.next.next (by simp)) ?_)))))
   have := read_j1 L hL e q z0 z2 (i + 1 + 1) h.next.next a0 a1 a2 a3 ts (tx q.2.1.data.toList) false m
   rw [tx_self] at this
   show Runs (fun n => ask_Read.j1 n a0 a1 a2 a3 L ((i + 1 + 1 : Nat) : Int) e (-1) ts (tx q.2.1.data.toList) false m) _
   rw [tx_self]; exact this
  ·rw [hd] at h
   have h : RestT L i ((0, [98, 121]) :: (2, q.2.1.data.toList) :: (0, [100, 111, 119, 110]) :: [(0, [109, 111, 115, 116]), (1, wholeL q.2.2.2.1)]) := h
   refine Runs.step (fun n => rfl) (Runs.bind (word_yes L hL e i [98, 121] h) (Runs.yes rfl (Runs.bind (name_ok L hL e (i + 1) _ h.next) (Runs.no hne (Runs.bind (word_yes L hL e (i + 1 + 1) [100, 111, 119, 110] h.next.next) ?_)))))
   have := read_j1 L hL e q z0 z2 (i + 1 + 1 + 1) h.next.next.next a0 a1 a2 a3 ts (tx q.2.1.data.toList) true m
   rw [tx_self] at this
   show Runs (fun n => ask_Read.j1 n a0 a1 a2 a3 L ((i + 1 + 1 + 1 : Nat) : Int) e (-1) ts (tx q.2.1.data.toList) true m) _
   rw [tx_self]; exact this
theorem read_l0 (q : Qry) (z0 : 0 ≤ q.2.2.2.1) (z2 : q.2.2.2.1 ≤ 9223372036854775807) (a0 a1 a2 a3) (m : Int) : ∀ (r : List Trm) (i : Nat) (ts : List Trm), (∀ t ∈ r, TForm t) → RestT L i (termsT false r ++ (byT q ++ [(0, [109, 111, 115, 116]), (1, wholeL q.2.2.2.1)])) → ts.length + r.length ≤ 100 →
  Runs (fun n => ask_Read.l0 n a0 a1 a2 a3 L (i : Int) e (-1) ts ByteArray.empty false m) (((ts ++ r.map saidT, (q.2.1, (q.2.2.1 && !decide (q.2.1 = ⟨#[]⟩), (q.2.2.2.1, ())))), 0, 0, ()), ()) := by
 intro r
 induction r with
 | nil =>
  intro i ts ht h hlen
  have h : RestT L i (byT q ++ [(0, [109, 111, 115, 116]), (1, wholeL q.2.2.2.1)]) := h
  refine Runs.step (fun n => rfl) (Runs.bind (word_no L hL e i [97, 110, 100] h (by_head q (by decide) (by decide))) (Runs.no rfl ?_))
  simp only [List.map_nil, List.append_nil]
  exact read_j0 L hL e q z0 z2 i h a0 a1 a2 a3 ts m
 | cons t r ih =>
  intro i ts ht h hlen
  simp only [List.length_cons] at hlen
  have h : RestT L i ((0, [97, 110, 100]) :: (termT t ++ (termsT false r ++ (byT q ++ [(0, [109, 111, 115, 116]), (1, wholeL q.2.2.2.1)])))) := by
   have : termsT false (t :: r) ++ (byT q ++ [(0, [109, 111, 115, 116]), (1, wholeL q.2.2.2.1)]) = (0, [97, 110, 100]) :: (termT t ++ (termsT false r ++ (byT q ++ [(0, [109, 111, 115, 116]), (1, wholeL q.2.2.2.1)]))) := by simp [termsT]
   rw [← this]; exact h
  have nx := ih (i + 1 + (termT t).length) (ts ++ [saidT t]) (fun x hx => ht x (List.mem_cons_of_mem _ hx)) h.next.tail (by simp; omega)
  refine Runs.step (fun n => rfl) (Runs.bind (word_yes L hL e i [97, 110, 100] h) (Runs.yes rfl (Runs.bind (aterm_ok L hL e t (ht t (List.mem_cons_self ..)) (i + 1) h.next (terms_head q r (by decide) (by decide) (by decide))) (Runs.ck ?_ (nx.of_eq ?_)))))
  ·apply decide_eq_true; show (ts.length + 1) * 120 ≤ _; omega
  ·simp
end
theorem read_ok (q : Qry) (z0 : 0 ≤ q.2.2.2.1) (z2 : q.2.2.2.1 ≤ 9223372036854775807) (hn : q.1.length ≤ 12) (hf : ∀ t ∈ q.1, TForm t) (s : Tx) (hs : s.length ≤ 65536) (h : Lx s (toksQ q)) (hl : (toksQ q).length ≤ 100000) :
  Runs (fun n => ask_Read.f n (tx s)) ((saidQ q, 0, 0, ()), ()) := by
 obtain ⟨L, hm, hr⟩ := tokens_ok s hs h hl
 have hL : L.length ≤ 100000 := by have := congrArg List.length hm; simp at this; omega
 have hrest := RestT.of_map hm
 refine Runs.step (fun n => rfl) (Runs.bind hr (Runs.no rfl ?_))
 unfold toksQ at hrest
 rw [List.append_assoc] at hrest
 obtain ⟨ts, b, d, m, ⟨⟩⟩ := q
 cases ts with
 | nil =>
  have hrest : RestT L 0 (byT ([], b, d, m, ()) ++ [(0, [109, 111, 115, 116]), (1, wholeL m)]) := hrest
  refine Runs.bind (word_no L hL _ 0 [119, 104, 101, 114, 101] hrest (by_head ([], b, d, m, ()) (by decide) (by decide))) (Runs.no rfl ?_)
  exact read_j0 L hL _ ([], b, d, m, ()) z0 z2 0 hrest _ _ _ _ [] 64
 | cons t r =>
  have hrest : RestT L 0 ((0, [119, 104, 101, 114, 101]) :: (termT t ++ (termsT false r ++ (byT (t :: r, b, d, m, ()) ++ [(0, [109, 111, 115, 116]), (1, wholeL m)])))) := by
   have : termsT true (t :: r) ++ (byT (t :: r, b, d, m, ()) ++ [(0, [109, 111, 115, 116]), (1, wholeL m)]) = (0, [119, 104, 101, 114, 101]) :: (termT t ++ (termsT false r ++ (byT (t :: r, b, d, m, ()) ++ [(0, [109, 111, 115, 116]), (1, wholeL m)]))) := by simp [termsT]
   rw [← this]; exact hrest
  have hn' : r.length ≤ 12 := by have : r.length + 1 ≤ 12 := hn; omega
  refine Runs.bind (word_yes L hL _ 0 [119, 104, 101, 114, 101] hrest) (Runs.yes rfl (Runs.bind (aterm_ok L hL _ t (hf t (List.mem_cons_self ..)) 1 hrest.next (terms_head (t :: r, b, d, m, ()) r (by decide) (by decide) (by decide))) ?_))
  have nx := read_l0 L hL (tx s).size (t :: r, b, d, m, ()) z0 z2 ([] : List Trm) ByteArray.empty false 0 64 r (1 + (termT t).length) [saidT t] (fun x hx => hf x (List.mem_cons_of_mem _ hx)) hrest.next.tail (by show 1 + r.length ≤ 100; omega)
  exact nx
-- queries compared
end Go.Proofs.Ytpidgdelfaidoaa.Pure
