/- Plain laws of chapter 26: what Print prints is the document's text of a question. -/
import Derived.Test.YtpidgdelfaidoaaP26e
namespace Go.Proofs.Ytpidgdelfaidoaa.Pure
open Go Go.Proofs.Ytpidgdelfaidoaa.E Go.Proofs.Ytpidgdelfaidoaa.Eng
set_option linter.unusedVariables false
set_option linter.unusedSimpArgs false
def termsL : Bool → List Trm → Tx
 | _, [] => []
 | b, t :: r => (if b = true then [119, 104, 101, 114, 101, 32] else [97, 110, 100, 32]) ++ termL t ++ termsL false r
def byL (q : Qry) : Tx := if q.2.1 = ⟨#[]⟩ then [] else [98, 121, 32] ++ quotedL q.2.1.data.toList ++ [32] ++ (if q.2.2.1 = true then [100, 111, 119, 110, 32] else [])
def printL (q : Qry) : Tx := termsL true q.1 ++ byL q ++ [109, 111, 115, 116, 32] ++ wholeL q.2.2.2.1
structure QOk (q : Qry) : Prop where
 n : q.1.length ≤ 12
 t : ∀ t ∈ q.1, TOk t
 b : q.2.1.size ≤ 300
 m1 : -9223372036854775808 ≤ q.2.2.2.1
 m2 : q.2.2.2.1 ≤ 9223372036854775807
theorem termsL_len : ∀ (l : List Trm) (b : Bool), (∀ t ∈ l, TOk t) → (termsL b l).length ≤ 4000 * l.length
 | [], _, _ => by simp [termsL]
 | t :: r, b, h => by
  have h1 := termL_len t (h t (List.mem_cons_self ..))
  have h2 := termsL_len r false (fun x hx => h x (List.mem_cons_of_mem _ hx))
  unfold termsL
  split <;> simp <;> omega
theorem byL_len (q : Qry) (h : QOk q) : (byL q).length ≤ 1300 := by
 have h1 := quotedL_len q.2.1.data.toList
 rw [← size_list] at h1
 have := h.b
 unfold byL
 repeat' split
 all_goals simp
 all_goals omega
theorem printL_len (q : Qry) (h : QOk q) : (printL q).length ≤ 50000 := by
 have h1 := termsL_len q.1 true h.t
 have h2 := byL_len q h
 have h3 := wholeL_len _ h.m1 h.m2
 have := h.n
 unfold printL; simp; omega
theorem by_empty (b : ByteArray) : (b.toList == (⟨#[]⟩ : ByteArray).toList) = decide (b = ⟨#[]⟩) := beq_text _ _
-- the document's
end Go.Proofs.Ytpidgdelfaidoaa.Pure
