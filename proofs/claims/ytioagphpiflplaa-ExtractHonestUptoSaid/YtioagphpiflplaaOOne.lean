/- Plain laws: what is read stands there, in its one form. -/
import Derived.Test.YtioagphpiflplaaOWrite
namespace Go.Proofs.Ytioagphpiflplaa.Pure
open Go Go.Proofs.Ytioagphpiflplaa.E Go.Proofs.Ytioagphpiflplaa.Eng
set_option linter.unusedVariables false
set_option linter.unusedSimpArgs false

def flagB (b : Bool) : ByteArray := if b then ⟨#[1]⟩ else ⟨#[0]⟩
theorem flagB_size (b : Bool) : (flagB b).size = 1 := by cases b <;> rfl
def textB (t : ByteArray) : ByteArray := numB t.size ++ t
theorem textB_size {t : ByteArray} (h : t.size ≤ 1048576) : (textB t).size ≤ t.size + 8 := by
  unfold textB; rw [ByteArray.size_append]; have := numB_size (n := t.size) (by omega); omega
theorem numI_size {x : Int} (h : x < 72057594037927936) : (numB x.toNat).size ≤ 8 := (numB_size (by omega)).1
def numI (x : Int) : ByteArray := numB x.toNat
def listB (l : List ByteArray) : ByteArray := numB l.length ++ textsB l
theorem At.size {s : ByteArray} {a : Nat} {b : ByteArray} (h : At s a b) : a + b.size ≤ s.size := h.1
theorem At.nil {s : ByteArray} {a : Nat} (h : a ≤ s.size) : At s a ⟨#[]⟩ := by
  refine ⟨h, ?_⟩
  have : (⟨#[]⟩ : ByteArray).size = 0 := rfl
  rw [this]; simp; rfl
theorem At.all {s b : ByteArray} (h : At s 0 b) (h' : b.size = s.size) : b = s := by
  have := h.2
  rw [h', Nat.zero_add] at this
  simpa using this.symm
/-- What a reader's function does: it reads what stands there in its one form, or fails. -/
def Rd {α : Type} (s : ByteArray) (a : Nat) (e : Int) (f : Nat → Option ((α × Unit) × ((ByteArray × Int × Int × Unit) × Unit))) (w : α → ByteArray) (P : α → Prop) : Prop :=
  ∃ x a' e', a' ≤ s.size ∧ Runs f ((x, ()), ((s, ((a' : Nat) : Int), e', ()), ())) ∧ (e' = 0 → e = 0 ∧ At s a (w x) ∧ a' = a + (w x).size ∧ P x)
end Go.Proofs.Ytioagphpiflplaa.Pure
