/- Plain laws: what is read stands there, in its one form. -/
import Derived.Test.YtfbpkpnnglhbcaaOWrite
namespace Go.Proofs.Ytfbpkpnnglhbcaa.Pure
open Go Go.Proofs.Ytfbpkpnnglhbcaa.E Go.Proofs.Ytfbpkpnnglhbcaa.Eng
set_option linter.unusedVariables false
set_option linter.unusedSimpArgs false
def flagB (b : Bool) : ByteArray := if b then ⟨#[1]⟩ else ⟨#[0]⟩
def textB (t : ByteArray) : ByteArray := numB t.size ++ t
theorem textB_size {t : ByteArray} (h : t.size ≤ 1048576) : (textB t).size ≤ t.size + 8 := by
 unfold textB; rw [ByteArray.size_append]; have := numB_size (n := t.size) (by omega); omega
theorem numI_size {x : Int} (h : x < 72057594037927936) : (numB x.toNat).size ≤ 8 := (numB_size (by omega)).1
def numI (x : Int) : ByteArray := numB x.toNat
def listB (l : List ByteArray) : ByteArray := numB l.length ++ textsB l
theorem At.app {s : ByteArray} {a : Nat} {b c : ByteArray} (h : At s a b) (h' : At s (a + b.size) c) : At s a (b ++ c) := by
 obtain ⟨h1, h2⟩ := h
 obtain ⟨h3, h4⟩ := h'
 refine ⟨by rw [ByteArray.size_append]; omega, ?_⟩
 have e : (s.extract a (a + (b ++ c).size)).data = (b ++ c).data := by
  rw [ByteArray.data_append, ByteArray.data_extract]
  apply Array.toList_inj.1
  rw [Array.toList_extract, Array.toList_append]
  have hb : b.data.toList = (s.data.toList.drop a).take b.size := by
   conv => lhs; rw [← h2]
   rw [ByteArray.data_extract, Array.toList_extract]; simp [List.extract]
  have hc : c.data.toList = (s.data.toList.drop (a + b.size)).take c.size := by
   conv => lhs; rw [← h4]
   rw [ByteArray.data_extract, Array.toList_extract]; simp [List.extract]
  rw [hb, hc, ByteArray.size_append]
  simp only [List.extract]
  rw [show a + (b.size + c.size) - a = b.size + c.size by omega, List.take_add, List.drop_drop]
 cases h5 : s.extract a (a + (b ++ c).size); cases h6 : b ++ c
 rw [h5, h6] at e; simp only at e; rw [e]
theorem At.size {s : ByteArray} {a : Nat} {b : ByteArray} (h : At s a b) : a + b.size ≤ s.size := h.1
theorem At.nil {s : ByteArray} {a : Nat} (h : a ≤ s.size) : At s a ⟨#[]⟩ := by
 refine ⟨h, ?_⟩
 have : (⟨#[]⟩ : ByteArray).size = 0 := rfl
 rw [this]; simp; rfl
theorem At.all {s b : ByteArray} (h : At s 0 b) (h' : b.size = s.size) : b = s := by
 have := h.2
 rw [h', Nat.zero_add] at this
 simpa using this.symm
theorem at_all (s : ByteArray) : At s 0 s := ⟨by omega, by simp⟩
def Rd {α : Type} (s : ByteArray) (a : Nat) (e : Int) (f : Nat → Option ((α × Unit) × ((ByteArray × Int × Int × Unit) × Unit))) (w : α → ByteArray) (P : α → Prop) : Prop :=
 ∃ x a' e', a' ≤ s.size ∧ Runs f ((x, ()), ((s, ((a' : Nat) : Int), e', ()), ())) ∧ (e' = 0 → e = 0 ∧ At s a (w x) ∧ a' = a + (w x).size ∧ P x)
end Go.Proofs.Ytfbpkpnnglhbcaa.Pure
