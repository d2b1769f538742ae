/- Plain laws: roots, as the program makes them. -/
import Derived.Test.YtioagphpiflplaaPMerkV
namespace Go.Proofs.Ytioagphpiflplaa.Pure
open Go Go.Proofs.Ytioagphpiflplaa.E Go.Proofs.Ytioagphpiflplaa.Eng
set_option linter.unusedVariables false
set_option linter.unusedSimpArgs false

section
variable {α β : Type}
theorem TP.eqI {a b : Int} {f g : Nat → Option α} {Q : α → Prop} (h1 : a = b → TP f Q) (h2 : a ≠ b → TP g Q) : TP (fun k => bif a == b then f k else g k) Q :=
  TP.cond (fun h => h1 (eq_of_beq h)) (fun h => h2 (by simpa using h))
theorem TP.neI {a b : Int} {f g : Nat → Option α} {Q : α → Prop} (h1 : a ≠ b → TP f Q) (h2 : a = b → TP g Q) : TP (fun k => bif a != b then f k else g k) Q :=
  TP.cond (fun h => h1 (by simpa using h)) (fun h => h2 (by simpa using h))
theorem TP.eqT {a b : ByteArray} {f g : Nat → Option α} {Q : α → Prop} (h1 : a = b → TP f Q) (h2 : a ≠ b → TP g Q) : TP (fun k => bif a.toList == b.toList then f k else g k) Q :=
  TP.cond (fun h => h1 (by rw [beq_text] at h; exact of_decide_eq_true h)) (fun h => h2 (by rw [beq_text] at h; exact of_decide_eq_false h))
theorem TP.neT {a b : ByteArray} {f g : Nat → Option α} {Q : α → Prop} (h1 : a ≠ b → TP f Q) (h2 : a = b → TP g Q) : TP (fun k => bif !(a.toList == b.toList) then f k else g k) Q :=
  TP.cond (fun h => h1 (by rw [beq_text, Bool.not_eq_true'] at h; exact of_decide_eq_false h)) (fun h => h2 (by rw [beq_text, Bool.not_eq_false'] at h; exact of_decide_eq_true h))
theorem TP.not {b : Bool} {f g : Nat → Option α} {Q : α → Prop} (h1 : b = false → TP f Q) (h2 : b = true → TP g Q) : TP (fun k => bif !b then f k else g k) Q :=
  TP.cond (fun h => h1 (by simpa using h)) (fun h => h2 (by simpa using h))
theorem tkI (l : List α) (k : Nat) : (l.take ((k : Int)).toNat).drop (0 : Int).toNat = l.take k := rfl
theorem dkI (l : List α) (k : Nat) : (l.take ((l.length : Int)).toNat).drop ((k : Int)).toNat = l.drop k := by rw [Int.toNat_natCast, Int.toNat_natCast, List.take_length]
end
theorem tlI {l : List ByteArray} (h0 : l.length ≠ 0) (h : l.length ≤ 1000000000) : (l.take (IntKind.wrap .i64 ((l.length : Int) - 1)).toNat).drop (0 : Int).toNat = l.dropLast := by
  rw [wrap_i64 (by omega) (by omega), List.dropLast_eq_take, show ((l.length : Int) - 1).toNat = l.length - 1 by omega]; rfl
theorem lastI {l : List ByteArray} (h0 : l.length ≠ 0) (h : l.length ≤ 1000000000) : rdo l (IntKind.wrap .i64 ((l.length : Int) - 1)) = some (lastV l) := by
  rw [wrap_i64 (by omega) (by omega), show (l.length : Int) - 1 = ((l.length - 1 : Nat) : Int) by omega, rdo_at (by omega)]
  unfold lastV
  rw [List.getLastD_eq_getLast?, List.getLast?_eq_getElem?, List.getElem?_eq_getElem (by omega)]; rfl

section
variable {T : Tab}
end
end Go.Proofs.Ytioagphpiflplaa.Pure
