/- Plain laws, part 1: what a function of rounds comes to. -/
import Derived.Test.YtcjiipbppkdkaaaEDefs
import Derived.Test.YtcjiipbppkdkaaaEOpen
namespace Go.Proofs.Ytcjiipbppkdkaaa.Pure
open Go Go.Proofs.Ytcjiipbppkdkaaa.Eng
set_option linter.unusedVariables false
def Runs {α : Type} (f : Nat → Option α) (v : α) : Prop := ∃ k0, ∀ k, k0 ≤ k → f k = some v
section
variable {α β : Type}
theorem Runs.ex {f : Nat → Option α} {v : α} (h : Runs f v) : ∃ k, f k = some v := let ⟨k0, h⟩ := h; ⟨k0, h k0 (Nat.le_refl _)⟩
theorem Runs.some {v : α} : Runs (fun _ => Option.some v) v := ⟨0, fun _ _ => rfl⟩
theorem Runs.some' {v w : α} (h : v = w) : Runs (fun _ => Option.some v) w := h ▸ Runs.some
theorem Runs.bind {f : Nat → Option α} {g : α → Nat → Option β} {v : α} {w : β} (h : Runs f v) (h' : Runs (g v) w) : Runs (fun k => (f k).bind fun x => g x k) w := by
 obtain ⟨a, ha⟩ := h
 obtain ⟨b, hb⟩ := h'
 refine ⟨a + b, fun k hk => ?_⟩
 show ((f k).bind fun x => g x k) = _
 rw [ha k (by omega)]
 exact hb k (by omega)
theorem Runs.opt {o : Option α} {g : α → Nat → Option β} {v : α} {w : β} (h : o = Option.some v) (h' : Runs (g v) w) : Runs (fun k => o.bind fun x => g x k) w := by
 subst h; exact h'
theorem Runs.ck {b : Bool} {g : Unit → Nat → Option β} {w : β} (h : b = true) (h' : Runs (g ()) w) : Runs (fun k => (Eng.ck b).bind fun x => g x k) w := by
 subst h; exact h'
theorem Runs.step {f body : Nat → Option α} {v : α} (h : ∀ k, f (k + 1) = body k) (h' : Runs body v) : Runs f v := by
 obtain ⟨b, hb⟩ := h'
 refine ⟨b + 1, fun k hk => ?_⟩
 obtain ⟨k, rfl⟩ : ∃ q, k = q + 1 := ⟨k - 1, by omega⟩
 rw [h]; exact hb k (by omega)
theorem Runs.cond {b : Bool} {f g : Nat → Option α} {v : α} (h1 : b = true → Runs f v) (h2 : b = false → Runs g v) : Runs (fun k => bif b then f k else g k) v := by
 cases b with
 | true => exact h1 rfl
 | false => exact h2 rfl
theorem Runs.yes {b : Bool} {f g : Nat → Option α} {v : α} (h : b = true) (h1 : Runs f v) : Runs (fun k => bif b then f k else g k) v := by subst h; exact h1
theorem Runs.no {b : Bool} {f g : Nat → Option α} {v : α} (h : b = false) (h1 : Runs g v) : Runs (fun k => bif b then f k else g k) v := by subst h; exact h1
theorem Runs.dec {p : Prop} [Decidable p] {f g : Nat → Option α} {v : α} (h1 : p → Runs f v) (h2 : ¬ p → Runs g v) : Runs (fun k => bif decide p then f k else g k) v :=
 Runs.cond (fun h => h1 (of_decide_eq_true h)) (fun h => h2 (of_decide_eq_false h))
theorem Runs.of_eq {f : Nat → Option α} {v w : α} (h : Runs f v) (e : v = w) : Runs f w := e ▸ h
end
theorem wrap_i64 {n : Int} (h1 : -9223372036854775808 ≤ n) (h2 : n ≤ 9223372036854775807) : IntKind.wrap .i64 n = n := by
 simp only [IntKind.wrap, IntKind.bits, IntKind.signed, Bool.true_and]
 split <;> simp_all <;> omega
theorem wrap_u8 {n : Int} (h1 : 0 ≤ n) (h2 : n ≤ 255) : IntKind.wrap .u8 n = n := by
 simp only [IntKind.wrap, IntKind.bits, IntKind.signed, Bool.false_and]
 simp; omega
theorem rdo_at {α : Type} {l : List α} {i : Nat} (h : i < l.length) : rdo l (i : Int) = some l[i] := by
 unfold rdo; rw [if_pos (by omega)]; simp [h]
theorem bto_at {s : ByteArray} {i : Nat} (h : i < s.data.toList.length) : bto s (i : Int) = some ((s.data.toList[i]).toNat : Int) := by
 have h' : i < s.size := by rw [← ByteArray.size_data]; simpa using h
 unfold bto; rw [if_pos (by omega)]
 simp only [Int.toNat_natCast]
 rw [getElem?_pos s i h']
 simp only [Option.map_some]
 congr 1
theorem toList_eq (s : ByteArray) : s.toList = s.data.toList := ByteArray.toList_eq s
theorem beq_text (a b : ByteArray) : (a.toList == b.toList) = decide (a = b) := by
 rw [ByteArray.toList_eq, ByteArray.toList_eq]
 by_cases h : a = b
 ·subst h; simp
 ·have : a.data.toList ≠ b.data.toList := fun e => h (by cases a; cases b; congr 1; exact Array.toList_inj.1 e)
  rw [decide_eq_false h, beq_eq_false_iff_ne]; exact this
end Go.Proofs.Ytcjiipbppkdkaaa.Pure
