/- Plain laws: words of signs (IDs, names), and more of rounds. -/
import Derived.Test.YtpidgdelfaidoaaPBase
import Derived.KernelRfl
namespace Go.Proofs.Ytpidgdelfaidoaa.Pure
open Go Go.Proofs.Ytpidgdelfaidoaa.E Go.Proofs.Ytpidgdelfaidoaa.Eng
set_option linter.unusedVariables false
set_option linter.unusedSimpArgs false
abbrev V1 (α : Type) := (α × Unit) × Unit
section
variable {α : Type}
theorem Runs.and {b v : Bool} {f g : Nat → Option (V1 Bool)} (h1 : b = true → Runs f ((v, ()), ())) (h2 : Runs g ((false, ()), ())) : Runs (fun k => bif b then f k else g k) ((b && v, ()), ()) := by
 cases b with
 | true => exact h1 rfl
 | false => exact h2
theorem Runs.nand {b v : Bool} {f g : Nat → Option (V1 Bool)} (h1 : Runs f ((false, ()), ())) (h2 : b = false → Runs g ((v, ()), ())) : Runs (fun k => bif b then f k else g k) ((!b && v, ()), ()) := by
 cases b with
 | true => exact h1
 | false => exact h2 rfl
theorem Runs.nand' {b v : Bool} {f g : Nat → Option (V1 Bool)} (h1 : Runs f ((false, ()), ())) (h2 : b = true → Runs g ((v, ()), ())) : Runs (fun k => bif !b then f k else g k) ((b && v, ()), ()) := by
 cases b with
 | true => exact h2 rfl
 | false => exact h1
theorem Runs.vbool {f : Nat → Option (V1 Bool)} {v w : Bool} (h : Runs f ((v, ()), ())) (e : v = w) : Runs f ((w, ()), ()) := e ▸ h
theorem Runs.both {b : Bool} {f g : Nat → Option α} {v : α} (h1 : Runs f v) (h2 : Runs g v) : Runs (fun k => bif b then f k else g k) v := Runs.cond (fun _ => h1) (fun _ => h2)
theorem Runs.uniq {f : Nat → Option α} {v w : α} (h1 : Runs f v) (h2 : Runs f w) : v = w := by
 obtain ⟨a, ha⟩ := h1
 obtain ⟨b, hb⟩ := h2
 have := (ha (a + b) (by omega)).symm.trans (hb (a + b) (by omega))
 injection this
end
abbrev rfalse {α : Type} {v : α} : Runs (fun _ => Option.some v) v := Runs.some
theorem size_list (s : ByteArray) : s.size = s.data.toList.length := by simp [← ByteArray.size_data]
theorem empty_iff (s : ByteArray) : (s.toList == (⟨#[]⟩ : ByteArray).toList) = decide (s.size = 0) := by
 rw [beq_text]
 by_cases h : s = ⟨#[]⟩
 ·subst h; rfl
 ·have : s.size ≠ 0 := fun e => h (by
   rw [size_list] at e
   cases s; congr 1
   exact Array.toList_inj.1 (List.eq_nil_of_length_eq_zero e))
  rw [decide_eq_false h, decide_eq_false this]
noncomputable def signB (n : Int) : Bool := match paper_sign.f 1 n with | some r => r.1.1 | none => false
theorem sign_ok (n : Int) : Runs (fun k => paper_sign.f k n) ((signB n, ()), ()) := by
 refine ⟨1, fun k hk => ?_⟩
 obtain ⟨k, rfl⟩ : ∃ q, k = q + 1 := ⟨k - 1, by omega⟩
 show paper_sign.f 1 n = _
 have : ∃ b : Bool, paper_sign.f 1 n = some ((b, ()), ()) := by
  unfold paper_sign.f
  simp only [Bool.cond_eq_ite]
  repeat' split
  all_goals exact ⟨_, rfl⟩
 obtain ⟨b, hb⟩ := this
 unfold signB
 rw [hb]
noncomputable def wordB (a : ByteArray) (most : Int) : Bool := !decide (a.size = 0) && (!decide ((a.size : Int) > most) && a.data.toList.all (fun c => signB (c.toNat : Int)))
theorem word_loop (a : ByteArray) (ha : a.size ≤ 1000000000) : ∀ (m i : Nat), i + m = a.data.toList.length →
  Runs (fun k => paper_word.l0 k a (a.size : Int) (i : Int)) (((a.data.toList.drop i).all (fun c => signB (c.toNat : Int)), ()), ()) := by
 have hsz := size_list a
 intro m
 induction m with
 | zero =>
  intro i hi
  rw [List.drop_of_length_le (by omega)]
  exact Runs.step (fun k => rfl) (Runs.no (by apply decide_eq_false; omega) Runs.some)
 | succ m ih =>
  intro i hi
  have hlt : i < a.data.toList.length := by omega
  refine Runs.step (fun k => rfl) (Runs.yes (by apply decide_eq_true; omega) (Runs.opt (bto_at hlt) (Runs.bind (sign_ok _) ?_)))
  rw [List.drop_eq_getElem_cons hlt, List.all_cons]
  refine Runs.nand' Runs.some (fun _ => ?_)
  rw [wrap_i64 (n := (i : Int) + 1) (by omega) (by omega)]
  exact ih (i + 1) (by omega)
theorem word_ok (a : ByteArray) (ha : a.size ≤ 1000000000) (most : Int) : Runs (fun k => paper_word.f k a most) ((wordB a most, ()), ()) := by
 refine Runs.step (fun k => rfl) ((Runs.nand (v := !decide ((a.size : Int) > most) && a.data.toList.all (fun c => signB (c.toNat : Int))) Runs.some (fun _ => Runs.nand Runs.some (fun _ => Runs.step (fun k => rfl) (word_loop a ha _ 0 (Nat.zero_add _))))).vbool ?_)
 rw [empty_iff]; rfl
theorem isName_ok (a : ByteArray) (ha : a.size ≤ 1000000000) : Runs (fun k => paper_IsName.f k a) ((wordB a 16, ()), ()) := Runs.step (fun k => rfl) (Runs.bind (word_ok a ha 16) Runs.some)
end Go.Proofs.Ytpidgdelfaidoaa.Pure
