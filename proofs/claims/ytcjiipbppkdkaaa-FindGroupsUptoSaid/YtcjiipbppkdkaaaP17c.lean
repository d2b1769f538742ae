/- Plain laws of chapter 17: values in order, papers in order of a field. -/
import Derived.Test.YtcjiipbppkdkaaaP17b
import Derived.Test.YtcjiipbppkdkaaaPCmpB
namespace Go.Proofs.Ytcjiipbppkdkaaa.Pure
open Go Go.Proofs.Ytcjiipbppkdkaaa.E Go.Proofs.Ytcjiipbppkdkaaa.Eng
set_option linter.unusedVariables false
set_option linter.unusedSimpArgs false
theorem Runs.not' {α : Type} {b : Bool} {f g : Nat → Option α} {v : α} (h1 : b = false → Runs f v) (h2 : b = true → Runs g v) : Runs (fun k => bif !b then f k else g k) v := by
 cases b with
 | true => exact h2 rfl
 | false => exact h1 rfl
def signV (a b : Bool) : Int := bif a then -1 else bif b then 1 else 0
theorem sign_ok' (a b : Bool) : Runs (fun k => value_sign.f k a b) ((signV a b, ()), ()) := by
 refine Runs.step (fun k => rfl) (Runs.cond (fun h => Runs.some' ?_) fun h => Runs.cond (fun h2 => Runs.some' ?_) fun h2 => Runs.some' ?_)
 ·unfold signV; rw [h]; rfl
 ·unfold signV; rw [h, h2]; rfl
 ·unfold signV; rw [h, h2]; rfl
def sgI (x y : Int) : Int := signV (decide (x < y)) (decide (x > y))
theorem sgI_cases (x y : Int) : (x < y ∧ sgI x y = -1) ∨ (x > y ∧ sgI x y = 1) ∨ (x = y ∧ sgI x y = 0) := by
 unfold sgI signV
 by_cases h : x < y
 ·rw [decide_eq_true h]; exact .inl ⟨h, rfl⟩
 ·rw [decide_eq_false h]
  by_cases h2 : x > y
  ·rw [decide_eq_true h2]; exact .inr (.inl ⟨h2, rfl⟩)
  ·rw [decide_eq_false h2]; exact .inr (.inr ⟨by omega, rfl⟩)
noncomputable def rankV (x : Int) : Int := (Classical.choose (rank_tot x)).1.1
theorem rank_ok (x : Int) : Runs (fun k => value_rank.f k x) ((rankV x, ()), ()) := (Classical.choose_spec (rank_tot x)).1
noncomputable def clnV (x : ValueT) : ValueT := (Classical.choose (clean_tot x)).1.1
theorem cln_ok (x : ValueT) : Runs (fun k => value_Clean.f k x) ((clnV x, ()), ()) := (Classical.choose_spec (clean_tot x)).1
noncomputable def keyV (x : ValueT) : Int := if x.1 = 1 then (bif x.2.1 then 1 else 0) else if x.1 = 2 then x.2.2.1 else if x.1 = 3 then rankV (clnV x).2.2.2.1 else 0
noncomputable def cmpX (a b : ValueT) : Int := if a.1 ≠ b.1 then sgI a.1 b.1 else if a.1 = 4 then cbV a.2.2.2.2.1 b.2.2.2.2.1 else sgI (keyV a) (keyV b)
theorem scmp17 (a b : ByteArray) : Runs (fun k => strings_Compare.f k a b) ((cbV a b, ()), ()) := scmp_ok a b
theorem cmpX_ok (a b : ValueT) : Runs (fun k => value_Compare.f k a b) ((cmpX a b, ()), ()) := by
 refine Runs.step (fun k => rfl) (Runs.cond (fun h => Runs.bind (sign_ok' _ _) (Runs.some' ?_)) fun h => ?_)
 ·have h : a.1 ≠ b.1 := by simpa using h
  unfold cmpX; rw [if_pos h]; rfl
 have h : ¬ a.1 ≠ b.1 := by simpa using h
 have e : a.1 = b.1 := by omega
 refine Runs.cond (fun h1 => ?_) fun h1 => Runs.cond (fun h2 => Runs.bind (sign_ok' _ _) (Runs.some' ?_)) fun h2 => Runs.cond (fun h3 => Runs.bind (cln_ok _) (Runs.bind (rank_ok _) (Runs.bind (cln_ok _) (Runs.bind (rank_ok _) (Runs.bind (sign_ok' _ _) (Runs.some' ?_)))))) fun h3 => Runs.cond (fun h4 => Runs.bind (scmp17 _ _) (Runs.some' ?_)) fun h4 => Runs.some' ?_
 ·have h1 : a.1 = 1 := eq_of_beq h1
  have hx : cmpX a b = sgI (bif a.2.1 then 1 else 0) (bif b.2.1 then 1 else 0) := by
   unfold cmpX keyV
   rw [if_neg h, if_neg (by omega), if_pos h1, if_pos (by omega)]
  rw [hx]
  refine Runs.not' (fun ha => ?_) fun ha => ?_
  ·rw [ha]
   refine Runs.bind (sign_ok' _ _) (Runs.some' ?_)
   cases b.2.1 <;> rfl
  ·rw [ha]
   refine Runs.bind (sign_ok' _ _) (Runs.some' ?_)
   cases b.2.1 <;> rfl
 ·have h1 : a.1 ≠ 1 := by simpa using h1
  have h2 : a.1 = 2 := eq_of_beq h2
  unfold cmpX keyV
  rw [if_neg h, if_neg (by omega), if_neg h1, if_pos h2, if_neg (by omega), if_pos (by omega)]; rfl
 ·have h1 : a.1 ≠ 1 := by simpa using h1
  have h2 : a.1 ≠ 2 := by simpa using h2
  have h3 : a.1 = 3 := eq_of_beq h3
  unfold cmpX keyV
  rw [if_neg h, if_neg (by omega), if_neg h1, if_neg h2, if_pos h3, if_neg (by omega), if_neg (by omega), if_pos (by omega)]; rfl
 ·have h4 : a.1 = 4 := eq_of_beq h4
  unfold cmpX
  rw [if_neg h, if_pos h4]
 ·have h1 : a.1 ≠ 1 := by simpa using h1
  have h2 : a.1 ≠ 2 := by simpa using h2
  have h3 : a.1 ≠ 3 := by simpa using h3
  have h4 : a.1 ≠ 4 := by simpa using h4
  unfold cmpX keyV
  rw [if_neg h, if_neg h4, if_neg h1, if_neg h2, if_neg h3, if_neg (by omega), if_neg (by omega), if_neg (by omega)]; rfl
theorem cmp_eq (a b : ValueT) : cmpV a b = cmpX a b := by
 have := Runs.uniq (cmp_ok a b) (cmpX_ok a b)
 injection this with this; injection this
theorem cmpX_ne {a b : ValueT} (h : a.1 ≠ b.1) : cmpX a b = sgI a.1 b.1 := by unfold cmpX; rw [if_pos h]
theorem cmpX_4 {a b : ValueT} (h : a.1 = b.1) (h4 : a.1 = 4) : cmpX a b = cbV a.2.2.2.2.1 b.2.2.2.2.1 := by unfold cmpX; rw [if_neg (fun h' => h' h), if_pos h4]
theorem cmpX_k {a b : ValueT} (h : a.1 = b.1) (h4 : a.1 ≠ 4) : cmpX a b = sgI (keyV a) (keyV b) := by unfold cmpX; rw [if_neg (fun h' => h' h), if_neg h4]
theorem cmp_neg (a b : ValueT) : cmpV b a = - cmpV a b := by
 rw [cmp_eq, cmp_eq]
 by_cases h : a.1 = b.1
 ·by_cases h4 : a.1 = 4
  ·rw [cmpX_4 h h4, cmpX_4 h.symm (h ▸ h4)]; exact cb_neg _ _
  ·rw [cmpX_k h h4, cmpX_k h.symm (fun e => h4 (h.trans e))]
   have := sgI_cases (keyV a) (keyV b)
   have := sgI_cases (keyV b) (keyV a)
   omega
 ·rw [cmpX_ne h, cmpX_ne (fun e => h e.symm)]
  have := sgI_cases a.1 b.1
  have := sgI_cases b.1 a.1
  omega
theorem cmp_chain (a b c : ValueT) (h1 : cmpV a b ≤ 0) (h2 : cmpV b c ≤ 0) : cmpV a c ≤ 0 := by
 rw [cmp_eq] at *
 have s1 := sgI_cases a.1 b.1
 have s2 := sgI_cases b.1 c.1
 have s3 := sgI_cases a.1 c.1
 have k1 := sgI_cases (keyV a) (keyV b)
 have k2 := sgI_cases (keyV b) (keyV c)
 have k3 := sgI_cases (keyV a) (keyV c)
 by_cases e1 : a.1 = b.1
 ·by_cases e2 : b.1 = c.1
  ·by_cases h4 : a.1 = 4
   ·rw [cmpX_4 e1 h4] at h1
    rw [cmpX_4 e2 (e1 ▸ h4)] at h2
    rw [cmpX_4 (e1.trans e2) h4]
    exact cb_chain _ _ _ h1 h2
   ·rw [cmpX_k e1 h4] at h1
    rw [cmpX_k e2 (fun e => h4 (e1.trans e))] at h2
    rw [cmpX_k (e1.trans e2) h4]
    omega
  ·rw [cmpX_ne e2] at h2
   rw [cmpX_ne (fun e => e2 (e1.symm.trans e))]
   omega
 ·rw [cmpX_ne e1] at h1
  by_cases e2 : b.1 = c.1
  ·rw [cmpX_ne (fun e => e1 (e.trans e2.symm))]; omega
  ·rw [cmpX_ne e2] at h2
   have h3 : a.1 ≠ c.1 := by omega
   rw [cmpX_ne h3]; omega
/-! ## Papers -/
noncomputable def cmpP (cB : ByteArray) (cD : Bool) (a b : Pap) : Int :=
 if fieldI cB 0 a.2.2.1 < 0 then (if fieldI cB 0 b.2.2.1 < 0 then 0 else 1) else if fieldI cB 0 b.2.2.1 < 0 then -1 else
 bif cD then cmpV (fieldV b (fieldI cB 0 b.2.2.1)) (fieldV a (fieldI cB 0 a.2.2.1)) else cmpV (fieldV a (fieldI cB 0 a.2.2.1)) (fieldV b (fieldI cB 0 b.2.2.1))
def dPap : Pap := (⟨#[]⟩, 0, [], ())
noncomputable def eI (cP : List Pap) (cB : ByteArray) (cD : Bool) (x y : Int) : Bool := decide (cmpP cB cD (cP.getD x.toNat dPap) (cP.getD y.toNat dPap) < 0)
def InR (cP : List Pap) (D : List Int) : Prop := ∀ z ∈ D, 0 ≤ z ∧ z < (cP.length : Int)
end Go.Proofs.Ytcjiipbppkdkaaa.Pure
