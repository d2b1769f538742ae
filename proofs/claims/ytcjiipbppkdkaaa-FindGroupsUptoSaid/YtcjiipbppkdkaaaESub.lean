/- The engine, part 9: a part of memory, under numbers of its own: at calls, at labels, at the end. -/
import Derived.Test.YtcjiipbppkdkaaaEStepM
namespace Go.Proofs.Ytcjiipbppkdkaaa.Eng
open Go
set_option linter.unusedVariables false
set_option linter.unusedSimpArgs false
def Le (ρ ρ' : Rho) : Prop := ∀ p x, lk ρ p = some x → lk ρ' p = some x
theorem Le.refl (ρ : Rho) : Le ρ ρ := fun _ _ h => h
theorem Le.trans {a b c : Rho} (h : Le a b) (h' : Le b c) : Le a c := fun p x hx => h' p x (h p x hx)
def InjR (ρ : Rho) : Prop := ∀ p p' o, lk ρ p = some (some o) → lk ρ p' = some (some o) → p = p'
theorem inRange_of {ρ : Rho} {p o : Nat} (h : lk ρ p = some (some o)) : inRange ρ o = true := by
 induction ρ with
 | nil => simp [lk] at h
 | cons x r ih =>
  obtain ⟨j, y⟩ := x
  rw [lk_cons] at h
  by_cases hj : j = p
  ·rw [if_pos hj] at h; injection h with h; subst h; simp [inRange]
  ·rw [if_neg hj] at h
   have := ih h
   cases y with
   | none => simpa [inRange] using this
   | some o' =>
    simp only [inRange]
    cases Nat.beq o' o with
    | true => rfl
    | false => exact this
theorem bindP_ok {ρ ρ' : Rho} {p o : Nat} (h : bindP ρ p o = some ρ') (hi : InjR ρ) : Le ρ ρ' ∧ InjR ρ' ∧ lk ρ' p = some (some o) := by
 unfold bindP at h
 cases hl : lk ρ p with
 | none =>
  rw [hl] at h; simp only [] at h
  cases hr : inRange ρ o with
  | true => rw [hr] at h; cases h
  | false =>
   rw [hr] at h; injection h with h; subst h
   have hno : ∀ q, lk ρ q ≠ some (some o) := fun q hq => by rw [inRange_of hq] at hr; cases hr
   refine ⟨fun q x hx => ?_, fun a b c ha hb => ?_, by simp [lk_cons]⟩
   ·rw [lk_cons]; by_cases hq : p = q
    ·subst hq; rw [hl] at hx; cases hx
    ·rw [if_neg hq]; exact hx
   ·rw [lk_cons] at ha hb
    by_cases h1 : p = a <;> by_cases h2 : p = b
    ·exact h1.symm.trans h2
    ·rw [if_pos h1] at ha; rw [if_neg h2] at hb
     injection ha with ha; injection ha with ha; subst ha
     exact absurd hb (hno b)
    ·rw [if_neg h1] at ha; rw [if_pos h2] at hb
     injection hb with hb; injection hb with hb; subst hb
     exact absurd ha (hno a)
    ·rw [if_neg h1] at ha; rw [if_neg h2] at hb; exact hi a b c ha hb
 | some x =>
  rw [hl] at h
  cases x with
  | none => cases h
  | some o' =>
   simp only [] at h
   cases hb : Nat.beq o' o with
   | false => rw [hb] at h; cases h
   | true =>
    rw [hb] at h; injection h with h; subst h
    have := beq_of hb; subst this
    exact ⟨Le.refl _, hi, hl⟩
theorem bindN_ok {ρ : Rho} {c : Nat} (hl : lk ρ c = none) (hi : InjR ρ) : Le ρ ((c, none) :: ρ) ∧ InjR ((c, none) :: ρ) ∧ lk ((c, none) :: ρ) c = some none := by
 refine ⟨fun q x hx => ?_, fun a b o ha hb => ?_, by simp [lk_cons]⟩
 ·rw [lk_cons]; by_cases hq : c = q
  ·subst hq; rw [hl] at hx; cases hx
  ·rw [if_neg hq]; exact hx
 ·rw [lk_cons] at ha hb
  by_cases h1 : c = a
  ·rw [if_pos h1] at ha; cases ha
  ·by_cases h2 : c = b
   ·rw [if_pos h2] at hb; cases hb
   ·rw [if_neg h1] at ha; rw [if_neg h2] at hb; exact hi a b o ha hb
def CapL (ρ : Rho) : List (Nat × Nat) → List (Nat × Nat) → Prop
 | [], l => l = []
 | (p, off) :: r, l => ∃ o r', l = (o, off) :: r' ∧ lk ρ p = some (some o) ∧ CapL ρ r r'
theorem CapL.mono {ρ ρ' : Rho} (h : Le ρ ρ') : ∀ {l l' : List (Nat × Nat)}, CapL ρ l l' → CapL ρ' l l'
 | [], _, k => k
 | (p, off) :: r, _, ⟨o, r', a, b, c⟩ => ⟨o, r', a, h _ _ b, CapL.mono h c⟩
theorem bindL_ok : ∀ {l l' : List (Nat × Nat)} {ρ ρ' : Rho}, bindL ρ l l' = some ρ' → InjR ρ → Le ρ ρ' ∧ InjR ρ' ∧ CapL ρ' l l'
 | [], [], ρ, ρ', h, hi => by simp only [bindL] at h; injection h with h; subst h; exact ⟨Le.refl _, hi, rfl⟩
 | [], _ :: _, ρ, ρ', h, hi => by simp [bindL] at h
 | (p, off) :: r, [], ρ, ρ', h, hi => by simp [bindL] at h
 | (p, off) :: r, (o, off') :: r', ρ, ρ', h, hi => by
  simp only [bindL] at h
  cases hb : Nat.beq off off' with
  | false => rw [hb] at h; cases h
  | true =>
   rw [hb] at h; simp only [] at h
   have := beq_of hb; subst this
   cases hp : bindP ρ p o with
   | none => rw [hp] at h; cases h
   | some ρ1 =>
    rw [hp] at h; simp only [] at h
    obtain ⟨a1, a2, a3⟩ := bindP_ok hp hi
    obtain ⟨b1, b2, b3⟩ := bindL_ok h a2
    exact ⟨a1.trans b1, b2, ⟨o, r', rfl, b1 _ _ a3, b3⟩⟩
theorem bindL_keys : ∀ {l l' : List (Nat × Nat)} {ρ ρ' : Rho}, bindL ρ l l' = some ρ' → ∀ q, lk ρ' q ≠ none → lk ρ q ≠ none ∨ q ∈ keysOf l
 | [], [], ρ, ρ', h, q, hq => by simp only [bindL] at h; injection h with h; subst h; exact .inl hq
 | [], _ :: _, ρ, ρ', h, q, hq => by simp [bindL] at h
 | (p, off) :: r, [], ρ, ρ', h, q, hq => by simp [bindL] at h
 | (p, off) :: r, (o, off') :: r', ρ, ρ', h, q, hq => by
  simp only [bindL] at h
  cases hb : Nat.beq off off' with
  | false => rw [hb] at h; cases h
  | true =>
   rw [hb] at h; simp only [] at h
   cases hp : bindP ρ p o with
   | none => rw [hp] at h; cases h
   | some ρ1 =>
    rw [hp] at h; simp only [] at h
    rcases bindL_keys h q hq with h1 | h1
    ·by_cases hqp : q = p
     ·exact .inr (by simp [keysOf, hqp])
     ·refine .inl ?_
      unfold bindP at hp
      split at hp
      ·split at hp
       ·injection hp with hp; subst hp; exact h1
       ·cases hp
      ·cases hp
      ·split at hp
       ·cases hp
       ·injection hp with hp; subst hp
        rw [lk_cons, if_neg (fun e => hqp e.symm)] at h1; exact h1
    ·exact .inr (by simp [keysOf, h1])
section
variable {M : Mem} {B : Base}
def RowAt (M : Mem) (ρ : Rho) (c t : Nat) (T : Ty) (l : List T.den) : Prop := (lk ρ c = some none ∧ l = []) ∨ ∃ o v, lk ρ c = some (some o) ∧ M.go o = some (.row v t T l)
theorem RowAt.mono {ρ ρ' : Rho} (h : Le ρ ρ') {c t : Nat} {T : Ty} {l : List T.den} : RowAt M ρ c t T l → RowAt M ρ' c t T l
 | .inl ⟨a, b⟩ => .inl ⟨h _ _ a, b⟩
 | .inr ⟨o, v, a, b⟩ => .inr ⟨o, v, h _ _ a, b⟩
def Mem.sub (M : Mem) (ρ : Rho) (go : Nat → Option Ob) : Mem where
 S := M.S
 h := M.h
 β := fun p => match lk ρ p with | some (some o) => M.β o | _ => ⟨true, 0, 0, 0⟩
 go := go
 U := fun p => lk ρ p ≠ none
 C := fun p => ∃ o, lk ρ p = some (some o) ∧ M.C o
theorem getV_le {go : Nat → Option Ob} {ρ ρ' : Rho} {s : SSh} {v : CV} {x : s.den} (h : getV go ρ s v = some (x, ρ')) (hi : InjR ρ) : Le ρ ρ' ∧ InjR ρ' := by
 cases s with
 | val T =>
  simp only [getV] at h
  split at h
  ·split at h
   ·injection h with h; injection h with h1 h2; subst h2; exact ⟨Le.refl _, hi⟩
   ·cases h
  ·cases h
 | own c t T =>
  simp only [getV] at h
  split at h
  ·split at h
   ·rename_i hl
    injection h with h; injection h with h1 h2; subst h2
    have := bindN_ok hl hi; exact ⟨this.1, this.2.1⟩
   ·cases h
  ·split at h
   ·split at h
    ·split at h
     ·split at h
      ·split at h
       ·rename_i hb
        injection h with h; injection h with h1 h2; subst h2
        have := bindP_ok hb hi; exact ⟨this.1, this.2.1⟩
       ·cases h
      ·cases h
     ·cases h
    ·cases h
   ·cases h
  ·cases h
 | ptr p off =>
  simp only [getV] at h
  split at h
  ·split at h
   ·split at h
    ·rename_i hb
     injection h with h; injection h with h1 h2; subst h2
     have := bindP_ok hb hi; exact ⟨this.1, this.2.1⟩
    ·cases h
   ·cases h
  ·cases h
 | nilp =>
  simp only [getV] at h
  split at h
  ·injection h with h; injection h with h1 h2; subst h2; exact ⟨Le.refl _, hi⟩
  ·cases h
 | nils =>
  simp only [getV] at h
  split at h
  ·injection h with h; injection h with h1 h2; subst h2; exact ⟨Le.refl _, hi⟩
  ·cases h
 | top =>
  simp only [getV] at h
  split at h
  ·cases h
  ·injection h with h; injection h with h1 h2; subst h2; exact ⟨Le.refl _, hi⟩
 | mark =>
  simp only [getV] at h
  split at h
  ·cases h
  ·injection h with h; injection h with h1 h2; subst h2; exact ⟨Le.refl _, hi⟩
 | cst k n =>
  simp only [getV] at h
  split at h
  ·split at h
   ·split at h
    ·injection h with h; injection h with h1 h2; subst h2; exact ⟨Le.refl _, hi⟩
    ·cases h
   ·cases h
  ·cases h
 | psl l =>
  simp only [getV] at h
  split at h
  ·split at h
   ·rename_i hb
    injection h with h; injection h with h1 h2; subst h2
    have := bindL_ok hb hi; exact ⟨this.1, this.2.1⟩
   ·cases h
  ·split at h
   ·rename_i hb
    injection h with h; injection h with h1 h2; subst h2
    have := bindL_ok hb hi; exact ⟨this.1, this.2.1⟩
   ·cases h
  ·split at h
   ·injection h with h; injection h with h1 h2; subst h2; exact ⟨Le.refl _, hi⟩
   ·cases h
  ·cases h
 | prow c t l =>
  simp only [getV] at h
  split at h
  ·split at h
   ·split at h
    ·rename_i hl
     injection h with h; injection h with h1 h2; subst h2
     have := bindN_ok hl hi; exact ⟨this.1, this.2.1⟩
    ·cases h
   ·cases h
  ·split at h
   ·split at h
    ·split at h
     ·split at h
      ·rename_i hb
       split at h
       ·rename_i hb2
        injection h with h; injection h with h1 h2; subst h2
        have a := bindP_ok hb hi
        have b := bindL_ok hb2 a.2.1
        exact ⟨a.1.trans b.1, b.2.1⟩
       ·cases h
      ·cases h
     ·cases h
    ·cases h
   ·cases h
  ·cases h
 | mref p =>
  simp only [getV] at h
  split at h
  ·split at h
   ·rename_i hb
    injection h with h; injection h with h1 h2; subst h2
    have := bindP_ok hb hi; exact ⟨this.1, this.2.1⟩
   ·cases h
  ·cases h
 | mapd =>
  simp only [getV] at h
  split at h
  ·injection h with h; injection h with h1 h2; subst h2; exact ⟨Le.refl _, hi⟩
  ·cases h
 | clo f l =>
  simp only [getV] at h
  split at h
  ·split at h
   ·split at h
    ·rename_i hb
     injection h with h; injection h with h1 h2; subst h2
     have := bindL_ok hb hi; exact ⟨this.1, this.2.1⟩
    ·cases h
   ·cases h
  ·split at h
   ·split at h
    ·injection h with h; injection h with h1 h2; subst h2; exact ⟨Le.refl _, hi⟩
    ·cases h
   ·cases h
  ·cases h
theorem ofC_back (ok : MOK B M) {M' : Mem} (hS : M'.S = M.S) (hh : M'.h = M.h) : ∀ (T : Ty) (cs r : List CV) (x : T.den) (vs : List Value), ofC M.go T cs = some (x, r) → VRL M cs vs →
  ∃ v1 v2, vs = v1 ++ v2 ∧ VRL M r v2 ∧ ∀ r' vr, VRL M' r' vr → VRL M' (toC T x r') (v1 ++ vr) := by
 intro T
 have one : ∀ (c : CV) (v : Value) (r : List CV) (vr : List Value), VR M' c v → VRL M r vr → ∃ v1 v2, v :: vr = v1 ++ v2 ∧ VRL M r v2 ∧ ∀ r' vr, VRL M' r' vr → VRL M' (c :: r') (v1 ++ vr) :=
  fun c v r vr h1 h2 => ⟨[v], vr, rfl, h2, fun r' vr' h => by simp only [List.singleton_append, VRL]; exact ⟨v, vr', rfl, h1, h⟩⟩
 induction T with
 | nil =>
  intro cs r x vs h hl
  simp only [ofC] at h; injection h with h; injection h with h1 h2; subst h2
  exact ⟨[], vs, rfl, hl, fun r' vr h => by simpa [toC] using h⟩
 | cons p q ihp ihq =>
  intro cs r x vs h hl
  simp only [ofC] at h
  cases h1 : ofC M.go p cs with
  | none => rw [h1] at h; cases h
  | some y =>
   obtain ⟨x1, r1⟩ := y
   rw [h1] at h; simp only [] at h
   cases h2 : ofC M.go q r1 with
   | none => rw [h2] at h; cases h
   | some z =>
    obtain ⟨x2, r2⟩ := z
    rw [h2] at h; simp only [] at h
    injection h with h; injection h with ha hb
    subst ha; subst hb
    obtain ⟨v1, w1, e1, k1, m1⟩ := ihp cs r1 x1 vs h1 hl
    obtain ⟨v2, w2, e2, k2, m2⟩ := ihq r1 r2 x2 w1 h2 k1
    exact ⟨v1 ++ v2, w2, by rw [e1, e2, List.append_assoc], k2, fun r' vr h => by rw [List.append_assoc]; exact m1 _ _ (m2 r' vr h)⟩
 | sl e ih =>
  intro cs r x vs h hl
  cases cs with
  | nil => simp [ofC] at h
  | cons c cs =>
   simp only [VRL] at hl
   obtain ⟨v, vr, rfl, hv, hr⟩ := hl
   have h' : (match asL M.go e c with | some l => some (l, cs) | none => none) = some (x, r) := by cases c <;> exact h
   cases ha : asL M.go e c with
   | none => rw [ha] at h'; cases h'
   | some l =>
    rw [ha] at h'; simp only [] at h'
    injection h' with h'; injection h' with hx hr'
    subst hx; subst hr'
    have := asL_ok ok ha hv
    exact one _ v cs vr (by simp only [VR]; rw [hS, hh]; exact this) hr
 | int k =>
  intro cs r x vs h hl
  cases cs with
  | nil => simp [ofC] at h
  | cons c cs =>
   simp only [VRL] at hl
   obtain ⟨v, vr, rfl, hv, hr⟩ := hl
   cases c <;> simp only [ofC] at h <;> first | (cases h; done) | skip
   split at h
   ·rename_i he; subst he
    injection h with h; injection h with hx hr'
    subst hx; subst hr'
    exact one _ v cs vr (by rw [hv.int]; simp [VR]) hr
   ·cases h
 | bool =>
  intro cs r x vs h hl
  cases cs with
  | nil => simp [ofC] at h
  | cons c cs =>
   simp only [VRL] at hl
   obtain ⟨v, vr, rfl, hv, hr⟩ := hl
   cases c <;> simp only [ofC] at h <;> first | (cases h; done) | skip
   injection h with h; injection h with hx hr'
   subst hx; subst hr'
   exact one _ v cs vr (by rw [hv.bool]; simp [VR]) hr
 | str =>
  intro cs r x vs h hl
  cases cs with
  | nil => simp [ofC] at h
  | cons c cs =>
   simp only [VRL] at hl
   obtain ⟨v, vr, rfl, hv, hr⟩ := hl
   cases c <;> simp only [ofC] at h <;> first | (cases h; done) | skip
   injection h with h; injection h with hx hr'
   subst hx; subst hr'
   exact one _ v cs vr (by rw [hv.str]; simp [VR]) hr
 | flt =>
  intro cs r x vs h hl
  cases cs with
  | nil => simp [ofC] at h
  | cons c cs =>
   simp only [VRL] at hl
   obtain ⟨v, vr, rfl, hv, hr⟩ := hl
   cases c <;> simp only [ofC] at h <;> first | (cases h; done) | skip
   injection h with h; injection h with hx hr'
   subst hx; subst hr'
   exact one _ v cs vr (by simpa only [VR] using hv) hr
 | pt => intro cs r x vs h hl; cases cs <;> simp [ofC] at h
 | mu e ih => intro cs r x vs h hl; cases cs <;> simp [ofC] at h
theorem agg_vr (ok : MOK B M) {M' : Mem} (hS : M'.S = M.S) (hh : M'.h = M.h) {T : Ty} {c : CV} {cs : List CV} {x : T.den} {v : Value} (ha : aggCells T c = some cs) (ho : ofC M.go T cs = some (x, [])) (hv : VR M c v) :
  VR M' (asCV T x) v := by
 have aggc : ∀ l, c = .agg l → cs = l → asCV T x = .agg (toC T x []) → VR M' (asCV T x) v := by
  intro l hc hcs ht
  subst hc; subst hcs
  simp only [VR] at hv
  obtain ⟨vs, rfl, hl⟩ := hv
  obtain ⟨v1, v2, e1, k1, m1⟩ := ofC_back ok (M' := M') hS hh T _ [] x vs.toList ho hl
  simp only [VRL] at k1
  have := m1 [] [] (by simp [VRL])
  rw [k1] at e1
  rw [List.append_nil] at this e1
  rw [ht]
  simp only [VR]
  exact ⟨vs, rfl, by rw [e1]; exact this⟩
 have single : cs = [c] → toC T x [] = [asCV T x] → VR M' (asCV T x) v := by
  intro hcs ht
  subst hcs
  obtain ⟨v1, v2, e1, k1, m1⟩ := ofC_back ok (M' := M') hS hh T [c] [] x [v] ho (by simp only [VRL]; exact ⟨v, [], rfl, hv, rfl⟩)
  simp only [VRL] at k1
  subst k1
  rw [List.append_nil] at e1; subst e1
  have := m1 [] [] (by simp [VRL])
  rw [List.append_nil, ht] at this
  simp only [VRL] at this
  obtain ⟨u, ur, he, h3, _⟩ := this
  injection he with he; subst he; exact h3
 cases T with
 | nil => cases c <;> simp only [aggCells] at ha <;> first | (cases ha; done) | (injection ha with ha; exact aggc _ rfl ha.symm rfl)
 | cons p q => cases c <;> simp only [aggCells] at ha <;> first | (cases ha; done) | (injection ha with ha; exact aggc _ rfl ha.symm rfl)
 | int k => cases c <;> simp only [aggCells] at ha <;> first | (cases ha; done) | (injection ha with ha; exact single ha.symm rfl)
 | bool => cases c <;> simp only [aggCells] at ha <;> first | (cases ha; done) | (injection ha with ha; exact single ha.symm rfl)
 | str => cases c <;> simp only [aggCells] at ha <;> first | (cases ha; done) | (injection ha with ha; exact single ha.symm rfl)
 | flt => cases c <;> simp only [aggCells] at ha <;> first | (cases ha; done) | (injection ha with ha; exact single ha.symm rfl)
 | pt => simp only [aggCells] at ha; cases cs <;> simp [ofC] at ho
 | sl e => cases c <;> simp only [aggCells] at ha <;> first | (cases ha; done) | (injection ha with ha; exact single ha.symm rfl)
 | mu e => cases cs <;> simp [ofC] at ho
theorem sub_β {ρ : Rho} {go' : Nat → Option Ob} {p o : Nat} (h : lk ρ p = some (some o)) : (M.sub ρ go').β p = M.β o := by simp only [Mem.sub, h]
theorem sub_βn {ρ : Rho} {go' : Nat → Option Ob} {p : Nat} (h : lk ρ p = some none) : (M.sub ρ go').β p = ⟨true, 0, 0, 0⟩ := by simp only [Mem.sub, h]
theorem capR_sub {ρ : Rho} {go' : Nat → Option Ob} : ∀ {l l' : List (Nat × Nat)} {vs : List Value}, CapL ρ l l' → CapR M l' vs → CapR (M.sub ρ go') l vs
 | [], l', vs, h, k => by
  have h : l' = [] := h
  subst h; exact k
 | (p, off) :: r, l', vs, h, k => by
  obtain ⟨o, r', rfl, h2, h3⟩ := h
  obtain ⟨vr, k1, k2, k3⟩ := k
  exact ⟨vr, by rw [sub_β h2]; exact k1, ⟨o, h2, k2⟩, capR_sub h3 k3⟩
theorem capL_at {ρ : Rho} : ∀ {l l' : List (Nat × Nat)}, CapL ρ l l' → l.length = l'.length ∧ ∀ (i : Nat) (h1 : i < l.length) (h2 : i < l'.length), lk ρ l[i].1 = some (some l'[i].1) ∧ l[i].2 = l'[i].2
 | [], l', h => by
  have h : l' = [] := h
  subst h; exact ⟨rfl, fun i h1 => absurd h1 (by simp)⟩
 | (p, off) :: r, l', h => by
  obtain ⟨o, r', rfl, h2, h3⟩ := h
  obtain ⟨k1, k2⟩ := capL_at h3
  refine ⟨by simp [k1], fun i g1 g2 => ?_⟩
  cases i with
  | zero => exact ⟨h2, rfl⟩
  | succ i => simpa using k2 i (by simpa using g1) (by simpa using g2)
theorem psR_sub {ρ : Rho} {go' : Nat → Option Ob} {l l' : List (Nat × Nat)} {v : Value} (h : CapL ρ l l') (k : PsR M l' v) : PsR (M.sub ρ go') l v := by
 obtain ⟨h1, h2⟩ := capL_at h
 rcases k with ⟨rfl, k⟩ | ⟨b, o, c, hv, hc, hk⟩
 ·exact .inl ⟨List.eq_nil_of_length_eq_zero h1, k⟩
 ·refine .inr ⟨b, o, c, by rw [h1]; exact hv, by rw [h1]; exact hc, fun i hi => ?_⟩
  obtain ⟨k1, k2, k3⟩ := hk i (by omega)
  obtain ⟨g1, g2⟩ := h2 i hi (by omega)
  exact ⟨k1, by rw [sub_β g1, g2]; exact k2, ⟨_, g1, k3⟩⟩
theorem lenP_eq (l : List (Nat × Nat)) : lenP l = l.length := by
 induction l with
 | nil => rfl
 | cons x r ih => simp [lenP, ih]
theorem units_len (n : Nat) : (units n).length = n := by
 induction n with
 | zero => rfl
 | succ n ih => simp [units, ih]
theorem units_eq : ∀ {l : List Unit} {n : Nat}, l.length = n → l = units n
 | [], n, h => by simp at h; subst h; rfl
 | () :: r, n, h => by
  cases n with
  | zero => simp at h
  | succ n => simp at h; rw [units, ← units_eq h]
theorem getV_vr (ok : MOK B M) {ρ1 ρ2 ρ : Rho} {go' : Nat → Option Ob} (hrow : ∀ c v t T l, go' c = some (.row v t T l) → v = 0 ∧ RowAt M ρ c t T l) {s : SSh} {c : CV} {x : s.den} {v : Value}
  (h : getV M.go ρ1 s c = some (x, ρ2)) (hi : InjR ρ1) (hle : Le ρ2 ρ) (hv : VR M c v) : VR (M.sub ρ go') (mkV s x) v := by
 cases s with
 | val T =>
  simp only [getV] at h
  split at h
  ·rename_i cs ha
   split at h
   ·rename_i x' ho
    injection h with h; injection h with h1 h2; subst h1
    exact agg_vr (M' := M.sub ρ go') ok rfl rfl ha ho hv
   ·cases h
  ·cases h
 | own k t T =>
  simp only [getV] at h
  split at h
  ·split at h
   ·rename_i hl
    injection h with h; injection h with h1 h2; subst h2
    have hb := hle _ _ (bindN_ok hl hi).2.2
    rw [hv.nils]
    simp only [mkV, VR]
    refine ⟨by simp [Mem.sub, hb], fun v0 t0 T0 l0 hg => ?_⟩
    obtain ⟨hv0, hr⟩ := hrow _ _ _ _ _ hg
    refine ⟨Nat.zero_le _, fun _ => ?_⟩
    rcases hr with ⟨_, hr⟩ | ⟨o, v1, hr, _⟩
    ·simp [Mem.sub, hb, Hd.slice]
    ·rw [hb] at hr; cases hr
   ·cases h
  ·rename_i o ver
   split at h
   ·rename_i v1 t1 T1 l1 hg1
    split at h
    ·rename_i hver
     split at h
     ·split at h
      ·rename_i hT
       split at h
       ·rename_i ρ3 hb
        injection h with h; injection h with h1 h2; subst h2
        have hbd := hle _ _ (bindP_ok hb hi).2.2
        have e1 := beq_of hver; subst e1
        simp only [mkV, VR]
        refine ⟨by simp [Mem.sub, hbd], fun v0 t0 T0 l0 hg => ?_⟩
        obtain ⟨hv0, hr⟩ := hrow _ _ _ _ _ hg
        refine ⟨Nat.zero_le _, fun _ => ?_⟩
        rcases hr with ⟨hr, _⟩ | ⟨o', v2, hr, hg2⟩
        ·rw [hbd] at hr; cases hr
        ·rw [hbd] at hr; injection hr with hr; injection hr with hr; subst hr
         rw [hg1] at hg2; injection hg2 with hg2; injection hg2 with g1 g2 g3 g4
         subst g3
         have g4 := eq_of_heq g4; subst g4
         rw [hv.own hg1, sub_β hbd]
       ·cases h
      ·cases h
     ·cases h
    ·cases h
   ·cases h
  ·cases h
 | ptr p off =>
  simp only [getV] at h
  split at h
  ·rename_i o off'
   split at h
   ·rename_i hof
    split at h
    ·rename_i ρ3 hb
     injection h with h; injection h with h1 h2; subst h2
     have hbd := hle _ _ (bindP_ok hb hi).2.2
     have e1 := beq_of hof; subst e1
     simp only [VR] at hv
     simp only [mkV, VR]
     exact ⟨⟨o, hbd, hv.1⟩, by rw [sub_β hbd]; exact hv.2⟩
    ·cases h
   ·cases h
  ·cases h
 | nilp =>
  simp only [getV] at h
  split at h
  ·rw [hv.nilp]; simp [mkV, VR]
  ·cases h
 | nils =>
  simp only [getV] at h
  split at h
  ·rw [hv.nils]; simp [mkV, VR]
  ·cases h
 | top => simp [mkV, VR]
 | mark => simp [mkV, VR]
 | cst k n =>
  simp only [getV] at h
  split at h
  ·rename_i k' n'
   split at h
   ·rename_i hk
    split at h
    ·rename_i hn
     have hn : n' = n := by simpa using hn
     subst hk; subst hn
     simp only [mkV]; rw [hv.int]; simp [VR]
    ·cases h
   ·cases h
  ·cases h
 | psl l =>
  simp only [getV] at h
  split at h
  ·split at h
   ·rename_i hb
    injection h with h; injection h with h1 h2; subst h2
    have hc := (bindL_ok hb hi).2.2.mono hle
    simp only [VR] at hv
    simp only [mkV, VR]
    exact psR_sub hc hv
   ·cases h
  ·split at h
   ·rename_i hb
    injection h with h; injection h with h1 h2; subst h2
    have hc := (bindL_ok hb hi).2.2.mono hle
    simp only [VR] at hv
    simp only [mkV, VR]
    exact psR_sub hc hv.1
   ·cases h
  ·split at h
   ·rw [hv.nils]
    simp only [mkV, VR]
    exact .inl ⟨rfl, rfl⟩
   ·cases h
  ·cases h
 | prow k t l =>
  simp only [getV] at h
  split at h
  ·split at h
   ·split at h
    ·rename_i hl
     injection h with h; injection h with h1 h2; subst h2
     have hb := hle _ _ (bindN_ok hl hi).2.2
     rw [hv.nils]
     simp only [mkV, VR]
     refine ⟨.inl ⟨rfl, rfl⟩, by simp [Mem.sub, hb], fun v0 t0 T0 l0 hg => ?_⟩
     obtain ⟨hv0, hr⟩ := hrow _ _ _ _ _ hg
     refine ⟨Nat.zero_le _, fun _ => ?_⟩
     rcases hr with ⟨_, hr⟩ | ⟨o, v1, hr, _⟩
     ·simp [Mem.sub, hb, Hd.slice]
     ·rw [hb] at hr; cases hr
    ·cases h
   ·cases h
  ·rename_i o ver l'
   split at h
   ·rename_i v1 t1 T1 l1 hg1
    split at h
    ·rename_i hbq
     split at h
     ·rename_i hT
      split at h
      ·rename_i ρ3 hb
       split at h
       ·rename_i ρ4 hb2
        injection h with h; injection h with h1 h2; subst h2
        simp only [Bool.and_eq_true] at hbq
        have e1 := beq_of hbq.1.1; subst e1
        have a := bindP_ok hb hi
        have b := bindL_ok hb2 a.2.1
        have hbd := hle _ _ (b.1 _ _ a.2.2)
        simp only [VR] at hv
        simp only [mkV, VR]
        refine ⟨psR_sub (b.2.2.mono hle) hv.1, by simp [Mem.sub, hbd], fun v0 t0 T0 l0 hg => ?_⟩
        obtain ⟨hv0, hr⟩ := hrow _ _ _ _ _ hg
        refine ⟨Nat.zero_le _, fun _ => ?_⟩
        rcases hr with ⟨hr, _⟩ | ⟨o', v2, hr, hg2⟩
        ·rw [hbd] at hr; cases hr
        ·rw [hbd] at hr; injection hr with hr; injection hr with hr; subst hr
         rw [hg1] at hg2; injection hg2 with hg2; injection hg2 with g1 g2 g3 g4
         subst g3
         have g4 := eq_of_heq g4; subst g4
         rw [sub_β hbd]
         exact (hv.2.2 _ _ _ _ hg1).2 rfl
       ·cases h
      ·cases h
     ·cases h
    ·cases h
   ·cases h
  ·cases h
 | mref p =>
  simp only [getV] at h
  split at h
  ·split at h
   ·rename_i ρ3 hb
    injection h with h; injection h with h1 h2; subst h2
    have hbd := hle _ _ (bindP_ok hb hi).2.2
    simp only [VR] at hv
    simp only [mkV, VR]
    exact ⟨⟨_, hbd, hv.1⟩, by rw [sub_β hbd]; exact hv.2⟩
   ·cases h
  ·cases h
 | mapd =>
  simp only [getV] at h
  split at h
  ·simp [VR] at hv
  ·cases h
 | clo f l =>
  simp only [getV] at h
  split at h
  ·split at h
   ·rename_i hf
    split at h
    ·rename_i ρ3 hb
     injection h with h; injection h with h1 h2; subst h2
     have e1 := beq_of hf; subst e1
     have hc := (bindL_ok hb hi).2.2.mono hle
     simp only [VR] at hv
     obtain ⟨vs, e2, hl⟩ := hv
     simp only [mkV, VR]
     exact ⟨vs, e2, capR_sub hc hl⟩
    ·cases h
   ·cases h
  ·split at h
   ·rename_i hf
    split at h
    ·injection h with h; injection h with h1 h2; subst h2
     have e1 := beq_of hf; subst e1
     simp only [VR] at hv
     simp only [mkV, VR]
     exact ⟨#[], hv, by simp [CapR]⟩
    ·cases h
   ·cases h
  ·cases h
theorem getEnv_le {go : Nat → Option Ob} {env : List (Nat × CV)} : ∀ (l : List (Nat × SSh)) (ρ ρ' : Rho) (d : denE l), getEnv go env l ρ = some (d, ρ') → InjR ρ → Le ρ ρ' ∧ InjR ρ'
 | [], ρ, ρ', d, h, hi => by simp only [getEnv] at h; injection h with h; injection h with h1 h2; subst h2; exact ⟨Le.refl _, hi⟩
 | s :: r, ρ, ρ', d, h, hi => by
  simp only [getEnv] at h
  split at h
  ·cases h
  ·split at h
   ·cases h
   ·rename_i x ρ1 hv
    split at h
    ·cases h
    ·rename_i d' ρ2 hr
     injection h with h; injection h with h1 h2; subst h2
     obtain ⟨a1, a2⟩ := getV_le hv hi
     obtain ⟨b1, b2⟩ := getEnv_le r ρ1 _ d' hr a2
     exact ⟨a1.trans b1, b2⟩
theorem getC_le {go : Nat → Option Ob} {ρ ρ' : Rho} {s : SSh} {cs r : List CV} {x : s.den} (h : getC go ρ s cs = some (x, r, ρ')) (hi : InjR ρ) : Le ρ ρ' ∧ InjR ρ' := by
 unfold getC at h
 split at h
 ·split at h
  ·injection h with h; injection h with h1 h2; injection h2 with h2 h3; subst h3; exact ⟨Le.refl _, hi⟩
  ·cases h
 ·split at h
  ·rename_i hv
   injection h with h; injection h with h1 h2; injection h2 with h2 h3; subst h3
   exact getV_le hv hi
  ·cases h
 ·cases h
theorem getCells_le {go : Nat → Option Ob} : ∀ (l : List SSh) (cs : List CV) (ρ ρ' : Rho) (d : denS l), getCells go l cs ρ = some (d, ρ') → InjR ρ → Le ρ ρ' ∧ InjR ρ'
 | [], [], ρ, ρ', d, h, hi => by simp only [getCells] at h; injection h with h; injection h with h1 h2; subst h2; exact ⟨Le.refl _, hi⟩
 | [], _ :: _, ρ, ρ', d, h, hi => by simp [getCells] at h
 | s :: r, cs, ρ, ρ', d, h, hi => by
  simp only [getCells] at h
  split at h
  ·cases h
  ·rename_i x cs' ρ1 hc
   split at h
   ·cases h
   ·rename_i d' ρ2 hr
    injection h with h; injection h with h1 h2; subst h2
    obtain ⟨a1, a2⟩ := getC_le hc hi
    obtain ⟨b1, b2⟩ := getCells_le r cs' ρ1 _ d' hr a2
    exact ⟨a1.trans b1, b2⟩
theorem getObjs_le {go : Nat → Option Ob} : ∀ (l : List (Nat × Nat × List SSh)) (ρ ρ' : Rho) (d : denO l), getObjs go l ρ = some (d, ρ') → InjR ρ → Le ρ ρ' ∧ InjR ρ'
 | [], ρ, ρ', d, h, hi => by simp only [getObjs] at h; injection h with h; injection h with h1 h2; subst h2; exact ⟨Le.refl _, hi⟩
 | s :: r, ρ, ρ', d, h, hi => by
  simp only [getObjs] at h
  split at h
  ·split at h
   ·split at h
    ·split at h
     ·cases h
     ·rename_i x ρ1 hc
      split at h
      ·cases h
      ·rename_i d' ρ2 hr
       injection h with h; injection h with h1 h2; subst h2
       obtain ⟨a1, a2⟩ := getCells_le _ _ ρ _ x hc hi
       obtain ⟨b1, b2⟩ := getObjs_le r ρ1 _ d' hr a2
       exact ⟨a1.trans b1, b2⟩
    ·cases h
   ·cases h
  ·cases h
theorem getEnv_vr (ok : MOK B M) {ρ : Rho} {go' : Nat → Option Ob} (hrow : ∀ c v t T l, go' c = some (.row v t T l) → v = 0 ∧ RowAt M ρ c t T l) {env : List (Nat × CV)} {tmps : Array Value} (hE : RelE M env tmps) :
  ∀ (l : List (Nat × SSh)) (ρ1 ρ2 : Rho) (d : denE l), getEnv M.go env l ρ1 = some (d, ρ2) → InjR ρ1 → Le ρ2 ρ → ∀ i c, (i, c) ∈ mkEnv l d → ∃ v, tmps[i]? = some v ∧ VR (M.sub ρ go') c v
 | [], ρ1, ρ2, d, h, hi, hle, i, c, hm => by simp [mkEnv] at hm
 | s :: r, ρ1, ρ2, d, h, hi, hle, i, c, hm => by
  simp only [getEnv] at h
  split at h
  ·cases h
  ·rename_i cv hcv
   split at h
   ·cases h
   ·rename_i x ρ3 hv
    split at h
    ·cases h
    ·rename_i d' ρ4 hr
     injection h with h; injection h with h1 h2; subst h2; subst h1
     obtain ⟨a1, a2⟩ := getV_le hv hi
     obtain ⟨b1, b2⟩ := getEnv_le r ρ3 _ d' hr a2
     simp only [mkEnv, List.mem_cons] at hm
     rcases hm with hm | hm
     ·injection hm with hm1 hm2; subst hm1; subst hm2
      obtain ⟨v, h1, h2⟩ := hE _ _ hcv
      exact ⟨v, h1, getV_vr ok hrow hv hi (b1.trans hle) h2⟩
     ·exact getEnv_vr ok hrow hE r ρ3 _ d' hr a2 hle i c hm
theorem getCells_vr (ok : MOK B M) {ρ : Rho} {go' : Nat → Option Ob} (hrow : ∀ c v t T l, go' c = some (.row v t T l) → v = 0 ∧ RowAt M ρ c t T l) :
  ∀ (l : List SSh) (cs : List CV) (ρ1 ρ2 : Rho) (d : denS l) (vs : List Value), getCells M.go l cs ρ1 = some (d, ρ2) → InjR ρ1 → Le ρ2 ρ → VRL M cs vs → VRL (M.sub ρ go') (mkCells l d) vs
 | [], [], ρ1, ρ2, d, vs, h, hi, hle, hl => by simp only [VRL] at hl; subst hl; simp [mkCells, VRL]
 | [], _ :: _, ρ1, ρ2, d, vs, h, hi, hle, hl => by simp [getCells] at h
 | s :: r, cs, ρ1, ρ2, d, vs, h, hi, hle, hl => by
  simp only [getCells] at h
  split at h
  ·cases h
  ·rename_i x cs' ρ3 hc
   split at h
   ·cases h
   ·rename_i d' ρ4 hr
    injection h with h; injection h with h1 h2; subst h2; subst h1
    obtain ⟨a1, a2⟩ := getC_le hc hi
    obtain ⟨b1, b2⟩ := getCells_le r cs' ρ3 _ d' hr a2
    simp only [mkCells]
    have other : ∀ c r', cs = c :: r' → getV M.go ρ1 s c = some (x, ρ3) → cs' = r' → (∀ y r, mkC s y r = mkV s y :: r) → VRL (M.sub ρ go') (mkC s x (mkCells r d')) vs := by
     intro c r' hcs hv hr' hmk
     subst hcs; subst hr'
     simp only [VRL] at hl
     obtain ⟨v, vr, rfl, h1, h2⟩ := hl
     rw [hmk]
     simp only [VRL]
     exact ⟨v, vr, rfl, getV_vr ok hrow hv hi (b1.trans hle) h1, getCells_vr ok hrow r _ ρ3 _ d' vr hr a2 hle h2⟩
    cases s with
    | val T =>
     simp only [getC] at hc
     split at hc
     ·rename_i x' r' ho
      injection hc with hc; injection hc with h1 h2; injection h2 with h2 h3
      subst h1; subst h2; subst h3
      obtain ⟨v1, v2, e1, k1, m1⟩ := ofC_back ok (M' := M.sub ρ go') rfl rfl T cs _ _ vs ho hl
      subst e1
      simp only [mkC]
      exact m1 _ _ (getCells_vr ok hrow r _ ρ1 _ d' v2 hr a2 hle k1)
     ·cases hc
    | own k t T =>
     cases cs with
     | nil => simp [getC] at hc
     | cons c r' =>
      simp only [getC] at hc
      split at hc
      ·rename_i hv
       injection hc with hc; injection hc with h1 h2; injection h2 with h2 h3
       subst h1; subst h2; subst h3
       exact other c _ rfl hv rfl (fun _ _ => rfl)
      ·cases hc
    | ptr p off =>
     cases cs with
     | nil => simp [getC] at hc
     | cons c r' =>
      simp only [getC] at hc
      split at hc
      ·rename_i hv
       injection hc with hc; injection hc with h1 h2; injection h2 with h2 h3
       subst h1; subst h2; subst h3
       exact other c _ rfl hv rfl (fun _ _ => rfl)
      ·cases hc
    | nilp =>
     cases cs with
     | nil => simp [getC] at hc
     | cons c r' =>
      simp only [getC] at hc
      split at hc
      ·rename_i hv
       injection hc with hc; injection hc with h1 h2; injection h2 with h2 h3
       subst h1; subst h2; subst h3
       exact other c _ rfl hv rfl (fun _ _ => rfl)
      ·cases hc
    | nils =>
     cases cs with
     | nil => simp [getC] at hc
     | cons c r' =>
      simp only [getC] at hc
      split at hc
      ·rename_i hv
       injection hc with hc; injection hc with h1 h2; injection h2 with h2 h3
       subst h1; subst h2; subst h3
       exact other c _ rfl hv rfl (fun _ _ => rfl)
      ·cases hc
    | top =>
     cases cs with
     | nil => simp [getC] at hc
     | cons c r' =>
      simp only [getC] at hc
      split at hc
      ·rename_i hv
       injection hc with hc; injection hc with h1 h2; injection h2 with h2 h3
       subst h1; subst h2; subst h3
       exact other c _ rfl hv rfl (fun _ _ => rfl)
      ·cases hc
    | mark =>
     cases cs with
     | nil => simp [getC] at hc
     | cons c r' =>
      simp only [getC] at hc
      split at hc
      ·rename_i hv
       injection hc with hc; injection hc with h1 h2; injection h2 with h2 h3
       subst h1; subst h2; subst h3
       exact other c _ rfl hv rfl (fun _ _ => rfl)
      ·cases hc
    | mref p =>
     cases cs with
     | nil => simp [getC] at hc
     | cons c r' =>
      simp only [getC] at hc
      split at hc
      ·rename_i hv
       injection hc with hc; injection hc with h1 h2; injection h2 with h2 h3
       subst h1; subst h2; subst h3
       exact other c _ rfl hv rfl (fun _ _ => rfl)
      ·cases hc
    | mapd =>
     cases cs with
     | nil => simp [getC] at hc
     | cons c r' =>
      simp only [getC] at hc
      split at hc
      ·rename_i hv
       injection hc with hc; injection hc with h1 h2; injection h2 with h2 h3
       subst h1; subst h2; subst h3
       exact other c _ rfl hv rfl (fun _ _ => rfl)
      ·cases hc
    | clo f l =>
     cases cs with
     | nil => simp [getC] at hc
     | cons c r' =>
      simp only [getC] at hc
      split at hc
      ·rename_i hv
       injection hc with hc; injection hc with h1 h2; injection h2 with h2 h3
       subst h1; subst h2; subst h3
       exact other c _ rfl hv rfl (fun _ _ => rfl)
      ·cases hc
    | cst k n =>
     cases cs with
     | nil => simp [getC] at hc
     | cons c r' =>
      simp only [getC] at hc
      split at hc
      ·rename_i hv
       injection hc with hc; injection hc with h1 h2; injection h2 with h2 h3
       subst h1; subst h2; subst h3
       exact other c _ rfl hv rfl (fun _ _ => rfl)
      ·cases hc
    | psl l =>
     cases cs with
     | nil => simp [getC] at hc
     | cons c r' =>
      simp only [getC] at hc
      split at hc
      ·rename_i hv
       injection hc with hc; injection hc with h1 h2; injection h2 with h2 h3
       subst h1; subst h2; subst h3
       exact other c _ rfl hv rfl (fun _ _ => rfl)
      ·cases hc
    | prow k t l =>
     cases cs with
     | nil => simp [getC] at hc
     | cons c r' =>
      simp only [getC] at hc
      split at hc
      ·rename_i hv
       injection hc with hc; injection hc with h1 h2; injection h2 with h2 h3
       subst h1; subst h2; subst h3
       exact other c _ rfl hv rfl (fun _ _ => rfl)
      ·cases hc
theorem getV_row {go : Nat → Option Ob} {ρ1 ρ2 ρ : Rho} (hM : M.go = go) {s : SSh} {c : CV} {x : s.den} (h : getV go ρ1 s c = some (x, ρ2)) (hi : InjR ρ1) (hle : Le ρ2 ρ) (os : List (Nat × Ob)) :
  ∀ q ob, (q, ob) ∈ mkR s x os → (q, ob) ∈ os ∨ ∃ t T l, ob = .row 0 t T l ∧ RowAt M ρ q t T l := by
 subst hM
 intro q ob hm
 cases s with
 | own k t T =>
  simp only [mkR, List.mem_cons] at hm
  rcases hm with hm | hm
  ·injection hm with h1 h2; subst h1; subst h2
   refine .inr ⟨t, T, x, rfl, ?_⟩
   simp only [getV] at h
   split at h
   ·split at h
    ·rename_i hl
     injection h with h; injection h with h1 h2; subst h2; subst h1
     exact .inl ⟨hle _ _ (bindN_ok hl hi).2.2, rfl⟩
    ·cases h
   ·split at h
    ·rename_i v1 t1 T1 l1 hg1
     split at h
     ·split at h
      ·rename_i htt
       split at h
       ·rename_i hT
        split at h
        ·rename_i hb
         injection h with h; injection h with h1 h2; subst h2
         have e1 := beq_of htt; subst e1
         subst hT; subst h1
         exact .inr ⟨_, v1, hle _ _ (bindP_ok hb hi).2.2, hg1⟩
        ·cases h
       ·cases h
      ·cases h
     ·cases h
    ·cases h
   ·cases h
  ·exact .inl hm
 | prow k t l =>
  simp only [mkR, List.mem_cons] at hm
  rcases hm with hm | hm
  ·injection hm with h1 h2; subst h1; subst h2
   refine .inr ⟨t, .pt, units (lenP l), rfl, ?_⟩
   simp only [getV] at h
   split at h
   ·split at h
    ·split at h
     ·rename_i hl
      injection h with h; injection h with h1 h2; subst h2
      exact .inl ⟨hle _ _ (bindN_ok hl hi).2.2, rfl⟩
     ·cases h
    ·cases h
   ·split at h
    ·rename_i v1 t1 T1 l1 hg1
     split at h
     ·rename_i hbq
      split at h
      ·rename_i hT
       split at h
       ·rename_i hb
        split at h
        ·rename_i hb2
         injection h with h; injection h with h1 h2; subst h2
         simp only [Bool.and_eq_true] at hbq
         have e1 := beq_of hbq.1.2; subst e1
         subst hT
         have e3 := beq_of hbq.2
         rw [lenN_eq] at e3
         have e4 : l1 = units (lenP l) := units_eq (l := l1) e3
         have a := bindP_ok hb hi
         have b := bindL_ok hb2 a.2.1
         exact .inr ⟨_, v1, hle _ _ (b.1 _ _ a.2.2), by rw [← e4]; exact hg1⟩
        ·cases h
       ·cases h
      ·cases h
     ·cases h
    ·cases h
   ·cases h
  ·exact .inl hm
 | _ => exact .inl hm
theorem getEnv_rows {env : List (Nat × CV)} {ρ : Rho} : ∀ (l : List (Nat × SSh)) (ρ1 ρ2 : Rho) (d : denE l) (os : List (Nat × Ob)), getEnv M.go env l ρ1 = some (d, ρ2) → InjR ρ1 → Le ρ2 ρ →
  ∀ q ob, (q, ob) ∈ mkRows l d os → (q, ob) ∈ os ∨ ∃ t T l, ob = .row 0 t T l ∧ RowAt M ρ q t T l
 | [], ρ1, ρ2, d, os, h, hi, hle, q, ob, hm => .inl hm
 | s :: r, ρ1, ρ2, d, os, h, hi, hle, q, ob, hm => by
  simp only [getEnv] at h
  split at h
  ·cases h
  ·split at h
   ·cases h
   ·rename_i x ρ3 hv
    split at h
    ·cases h
    ·rename_i d' ρ4 hr
     injection h with h; injection h with h1 h2; subst h2; subst h1
     obtain ⟨a1, a2⟩ := getV_le hv hi
     obtain ⟨b1, b2⟩ := getEnv_le r ρ3 _ d' hr a2
     simp only [mkRows] at hm
     rcases getV_row rfl hv hi (b1.trans hle) _ q ob hm with h | h
     ·exact getEnv_rows r ρ3 _ d' os hr a2 hle q ob h
     ·exact .inr h
theorem getC_row {ρ1 ρ2 ρ : Rho} {s : SSh} {cs r : List CV} {x : s.den} (h : getC M.go ρ1 s cs = some (x, r, ρ2)) (hi : InjR ρ1) (hle : Le ρ2 ρ) (os : List (Nat × Ob)) :
  ∀ q ob, (q, ob) ∈ mkR s x os → (q, ob) ∈ os ∨ ∃ t T l, ob = .row 0 t T l ∧ RowAt M ρ q t T l := by
 intro q ob hm
 cases s with
 | own k t T =>
  cases cs with
  | nil => simp [getC] at h
  | cons c r' =>
   simp only [getC] at h
   split at h
   ·rename_i hv
    injection h with h; injection h with h1 h2; injection h2 with h2 h3
    subst h1; subst h3
    exact getV_row rfl hv hi hle os q ob hm
   ·cases h
 | prow k t l =>
  cases cs with
  | nil => simp [getC] at h
  | cons c r' =>
   simp only [getC] at h
   split at h
   ·rename_i hv
    injection h with h; injection h with h1 h2; injection h2 with h2 h3
    subst h1; subst h3
    exact getV_row rfl hv hi hle os q ob hm
   ·cases h
 | _ => exact .inl hm
theorem getCells_rows {ρ : Rho} : ∀ (l : List SSh) (cs : List CV) (ρ1 ρ2 : Rho) (d : denS l) (os : List (Nat × Ob)), getCells M.go l cs ρ1 = some (d, ρ2) → InjR ρ1 → Le ρ2 ρ →
  ∀ q ob, (q, ob) ∈ mkCRows l d os → (q, ob) ∈ os ∨ ∃ t T l, ob = .row 0 t T l ∧ RowAt M ρ q t T l
 | [], cs, ρ1, ρ2, d, os, h, hi, hle, q, ob, hm => .inl hm
 | s :: r, cs, ρ1, ρ2, d, os, h, hi, hle, q, ob, hm => by
  simp only [getCells] at h
  split at h
  ·cases h
  ·rename_i x cs' ρ3 hc
   split at h
   ·cases h
   ·rename_i d' ρ4 hr
    injection h with h; injection h with h1 h2; subst h2; subst h1
    obtain ⟨a1, a2⟩ := getC_le hc hi
    obtain ⟨b1, b2⟩ := getCells_le r cs' ρ3 _ d' hr a2
    simp only [mkCRows] at hm
    rcases getC_row hc hi (b1.trans hle) _ q ob hm with h | h
    ·exact getCells_rows r cs' ρ3 _ d' os hr a2 hle q ob h
    ·exact .inr h
def Old (M : Mem) (ρ : Rho) (q : Nat) (ob : Ob) : Prop :=
 (∃ t T l, ob = .row 0 t T l ∧ RowAt M ρ q t T l) ∨
 ∃ o t cs l d ρ1 ρ2, lk ρ q = some (some o) ∧ M.go o = some (.cells t cs) ∧ getCells M.go l cs ρ1 = some (d, ρ2) ∧ InjR ρ1 ∧ Le ρ2 ρ ∧ ob = .cells t (mkCells l d)
theorem getObjs_old {ρ : Rho} : ∀ (l : List (Nat × Nat × List SSh)) (ρ1 ρ2 : Rho) (d : denO l), getObjs M.go l ρ1 = some (d, ρ2) → InjR ρ1 → Le ρ2 ρ → ∀ q ob, (q, ob) ∈ mkObjs l d → Old M ρ q ob
 | [], ρ1, ρ2, d, h, hi, hle, q, ob, hm => by simp [mkObjs] at hm
 | s :: r, ρ1, ρ2, d, h, hi, hle, q, ob, hm => by
  simp only [getObjs] at h
  split at h
  ·rename_i o hlk
   split at h
   ·rename_i t cs hg
    split at h
    ·rename_i ht
     split at h
     ·cases h
     ·rename_i x ρ3 hc
      split at h
      ·cases h
      ·rename_i d' ρ4 hr
       injection h with h; injection h with h1 h2; subst h2; subst h1
       obtain ⟨a1, a2⟩ := getCells_le _ _ ρ1 _ x hc hi
       obtain ⟨b1, b2⟩ := getObjs_le r ρ3 _ d' hr a2
       have e1 := beq_of ht
       simp only [mkObjs, List.mem_cons] at hm
       rcases hm with hm | hm
       ·injection hm with h1 h2; subst h1; subst h2
        exact .inr ⟨o, t, cs, s.2.2, x, ρ1, ρ3, (a1.trans (b1.trans hle)) _ _ hlk, hg, hc, hi, b1.trans hle, by rw [e1]⟩
       ·rcases getCells_rows _ _ ρ1 _ x _ hc hi (b1.trans hle) q ob hm with h | h
        ·exact getObjs_old r ρ3 _ d' hr a2 hle q ob h
        ·exact .inl h
    ·cases h
   ·cases h
  ·cases h
theorem lk_mem {α : Type} : ∀ {l : List (Nat × α)} {i : Nat} {x : α}, lk l i = some x → (i, x) ∈ l
 | [], _, _, h => by simp [lk] at h
 | (j, v) :: r, i, x, h => by
  rw [lk_cons] at h
  by_cases hj : j = i
  ·rw [if_pos hj] at h; injection h with h; subst h; subst hj; simp
  ·rw [if_neg hj] at h; exact List.mem_cons_of_mem _ (lk_mem h)
theorem LSh.get_ok (ok : MOK B M) {s : LSh} {env : List (Nat × CV)} {tmps : Array Value} (hE : RelE M env tmps) {d : s.den} {ρ0 ρ : Rho} (h : s.get M.go env ρ0 = some (d, ρ)) (hi : InjR ρ0) :
  Le ρ0 ρ ∧ InjR ρ ∧ (∀ q ob, lk (s.obj d) q = some ob → Old M ρ q ob) ∧ RelE (M.sub ρ (lk (s.obj d))) (s.env d) tmps := by
 unfold LSh.get at h
 split at h
 ·cases h
 ·rename_i d1 ρ1 he
  split at h
  ·cases h
  ·rename_i d2 ρ2 ho
   injection h with h; injection h with h1 h2; subst h2; subst h1
   obtain ⟨a1, a2⟩ := getEnv_le _ ρ0 _ d1 he hi
   obtain ⟨b1, b2⟩ := getObjs_le _ ρ1 _ d2 ho a2
   have hold : ∀ q ob, lk (s.obj (d1, d2)) q = some ob → Old M ρ2 q ob := by
    intro q ob hq
    rcases getEnv_rows (M := M) _ ρ0 _ d1 _ he hi b1 q ob (lk_mem hq) with h | h
    ·exact getObjs_old _ ρ1 _ d2 ho a2 (Le.refl _) q ob h
    ·exact .inl h
   refine ⟨a1.trans b1, b2, hold, fun i c hc => ?_⟩
   refine getEnv_vr ok (fun c v t T l hg => ?_) hE _ ρ0 _ d1 he hi b1 i c (lk_mem hc)
   rcases hold c _ hg with ⟨t', T', l', h1, h2⟩ | ⟨_, _, _, _, _, _, _, _, _, _, _, _, h1⟩
   ·injection h1 with g1 g2 g3 g4
    subst g1; subst g2; subst g3
    have g4 := eq_of_heq g4; subst g4
    exact ⟨rfl, h2⟩
   ·cases h1
structure MCore (M : Mem) : Prop where
 obj : ∀ o ob, M.go o = some ob → OR M o ob
 used : ∀ o, M.go o ≠ none → M.U o
 cu : ∀ o, M.C o → M.U o
 rc : ∀ o v t T l, M.go o = some (.row v t T l) → ¬ M.C o
 cc : ∀ o t l, M.go o = some (.cells t l) → M.C o
 inj : ∀ o o', live M o → live M o' → o ≠ o' → (M.β o).b ≠ (M.β o').b
theorem sub_live {ρ : Rho} {os : List (Nat × Ob)} (hold : ∀ q ob, lk os q = some ob → Old M ρ q ob) {p : Nat} (h : live (M.sub ρ (lk os)) p) : ∃ o, lk ρ p = some (some o) ∧ live M o ∧ (M.sub ρ (lk os)).β p = M.β o := by
 obtain ⟨h1, h2⟩ := h
 cases hg : lk os p with
 | none => exact absurd hg h1
 | some ob =>
  have key : ∀ o, lk ρ p = some (some o) → M.go o ≠ none → ∃ o, lk ρ p = some (some o) ∧ live M o ∧ (M.sub ρ (lk os)).β p = M.β o := fun o ho hgo =>
   ⟨o, ho, ⟨hgo, by rw [sub_β ho] at h2; exact h2⟩, sub_β ho⟩
  rcases hold p ob hg with ⟨t, T, l, rfl, hr⟩ | ⟨o, t, cs, l, d, ρ1, ρ2, ho, hgo, _⟩
  ·rcases hr with ⟨hr, _⟩ | ⟨o, v, ho, hgo⟩
   ·rw [sub_βn hr] at h2; cases h2
   ·exact key o ho (by rw [hgo]; simp)
  ·exact key o ho (by rw [hgo]; simp)
theorem isMap_eq {l : List CV} {d : List (ByteArray × ByteArray)} (h : isMap l = some d) : l = [.mapd d] := by
 unfold isMap at h
 split at h
 ·injection h with h; subst h; rfl
 ·cases h
theorem ofC_mapd {go : Nat → Option Ob} {d : List (ByteArray × ByteArray)} : ∀ {T : Ty} {x : T.den} {r : List CV}, ofC go T [.mapd d] = some (x, r) → r = [.mapd d] ∧ ∀ q, toC T x q = q
 | .nil, x, r, h => by simp only [ofC] at h; injection h with h; injection h with h1 h2; exact ⟨h2.symm, fun q => rfl⟩
 | .cons a b, x, r, h => by
  simp only [ofC] at h
  split at h
  ·rename_i x1 r1 h1
   obtain ⟨rfl, e1⟩ := ofC_mapd h1
   split at h
   ·rename_i x2 r2 h2
    obtain ⟨rfl, e2⟩ := ofC_mapd h2
    injection h with h; injection h with h3 h4
    subst h3
    exact ⟨h4.symm, fun q => by simp only [toC]; rw [e2, e1]⟩
   ·cases h
  ·cases h
 | .int _, x, r, h => by simp [ofC] at h
 | .bool, x, r, h => by simp [ofC] at h
 | .str, x, r, h => by simp [ofC] at h
 | .flt, x, r, h => by simp [ofC] at h
 | .pt, x, r, h => by simp [ofC] at h
 | .sl e, x, r, h => by simp [ofC, asL] at h
 | .mu e, x, r, h => by simp [ofC] at h
theorem getCells_nil {go : Nat → Option Ob} : ∀ {l : List SSh} {ρ ρ' : Rho} {d : denS l}, getCells go l [] ρ = some (d, ρ') → mkCells l d = []
 | [], ρ, ρ', d, h => rfl
 | s :: r, ρ, ρ', d, h => by
  simp only [getCells] at h
  split at h
  ·cases h
  ·rename_i x cs ρ3 hc
   split at h
   ·cases h
   ·rename_i d' ρ4 hr
    injection h with h; injection h with h1 h2; subst h1
    simp only [mkCells]
    cases s with
    | val T =>
     simp only [getC] at hc
     split at hc
     ·rename_i x' r' ho
      injection hc with hc; injection hc with h1 h2; injection h2 with h2 h3
      subst h1; subst h2
      have key : ∀ (T : Ty) (x : T.den) (r : List CV), ofC go T [] = some (x, r) → r = [] ∧ ∀ q, toC T x q = q := by
       intro T
       induction T with
       | nil => intro x r h; simp only [ofC] at h; injection h with h; injection h with h1 h2; exact ⟨h2.symm, fun q => rfl⟩
       | cons a b iha ihb =>
        intro x r h
        simp only [ofC] at h
        split at h
        ·rename_i x1 r1 h1
         obtain ⟨rfl, e1⟩ := iha _ _ h1
         split at h
         ·rename_i x2 r2 h2
          obtain ⟨rfl, e2⟩ := ihb _ _ h2
          injection h with h; injection h with h3 h4
          subst h3
          exact ⟨h4.symm, fun q => by simp only [toC]; rw [e2, e1]⟩
         ·cases h
        ·cases h
       | int _ => intro x r h; simp [ofC] at h
       | bool => intro x r h; simp [ofC] at h
       | str => intro x r h; simp [ofC] at h
       | flt => intro x r h; simp [ofC] at h
       | pt => intro x r h; simp [ofC] at h
       | sl e _ => intro x r h; simp [ofC] at h
       | mu e _ => intro x r h; simp [ofC] at h
      obtain ⟨rfl, e1⟩ := key _ _ _ ho
      simp only [mkC]
      rw [e1]; exact getCells_nil hr
     ·cases hc
    | own => simp [getC] at hc
    | ptr => simp [getC] at hc
    | nilp => simp [getC] at hc
    | nils => simp [getC] at hc
    | top => simp [getC] at hc
    | cst => simp [getC] at hc
    | psl => simp [getC] at hc
    | prow => simp [getC] at hc
    | mark => simp [getC] at hc
    | mref => simp [getC] at hc
    | mapd => simp [getC] at hc
    | clo => simp [getC] at hc
theorem getCells_map {go : Nat → Option Ob} {d0 : List (ByteArray × ByteArray)} : ∀ {l : List SSh} {ρ ρ' : Rho} {d : denS l}, getCells go l [.mapd d0] ρ = some (d, ρ') → mkCells l d = [.mapd d0]
 | [], ρ, ρ', d, h => by simp [getCells] at h
 | s :: r, ρ, ρ', d, h => by
  simp only [getCells] at h
  split at h
  ·cases h
  ·rename_i x cs ρ3 hc
   split at h
   ·cases h
   ·rename_i d' ρ4 hr
    injection h with h; injection h with h1 h2; subst h1
    simp only [mkCells]
    cases s with
    | val T =>
     simp only [getC] at hc
     split at hc
     ·rename_i x' r' ho
      injection hc with hc; injection hc with h1 h2; injection h2 with h2 h3
      subst h1; subst h2
      obtain ⟨rfl, e1⟩ := ofC_mapd ho
      simp only [mkC]
      rw [e1]; exact getCells_map hr
     ·cases hc
    | own => simp [getC, getV] at hc
    | ptr => simp [getC, getV] at hc
    | nilp => simp [getC, getV] at hc
    | nils => simp [getC, getV] at hc
    | top => simp [getC, getV] at hc
    | cst => simp [getC, getV] at hc
    | psl => simp [getC, getV] at hc
    | prow => simp [getC, getV] at hc
    | mark => simp [getC, getV] at hc
    | mref => simp [getC, getV] at hc
    | clo => simp [getC, getV] at hc
    | mapd =>
     simp only [getC, getV] at hc
     injection hc with hc; injection hc with h1 h2; injection h2 with h2 h3
     subst h1; subst h2
     simp only [mkC, mkV]
     rw [getCells_nil hr]
theorem sub_core (ok : MOK B M) {ρ : Rho} {os : List (Nat × Ob)} (hi : InjR ρ) (hold : ∀ q ob, lk os q = some ob → Old M ρ q ob) : MCore (M.sub ρ (lk os)) := by
 have hrow : ∀ c v t T l, lk os c = some (.row v t T l) → v = 0 ∧ RowAt M ρ c t T l := by
  intro c v t T l hg
  rcases hold c _ hg with ⟨t', T', l', h1, h2⟩ | ⟨_, _, _, _, _, _, _, _, _, _, _, _, h1⟩
  ·injection h1 with g1 g2 g3 g4
   subst g1; subst g2; subst g3
   have g4 := eq_of_heq g4; subst g4
   exact ⟨rfl, h2⟩
  ·cases h1
 refine ⟨fun p ob hg => ?_, fun p hg => ?_, fun p ⟨o, ho, _⟩ => by simp [Mem.sub, ho], fun p v t T l hg ⟨o, ho, hC⟩ => ?_, fun p t l hg => ?_, fun p p' h1 h2 hne => ?_⟩
 ·rcases hold p ob hg with ⟨t, T, l, rfl, hr⟩ | ⟨o, t, cs, l, d, ρ1, ρ2, ho, hgo, hc, hi1, hle, rfl⟩
  ·rcases hr with ⟨hr, rfl⟩ | ⟨o, v, ho, hgo⟩
   ·simp only [OR, sub_βn hr]
   ·have := ok.obj o _ hgo
    simp only [OR, sub_β ho] at this ⊢
    exact this
  ·have := ok.obj o _ hgo
   simp only [OR, sub_β ho] at this ⊢
   obtain ⟨h1, hLies, h4⟩ := this
   refine ⟨h1, ?_, h4⟩
   cases hm : isMap cs with
   | none =>
    obtain ⟨vs, h2, h3⟩ := hLies.cells hm
    exact Lies.of_cells (vs := vs) h2 (getCells_vr ok hrow l cs ρ1 ρ2 d _ hc hi1 hle h3)
   | some d0 =>
    obtain ⟨es, ck, h2, h3⟩ := hLies.map hm
    have hcs := isMap_eq hm
    subst hcs
    unfold Lies
    rw [getCells_map hc, isMap_one]
    exact ⟨es, ck, h2, h3⟩
 ·cases hg' : lk os p with
  | none => exact absurd hg' hg
  | some ob =>
   rcases hold p ob hg' with ⟨t, T, l, rfl, hr⟩ | ⟨o, t, cs, l, d, ρ1, ρ2, ho, _⟩
   ·rcases hr with ⟨hr, _⟩ | ⟨o, v, ho, _⟩ <;> simp [Mem.sub, *]
   ·simp [Mem.sub, ho]
 ·obtain ⟨_, hr⟩ := hrow p v t T l hg
  rcases hr with ⟨hr, _⟩ | ⟨o', v', ho', hgo'⟩
  ·rw [ho] at hr; cases hr
  ·rw [ho] at ho'; injection ho' with ho'; injection ho' with ho'; subst ho'
   exact ok.rc _ _ _ _ _ hgo' hC
 ·rcases hold p _ hg with ⟨t', T', l', h1, _⟩ | ⟨o, t', cs, l', d, ρ1, ρ2, ho, hgo, _⟩
  ·cases h1
  ·exact ⟨o, ho, ok.cc o t' cs hgo⟩
 ·obtain ⟨o, ho, hl, hb⟩ := sub_live hold h1
  obtain ⟨o', ho', hl', hb'⟩ := sub_live hold h2
  rw [hb, hb']
  refine ok.inj o o' hl hl' (fun he => ?_)
  subst he
  exact hne (hi _ _ _ ho ho')
theorem sub_ok (ok : MOK B M) {ρ : Rho} {os : List (Nat × Ob)} (hi : InjR ρ) (hold : ∀ q ob, lk os q = some ob → Old M ρ q ob) (hro : ∀ p o, lk ρ p = some (some o) → B.ro o → p = o) : MOK B (M.sub ρ (lk os)) := by
 have c := sub_core ok hi hold
 refine ⟨c.obj, c.used, c.cu, c.rc, c.cc, c.inj, ok.lt, ok.size, ok.keep, ok.base, ok.cell, ok.new, fun p hl => ?_⟩
 obtain ⟨o, ho, hl', hb⟩ := sub_live hold hl
 rw [hb]
 rcases ok.own o hl' with h | h
 ·exact .inl (by rw [hro p o ho h]; exact h)
 ·exact .inr h
theorem getV_keys {go : Nat → Option Ob} {ρ ρ' : Rho} {s : SSh} {v : CV} {x : s.den} (h : getV go ρ s v = some (x, ρ')) : ∀ p, lk ρ' p ≠ none → lk ρ p ≠ none ∨ p ∈ s.refs := by
 have bp : ∀ {ρ ρ' : Rho} {p o : Nat}, bindP ρ p o = some ρ' → ∀ q, lk ρ' q ≠ none → lk ρ q ≠ none ∨ q = p := by
  intro ρ ρ' p o h q hq
  unfold bindP at h
  split at h
  ·split at h
   ·injection h with h; subst h; exact .inl hq
   ·cases h
  ·cases h
  ·split at h
   ·cases h
   ·injection h with h; subst h
    rw [lk_cons] at hq
    by_cases hp : p = q
    ·exact .inr hp.symm
    ·rw [if_neg hp] at hq; exact .inl hq
 intro q hq
 cases s with
 | val T =>
  simp only [getV] at h
  split at h
  ·split at h
   ·injection h with h; injection h with h1 h2; subst h2; exact .inl hq
   ·cases h
  ·cases h
 | own c t T =>
  simp only [getV] at h
  split at h
  ·split at h
   ·injection h with h; injection h with h1 h2; subst h2
    rw [lk_cons] at hq
    by_cases hp : c = q
    ·exact .inr (by simp [SSh.refs, hp])
    ·rw [if_neg hp] at hq; exact .inl hq
   ·cases h
  ·split at h
   ·split at h
    ·split at h
     ·split at h
      ·split at h
       ·rename_i hb
        injection h with h; injection h with h1 h2; subst h2
        rcases bp hb q hq with h | h
        ·exact .inl h
        ·exact .inr (by simp [SSh.refs, h])
       ·cases h
      ·cases h
     ·cases h
    ·cases h
   ·cases h
  ·cases h
 | ptr p off =>
  simp only [getV] at h
  split at h
  ·split at h
   ·split at h
    ·rename_i hb
     injection h with h; injection h with h1 h2; subst h2
     rcases bp hb q hq with h | h
     ·exact .inl h
     ·exact .inr (by simp [SSh.refs, h])
    ·cases h
   ·cases h
  ·cases h
 | nilp =>
  simp only [getV] at h
  split at h
  ·injection h with h; injection h with h1 h2; subst h2; exact .inl hq
  ·cases h
 | nils =>
  simp only [getV] at h
  split at h
  ·injection h with h; injection h with h1 h2; subst h2; exact .inl hq
  ·cases h
 | top =>
  simp only [getV] at h
  split at h
  ·cases h
  ·injection h with h; injection h with h1 h2; subst h2; exact .inl hq
 | mark =>
  simp only [getV] at h
  split at h
  ·cases h
  ·injection h with h; injection h with h1 h2; subst h2; exact .inl hq
 | cst k n =>
  simp only [getV] at h
  split at h
  ·split at h
   ·split at h
    ·injection h with h; injection h with h1 h2; subst h2; exact .inl hq
    ·cases h
   ·cases h
  ·cases h
 | psl l =>
  simp only [getV] at h
  split at h
  ·split at h
   ·rename_i hb
    injection h with h; injection h with h1 h2; subst h2
    exact bindL_keys hb q hq
   ·cases h
  ·split at h
   ·rename_i hb
    injection h with h; injection h with h1 h2; subst h2
    exact bindL_keys hb q hq
   ·cases h
  ·split at h
   ·injection h with h; injection h with h1 h2; subst h2; exact .inl hq
   ·cases h
  ·cases h
 | prow c t l =>
  simp only [getV] at h
  split at h
  ·split at h
   ·split at h
    ·injection h with h; injection h with h1 h2; subst h2
     rw [lk_cons] at hq
     by_cases hp : c = q
     ·exact .inr (by simp [SSh.refs, hp])
     ·rw [if_neg hp] at hq; exact .inl hq
    ·cases h
   ·cases h
  ·split at h
   ·split at h
    ·split at h
     ·split at h
      ·rename_i hb
       split at h
       ·rename_i hb2
        injection h with h; injection h with h1 h2; subst h2
        rcases bindL_keys hb2 q hq with h | h
        ·rcases bp hb q h with h | h
         ·exact .inl h
         ·exact .inr (by simp [SSh.refs, h])
        ·exact .inr (by simp [SSh.refs, h])
       ·cases h
      ·cases h
     ·cases h
    ·cases h
   ·cases h
  ·cases h
 | mref p =>
  simp only [getV] at h
  split at h
  ·split at h
   ·rename_i hb
    injection h with h; injection h with h1 h2; subst h2
    rcases bp hb q hq with h | h
    ·exact .inl h
    ·exact .inr (by simp [SSh.refs, h])
   ·cases h
  ·cases h
 | mapd =>
  simp only [getV] at h
  split at h
  ·injection h with h; injection h with h1 h2; subst h2; exact .inl hq
  ·cases h
 | clo f l =>
  simp only [getV] at h
  split at h
  ·split at h
   ·split at h
    ·rename_i hb
     injection h with h; injection h with h1 h2; subst h2
     exact bindL_keys hb q hq
    ·cases h
   ·cases h
  ·split at h
   ·split at h
    ·injection h with h; injection h with h1 h2; subst h2; exact .inl hq
    ·cases h
   ·cases h
  ·cases h
theorem getC_keys {go : Nat → Option Ob} {ρ ρ' : Rho} {s : SSh} {cs r : List CV} {x : s.den} (h : getC go ρ s cs = some (x, r, ρ')) : ∀ p, lk ρ' p ≠ none → lk ρ p ≠ none ∨ p ∈ s.refs := by
 unfold getC at h
 split at h
 ·split at h
  ·injection h with h; injection h with h1 h2; injection h2 with h2 h3; subst h3; exact fun p hp => .inl hp
  ·cases h
 ·split at h
  ·rename_i hv
   injection h with h; injection h with h1 h2; injection h2 with h2 h3; subst h3
   exact getV_keys hv
  ·cases h
 ·cases h
theorem getEnv_keys {go : Nat → Option Ob} {env : List (Nat × CV)} : ∀ (l : List (Nat × SSh)) (ρ ρ' : Rho) (d : denE l), getEnv go env l ρ = some (d, ρ') → ∀ p, lk ρ' p ≠ none → lk ρ p ≠ none ∨ p ∈ refsE l
 | [], ρ, ρ', d, h, p, hp => by simp only [getEnv] at h; injection h with h; injection h with h1 h2; subst h2; exact .inl hp
 | s :: r, ρ, ρ', d, h, p, hp => by
  simp only [getEnv] at h
  split at h
  ·cases h
  ·split at h
   ·cases h
   ·rename_i x ρ1 hv
    split at h
    ·cases h
    ·rename_i d' ρ2 hr
     injection h with h; injection h with h1 h2; subst h2
     rcases getEnv_keys r ρ1 _ d' hr p hp with h | h
     ·rcases getV_keys hv p h with h | h
      ·exact .inl h
      ·exact .inr (by simp [refsE, h])
     ·exact .inr (by simp [refsE, h])
theorem getCells_keys {go : Nat → Option Ob} : ∀ (l : List SSh) (cs : List CV) (ρ ρ' : Rho) (d : denS l), getCells go l cs ρ = some (d, ρ') → ∀ p, lk ρ' p ≠ none → lk ρ p ≠ none ∨ p ∈ refsS l
 | [], [], ρ, ρ', d, h, p, hp => by simp only [getCells] at h; injection h with h; injection h with h1 h2; subst h2; exact .inl hp
 | [], _ :: _, ρ, ρ', d, h, p, hp => by simp [getCells] at h
 | s :: r, cs, ρ, ρ', d, h, p, hp => by
  simp only [getCells] at h
  split at h
  ·cases h
  ·rename_i x cs' ρ1 hc
   split at h
   ·cases h
   ·rename_i d' ρ2 hr
    injection h with h; injection h with h1 h2; subst h2
    rcases getCells_keys r cs' ρ1 _ d' hr p hp with h | h
    ·rcases getC_keys hc p h with h | h
     ·exact .inl h
     ·exact .inr (by simp [refsS, h])
    ·exact .inr (by simp [refsS, h])
theorem getObjs_keys {go : Nat → Option Ob} : ∀ (l : List (Nat × Nat × List SSh)) (ρ ρ' : Rho) (d : denO l), getObjs go l ρ = some (d, ρ') → ∀ p, lk ρ' p ≠ none → lk ρ p ≠ none ∨ p ∈ refsO l
 | [], ρ, ρ', d, h, p, hp => by simp only [getObjs] at h; injection h with h; injection h with h1 h2; subst h2; exact .inl hp
 | s :: r, ρ, ρ', d, h, p, hp => by
  simp only [getObjs] at h
  split at h
  ·split at h
   ·split at h
    ·split at h
     ·cases h
     ·rename_i x ρ1 hc
      split at h
      ·cases h
      ·rename_i d' ρ2 hr
       injection h with h; injection h with h1 h2; subst h2
       rcases getObjs_keys r ρ1 _ d' hr p hp with h | h
       ·rcases getCells_keys _ _ _ _ _ hc p h with h | h
        ·exact .inl h
        ·exact .inr (by simp [refsO, h])
       ·exact .inr (by simp [refsO, h])
    ·cases h
   ·cases h
  ·cases h
theorem LSh.get_keys {go : Nat → Option Ob} {s : LSh} {env : List (Nat × CV)} {d : s.den} {ρ0 ρ : Rho} (h : s.get go env ρ0 = some (d, ρ)) : ∀ p, lk ρ p ≠ none → lk ρ0 p ≠ none ∨ p ∈ s.refs := by
 intro p hp
 unfold LSh.get at h
 split at h
 ·cases h
 ·rename_i d1 ρ1 he
  split at h
  ·cases h
  ·rename_i d2 ρ2 ho
   injection h with h; injection h with h1 h2; subst h2
   rcases getObjs_keys _ _ _ _ ho p hp with h | h
   ·rcases getEnv_keys _ _ _ _ he p h with h | h
    ·exact .inl h
    ·exact .inr (by simp [LSh.refs, h])
   ·exact .inr (by simp [LSh.refs, h])
end
end Go.Proofs.Ytcjiipbppkdkaaa.Eng
