/- The engine, part 12: what an operation does hangs on the slots that it looks at, and on what is known of objects only for the better. -/
import Derived.Test.YtcjiipbppkdkaaaEExec
namespace Go.Proofs.Ytcjiipbppkdkaaa.Eng
open Go
set_option linter.unusedVariables false
set_option linter.unusedSimpArgs false
def rowOf : CV → Option Nat
  | .own p _ => some p
  | .prow p _ _ => some p
  | _ => none
theorem operand_congr {env env' : List (Nat × CV)} {x : Operand} (h : ∀ t ∈ tmpOf x, lk env t = lk env' t) : operand env x = operand env' x := by
  cases x with
  | tmp t => simp only [operand]; rw [h t (by simp [tmpOf])]
  | const v =>
    unfold operand
    split <;> first
      | rfl
      | (split <;> simp_all; done)
      | simp_all
  | _ => rfl
theorem operands_congr {env env' : List (Nat × CV)} : ∀ {l : List Operand}, (∀ t ∈ tmpsL l, lk env t = lk env' t) → l.map (operand env) = l.map (operand env')
  | [], _ => rfl
  | x :: r, h => by
    simp only [tmpsL, List.mem_append] at h
    simp only [List.map_cons, operand_congr (fun t ht => h t (.inl ht)), operands_congr (fun t ht => h t (.inr ht))]
theorem optMap_congr {env env' : List (Nat × CV)} {x : Option Operand} (h : ∀ t ∈ tmpsO x, lk env t = lk env' t) : x.map (operand env) = x.map (operand env') := by
  cases x with
  | none => rfl
  | some x => simp only [Option.map_some, operand_congr (x := x) h]
theorem buildC_congr {env env' : List (Nat × CV)} {go : Nat → Option Ob} {fs : List (Nat × Nat × Nat)} : ∀ {l : List (Nat × Operand)} {cs : List CV}, (∀ t ∈ tmpsP l, lk env t = lk env' t) → buildC go fs env l cs = buildC go fs env' l cs
  | [], _, _ => rfl
  | (i, x) :: r, cs, h => by
    simp only [tmpsP, List.mem_append] at h
    simp only [buildC, operand_congr (fun t ht => h t (.inl ht)), buildC_congr (l := r) (fun t ht => h t (.inr ht))]
theorem seqParts_congr {env env' : List (Nat × CV)} {go : Nat → Option Ob} {n : Nat} : ∀ {l : List (Nat × Operand)} {i : Nat}, (∀ t ∈ tmpsP l, lk env t = lk env' t) → seqParts go n env i l = seqParts go n env' i l
  | [], _, _ => rfl
  | (j, x) :: r, i, h => by
    simp only [tmpsP, List.mem_append] at h
    simp only [seqParts, operand_congr (fun t ht => h t (.inl ht)), seqParts_congr (l := r) (fun t ht => h t (.inr ht))]
theorem capsOf_congr {env env' : List (Nat × CV)} : ∀ {l : List Operand}, (∀ t ∈ tmpsL l, lk env t = lk env' t) → capsOf env l = capsOf env' l
  | [], _ => rfl
  | x :: r, h => by
    simp only [tmpsL, List.mem_append] at h
    simp only [capsOf, operand_congr (fun t ht => h t (.inl ht)), capsOf_congr (l := r) (fun t ht => h t (.inr ht))]
theorem step_congr {tt : TT} {Γ : Gam} {env env' : List (Nat × CV)} {go : Nat → Option Ob} {dst : Option Nat} {op : Op} (h : ∀ t ∈ opTmps op, lk env t = lk env' t) : step tt Γ env go dst op = step tt Γ env' go dst op := by
  cases op <;> simp only [opTmps, List.mem_append] at h <;> simp only [step]
  case move x => rw [operand_congr h]
  case assign x => rw [operand_congr h]
  case pick c a b => rw [operand_congr (x := c) (fun t ht => h t (.inl ht)), operand_congr (x := a) (fun t ht => h t (.inr (.inl ht))), operand_congr (x := b) (fun t ht => h t (.inr (.inr ht)))]
  case box t x => rw [operand_congr h]
  case build t ps => simp only [buildC_congr (go := go) h]
  case buildSlice t n ps => simp only [seqParts_congr h]
  case load t x => rw [operand_congr h]
  case store t a x => rw [operand_congr (x := a) (fun t ht => h t (.inl ht)), operand_congr (x := x) (fun t ht => h t (.inr ht))]
  case nilCheck x => rw [operand_congr h]
  case fieldAddr t x f => rw [operand_congr h]
  case field t x f => rw [operand_congr h]
  case indexAddr t x i => rw [operand_congr (x := x) (fun t ht => h t (.inl ht)), operand_congr (x := i) (fun t ht => h t (.inr ht))]
  case index t x i => rw [operand_congr (x := x) (fun t ht => h t (.inl ht)), operand_congr (x := i) (fun t ht => h t (.inr ht))]
  case extract x i => rw [operand_congr h]
  case unOp u t x => rw [operand_congr h]
  case binOp op t x y t' => rw [operand_congr (x := x) (fun t ht => h t (.inl ht)), operand_congr (x := y) (fun t ht => h t (.inr ht))]
  case lookup t x y c => rw [operand_congr (x := x) (fun t ht => h t (.inl ht)), operand_congr (x := y) (fun t ht => h t (.inr ht))]
  case mapUpdate t x y z => rw [operand_congr (x := x) (fun t ht => h t (.inl ht)), operand_congr (x := y) (fun t ht => h t (.inr (.inl ht))), operand_congr (x := z) (fun t ht => h t (.inr (.inr ht)))]
  case makeSlice t x y => rw [operand_congr (x := x) (fun t ht => h t (.inl ht)), operand_congr (x := y) (fun t ht => h t (.inr ht))]
  case convert t t' x => rw [operand_congr h]
  case makeFunc fn first caps => rw [capsOf_congr h]
  case slice t x lo hi mx => rw [operand_congr (x := x) (fun t ht => h t (.inl ht)), optMap_congr (x := lo) (fun t ht => h t (.inr (.inl ht))), optMap_congr (x := hi) (fun t ht => h t (.inr (.inr (.inl ht)))), optMap_congr (x := mx) (fun t ht => h t (.inr (.inr (.inr ht))))]
  case call c =>
    have ha : ∀ t ∈ tmpsL c.args.toList, lk env t = lk env' t := fun t ht => h t (.inr ht)
    cases hc : c.callee with
    | builtin b =>
      cases b <;> simp only []
      case len =>
        generalize c.args.toList = as at ha
        generalize c.argTypes.toList = ts
        rcases as with _ | ⟨x, _ | ⟨y, r⟩⟩ <;> rcases ts with _ | ⟨t, _ | ⟨t2, ts⟩⟩ <;> first
          | rfl
          | (simp only [tmpsL, List.mem_append] at ha
             simp only []
             rw [operand_congr (x := x) (fun t ht => ha t (.inl ht))])
      case append =>
        generalize c.args.toList = as at ha
        generalize c.argTypes.toList = ts
        rcases as with _ | ⟨x, _ | ⟨y, _ | ⟨z, r⟩⟩⟩ <;> rcases ts with _ | ⟨t, _ | ⟨t2, _ | ⟨t3, ts⟩⟩⟩ <;> first
          | rfl
          | (simp only [tmpsL, List.mem_append] at ha
             simp only []
             rw [operand_congr (x := x) (fun t ht => ha t (.inl ht)), operand_congr (x := y) (fun t ht => ha t (.inr (.inl ht)))])
      case copy =>
        generalize c.args.toList = as at ha
        generalize c.argTypes.toList = ts
        rcases as with _ | ⟨x, _ | ⟨y, _ | ⟨z, r⟩⟩⟩ <;> rcases ts with _ | ⟨t, _ | ⟨t2, _ | ⟨t3, ts⟩⟩⟩ <;> first
          | rfl
          | (simp only [tmpsL, List.mem_append] at ha
             simp only []
             rw [operand_congr (x := x) (fun t ht => ha t (.inl ht)), operand_congr (x := y) (fun t ht => ha t (.inr (.inl ht)))])
      case min => simp only [operands_congr ha]
      case max => simp only [operands_congr ha]
    | value f =>
      simp only [hc] at h
      simp only []
      rw [operand_congr (x := f) (fun t ht => h t (.inl ht)), operands_congr ha]
    | invoke r m => rfl
theorem ptrParts_congr {env env' : List (Nat × CV)} : ∀ {l : List (Nat × Operand)} {i : Nat}, (∀ t ∈ tmpsP l, lk env t = lk env' t) → ptrParts env i l = ptrParts env' i l
  | [], _, _ => rfl
  | (j, x) :: r, i, h => by
    simp only [tmpsP, List.mem_append] at h
    simp only [ptrParts, operand_congr (fun t ht => h t (.inl ht)), ptrParts_congr (l := r) (fun t ht => h t (.inr ht))]
theorem pstep_congr {tt : TT} {env env' : List (Nat × CV)} {go : Nat → Option Ob} {dst : Option Nat} {op : Op} (h : ∀ t ∈ opTmps op, lk env t = lk env' t) : pstep tt env go dst op = pstep tt env' go dst op := by
  cases op <;> simp only [opTmps, List.mem_append] at h <;> simp only [pstep]
  case buildSlice t n ps => simp only [ptrParts_congr h]
  case load t x => rw [operand_congr h]
  case indexAddr t x i => rw [operand_congr (x := x) (fun t ht => h t (.inl ht)), operand_congr (x := i) (fun t ht => h t (.inr ht))]
  case slice t x lo hi mx =>
    rw [operand_congr (x := x) (fun t ht => h t (.inl ht))]
    cases hi with
    | none => cases ptrSl tt t <;> cases ptrL (operand env' x) <;> cases lo <;> cases mx <;> rfl
    | some y =>
      have : operand env y = operand env' y := operand_congr (fun t ht => h t (.inr (.inr (.inl (by simpa only [tmpsO] using ht)))))
      cases ptrSl tt t <;> cases ptrL (operand env' x) <;> cases lo <;> cases mx <;> simp only [this]
  case call c =>
    have ha : ∀ t ∈ tmpsL c.args.toList, lk env t = lk env' t := fun t ht => h t (.inr ht)
    cases hc : c.callee with
    | builtin b =>
      cases b <;> simp only []
      case len =>
        generalize c.args.toList = as at ha
        generalize c.argTypes.toList = ts
        rcases as with _ | ⟨x, _ | ⟨y, r⟩⟩ <;> rcases ts with _ | ⟨t, _ | ⟨t2, ts⟩⟩ <;> first
          | rfl
          | (simp only [tmpsL, List.mem_append] at ha
             simp only []
             rw [operand_congr (x := x) (fun t ht => ha t (.inl ht))])
      case append =>
        generalize c.args.toList = as at ha
        generalize c.argTypes.toList = ts
        rcases as with _ | ⟨x, _ | ⟨y, _ | ⟨z, r⟩⟩⟩ <;> rcases ts with _ | ⟨t, _ | ⟨t2, _ | ⟨t3, ts⟩⟩⟩ <;> first
          | rfl
          | (simp only [tmpsL, List.mem_append] at ha
             simp only []
             rw [operand_congr (x := x) (fun t ht => ha t (.inl ht)), operand_congr (x := y) (fun t ht => ha t (.inr (.inl ht)))])
    | _ => rfl
theorem stepP_congr {tt : TT} {Γ : Gam} {env env' : List (Nat × CV)} {go : Nat → Option Ob} {dst : Option Nat} {op : Op} (h : ∀ t ∈ opTmps op, lk env t = lk env' t) : stepP tt Γ env go dst op = stepP tt Γ env' go dst op := by
  unfold stepP
  rw [pstep_congr h, step_congr h]
def LeG (go go' : Nat → Option Ob) : Prop := ∀ o b, go o = some b → go' o = some b
section
variable {go go' : Nat → Option Ob} (hg : LeG go go')
include hg
theorem okC_mono {c : CV} (h : okC go c = true) : okC go' c = true := by
  cases c <;> simp only [okC] at h ⊢ <;> first | exact h | skip
  rename_i o v
  cases hb : go o with
  | none => rw [hb] at h; cases h
  | some b => rw [hb] at h; rw [hg _ _ hb]; exact h
theorem allOne_mono : ∀ {l : List CV}, allOne go l = true → allOne go' l = true
  | [], _ => rfl
  | c :: r, h => by
    simp only [allOne] at h ⊢
    cases hc : okC go c with
    | false => rw [hc] at h; cases h
    | true => rw [hc] at h; rw [okC_mono hg hc]; exact allOne_mono h
theorem asL_mono {T : Ty} {c : CV} {l : List T.den} (h : asL go T c = some l) : asL go' T c = some l := by
  cases c <;> simp only [asL] at h ⊢ <;> first | exact h | skip
  case own o v =>
    cases hb : go o with
    | none => rw [hb] at h; cases h
    | some b => rw [hb] at h; rw [hg _ _ hb]; exact h
  case part o v a n =>
    cases hb : go o with
    | none => rw [hb] at h; cases h
    | some b => rw [hb] at h; rw [hg _ _ hb]; exact h
theorem muAt_mono {e : Ty} {t o v : Nat} {l : List e.den} (h : muAt go e t o v = some l) : muAt go' e t o v = some l := by
  have hb := muAt_some h
  unfold muAt at h ⊢
  rw [hb] at h; rw [hg _ _ hb]; exact h
omit hg in
theorem muAt_asL {e T : Ty} {t o v : Nat} {l : List e.den} (h : muAt go e t o v = some l) : asL go T (.own o v) = none ∧ ∀ a n, asL go T (.part o v a n) = none := by
  have hb := muAt_some h
  refine ⟨?_, fun a n => ?_⟩ <;> simp [asL, hb, Ty.isMu]
theorem muV_mono {e : Ty} {t : Nat} {c : CV} {l : List e.den} (h : muV go e t c = some l) : muV go' e t c = some l ∧ ∀ T, asL go' T c = none := by
  cases c <;> simp only [muV] at h ⊢ <;> first | (cases h; done) | skip
  case own o v => exact ⟨muAt_mono hg h, fun T => (muAt_asL (muAt_mono hg h)).1⟩
  case part o v a n =>
    cases h1 : muAt go e t o v with
    | none => rw [h1] at h; cases h
    | some l' => rw [h1] at h; rw [muAt_mono hg h1]; exact ⟨h, fun T => (muAt_asL (muAt_mono hg h1)).2 a n⟩
theorem ofC_mono : ∀ {T : Ty} {l : List CV} {x : T.den × List CV}, ofC go T l = some x → ofC go' T l = some x
  | .nil, l, x, h => by simpa only [ofC] using h
  | .cons a b, l, x, h => by
    simp only [ofC] at h ⊢
    cases h1 : ofC go a l with
    | none => rw [h1] at h; cases h
    | some y =>
      rw [h1] at h; rw [ofC_mono h1]; simp only [] at h ⊢
      cases h2 : ofC go b y.2 with
      | none => rw [h2] at h; cases h
      | some z => rw [h2] at h; rw [ofC_mono h2]; exact h
  | .int k, l, x, h => by
    cases l with
    | nil => simp [ofC] at h
    | cons c r => cases c <;> simp only [ofC] at h ⊢ <;> first | exact h | cases h
  | .bool, l, x, h => by
    cases l with
    | nil => simp [ofC] at h
    | cons c r => cases c <;> simp only [ofC] at h ⊢ <;> first | exact h | cases h
  | .str, l, x, h => by
    cases l with
    | nil => simp [ofC] at h
    | cons c r => cases c <;> simp only [ofC] at h ⊢ <;> first | exact h | cases h
  | .flt, l, x, h => by
    cases l with
    | nil => simp [ofC] at h
    | cons c r => cases c <;> simp only [ofC] at h ⊢ <;> first | exact h | cases h
  | .pt, l, x, h => by
    cases l with
    | nil => simp [ofC] at h
    | cons c r => cases c <;> simp only [ofC] at h ⊢ <;> first | exact h | cases h
  | .sl e, l, x, h => by
    cases l with
    | nil => simp [ofC] at h
    | cons c r =>
      simp only [ofC] at h ⊢
      cases h1 : asL go e c with
      | none => rw [h1] at h; cases h
      | some y => rw [h1] at h; rw [asL_mono hg h1]; exact h
  | .mu e, l, x, h => by cases l <;> simp [ofC] at h
theorem denL_mono {T : Ty} : ∀ {n : Nat} {l : List CV} {x : List T.den}, denL go T n l = some x → denL go' T n l = some x
  | 0, l, x, h => by cases l <;> simp only [denL] at h ⊢ <;> exact h
  | n + 1, l, x, h => by
    simp only [denL] at h ⊢
    cases h1 : ofC go T l with
    | none => rw [h1] at h; cases h
    | some y =>
      rw [h1] at h; rw [ofC_mono hg h1]; simp only [] at h ⊢
      cases h2 : denL go T n y.2 with
      | none => rw [h2] at h; cases h
      | some z => rw [h2] at h; rw [denL_mono h2]; exact h
theorem lenV_mono {k : Option TK} {c : CV} {n : Int} (h : lenV go k c = some n) : lenV go' k c = some n := by
  cases c <;> simp only [lenV] at h ⊢ <;> first | exact h | skip
  case own o v =>
    split at h <;> first | (cases h; done) | skip
    cases hb : go o with
    | none => rw [hb] at h; cases h
    | some b => rw [hb] at h; rw [hg _ _ hb]; exact h
  case map o =>
    split at h <;> first | (cases h; done) | skip
    cases hb : go o with
    | none => rw [hb] at h; cases h
    | some b => rw [hb] at h; rw [hg _ _ hb]; exact h
  case part o v a n =>
    split at h <;> first | (cases h; done) | skip
    cases hb : go o with
    | none => rw [hb] at h; cases h
    | some b => rw [hb] at h; rw [hg _ _ hb]; exact h
theorem getV_mono {ρ : Rho} {s : SSh} {c : CV} {x : s.den × Rho} (h : getV go ρ s c = some x) : getV go' ρ s c = some x := by
  cases s with
  | val T =>
    simp only [getV] at h ⊢
    cases h1 : aggCells T c with
    | none => rw [h1] at h; cases h
    | some cs =>
      rw [h1] at h; simp only [] at h ⊢
      cases h2 : ofC go T cs with
      | none => rw [h2] at h; cases h
      | some y => rw [h2] at h; rw [ofC_mono hg h2]; exact h
  | own p t T =>
    cases c <;> simp only [getV] at h ⊢ <;> first | exact h | skip
    rename_i o v
    cases hb : go o with
    | none => rw [hb] at h; cases h
    | some b => rw [hb] at h; rw [hg _ _ hb]; exact h
  | ptr p off => simpa only [getV] using h
  | nilp => simpa only [getV] using h
  | nils => simpa only [getV] using h
  | top => simpa only [getV] using h
  | mark => simpa only [getV] using h
  | mref p => simpa only [getV] using h
  | mapd => simpa only [getV] using h
  | clo f l => simpa only [getV] using h
  | cst k n => simpa only [getV] using h
  | psl l => simpa only [getV] using h
  | prow p t l =>
    cases c <;> simp only [getV] at h ⊢ <;> first | exact h | skip
    rename_i o v l'
    cases hb : go o with
    | none => rw [hb] at h; cases h
    | some b => rw [hb] at h; rw [hg _ _ hb]; exact h
theorem getC_mono {ρ : Rho} {s : SSh} {l : List CV} {x : s.den × List CV × Rho} (h : getC go ρ s l = some x) : getC go' ρ s l = some x := by
  have gen : ∀ {c : CV} {r : List CV}, (match getV go ρ s c with | some (x, ρ) => some (x, r, ρ) | none => none) = some x → (match getV go' ρ s c with | some (x, ρ) => some (x, r, ρ) | none => none) = some x := by
    intro c r h
    cases h1 : getV go ρ s c with
    | none => rw [h1] at h; cases h
    | some y => rw [h1] at h; rw [getV_mono hg h1]; exact h
  cases s with
  | val T =>
    simp only [getC] at h ⊢
    cases h2 : ofC go T l with
    | none => rw [h2] at h; cases h
    | some y => rw [h2] at h; rw [ofC_mono hg h2]; exact h
  | own p t T => cases l with
    | nil => simp [getC] at h
    | cons c r => simp only [getC] at h ⊢; exact gen (c := c) (r := r) h
  | ptr p off => cases l with
    | nil => simp [getC] at h
    | cons c r => simp only [getC] at h ⊢; exact gen (c := c) (r := r) h
  | nilp => cases l with
    | nil => simp [getC] at h
    | cons c r => simp only [getC] at h ⊢; exact gen (c := c) (r := r) h
  | nils => cases l with
    | nil => simp [getC] at h
    | cons c r => simp only [getC] at h ⊢; exact gen (c := c) (r := r) h
  | top => cases l with
    | nil => simp [getC] at h
    | cons c r => simp only [getC] at h ⊢; exact gen (c := c) (r := r) h
  | mark => cases l with
    | nil => simp [getC] at h
    | cons c r => simp only [getC] at h ⊢; exact gen (c := c) (r := r) h
  | mref p => cases l with
    | nil => simp [getC] at h
    | cons c r => simp only [getC] at h ⊢; exact gen (c := c) (r := r) h
  | mapd => cases l with
    | nil => simp [getC] at h
    | cons c r => simp only [getC] at h ⊢; exact gen (c := c) (r := r) h
  | clo f k => cases l with
    | nil => simp [getC] at h
    | cons c r => simp only [getC] at h ⊢; exact gen (c := c) (r := r) h
  | cst k n => cases l with
    | nil => simp [getC] at h
    | cons c r => simp only [getC] at h ⊢; exact gen (c := c) (r := r) h
  | psl k => cases l with
    | nil => simp [getC] at h
    | cons c r => simp only [getC] at h ⊢; exact gen (c := c) (r := r) h
  | prow p t k => cases l with
    | nil => simp [getC] at h
    | cons c r => simp only [getC] at h ⊢; exact gen (c := c) (r := r) h
theorem getEnv_mono {env : List (Nat × CV)} : ∀ {l : List (Nat × SSh)} {ρ : Rho} {x : denE l × Rho}, getEnv go env l ρ = some x → getEnv go' env l ρ = some x
  | [], ρ, x, h => by simpa only [getEnv] using h
  | s :: r, ρ, x, h => by
    simp only [getEnv] at h ⊢
    cases h1 : lk env s.1 with
    | none => rw [h1] at h; cases h
    | some v =>
      rw [h1] at h; simp only [] at h ⊢
      cases h2 : getV go ρ s.2 v with
      | none => rw [h2] at h; cases h
      | some y =>
        rw [h2] at h; rw [getV_mono hg h2]; simp only [] at h ⊢
        cases h3 : getEnv go env r y.2 with
        | none => rw [h3] at h; cases h
        | some z => rw [h3] at h; rw [getEnv_mono h3]; exact h
theorem getCells_mono : ∀ {l : List SSh} {cs : List CV} {ρ : Rho} {x : denS l × Rho}, getCells go l cs ρ = some x → getCells go' l cs ρ = some x
  | [], cs, ρ, x, h => by cases cs <;> simpa only [getCells] using h
  | s :: r, cs, ρ, x, h => by
    simp only [getCells] at h ⊢
    cases h2 : getC go ρ s cs with
    | none => rw [h2] at h; cases h
    | some y =>
      rw [h2] at h; rw [getC_mono hg h2]; simp only [] at h ⊢
      cases h3 : getCells go r y.2.1 y.2.2 with
      | none => rw [h3] at h; cases h
      | some z => rw [h3] at h; rw [getCells_mono h3]; exact h
theorem getObjs_mono : ∀ {l : List (Nat × Nat × List SSh)} {ρ : Rho} {x : denO l × Rho}, getObjs go l ρ = some x → getObjs go' l ρ = some x
  | [], ρ, x, h => by simpa only [getObjs] using h
  | s :: r, ρ, x, h => by
    simp only [getObjs] at h ⊢
    cases h1 : lk ρ s.1 with
    | none => rw [h1] at h; cases h
    | some oo =>
      rw [h1] at h
      cases oo with
      | none => cases h
      | some o =>
        simp only [] at h ⊢
        cases hb : go o with
        | none => rw [hb] at h; cases h
        | some b =>
          rw [hb] at h; rw [hg _ _ hb]
          cases b with
          | row => cases h
          | cells t cs =>
            simp only [] at h ⊢
            cases ht : Nat.beq t s.2.1 with
            | false => rw [ht] at h; cases h
            | true =>
              rw [ht] at h; simp only [] at h ⊢
              cases h2 : getCells go s.2.2 cs ρ with
              | none => rw [h2] at h; cases h
              | some y =>
                rw [h2] at h; rw [getCells_mono hg h2]; simp only [] at h ⊢
                cases h3 : getObjs go r y.2 with
                | none => rw [h3] at h; cases h
                | some z => rw [h3] at h; rw [getObjs_mono h3]; exact h
theorem LSh.get_mono {s : LSh} {env : List (Nat × CV)} {ρ : Rho} {x : s.den × Rho} (h : s.get go env ρ = some x) : s.get go' env ρ = some x := by
  unfold LSh.get at h ⊢
  cases h1 : getEnv go env s.slots ρ with
  | none => rw [h1] at h; cases h
  | some y =>
    rw [h1] at h; rw [getEnv_mono hg h1]; simp only [] at h ⊢
    cases h2 : getObjs go s.objs y.2 with
    | none => rw [h2] at h; cases h
    | some z => rw [h2] at h; rw [getObjs_mono hg h2]; exact h
theorem kindR_mono {ρ : Rho} : ∀ {l : List Nat}, kindR go ρ l = true → kindR go' ρ l = true
  | [], _ => rfl
  | p :: r, h => by
    simp only [kindR] at h ⊢
    cases h1 : lk ρ p with
    | none => rw [h1] at h; exact kindR_mono h
    | some oo =>
      rw [h1] at h
      cases oo with
      | none => exact kindR_mono h
      | some o =>
        simp only [] at h ⊢
        cases hb : go o with
        | none => rw [hb] at h; cases h
        | some b => rw [hb] at h; rw [hg _ _ hb]; cases b <;> simp only [] at h ⊢ <;> first | (cases h; done) | exact kindR_mono h
theorem kindC_mono {ρ : Rho} : ∀ {l : List Nat}, kindC go ρ l = true → kindC go' ρ l = true
  | [], _ => rfl
  | p :: r, h => by
    simp only [kindC] at h ⊢
    cases h1 : lk ρ p with
    | none => rw [h1] at h; exact kindC_mono h
    | some oo =>
      rw [h1] at h
      cases oo with
      | none => exact h
      | some o =>
        simp only [] at h ⊢
        cases hb : go o with
        | none => rw [hb] at h; cases h
        | some b => rw [hb] at h; rw [hg _ _ hb]; cases b <;> simp only [] at h ⊢ <;> first | (cases h; done) | exact kindC_mono h
theorem buildC_mono {fs : List (Nat × Nat × Nat)} {env : List (Nat × CV)} : ∀ {l : List (Nat × Operand)} {cs x : List CV}, buildC go fs env l cs = some x → buildC go' fs env l cs = some x
  | [], cs, x, h => by simpa only [buildC] using h
  | (i, y) :: r, cs, x, h => by
    simp only [buildC] at h ⊢
    split at h <;> first | (cases h; done) | skip
    split at h <;> first | (cases h; done) | skip
    split at h <;> first | (cases h; done) | skip
    rename_i ha
    rw [allOne_mono hg ha]; simp only [] at h ⊢
    split at h <;> first | (cases h; done) | skip
    exact buildC_mono h
theorem seqParts_mono {n : Nat} {env : List (Nat × CV)} : ∀ {l : List (Nat × Operand)} {i : Nat} {x : List CV}, seqParts go n env i l = some x → seqParts go' n env i l = some x
  | [], i, x, h => by simpa only [seqParts] using h
  | (j, y) :: r, i, x, h => by
    simp only [seqParts] at h ⊢
    split at h <;> first | (cases h; done) | skip
    split at h <;> first | (cases h; done) | skip
    split at h <;> first | (cases h; done) | skip
    rename_i ha
    rw [allOne_mono hg ha]; simp only [] at h ⊢
    cases h1 : seqParts go n env (i + 1) r with
    | none => rw [h1] at h; cases h
    | some z => rw [h1] at h; rw [seqParts_mono h1]; exact h
theorem appSrc_mono {e : Nat} {de : TD} {c : CV} {m : List de.ty.den} (h : appSrc go e de c = some m) : appSrc go' e de c = some m := by
  have gen : ∀ c, (match asL go de.ty c with | some l => some l | none => muV go de.ty e c) = some m → (match asL go' de.ty c with | some l => some l | none => muV go' de.ty e c) = some m := by
    intro c h
    cases h1 : asL go de.ty c with
    | some l => rw [h1] at h; rw [asL_mono hg h1]; exact h
    | none =>
      rw [h1] at h
      obtain ⟨h2, h3⟩ := muV_mono hg h
      rw [h3]; exact h2
  cases c <;> simp only [appSrc] at h ⊢ <;> first | exact gen _ h | exact h
theorem appStep_mono {tt : TT} {dst : Option Nat} {t : Nat} {c x : CV} {s : Stp} (h : appStep go tt dst t c x = some s) : appStep go' tt dst t c x = some s := by
  unfold appStep at h ⊢
  split at h <;> first | (cases h; done) | skip
  rename_i e de i h1
  cases h2 : appSrc go e de x with
  | none => rw [h2] at h; cases h
  | some m =>
    rw [h2] at h; rw [appSrc_mono hg h2]; simp only [] at h ⊢
    cases c <;> simp only [] at h ⊢ <;> first | exact h | skip
    case own o v =>
      cases hb : go o with
      | none => rw [hb] at h; cases h
      | some b =>
        rw [hb] at h; rw [hg _ _ hb]
        cases b <;> simp only [] at h ⊢ <;> first | (cases h; done) | skip
        split at h <;> first | (cases h; done) | skip
        split at h
        · rename_i he; rw [dif_pos he]; exact h
        · rename_i he
          rw [dif_neg he]
          cases h3 : muAt go de.ty e o v with
          | none => rw [h3] at h; cases h
          | some l => rw [h3] at h; rw [muAt_mono hg h3]; exact h
    case part o v a n =>
      split at h <;> first | (cases h; done) | skip
      cases h3 : muAt go de.ty e o v with
      | none => rw [h3] at h; cases h
      | some l => rw [h3] at h; rw [muAt_mono hg h3]; exact h
theorem sliceStep_mono {tt : TT} {t : Nat} {x : CV} {lo hi mx : Option CV} {s : Stp} (h : sliceStep go tt t x lo hi mx = some s) : sliceStep go' tt t x lo hi mx = some s := by
  unfold sliceStep at h ⊢
  cases x <;> cases mx <;> simp only [] at h ⊢ <;> first
    | exact h
    | (cases h1 : sliceOf tt t with
       | none => rw [h1] at h; cases h
       | some ed =>
         rw [h1] at h; simp only [] at h ⊢
         generalize hx : asL go ed.2.ty _ = y at h
         cases y with
         | none =>
           simp only [] at h
           first
             | (cases h; done)
             | (cases h3 : muAt go ed.2.ty ed.1 _ _ with
                | none => rw [h3] at h; cases h
                | some l => rw [h3] at h; rw [(muAt_asL (muAt_mono hg h3)).1]; simp only []; rw [muAt_mono hg h3]; exact h)
         | some l => rw [asL_mono hg hx]; exact h)
theorem convStep_mono {tt : TT} {dst : Option Nat} {t t' : Nat} {x : CV} {s : Stp} (h : convStep go tt dst t t' x = some s) : convStep go' tt dst t t' x = some s := by
  unfold convStep at h ⊢
  cases h1 : kindOf tt t with
  | none => rw [h1] at h; cases h
  | some ks =>
    cases h2 : kindOf tt t' with
    | none => rw [h1, h2] at h; cases h
    | some kd =>
      rw [h1, h2] at h; simp only [] at h ⊢
      cases kd <;> cases x <;> simp only [] at h ⊢ <;> first
        | exact h
        | (cases ks <;> simp only [] at h ⊢ <;> first
            | exact h
            | (split at h <;> first | (cases h; done) | skip
               split at h
               · rename_i h4
                 rw [asL_mono hg h4]; exact h
               · split at h <;> first | (cases h; done) | skip
                 rename_i h4
                 obtain ⟨h5, h6⟩ := muV_mono hg h4
                 rw [h6]; simp only []; rw [h5]; exact h))
omit hg in
theorem own_toC : ∀ {T : Ty} {x : T.den} {r : List CV} {c : CV} {p : Nat}, rowOf c = some p → c ∈ toC T x r → c ∈ r
  | .nil, _, _, _, _, hc, h => by simpa only [toC] using h
  | .cons a b, x, r, c, p, hc, h => own_toC (T := b) hc (own_toC (T := a) hc (by simpa only [toC] using h))
  | .mu e, x, r, c, p, hc, h => own_toC (T := e) hc (by simpa only [toC] using h)
  | .int k, _, _, _, _, hc, h => by
    simp only [toC, List.mem_cons] at h
    rcases h with h | h
    · subst h; cases hc
    · exact h
  | .bool, _, _, _, _, hc, h => by
    simp only [toC, List.mem_cons] at h
    rcases h with h | h
    · subst h; cases hc
    · exact h
  | .str, _, _, _, _, hc, h => by
    simp only [toC, List.mem_cons] at h
    rcases h with h | h
    · subst h; cases hc
    · exact h
  | .flt, _, _, _, _, hc, h => by
    simp only [toC, List.mem_cons] at h
    rcases h with h | h
    · subst h; cases hc
    · exact h
  | .pt, _, _, _, _, hc, h => by
    simp only [toC, List.mem_cons] at h
    rcases h with h | h
    · subst h; cases hc
    · exact h
  | .sl e, _, _, _, _, hc, h => by
    simp only [toC, List.mem_cons] at h
    rcases h with h | h
    · subst h; cases hc
    · exact h
omit hg in
theorem own_asCV {T : Ty} {x : T.den} {c : CV} {p : Nat} (hc : rowOf c = some p) (h : c = asCV T x) : False := by subst h; cases T <;> cases hc
omit hg in
theorem own_vals : ∀ {l : List (Nat × SSh)} {d : denE l} {c : CV} {p : Nat}, rowOf c = some p → c ∈ valsE (mkEnv l d) → p ∈ ownIds l
  | [], _, _, _, _, h => by simp [mkEnv, valsE] at h
  | (i, s) :: r, d, c, p, hc, h => by
    simp only [mkEnv, valsE, List.mem_cons] at h
    cases s <;> simp only [ownIds, List.mem_cons] <;> rcases h with h | h <;> first
      | exact own_vals hc h
      | exact .inr (own_vals hc h)
      | exact (own_asCV hc h).elim
      | (subst h; simp only [mkV, rowOf] at hc; injection hc with hc; exact .inl hc.symm)
      | (subst h; cases hc; done)
omit hg in
theorem own_cells : ∀ {l : List SSh} {d : denS l} {c : CV} {p : Nat}, rowOf c = some p → c ∈ mkCells l d → p ∈ ownIdsS l
  | [], _, _, _, _, h => by simp [mkCells] at h
  | s :: r, d, c, p, hc, h => by
    simp only [mkCells] at h
    cases s <;> simp only [mkC, List.mem_cons] at h <;> simp only [ownIdsS, List.mem_cons] <;> first
      | exact own_cells hc (own_toC hc h)
      | (rcases h with h | h <;> first
          | exact own_cells hc h
          | exact .inr (own_cells hc h)
          | (subst h; simp only [mkV, rowOf] at hc; injection hc with hc; exact .inl hc.symm)
          | (subst h; cases hc; done))
omit hg in
theorem row_mem {l : List (Nat × SSh)} {x : denE l} {os : List (Nat × Ob)} {q : Nat × Ob} (h : q ∈ mkRows l x os) : q ∈ os ∨ (q.1 ∈ ownIds l ∧ ∃ v t T m, q.2 = .row v t T m) := by
  induction l with
  | nil => exact .inl h
  | cons s r ih =>
    obtain ⟨i, s⟩ := s
    simp only [mkRows] at h
    cases s <;> simp only [mkR, List.mem_cons] at h <;> simp only [ownIds, List.mem_cons] <;> first
      | exact ih h
      | (rcases h with h | h
         · subst h; exact .inr ⟨.inl rfl, _, _, _, _, rfl⟩
         · rcases ih h with h | h
           · exact .inl h
           · exact .inr ⟨.inr h.1, h.2⟩)
omit hg in
theorem crow_mem {l : List SSh} {x : denS l} {os : List (Nat × Ob)} {q : Nat × Ob} (h : q ∈ mkCRows l x os) : q ∈ os ∨ (q.1 ∈ ownIdsS l ∧ ∃ v t T m, q.2 = .row v t T m) := by
  induction l with
  | nil => exact .inl h
  | cons s r ih =>
    simp only [mkCRows] at h
    cases s <;> simp only [mkR, List.mem_cons] at h <;> simp only [ownIdsS, List.mem_cons] <;> first
      | exact ih h
      | (rcases h with h | h
         · subst h; exact .inr ⟨.inl rfl, _, _, _, _, rfl⟩
         · rcases ih h with h | h
           · exact .inl h
           · exact .inr ⟨.inr h.1, h.2⟩)
omit hg in
theorem obj_mem : ∀ {l : List (Nat × Nat × List SSh)} {x : denO l} {q : Nat × Ob}, q ∈ mkObjs l x → (∃ t cs, q.2 = .cells t cs ∧ ∀ c ∈ cs, ∀ p, rowOf c = some p → p ∈ rowIds l) ∨ (q.1 ∈ rowIds l ∧ ∃ v t T m, q.2 = .row v t T m)
  | [], _, _, h => by simp [mkObjs] at h
  | s :: r, x, q, h => by
    simp only [mkObjs, List.mem_cons] at h
    simp only [rowIds, List.mem_append]
    rcases h with h | h
    · subst h; exact .inl ⟨_, _, rfl, fun c hm p hp => .inl (own_cells hp hm)⟩
    · rcases crow_mem h with h | h
      · rcases obj_mem h with ⟨t, cs, e, h⟩ | h
        · exact .inl ⟨t, cs, e, fun c hm p hp => .inr (h c hm p hp)⟩
        · exact .inr ⟨.inr h.1, h.2⟩
      · exact .inr ⟨.inl h.1, h.2⟩
omit hg in
theorem renL_congr {ρ : Rho} {ks : List Nat} {b : Nat} : ∀ {l : List CV}, (∀ c ∈ l, ∀ p, rowOf c = some p → rver go ρ ks p = rver go' ρ ks p) → renL go ρ ks b l = renL go' ρ ks b l
  | [], _ => rfl
  | c :: r, h => by
    simp only [renL]
    rw [renL_congr (fun c hm p hp => h c (List.mem_cons_of_mem _ hm) p hp)]
    have h0 := h c (by simp)
    cases c <;> simp only [renV] <;> first | rfl | (rw [h0 _ rfl])
omit hg in
theorem renO_congr {ρ : Rho} {ks : List Nat} {b : Nat} : ∀ {l : List (Nat × Ob)}, (∀ q ∈ l, (∃ t cs, q.2 = .cells t cs ∧ ∀ c ∈ cs, ∀ p, rowOf c = some p → rver go ρ ks p = rver go' ρ ks p) ∨ (rver go ρ ks q.1 = rver go' ρ ks q.1 ∧ ∃ v t T m, q.2 = .row v t T m)) → renO go ρ ks b l = renO go' ρ ks b l
  | [], _ => rfl
  | (p, o) :: r, h => by
    simp only [renO]
    rw [renO_congr (fun q hq => h q (List.mem_cons_of_mem _ hq))]
    rcases h (p, o) (by simp) with ⟨t, cs, e, h1⟩ | ⟨h1, v, t, T, m, e⟩
    · simp only at e; subst e; simp only [renB, renL_congr h1]
    · simp only at e h1; subst e; simp only [renB, h1]
theorem callStep_mono {dst : Option Nat} {sp : Spec} {args : List CV} {s : Stp} (h : callStep go dst sp args = some s) : callStep go' dst sp args = some s := by
  unfold callStep at h ⊢
  cases h1 : sp.ini.get go (zipI 0 args) [] with
  | none => rw [h1] at h; cases h
  | some dρ =>
    rw [h1] at h; rw [LSh.get_mono hg h1]; simp only [] at h ⊢
    cases h2 : kindR go dρ.2 (ownIds sp.out.slots ++ rowIds sp.out.objs) with
    | false => rw [h2] at h; simp at h
    | true =>
      cases h3 : kindC go dρ.2 (cellIds sp.out.objs) with
      | false => rw [h2, h3] at h; simp at h
      | true =>
        rw [h2, h3] at h; rw [kindR_mono hg h2, kindC_mono hg h3]
        have hv : ∀ p, p ∈ ownIds sp.out.slots ++ rowIds sp.out.objs → rver go dρ.2 sp.ks p = rver go' dρ.2 sp.ks p := fun p hp => by
          unfold rver
          cases h4 : lk dρ.2 p with
          | none => rfl
          | some oo =>
            cases oo with
            | none => rfl
            | some o =>
              obtain ⟨v, t, T, l, h5⟩ := kindR_ok _ h2 p hp o h4
              simp only [h5, hg _ _ h5]
        have e1 : ∀ r : sp.out.den, renL go dρ.2 sp.ks (callBase dst) (valsE (sp.out.env r)) = renL go' dρ.2 sp.ks (callBase dst) (valsE (sp.out.env r)) := fun r =>
          renL_congr fun c hm p hp => hv p (List.mem_append.mpr (.inl (own_vals hp hm)))
        have e2 : ∀ r : sp.out.den, renO go dρ.2 sp.ks (callBase dst) (sp.out.obj r) = renO go' dρ.2 sp.ks (callBase dst) (sp.out.obj r) := fun r =>
          renO_congr fun q hq => by
            rcases row_mem hq with h | h
            · rcases obj_mem h with ⟨t, cs, e, h⟩ | h
              · exact .inl ⟨t, cs, e, fun c hm p hp => hv p (List.mem_append.mpr (.inr (h c hm p hp)))⟩
              · exact .inr ⟨hv _ (List.mem_append.mpr (.inr h.1)), h.2⟩
            · exact .inr ⟨hv _ (List.mem_append.mpr (.inl h.1)), h.2⟩
        simp only [e1, e2] at h
        exact h
def SubG (Γ' Γ : Gam) : Prop := ∀ f sps, lk Γ' f = some sps → ∀ sp ∈ sps, ∃ sps', lk Γ f = some sps' ∧ sp ∈ sps'
omit hg in
theorem SubG.rfl {Γ : Gam} : SubG Γ Γ := fun _ sps h sp hs => ⟨sps, h, hs⟩
theorem stMu_mono {d : TD} {o v v' t' : Nat} {e : Ty} {l : List e.den} {i : Int} {off : Nat} {c : CV} {s : Stp} (h : stMu go d o v v' t' e l i off c = some s) : stMu go' d o v v' t' e l i off c = some s := by
  unfold stMu at h ⊢
  cases hp : (Nat.beq v v' && e.flat && Nat.beq d.size 1 && Nat.blt 1 e.n && fitD e off c) with
  | true => rw [hp] at h; exact h
  | false =>
    rw [hp] at h; simp only [] at h ⊢
    split at h <;> first | (cases h; done) | skip
    rename_i hc
    simp only [Bool.and_eq_true] at hc
    obtain ⟨⟨⟨⟨c1, c2⟩, c3⟩, c4⟩, c5⟩ := hc
    simp only [c1, c2, c3, c4, allOne_mono hg c5, Bool.and_true]
    split at h <;> first | (cases h; done) | skip
    rename_i hof
    rw [ofC_mono hg hof]; exact h
theorem step_mono {tt : TT} {Γ : Gam} {env : List (Nat × CV)} {dst : Option Nat} {op : Op} {s : Stp} (h : step tt Γ env go dst op = some s) : ∃ Γ', SubG Γ' Γ ∧ step tt Γ' env go' dst op = some s := by
  cases op
  case call c =>
    cases hc : c.callee with
    | builtin b =>
      refine ⟨Γ, SubG.rfl, ?_⟩
      simp only [step, hc] at h ⊢
      cases b <;> simp only [] at h ⊢ <;> first | (cases h; done) | skip
      case min => exact h
      case max => exact h
      case len =>
        split at h <;> first | (cases h; done) | skip
        cases h1 : lenV go (kindOf tt _) (operand env _) with
        | none => rw [h1] at h; cases h
        | some n => rw [h1] at h; rw [lenV_mono hg h1]; exact h
      case append =>
        split at h <;> first | (cases h; done) | skip
        split at h <;> first | (cases h; done) | skip
        exact appStep_mono hg h
      case copy =>
        split at h <;> first | (cases h; done) | skip
        split at h <;> first | (cases h; done) | skip
        split at h <;> first | (cases h; done) | skip
        split at h <;> first | (cases h; done) | skip
        rename_i o off n o' off' n' _ _
        cases hb : go o with
        | none => rw [hb] at h; cases h
        | some b =>
          cases hb' : go o' with
          | none => rw [hb, hb'] at h; cases b <;> cases h
          | some b' =>
            rw [hb, hb'] at h; rw [hg _ _ hb, hg _ _ hb']
            cases b <;> cases b' <;> simp only [] at h ⊢ <;> first | (cases h; done) | skip
            split at h <;> first | (cases h; done) | skip
            split at h <;> first | (cases h; done) | skip
            split at h <;> first | (cases h; done) | skip
            rename_i h3
            rw [allOne_mono hg h3]; exact h
    | value f =>
      simp only [step, hc] at h
      split at h <;> first | (cases h; done) | skip
      · rename_i f' hf
        split at h <;> first | (cases h; done) | skip
        rename_i sps hl
        obtain ⟨sp, h1, h2⟩ := firstStep_some h
        refine ⟨[(f', [sp])], fun g sps' hg' sp' hs => ?_, ?_⟩
        · rw [lk_cons] at hg'
          by_cases e : f' = g
          · subst e; rw [if_pos rfl] at hg'; injection hg' with hg'; subst hg'
            simp only [List.mem_singleton] at hs; subst hs
            exact ⟨sps, hl, h1⟩
          · rw [if_neg e] at hg'; simp [lk] at hg'
        · simp only [step, hc, hf, lk_cons, if_true, firstStep, callStep_mono hg h2]
      · rename_i f' l' hf
        split at h <;> first | (cases h; done) | skip
        rename_i sps hl
        obtain ⟨sp, h1, h2⟩ := firstStep_some h
        refine ⟨[(f', [sp])], fun g sps' hg' sp' hs => ?_, ?_⟩
        · rw [lk_cons] at hg'
          by_cases e : f' = g
          · subst e; rw [if_pos rfl] at hg'; injection hg' with hg'; subst hg'
            simp only [List.mem_singleton] at hs; subst hs
            exact ⟨sps, hl, h1⟩
          · rw [if_neg e] at hg'; simp [lk] at hg'
        · simp only [step, hc, hf, lk_cons, if_true, firstStep, callStep_mono hg h2]
    | invoke r m => simp only [step, hc] at h; cases h
  all_goals (refine ⟨Γ, SubG.rfl, ?_⟩)
  case box t x =>
    simp only [step] at h ⊢
    split at h <;> first | (cases h; done) | skip
    split at h <;> first | (cases h; done) | skip
    rename_i h1
    rw [allOne_mono hg h1]; exact h
  case build t ps =>
    simp only [step] at h ⊢
    split at h <;> first | (cases h; done) | skip
    split at h <;> first | (cases h; done) | skip
    rename_i h1
    rw [buildC_mono hg h1]; exact h
  case buildSlice t n ps =>
    simp only [step] at h ⊢
    cases h0 : (Nat.beq n 0 && Nat.beq (lenN ps.toList) 0) with
    | true => rw [h0] at h; exact h
    | false =>
    rw [h0] at h; simp only [] at h ⊢
    split at h <;> first | (cases h; done) | skip
    split at h <;> first | (cases h; done) | skip
    rename_i h1
    rw [seqParts_mono hg h1]; simp only [] at h ⊢
    split at h <;> first | (cases h; done) | skip
    rename_i h2
    rw [denL_mono hg h2]; exact h
  case load t x =>
    simp only [step] at h ⊢
    split at h <;> first | (cases h; done) | skip
    cases hx : operand env x <;> simp only [hx] at h ⊢ <;> first | (cases h; done) | exact h | skip
    case ptr o off =>
      cases hb : go o with
      | none => rw [hb] at h; cases h
      | some b => rw [hb] at h; rw [hg _ _ hb]; exact h
    case pidx o off n k j =>
      cases hb : go o with
      | none => rw [hb] at h; cases h
      | some b => rw [hb] at h; rw [hg _ _ hb]; exact h
    case mptr o v i off =>
      cases hb : go o with
      | none => rw [hb] at h; cases h
      | some b => rw [hb] at h; rw [hg _ _ hb]; exact h
  case nilCheck x =>
    simp only [step] at h ⊢
    cases hx : operand env x <;> simp only [hx] at h ⊢ <;> first | (cases h; done) | exact h | skip
    rename_i o v i off
    cases hb : go o with
    | none => rw [hb] at h; cases h
    | some b => rw [hb] at h; rw [hg _ _ hb]; exact h
  case fieldAddr t x f =>
    simp only [step] at h ⊢
    split at h <;> first | (cases h; done) | skip
    split at h <;> first | (cases h; done) | skip
    cases hx : operand env x <;> simp only [hx] at h ⊢ <;> first | (cases h; done) | exact h | skip
    rename_i o v i off
    cases hb : go o with
    | none => rw [hb] at h; cases h
    | some b => rw [hb] at h; rw [hg _ _ hb]; exact h
  case store t a x =>
    simp only [step] at h ⊢
    split at h <;> first | (cases h; done) | skip
    cases hx : operand env a <;> simp only [hx] at h ⊢ <;> first | (cases h; done) | skip
    case ptr o off =>
      cases hb : go o with
      | none => rw [hb] at h; cases h
      | some b =>
        rw [hb] at h; rw [hg _ _ hb]
        cases b <;> simp only [] at h ⊢ <;> first | (cases h; done) | skip
        split at h <;> first | (cases h; done) | skip
        split at h <;> first | (cases h; done) | skip
        rename_i h3
        rw [allOne_mono hg h3]; exact h
    case pidx o off n k j =>
      split at h <;> first | (cases h; done) | skip
      cases hb : go o with
      | none => rw [hb] at h; cases h
      | some b => rw [hb] at h; rw [hg _ _ hb]; exact h
    case mptr o v i off =>
      cases hb : go o with
      | none => rw [hb] at h; cases h
      | some b =>
        rw [hb] at h; rw [hg _ _ hb]
        split at h <;> first | (cases h; done) | skip
        exact stMu_mono hg h
  case indexAddr t x i =>
    simp only [step] at h ⊢
    cases har : arrOf tt t with
    | some q => simp only [har] at h ⊢; exact h
    | none =>
      simp only [har] at h ⊢
      split at h <;> first | (cases h; done) | skip
      split at h <;> first | (cases h; done) | skip
      cases h1 : asL go _ (operand env x) with
      | none =>
        rw [h1] at h; simp only [] at h
        cases hx : operand env x <;> simp only [hx] at h ⊢ <;> first | (cases h; done) | skip
        rename_i o v
        cases h3 : muAt go _ _ o v with
        | none => rw [h3] at h; cases h
        | some l => rw [h3] at h; rw [(muAt_asL (muAt_mono hg h3)).1]; simp only []; rw [muAt_mono hg h3]; exact h
      | some l => rw [h1] at h; rw [asL_mono hg h1]; exact h
  case lookup t x y c =>
    simp only [step] at h ⊢
    split at h <;> first | (cases h; done) | skip
    split at h <;> first | (cases h; done) | skip
    split at h <;> first | (cases h; done) | skip
    rename_i o _
    cases hb : go o with
    | none => rw [hb] at h; cases h
    | some b => rw [hb] at h; rw [hg _ _ hb]; exact h
  case mapUpdate t x y z =>
    simp only [step] at h ⊢
    split at h <;> first | (cases h; done) | skip
    split at h <;> first | (cases h; done) | skip
    rename_i o _
    split at h <;> first | (cases h; done) | skip
    split at h <;> first | (cases h; done) | skip
    cases hb : go o with
    | none => rw [hb] at h; cases h
    | some b => rw [hb] at h; rw [hg _ _ hb]; exact h
  case convert t t' x => simp only [step] at h ⊢; exact convStep_mono hg h
  case slice t x lo hi mx =>
    simp only [step] at h ⊢
    cases har : arrOf tt t with
    | some q => simp only [har] at h ⊢; exact h
    | none => simp only [har] at h ⊢; exact sliceStep_mono hg h
  all_goals (simpa only [step] using h)
theorem pappend_mono {tt : TT} {dst : Option Nat} {t : Nat} {a b : CV} {s : Stp} (h : pappend tt go dst t a b = some s) : pappend tt go' dst t a b = some s := by
  unfold pappend at h ⊢
  split at h <;> first | (cases h; done) | skip
  cases a <;> simp only [] at h ⊢ <;> first | exact h | skip
  rename_i o v l
  cases hb : go o with
  | none => rw [hb] at h; cases h
  | some b => rw [hb] at h; rw [hg _ _ hb]; exact h
theorem pstep_mono {tt : TT} {env : List (Nat × CV)} {dst : Option Nat} {op : Op} {s : Stp} (h : pstep tt env go dst op = some s) : pstep tt env go' dst op = some s := by
  cases op <;> simp only [pstep] at h ⊢ <;> first | exact h | skip
  case call c =>
    cases hc : c.callee with
    | builtin b =>
      rw [hc] at h
      cases b <;> simp only [] at h ⊢ <;> first | exact h | skip
      split at h <;> first | (cases h; done) | skip
      split at h <;> first | (cases h; done) | skip
      exact pappend_mono hg h
    | _ => rw [hc] at h; cases h
theorem stepP_mono {tt : TT} {Γ : Gam} {env : List (Nat × CV)} {dst : Option Nat} {op : Op} {s : Stp} (h : stepP tt Γ env go dst op = some s) : pstep tt env go' dst op = some s ∨ ∃ Γ', SubG Γ' Γ ∧ step tt Γ' env go' dst op = some s := by
  unfold stepP at h
  split at h
  · rename_i s' hs
    injection h with h; subst h
    exact .inl (pstep_mono hg hs)
  · exact .inr (step_mono hg h)
end
theorem SubG.ok {P : Program} {Γ Γ' : Gam} (h : SubG Γ' Γ) (hΓ : GamOk P Γ) : GamOk P Γ' := fun f sps hl sp hs => by
  obtain ⟨sps', h1, h2⟩ := h f sps hl sp hs
  exact hΓ f sps' h1 sp h2
theorem restr_le {R : List Nat} {go : Nat → Option Ob} : LeG (restr R go) go := by
  intro o b h
  unfold restr at h
  split at h
  · exact h
  · cases h
end Go.Proofs.Ytcjiipbppkdkaaa.Eng
