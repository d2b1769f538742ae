/- The engine, part 15: what is to be known of a program: its types; and all its functions at once. -/
import Derived.Test.YtcjiipbppkdkaaaEFn
import Derived.Laws.StructEq
import Derived.Lib.Bytealg
import Derived.Laws.Externs
import Derived.KernelRfl
namespace Go.Proofs.Ytcjiipbppkdkaaa.Eng
open Go
set_option linter.unusedVariables false
set_option linter.unusedSimpArgs false
def zeroB : CV → Value → Bool
  | .int k n, .int k' n' => (if k = k' then true else false) && n == n'
  | .bool a, .bool b => a == b
  | .str s, .string s' => Nat.beq s.size 0 && Nat.beq s'.size 0
  | .flt n, .float .f64 n' => Nat.beq (fcan n') n
  | .nilp, .pointer none => true
  | .nils, .slice none 0 0 => true
  | .nilm, .map none => true
  | .top, _ => true
  | _, _ => false
def zeroLB : List CV → List Value → Bool
  | [], [] => true
  | c :: r, v :: s => zeroB c v && zeroLB r s
  | _, _ => false
theorem zeroB_ok {M : Mem} {c : CV} {v : Value} (h : zeroB c v = true) : VR M c v := by
  unfold zeroB at h
  split at h
  · rename_i k n k' n'
    simp only [Bool.and_eq_true, beq_iff_eq] at h
    have hk : k = k' := by by_cases e : k = k' <;> simp_all
    simp only [VR]; rw [hk, h.2]
  · simp only [beq_iff_eq] at h; subst h; simp only [VR]
  · simp only [Bool.and_eq_true] at h
    have h1 := beq_of h.1
    have h2 := beq_of h.2
    simp only [VR]
    rw [ByteArray.size_eq_zero_iff.mp h1, ByteArray.size_eq_zero_iff.mp h2]
  · have := beq_of h; simp only [VR]; exact ⟨_, rfl, this⟩
  · simp only [VR]
  · simp only [VR]
  · simp only [VR]
  · simp only [VR]
  · cases h
theorem zeroLB_ok {M : Mem} : ∀ {l : List CV} {vs : List Value}, zeroLB l vs = true → VRL M l vs
  | [], [], _ => by simp only [VRL]
  | c :: r, v :: s, h => by
    simp only [zeroLB, Bool.and_eq_true] at h
    simp only [VRL]
    exact ⟨v, s, rfl, zeroB_ok h.1, zeroLB_ok h.2⟩
  | [], _ :: _, h => by simp [zeroLB] at h
  | _ :: _, [], h => by simp [zeroLB] at h
def structB (P : Program) : List Field → List (Nat × Nat × Nat) → Bool
  | [], [] => true
  | f :: F, (off, ft, n) :: fs => Nat.beq f.offset off && Nat.beq f.type ft && (match P.info? ft with | some i => Nat.beq i.size n | none => false) && Nat.blt 0 n && structB P F fs
  | _, _ => false
def flatB (P : Program) : Nat → List Field → List CV → Bool
  | _, [], [] => true
  | i, f :: F, c :: z => Nat.beq f.offset i && (if f.name ≠ "_" then true else false) && (match P.underlying f.type, c with
    | some (.int k), .int k' _ => if k = k' then true else false
    | some .bool, .bool _ => true
    | some .string, .str _ => true
    | _, _ => false) && flatB P (i + 1) F z
  | _, _, _ => false
def scB : TypeDesc → CV → Bool
  | .int k, .int k' _ => if k = k' then true else false
  | .bool, .bool _ => true
  | .string, .str _ => true
  | _, _ => false
def nestG (P : Program) (inner : List Field → List CV → Bool) : Nat → List Field → List CV → Bool
  | _, [], [] => true
  | _, [], _ :: _ => false
  | i, f :: F, z => Nat.beq f.offset i && (if f.name ≠ "_" then true else false) && (match P.underlying f.type with
    | some (.struct G) => !P.stoodInHeld f.type && (match P.info? f.type with | some q => inner G.toList (z.take q.size) && nestG P inner (i + q.size) F (z.drop q.size) | none => false)
    | some u => (match z with
      | c :: z' => scB u c && nestG P inner (i + 1) F z'
      | [] => false)
    | none => false)
def nestB (P : Program) (F : List Field) (z : List CV) : Bool := nestG P (flatB P 0) 0 F z
def cmpB (P : Program) (t : Nat) (z : List CV) : Bool :=
  match P.underlying t with
  | some (.struct F) => (match flatB P 0 F.toList z with | true => true | false => match nestB P F.toList z with | true => true | false => nestG P (nestB P) 0 F.toList z) && !P.stoodInHeld t && !P.eqGuardType P.depth t
  | _ => false
def kindB (P : Program) (u : TypeDesc) : TK → Bool
  | .int k => match u with | .int k' => if k' = k then true else false | _ => false
  | .bool => match u with | .bool => true | _ => false
  | .flt => match u with | .float .f64 => true | _ => false
  | .str => match u with | .string => true | _ => false
  | .slice e => match u with | .slice e' => Nat.beq e' e | _ => false
  | .ptr e => match u with | .pointer e' => Nat.beq e' e | _ => false
  | .struct fs => match u with | .struct F => structB P F.toList fs | _ => false
  | .array n e => match u with | .array n' e' => Nat.beq n' n && Nat.beq e' e | _ => false
  | .map k e => match u with | .map k' e' => Nat.beq k' k && Nat.beq e' e | _ => false
  | _ => true
def strzB (z : Option Value) : TK → Bool
  | .str => match z with | some (.string s) => Nat.beq s.size 0 | _ => false
  | _ => true
def tdB (P : Program) (t : Nat) (d : TD) : Bool :=
  match P.info? t with
  | some i => strzB i.zero d.kind && Nat.beq i.size d.size && Nat.beq i.bytes d.bytes && (match i.zero with | some z => Nat.beq z.cells.size d.size && zeroLB d.zero z.cells.toList | none => false) &&
    (match P.underlying t with
    | some u => (match u with | .struct _ => d.agg | .array _ _ => d.agg | _ => !d.agg) && kindB P u d.kind && (match d.cmp with | true => cmpB P t d.zero | false => true)
    | none => false)
  | none => false
section
variable {P : Program}
theorem structB_ok : ∀ {F : List Field} {fs : List (Nat × Nat × Nat)}, structB P F fs = true →
    (∀ i off ft n, nth fs i = some (off, ft, n) → ∃ f, F[i]? = some f ∧ f.offset = off ∧ f.type = ft ∧ (P.info? ft).map (·.size) = some n ∧ 0 < n) ∧
    F.mapM (fun f => (P.info? f.type).map fun i => (f.offset, i.size)) = some (fs.map fun x => (x.1, x.2.2))
  | [], [], _ => ⟨fun i off ft n h => by simp [nth] at h, by simp⟩
  | f :: F, (off, ft, n) :: fs, h => by
    simp only [structB, Bool.and_eq_true] at h
    obtain ⟨⟨⟨⟨h1, h2⟩, h3⟩, h4⟩, h5⟩ := h
    obtain ⟨g1, g2⟩ := structB_ok h5
    have e1 := beq_of h1
    have e2 := beq_of h2
    have e4 : 0 < n := by simpa [Nat.blt_eq] using h4
    cases hi : P.info? ft with
    | none => rw [hi] at h3; cases h3
    | some i =>
      rw [hi] at h3
      have e3 := beq_of h3
      refine ⟨fun j off' ft' n' hj => ?_, ?_⟩
      · cases j with
        | zero =>
          simp only [nth, Option.some.injEq, Prod.mk.injEq] at hj
          obtain ⟨rfl, rfl, rfl⟩ := hj
          exact ⟨f, by simp, e1, e2, by rw [hi]; simp [e3], e4⟩
        | succ j =>
          obtain ⟨f', k1, k2⟩ := g1 j off' ft' n' hj
          exact ⟨f', by simpa using k1, k2⟩
      · have hi' : P.info? f.type = some i := by rw [e2]; exact hi
        simp only [List.mapM_cons, hi', Option.map_some, g2, List.map_cons, Option.bind_eq_bind, Option.bind_some, e1, e3]
        rfl
  | [], _ :: _, h => by simp [structB] at h
  | _ :: _, [], h => by simp [structB] at h
theorem eqFields_ok {M : Mem} {vs vs' : Array Value} {D : Nat} (w : World) : ∀ {F : List Field} {i : Nat} {z l l' : List CV} {r : Bool}, flatB P i F z = true → sameK z l = true → eqC l l' = some r → VRL M l (vs.toList.drop i) → VRL M l' (vs'.toList.drop i) →
    (Op.eqFields (D + 1) vs vs' F).run P w = .ok r w
  | [], i, z, l, l', r, hf, hs, he, h1, h2 => by
    cases z with
    | cons c z => simp [flatB] at hf
    | nil =>
      cases l with
      | cons c l => simp [sameK] at hs
      | nil =>
        cases l' with
        | cons c l' => simp [eqC] at he
        | nil => simp only [eqC, Option.some.injEq] at he; subst he; simp [Op.eqFields]
  | f :: F, i, z, l, l', r, hf, hs, he, h1, h2 => by
    cases z with
    | nil => simp [flatB] at hf
    | cons c0 z =>
      simp only [flatB, Bool.and_eq_true] at hf
      obtain ⟨⟨⟨f1, f2⟩, f3⟩, f4⟩ := hf
      have e1 := beq_of f1
      have e2 : f.name ≠ "_" := by intro e; rw [e] at f2; simp at f2
      cases l with
      | nil => cases c0 <;> simp [sameK] at hs
      | cons c l =>
        cases l' with
        | nil => cases c <;> simp [eqC] at he
        | cons c' l' =>
          simp only [VRL] at h1 h2
          obtain ⟨v, vr, g1, g2, g3⟩ := h1
          obtain ⟨v', vr', k1, k2, k3⟩ := h2
          have hv : vs[i]? = some v := by
            have : (vs.toList.drop i)[0]? = some v := by rw [g1]; rfl
            rw [List.getElem?_drop] at this; simpa using this
          have hv' : vs'[i]? = some v' := by
            have : (vs'.toList.drop i)[0]? = some v' := by rw [k1]; rfl
            rw [List.getElem?_drop] at this; simpa using this
          have hr : vr = vs.toList.drop (i + 1) := by rw [← List.drop_drop, g1]; rfl
          have hr' : vr' = vs'.toList.drop (i + 1) := by rw [← List.drop_drop, k1]; rfl
          rw [hr] at g3; rw [hr'] at k3
          have fin : ∀ {u : TypeDesc} {b b2 : Bool}, P.underlying f.type = some u → (match u with | .struct _ | .array _ _ => true | _ => false) = false → (Op.equalIn (D + 1) f.type v v').run P w = .ok b w → sameK z l = true → eqC l l' = some b2 → r = (b && b2) →
              (Op.eqFields (D + 1) vs vs' (f :: F)).run P w = .ok r w := by
            intro u b b2 hu hu2 hb hs2 he2 hr
            have hp : ∀ {xs : Array Value} {x : Value}, xs[i]? = some x → (part f.type xs f.offset).run P w = .ok x w := by
              intro xs x hx
              rw [e1]
              unfold part
              cases u <;> simp_all [isAgg, run_underlying hu]
            have ih := eqFields_ok w f4 hs2 he2 g3 k3 (D := D)
            simp only [Op.eqFields]
            rw [if_pos e2]
            simp only [Sem.run_bind, hp hv, hp hv', Result.andThen_ok, hb]
            cases b with
            | false => simp [hr]
            | true => simp only [Bool.not_true, Bool.false_eq_true, if_false]; rw [ih, hr, Bool.true_and]
          cases hu : P.underlying f.type with
          | none => rw [hu] at f3; cases c0 <;> simp at f3
          | some u =>
            rw [hu] at f3
            cases u <;> cases c0 <;> simp only [] at f3 <;> first | (cases f3; done) | skip
            case bool.bool =>
              cases c <;> simp only [sameK] at hs <;> first | (cases hs; done) | skip
              cases c' <;> simp only [eqC] at he <;> first | (cases he; done) | skip
              rename_i a _ a'
              cases he2 : eqC l l' with
              | none => rw [he2] at he; cases he
              | some b2 =>
                rw [he2] at he; injection he with he
                have q1 := g2.bool; have q2 := k2.bool; subst q1; subst q2
                exact fin hu rfl (run_equalIn_bool' w D f.type _ _ hu) hs he2 he.symm
            case int.int =>
              rename_i k k' n0
              cases c <;> simp only [sameK] at hs <;> first | (cases hs; done) | skip
              rename_i k1' n1
              split at hs <;> first | (cases hs; done) | skip
              cases c' <;> simp only [eqC] at he <;> first | (cases he; done) | skip
              rename_i k2' n2
              split at he <;> first | (cases he; done) | skip
              rename_i hk
              cases he2 : eqC l l' with
              | none => rw [he2] at he; cases he
              | some b2 =>
                rw [he2] at he; injection he with he
                have q1 := g2.int; have q2 := k2.int; subst q1; subst q2
                rw [hk] at *
                exact fin hu rfl (run_equalIn_int w D f.type _ _ _ _ hu) hs he2 he.symm
            case string.str =>
              cases c <;> simp only [sameK] at hs <;> first | (cases hs; done) | skip
              cases c' <;> simp only [eqC] at he <;> first | (cases he; done) | skip
              cases he2 : eqC l l' with
              | none => rw [he2] at he; cases he
              | some b2 =>
                rw [he2] at he; injection he with he
                have q1 := g2.str; have q2 := k2.str; subst q1; subst q2
                exact fin hu rfl (run_equalIn_string w D f.type _ _ hu) hs he2 (by rw [← he, ← beq_toListBytes]; rfl)
theorem flatB_len : ∀ {F : List Field} {i : Nat} {z : List CV}, flatB P i F z = true → z.length = F.length
  | [], _, [], _ => rfl
  | [], _, _ :: _, h => by simp [flatB] at h
  | _ :: _, _, [], h => by simp [flatB] at h
  | f :: F, i, c :: z, h => by
    simp only [flatB, Bool.and_eq_true] at h
    simp [flatB_len h.2]
theorem sameK_cut : ∀ (n : Nat) {z l : List CV}, sameK z l = true → sameK (z.take n) (l.take n) = true ∧ sameK (z.drop n) (l.drop n) = true
  | 0, z, l, h => ⟨rfl, h⟩
  | n + 1, [], l, h => by cases l with | nil => exact ⟨rfl, rfl⟩ | cons c l => simp [sameK] at h
  | n + 1, c :: z, l, h => by
    cases l with
    | nil => cases c <;> simp [sameK] at h
    | cons c' l =>
      have rec_ : sameK z l = true → sameK (z.take n) (l.take n) = true ∧ sameK (z.drop n) (l.drop n) = true := fun h => sameK_cut n h
      cases c <;> cases c' <;> simp only [sameK] at h <;> first
        | (cases h; done)
        | (split at h
           · rename_i hk; obtain ⟨h1, h2⟩ := rec_ h; exact ⟨by simp only [List.take_succ_cons, sameK, if_pos hk]; exact h1, h2⟩
           · cases h)
        | (obtain ⟨h1, h2⟩ := rec_ h; exact ⟨by simp only [List.take_succ_cons, sameK]; exact h1, h2⟩)
theorem eqC_cut : ∀ (n : Nat) {l l' : List CV} {r : Bool}, eqC l l' = some r → ∃ r1 r2, eqC (l.take n) (l'.take n) = some r1 ∧ eqC (l.drop n) (l'.drop n) = some r2 ∧ r = (r1 && r2)
  | 0, l, l', r, h => ⟨true, r, rfl, h, by simp⟩
  | n + 1, [], l', r, h => by
    cases l' with
    | nil => exact ⟨true, true, rfl, rfl, by simp only [eqC, Option.some.injEq] at h; simp [← h]⟩
    | cons c l => simp [eqC] at h
  | n + 1, c :: l, l', r, h => by
    cases l' with
    | nil => cases c <;> simp [eqC] at h
    | cons c' l' =>
      have rec_ : ∀ {q}, eqC l l' = some q → ∃ r1 r2, eqC (l.take n) (l'.take n) = some r1 ∧ eqC (l.drop n) (l'.drop n) = some r2 ∧ q = (r1 && r2) := fun h => eqC_cut n h
      cases c <;> cases c' <;> simp only [eqC] at h <;> first
        | (cases h; done)
        | (split at h <;> first | (cases h; done) | skip
           rename_i hk
           cases he : eqC l l' with
           | none => rw [he] at h; cases h
           | some q =>
             rw [he] at h; injection h with h
             obtain ⟨r1, r2, e1, e2, e3⟩ := rec_ he
             exact ⟨_, r2, by simp only [List.take_succ_cons, eqC, if_pos hk, e1]; rfl, e2, by rw [← h, e3, Bool.and_assoc]⟩)
        | (cases he : eqC l l' with
           | none => rw [he] at h; cases h
           | some q =>
             rw [he] at h; injection h with h
             obtain ⟨r1, r2, e1, e2, e3⟩ := rec_ he
             exact ⟨_, r2, by simp only [List.take_succ_cons, eqC, e1]; rfl, e2, by rw [← h, e3, Bool.and_assoc]⟩)
theorem VRL.takeN {M : Mem} : ∀ (n : Nat) {l : List CV} {vs : List Value}, VRL M l vs → VRL M (l.take n) (vs.take n)
  | 0, _, _, _ => by simp [VRL]
  | n + 1, [], vs, h => by simp only [VRL] at h; subst h; simp [VRL]
  | n + 1, c :: r, vs, h => by
    simp only [VRL] at h
    obtain ⟨v, vr, rfl, h1, h2⟩ := h
    simp only [List.take_succ_cons, VRL]
    exact ⟨v, _, rfl, h1, VRL.takeN n h2⟩
theorem VRL.dropN {M : Mem} : ∀ (n : Nat) {l : List CV} {vs : List Value}, VRL M l vs → VRL M (l.drop n) (vs.drop n)
  | 0, _, _, h => h
  | n + 1, [], vs, h => by simp only [VRL] at h; subst h; simp [VRL]
  | n + 1, c :: r, vs, h => by
    simp only [VRL] at h
    obtain ⟨v, vr, rfl, h1, h2⟩ := h
    exact VRL.dropN n h2
theorem eqF_cons {D : Nat} {f : Field} {F : List Field} {vs vs' : Array Value} {v v' : Value} {b r2 : Bool} {w : World} (hname : f.name ≠ "_") (hp : (part f.type vs f.offset).run P w = .ok v w) (hp' : (part f.type vs' f.offset).run P w = .ok v' w)
    (hb : (Op.equalIn D f.type v v').run P w = .ok b w) (hrest : (Op.eqFields D vs vs' F).run P w = .ok r2 w) : (Op.eqFields D vs vs' (f :: F)).run P w = .ok (b && r2) w := by
  simp only [Op.eqFields]
  rw [if_pos hname]
  simp only [Sem.run_bind, hp, hp', Result.andThen_ok, hb]
  cases b with
  | false => simp
  | true => simp only [Bool.not_true, Bool.false_eq_true, if_false]; rw [hrest, Bool.true_and]
theorem scalar_eq {M : Mem} {D ft : Nat} {u : TypeDesc} {c0 c c' : CV} {z l l' : List CV} {v v' : Value} {r : Bool} (w : World) (hu : P.underlying ft = some u) (hsc : scB u c0 = true) (hs : sameK (c0 :: z) (c :: l) = true) (he : eqC (c :: l) (c' :: l') = some r)
    (h1 : VR M c v) (h2 : VR M c' v') : ∃ b r2, eqC l l' = some r2 ∧ sameK z l = true ∧ r = (b && r2) ∧ (Op.equalIn (D + 1) ft v v').run P w = .ok b w ∧ (match u with | .struct _ | .array _ _ => true | _ => false) = false := by
  cases u <;> cases c0 <;> simp only [scB] at hsc <;> first | (cases hsc; done) | skip
  case bool.bool =>
    cases c <;> simp only [sameK] at hs <;> first | (cases hs; done) | skip
    cases c' <;> simp only [eqC] at he <;> first | (cases he; done) | skip
    cases he2 : eqC l l' with
    | none => rw [he2] at he; cases he
    | some b2 =>
      rw [he2] at he; injection he with he
      have q1 := h1.bool; have q2 := h2.bool; subst q1; subst q2
      exact ⟨_, b2, rfl, hs, he.symm, run_equalIn_bool' w D ft _ _ hu, rfl⟩
  case int.int =>
    cases c <;> simp only [sameK] at hs <;> first | (cases hs; done) | skip
    split at hs <;> first | (cases hs; done) | skip
    cases c' <;> simp only [eqC] at he <;> first | (cases he; done) | skip
    split at he <;> first | (cases he; done) | skip
    rename_i hk
    cases he2 : eqC l l' with
    | none => rw [he2] at he; cases he
    | some b2 =>
      rw [he2] at he; injection he with he
      have q1 := h1.int; have q2 := h2.int; subst q1; subst q2
      rw [hk] at *
      exact ⟨_, b2, rfl, hs, he.symm, run_equalIn_int w D ft _ _ _ _ hu, rfl⟩
  case string.str =>
    cases c <;> simp only [sameK] at hs <;> first | (cases hs; done) | skip
    cases c' <;> simp only [eqC] at he <;> first | (cases he; done) | skip
    cases he2 : eqC l l' with
    | none => rw [he2] at he; cases he
    | some b2 =>
      rw [he2] at he; injection he with he
      have q1 := h1.str; have q2 := h2.str; subst q1; subst q2
      exact ⟨_, b2, rfl, hs, by rw [← he, ← beq_toListBytes]; rfl, run_equalIn_string w D ft _ _ hu, rfl⟩
theorem eqNest_ok {M : Mem} {vs vs' : Array Value} {D : Nat} {inner : List Field → List CV → Bool} (w : World)
    (hin : ∀ {F : List Field} {z l l' : List CV} {r : Bool} {vs vs' : Array Value}, inner F z = true → sameK z l = true → eqC l l' = some r → VRL M l (vs.toList.drop 0) → VRL M l' (vs'.toList.drop 0) → (Op.eqFields (D + 1) vs vs' F).run P w = .ok r w) :
    ∀ {F : List Field} {i : Nat} {z l l' : List CV} {r : Bool}, nestG P inner i F z = true → sameK z l = true → eqC l l' = some r → VRL M l (vs.toList.drop i) → VRL M l' (vs'.toList.drop i) →
    (Op.eqFields (D + 1 + 1) vs vs' F).run P w = .ok r w
  | [], i, z, l, l', r, hf, hs, he, h1, h2 => by
    cases z with
    | cons c z => simp [nestG] at hf
    | nil =>
      cases l with
      | cons c l => simp [sameK] at hs
      | nil =>
        cases l' with
        | cons c l' => simp [eqC] at he
        | nil => simp only [eqC, Option.some.injEq] at he; subst he; simp [Op.eqFields]
  | f :: F, i, z, l, l', r, hf, hs, he, h1, h2 => by
    simp only [nestG, Bool.and_eq_true] at hf
    obtain ⟨⟨f1, f2⟩, f3⟩ := hf
    have e1 := beq_of f1
    have e2 : f.name ≠ "_" := by intro e; rw [e] at f2; simp at f2
    cases hu : P.underlying f.type with
    | none => rw [hu] at f3; cases f3
    | some u =>
      rw [hu] at f3
      have scalar : ∀ c0 z', z = c0 :: z' → scB u c0 = true → nestG P inner (i + 1) F z' = true → (Op.eqFields (D + 1 + 1) vs vs' (f :: F)).run P w = .ok r w := by
          intro c0 z' hz f31 f32
          clear f3
          subst hz
          cases l with
          | nil => cases c0 <;> simp [sameK] at hs
          | cons c l =>
            cases l' with
            | nil => cases c <;> simp [eqC] at he
            | cons c' l' =>
              simp only [VRL] at h1 h2
              obtain ⟨v, vr, g1, g2, g3⟩ := h1
              obtain ⟨v', vr', k1, k2, k3⟩ := h2
              have hv : vs[i]? = some v := by
                have : (vs.toList.drop i)[0]? = some v := by rw [g1]; rfl
                rw [List.getElem?_drop] at this; simpa using this
              have hv' : vs'[i]? = some v' := by
                have : (vs'.toList.drop i)[0]? = some v' := by rw [k1]; rfl
                rw [List.getElem?_drop] at this; simpa using this
              have hr : vr = vs.toList.drop (i + 1) := by rw [← List.drop_drop, g1]; rfl
              have hr' : vr' = vs'.toList.drop (i + 1) := by rw [← List.drop_drop, k1]; rfl
              rw [hr] at g3; rw [hr'] at k3
              obtain ⟨b, r2, q1, q2, q3, q4, q5⟩ := scalar_eq (D := D + 1) w hu f31 hs he g2 k2
              have hp : ∀ {xs : Array Value} {x : Value}, xs[i]? = some x → (part f.type xs f.offset).run P w = .ok x w := by
                intro xs x hx
                rw [e1]
                unfold part
                cases u <;> simp_all [isAgg, run_underlying hu]
              rw [q3]
              exact eqF_cons e2 (hp hv) (hp hv') q4 (eqNest_ok w hin f32 q2 q1 g3 k3)
      cases u with
      | struct G =>
        simp only [Bool.and_eq_true, Bool.not_eq_true'] at f3
        obtain ⟨s1, s2⟩ := f3
        cases hi : P.info? f.type with
        | none => rw [hi] at s2; cases s2
        | some q =>
          rw [hi] at s2
          simp only [Bool.and_eq_true] at s2
          obtain ⟨s3, s4⟩ := s2
          obtain ⟨t1, t2⟩ := sameK_cut q.size hs
          obtain ⟨r1, r2, u1, u2, u3⟩ := eqC_cut q.size he
          have hG : P.fieldsOf f.type = G := by unfold Program.fieldsOf; rw [hu]
          have hp : ∀ (xs : Array Value), (part f.type xs f.offset).run P w = .ok (.agg (xs.extract i (i + q.size))) w := by
            intro xs
            have hsz : (sizeOf f.type).run P w = .ok q.size w := by simp [sizeOf, typeInfo, hi]
            rw [e1]
            unfold part
            simp [isAgg, run_underlying hu, hsz]
          have hex : ∀ (xs : Array Value), (xs.extract i (i + q.size)).toList = (xs.toList.drop i).take q.size := by
            intro xs; simp [List.extract_eq_take_drop]
          have hin' : (Op.equalIn (D + 1 + 1) f.type (.agg (vs.extract i (i + q.size))) (.agg (vs'.extract i (i + q.size)))).run P w = .ok r1 w := by
            rw [run_equalIn_struct w (D + 1) f.type _ _ (by rw [hG]; exact hu) s1, hG]
            exact hin s3 t1 u1 (by rw [List.drop_zero, hex]; exact h1.takeN _) (by rw [List.drop_zero, hex]; exact h2.takeN _)
          rw [u3]
          exact eqF_cons e2 (hp vs) (hp vs') hin' (eqNest_ok w hin s4 t2 u2 (by rw [← List.drop_drop]; exact h1.dropN _) (by rw [← List.drop_drop]; exact h2.dropN _))
      | _ =>
        cases z with
        | nil => simp at f3
        | cons c0 z' => simp only [Bool.and_eq_true] at f3; exact scalar c0 z' rfl f3.1 f3.2
theorem tdB_ok {t : Nat} {d : TD} (h : tdB P t d = true) : TDok P t d := by
  unfold tdB at h
  cases hi : P.info? t with
  | none => rw [hi] at h; cases h
  | some i =>
    rw [hi] at h; simp only [Bool.and_eq_true] at h
    obtain ⟨⟨⟨⟨h0, h1⟩, h2⟩, h3⟩, h4⟩ := h
    cases hz : i.zero with
    | none => rw [hz] at h3; cases h3
    | some z =>
      rw [hz] at h3; simp only [Bool.and_eq_true] at h3
      cases hu : P.underlying t with
      | none => rw [hu] at h4; cases h4
      | some u =>
        rw [hu] at h4; simp only [Bool.and_eq_true] at h4
        obtain ⟨⟨k1, k2⟩, k3⟩ := h4
        refine ⟨⟨i, z, hi, beq_of h1, beq_of h2, hz, beq_of h3.1, fun M => zeroLB_ok h3.2⟩, fun w => ?_, fun fs hk => ?_, ⟨u, hu⟩, fun e hk => ?_, fun k hk => ?_, fun hk => ?_, fun hk => ?_, fun hk => ?_, fun e hk => ?_, fun n e hk => ?_, fun k e hk => ?_, fun hk => ?_, fun hc M l l' r vs vs' w hs he hl hl' => ?_⟩
        · cases u <;> simp only [] at k1 <;> simp_all [isAgg, run_underlying hu]
        · rw [hk] at k2; simp only [kindB] at k2
          cases u <;> simp only [] at k2 <;> first | (cases k2; done) | skip
          rename_i F
          obtain ⟨g1, g2⟩ := structB_ok k2
          exact ⟨F, hu, fun j off ft n hj => by obtain ⟨f, q1, q2⟩ := g1 j off ft n hj; exact ⟨f, by simpa using q1, q2⟩, g2⟩
        · rw [hk] at k2; simp only [kindB] at k2
          cases u <;> simp only [] at k2 <;> first | (cases k2; done) | skip
          rw [hu, beq_of k2]
        · rw [hk] at k2; simp only [kindB] at k2
          cases u <;> simp only [] at k2 <;> first | (cases k2; done) | skip
          split at k2
          · rename_i e; rw [hu, e]
          · cases k2
        · rw [hk] at k2; simp only [kindB] at k2
          cases u <;> simp only [] at k2 <;> first | (cases k2; done) | skip
          exact hu
        · rw [hk] at k2; simp only [kindB] at k2
          cases u <;> simp only [] at k2 <;> first | (cases k2; done) | skip
          exact hu
        · rw [hk] at k2
          have : ∀ u, kindB P u .flt = true → u = .float .f64 := by
            intro u h
            cases u <;> first | (cases h; done) | skip
            rename_i k
            cases k <;> first | rfl | (cases h; done)
          rw [hu, this u k2]
        · rw [hk] at k2; simp only [kindB] at k2
          cases u <;> simp only [] at k2 <;> first | (cases k2; done) | skip
          rw [hu, beq_of k2]
        · rw [hk] at k2; simp only [kindB] at k2
          cases u <;> simp only [] at k2 <;> first | (cases k2; done) | skip
          simp only [Bool.and_eq_true] at k2
          rw [hu, beq_of k2.1, beq_of k2.2]
        · rw [hk] at k2; simp only [kindB] at k2
          cases u <;> simp only [] at k2 <;> first | (cases k2; done) | skip
          simp only [Bool.and_eq_true] at k2
          rw [hu, beq_of k2.1, beq_of k2.2]
        · rw [hk, hz] at h0; simp only [strzB] at h0
          cases z <;> simp only [] at h0 <;> first | (cases h0; done) | skip
          exact ⟨i, hi, by rw [hz, ByteArray.size_eq_zero_iff.mp (beq_of h0)]⟩
        · rw [hc] at k3; simp only [cmpB, hu] at k3
          cases u <;> simp only [] at k3 <;> first | (cases k3; done) | skip
          rename_i F
          simp only [Bool.and_eq_true, Bool.not_eq_true'] at k3
          obtain ⟨⟨q1, q2⟩, q3⟩ := k3
          have hF : P.fieldsOf t = F := by unfold Program.fieldsOf; rw [hu]
          refine ⟨?_, fun op x y => run_eqGuard_agg w op t x y vs vs' q3⟩
          have : (Op.equalIn (9997 + 1 + 1 + 1) t (.agg vs) (.agg vs')).run P w = .ok r w := by
            rw [run_equalIn_struct w (9997 + 1 + 1) t vs vs' (by rw [hF]; exact hu) q2, hF]
            cases hfl : flatB P 0 F.toList d.zero with
            | true => exact eqFields_ok w hfl hs he (by simpa using hl) (by simpa using hl')
            | false =>
              rw [hfl] at q1; simp only [] at q1
              cases hne : nestB P F.toList d.zero with
              | true => exact eqNest_ok w (fun h1 h2 h3 h4 h5 => eqFields_ok w h1 h2 h3 h4 h5) hne hs he (by simpa using hl) (by simpa using hl')
              | false =>
                rw [hne] at q1; simp only [] at q1
                exact eqNest_ok w (fun h1 h2 h3 h4 h5 => eqNest_ok w (fun h1 h2 h3 h4 h5 => eqFields_ok w h1 h2 h3 h4 h5) h1 h2 h3 h4 h5) q1 hs he (by simpa using hl) (by simpa using hl')
          exact this
def ttB (P : Program) : TT → Bool
  | [] => true
  | (t, d) :: r => match tdB P t d with | true => ttB P r | false => false
theorem ttB_ok : ∀ {tt : TT}, ttB P tt = true → TTok P tt
  | [], _, t, d, h => by simp [lk] at h
  | (t0, d0) :: r, hb, t, d, h => by
    simp only [ttB] at hb
    cases hd : tdB P t0 d0 with
    | false => rw [hd] at hb; cases hb
    | true =>
      rw [hd] at hb
      rw [lk_cons] at h
      by_cases e : t0 = t
      · rw [if_pos e] at h; injection h with h; subst h; subst e; exact tdB_ok hd
      · rw [if_neg e] at h; exact ttB_ok hb t d h
abbrev Tab := List (Nat × FnD)
def specsOf : Tab → Nat → Nat → List Spec
  | [], _, _ => []
  | (g, F) :: r, f, k => match Nat.beq g f with | true => F.sp k :: specsOf r f k | false => specsOf r f k
def gamG (T : Tab) : Tab → Nat → Gam
  | [], _ => []
  | (f, _) :: r, k => (f, specsOf T f k) :: gamG T r k
def gamK (T : Tab) (k : Nat) : Gam := gamG T T k
theorem specsOf_mem {T : Tab} {f k : Nat} {sp : Spec} (h : sp ∈ specsOf T f k) : ∃ F, (f, F) ∈ T ∧ sp = F.sp k := by
  induction T with
  | nil => cases h
  | cons x r ih =>
    obtain ⟨g, G⟩ := x
    unfold specsOf at h
    split at h
    · rename_i e
      have e := Nat.eq_of_beq_eq_true e
      subst e
      rcases List.mem_cons.1 h with rfl | h
      · exact ⟨G, by simp, rfl⟩
      · obtain ⟨F, h1, h2⟩ := ih h
        exact ⟨F, List.mem_cons_of_mem _ h1, h2⟩
    · obtain ⟨F, h1, h2⟩ := ih h
      exact ⟨F, List.mem_cons_of_mem _ h1, h2⟩
theorem gamG_mem {T0 : Tab} {k f : Nat} {sps : List Spec} : ∀ {T : Tab}, lk (gamG T0 T k) f = some sps → sps = specsOf T0 f k
  | [], h => by simp [gamG, lk] at h
  | (g, G) :: r, h => by
    simp only [gamG, lk_cons] at h
    by_cases e : g = f
    · subst e; rw [if_pos rfl] at h; injection h with h; exact h.symm
    · rw [if_neg e] at h; exact gamG_mem h
theorem enters_ok {f : Nat} {fn : Func} (hf : P.funcs[f]? = some fn) (hn : (fn.name == "runtime.NumGoroutine") = false) (hb : fn.body = some (bodyOf fn)) (args : Array Value) (w : World) : (callFunc f args).run P w = .ok (.enter f args) w := by
  have h1 : fn.name ≠ "runtime.NumGoroutine" := by simpa using hn
  simp [callFunc, hf, h1, hb, mark]
theorem lk_app {α : Type} : ∀ (a b : List (Nat × α)) (i : Nat), lk (a ++ b) i = match lk a i with | some v => some v | none => lk b i
  | [], _, _ => rfl
  | (j, v) :: r, b, i => by
    rw [List.cons_append, lk_cons, lk_cons, lk_app r b i]
    by_cases h : j = i
    · rw [if_pos h, if_pos h]
    · rw [if_neg h, if_neg h]
theorem GamOk.nil : GamOk P [] := fun f sps h => by simp [lk] at h
theorem GamOk.cons {f : Nat} {sp : Spec} {r : Gam} (h : SpecIn P f sp) (hr : GamOk P r) : GamOk P ((f, [sp]) :: r) := fun g sps hl s hs => by
  rw [lk_cons] at hl
  by_cases e : f = g
  · rw [if_pos e] at hl; injection hl with hl; subst hl; subst e
    rw [List.mem_singleton.1 hs]; exact h
  · rw [if_neg e] at hl; exact hr g sps hl s hs
noncomputable def strCmp.f (k : Nat) (a b : ByteArray) : Option ((Int × Unit) × Unit) := some ((Lib.compareBytes a.data.toList b.data.toList, ()), ())
noncomputable def strCmp : Spec := ⟨⟨[(0, .val .str), (1, .val .str)], []⟩, ⟨[(0, .val (.int .i64))], []⟩, 1, [], [], fun (d : (ByteArray × ByteArray × Unit) × Unit) => (strCmp.f 0 d.1.1 d.1.2.1 : Option ((Int × Unit) × Unit)), false⟩
theorem strCmp_ok {f : Nat} (h : ∀ (a b : ByteArray) (w : World), (callFunc f #[.string a, .string b]).run P w = .ok (.value (.int .i64 (Lib.compareBytes a.data.toList b.data.toList))) w) : SpecIn P f strCmp := by
  refine ⟨⟨List.nodup_nil, (fun p hp => nomatch hp), (fun p hp => nomatch hp)⟩, ?_⟩
  intro d r hd w args M hh hgo core hlt hE hsz hU
  have hd : some ((Lib.compareBytes d.1.1.data.toList d.1.2.1.data.toList, ()), ()) = some r := hd
  injection hd with hd; subst hd
  obtain ⟨v0, e0, h0⟩ := hE 0 (.str d.1.1) rfl
  obtain ⟨v1, e1, h1⟩ := hE 1 (.str d.1.2.1) rfl
  have h0 := h0.str
  have h1 := h1.str
  subst h0; subst h1
  have hsz : args.size = 2 := hsz
  have ha : args = #[.string d.1.1, .string d.1.2.1] := by
    apply Array.ext
    · rw [hsz]; rfl
    · intro i hi _
      rw [hsz] at hi
      have : i = 0 ∨ i = 1 := by omega
      rcases this with rfl | rfl
      · rw [Array.getElem?_eq_some_iff] at e0; obtain ⟨_, e0⟩ := e0; exact e0
      · rw [Array.getElem?_eq_some_iff] at e1; obtain ⟨_, e1⟩ := e1; exact e1
  subst ha
  have hno : ∀ p, ¬ M.U p := fun p hp => by have := hU p hp; cases this
  refine .inr ⟨_, w, rfl, h _ _ w, _, M, rfl, ⟨hh.symm, .rfl⟩, mcore_ok core hlt, hgo, rfl, fun p hp => absurd hp (hno p), fun p hp => absurd (core.cu p hp) (hno p), fun p hp => absurd (core.cu p hp) (hno p), fun p hp => absurd (core.cu p hp) (hno p), fun p hp => nomatch hp⟩
theorem one_ok {f : Nat} {T U : Ty} {g : T.den → Option U.den} (hnT : (∃ k, T = .int k) ∨ T = .flt) (hnU : (∃ k, U = .int k) ∨ U = .flt)
    (h : ∀ (M : Mem) (x : T.den) (y : U.den) (v : Value) (w : World), VR M (asCV T x) v → g x = some y → ∃ u w', (callFunc f #[v]).run P w = .ok (.value u) w' ∧ Outer w w' ∧ w'.heap = w.heap ∧ VR M (asCV U y) u)
    {sp : Spec} (hsp : sp = ⟨⟨[(0, .val T)], []⟩, ⟨[(0, .val U)], []⟩, 1, [], [], fun (d : (T.den × Unit) × Unit) => ((g d.1.1).map fun y => ((y, ()), ()) : Option ((U.den × Unit) × Unit)), false⟩) : SpecIn P f sp := by
  subst hsp
  refine ⟨⟨List.nodup_nil, (fun p hp => nomatch hp), (fun p hp => nomatch hp)⟩, ?_⟩
  intro d r hd w args M hh hgo core hlt hE hsz hU
  have hd : ((g d.1.1).map fun y => ((y, ()), ())) = some r := hd
  cases hg : g d.1.1 with
  | none => rw [hg] at hd; cases hd
  | some y =>
    rw [hg] at hd; injection hd with hd; subst hd
    obtain ⟨v0, e0, h0⟩ := hE 0 (asCV T d.1.1) rfl
    have hsz : args.size = 1 := hsz
    have ha : args = #[v0] := by
      apply Array.ext
      · rw [hsz]; rfl
      · intro i hi _
        rw [hsz] at hi
        have : i = 0 := by omega
        subst this
        rw [Array.getElem?_eq_some_iff] at e0; obtain ⟨_, e0⟩ := e0; exact e0
    subst ha
    obtain ⟨u, w', hr, ho, hheap, hv⟩ := h M d.1.1 y v0 w h0 hg
    have hno : ∀ p, ¬ M.U p := fun p hp => by have := hU p hp; cases this
    refine .inr ⟨u, w', rfl, hr, u, M, rfl, ⟨by rw [hheap]; exact hh.symm, ho⟩, mcore_ok core hlt, hgo, hv, fun p hp => absurd hp (hno p), fun p hp => absurd (core.cu p hp) (hno p), fun p hp => absurd (core.cu p hp) (hno p), fun p hp => absurd (core.cu p hp) (hno p), fun p hp => nomatch hp⟩
def f64bits.g (a : Nat) : Option Int := match fnan a with | true => none | false => some (a : Int)
noncomputable def f64bits.f (k : Nat) (a : Nat) : Option ((Int × Unit) × Unit) := (f64bits.g a).map fun y => ((y, ()), ())
noncomputable def f64bits : Spec := ⟨⟨[(0, .val .flt)], []⟩, ⟨[(0, .val (.int .u64))], []⟩, 1, [], [], fun (d : (Nat × Unit) × Unit) => (f64bits.f 0 d.1.1 : Option ((Int × Unit) × Unit)), false⟩
noncomputable def f64from.f (k : Nat) (a : Int) : Option ((Nat × Unit) × Unit) := some ((fcan a.toNat, ()), ())
noncomputable def f64from : Spec := ⟨⟨[(0, .val (.int .u64))], []⟩, ⟨[(0, .val .flt)], []⟩, 1, [], [], fun (d : (Int × Unit) × Unit) => (f64from.f 0 d.1.1 : Option ((Nat × Unit) × Unit)), false⟩
noncomputable def f64trunc.f (k : Nat) (a : Nat) : Option ((Nat × Unit) × Unit) := some ((ftrunc a, ()), ())
noncomputable def f64trunc : Spec := ⟨⟨[(0, .val .flt)], []⟩, ⟨[(0, .val .flt)], []⟩, 1, [], [], fun (d : (Nat × Unit) × Unit) => (f64trunc.f 0 d.1.1 : Option ((Nat × Unit) × Unit)), false⟩
theorem f64bits_ok {f : Nat} (h : ∀ (v : Value) (w : World), (callFunc f #[v]).run P w = ((Extern.MathFloatBits.float64bits #[v]).run P w).andThen fun v w' => .ok (.value v) w') : SpecIn P f f64bits := by
  refine one_ok (T := .flt) (U := .int .u64) (g := f64bits.g) (.inr rfl) (.inl ⟨_, rfl⟩) ?_ rfl
  intro M x y v w hv hg
  obtain ⟨b, rfl, hb⟩ := VR.flt (n := x) hv
  refine ⟨.int .u64 (b : Int), w, by rw [h, show Extern.MathFloatBits.float64bits #[.float .f64 b] = pure (.int .u64 b) from rfl]; rfl, .rfl, rfl, ?_⟩
  unfold f64bits.g at hg
  cases hn : fnan x with
  | true => rw [hn] at hg; cases hg
  | false =>
    rw [hn] at hg
    injection hg with hg; subst hg
    have : b = x := by
      cases hb2 : fnan b with
      | false => rw [← hb]; unfold fcan; rw [hb2]
      | true => rw [← hb, fcan_of hb2] at hn; exact absurd hn (by decide)
    simp only [asCV, VR]; rw [this]
theorem f64from_ok {f : Nat} (h : ∀ (v : Value) (w : World), (callFunc f #[v]).run P w = ((Extern.MathFloatBits.float64frombits #[v]).run P w).andThen fun v w' => .ok (.value v) w') : SpecIn P f f64from := by
  refine one_ok (T := .int .u64) (U := .flt) (g := fun (a : Int) => (some (fcan a.toNat) : Option Nat)) (.inl ⟨_, rfl⟩) (.inr rfl) ?_ rfl
  intro M x y v w hv hg
  have hv := VR.int (n := x) hv
  subst hv
  injection hg with hg; subst hg
  exact ⟨.float .f64 x.toNat, w, by rw [h, show Extern.MathFloatBits.float64frombits #[.int .u64 x] = pure (.float .f64 x.toNat) from rfl]; rfl, .rfl, rfl, by simp only [asCV, VR]; exact ⟨_, rfl, rfl⟩⟩
theorem read_not_nan {b : Nat} (h : fnan b = false) : (Ieee.double.read b).isNaN = false := by
  cases hn : (Ieee.double.read b).isNaN with
  | false => rfl
  | true =>
    have := fcan_quiet b hn
    unfold fcan at this; rw [h] at this; simp only [] at this
    rw [this] at h; exact absurd h (by decide)
theorem quiet_nan (s : Bool) (t : Nat) : fcan (Ieee.double.write (.nan s (Ieee.double.quiet t))) = 9221120237041090561 := by
  have e1 : Ieee.double.signWeight = 9223372036854775808 := by decide
  have e2 : Ieee.double.binade = 4503599627370496 := by decide
  have e3 : Ieee.double.infRung = 9218868437227405312 := by decide
  have h1 : 0 < Ieee.double.quiet t % 4503599627370496 := by
    have hb : (Ieee.double.quiet t % 4503599627370496).testBit 51 = true := by
      rw [show (4503599627370496 : Nat) = 2 ^ 52 from rfl, Nat.testBit_mod_two_pow]
      simp [Ieee.Format.quiet, Nat.testBit_or, Ieee.double]
      exact .inr (by decide)
    apply Nat.pos_of_ne_zero
    intro e; rw [e] at hb; simp at hb
  have h2 : Ieee.double.quiet t % 4503599627370496 < 4503599627370496 := Nat.mod_lt _ (by decide)
  have : fnan (Ieee.double.write (.nan s (Ieee.double.quiet t))) = true := by
    rw [fnan_iff]
    simp only [Ieee.Format.write, Ieee.Format.word, e1, e2, e3]
    split <;> omega
  unfold fcan; rw [this]
theorem ti_num (nm : String) (x : Nat) (d : Ieee.Datum) (h : FloatKind.f64.decode x = d) (hn : d.isNaN = false) : Extern.MathFloor.toIntegral nm .zero #[.float .f64 x] = pure (.float .f64 (FloatKind.f64.encode (d.integral .zero))) := by
  unfold Extern.MathFloor.toIntegral
  show (match FloatKind.f64.decode x with | _ => _) = _
  simp only [h]
  cases d <;> first | rfl | (cases hn; done)
theorem ti_nan {w : World} (nm : String) (x : Nat) (s : Bool) (t : Nat) (h : FloatKind.f64.decode x = .nan s t) : ∃ r w', (Extern.MathFloor.toIntegral nm .zero #[.float .f64 x]).run P w = .ok (.float .f64 r) w' ∧ (w' = w ∨ w' = w.drew) ∧ (r = x ∨ r = FloatKind.f64.encode (.nan s (FloatKind.f64.format.quiet t))) := by
  have e : ∀ y, y = Extern.MathFloor.toIntegral nm .zero #[.float .f64 x] → ∃ r w', y.run P w = .ok (.float .f64 r) w' ∧ (w' = w ∨ w' = w.drew) ∧ (r = x ∨ r = FloatKind.f64.encode (.nan s (FloatKind.f64.format.quiet t))) := by
    intro y hy
    unfold Extern.MathFloor.toIntegral at hy
    change _ = (match FloatKind.f64.decode x with | _ => _) at hy
    simp only [h] at hy
    subst hy
    by_cases hq : FloatKind.f64.format.quiet t = t
    · rw [if_pos hq]; exact ⟨x, w, by simp, .inl rfl, .inl rfl⟩
    · rw [if_neg hq]
      simp only [Sem.run_bind, run_choose_drew, Question.forced]
      refine ⟨_, w.drew, by simp; rfl, .inr rfl, ?_⟩
      split
      · exact .inl rfl
      · exact .inr rfl
  exact e _ rfl
theorem f64trunc_ok {f : Nat} (h : ∀ (v : Value) (w : World), (callFunc f #[v]).run P w = ((Extern.MathFloor.toIntegral "math.archTrunc" .zero #[v]).run P w).andThen fun v w' => .ok (.value v) w') : SpecIn P f f64trunc := by
  refine one_ok (T := .flt) (U := .flt) (g := fun (a : Nat) => (some (ftrunc a) : Option Nat)) (.inr rfl) (.inr rfl) ?_ rfl
  intro M x y v w hv hg
  obtain ⟨b, rfl, hb⟩ := VR.flt (n := x) hv
  injection hg with hg; subst hg
  rw [h]
  subst hb
  have hdec : FloatKind.f64.decode b = Ieee.double.read b := rfl
  cases hn : fnan b with
  | true =>
    have hft : ftrunc (fcan b) = 9221120237041090561 := by rw [fcan_of hn]; rfl
    have hnn := nan_read hn
    cases hr : Ieee.double.read b with
    | number s m i => rw [hr] at hnn; cases hnn
    | infinity s => rw [hr] at hnn; cases hnn
    | nan s t =>
      obtain ⟨r, w', e1, e2, e3⟩ := ti_nan (P := P) (w := w) "math.archTrunc" b s t (by rw [hdec, hr])
      refine ⟨.float .f64 r, w', by rw [e1]; rfl, ?_, ?_, ?_⟩
      · rcases e2 with rfl | rfl <;> exact ⟨rfl, rfl, rfl⟩
      · rcases e2 with rfl | rfl <;> rfl
      · simp only [asCV, VR]; rw [hft]
        refine ⟨_, rfl, ?_⟩
        rcases e3 with rfl | rfl
        · exact fcan_of hn
        · exact quiet_nan s t
  | false =>
    have hfc : fcan b = b := by unfold fcan; rw [hn]
    refine ⟨.float .f64 (Ieee.double.write ((Ieee.double.read b).integral .zero)), w, ?_, .rfl, rfl, ?_⟩
    · rw [ti_num "math.archTrunc" b _ hdec (read_not_nan hn)]; rfl
    · simp only [asCV, VR, ftrunc, hfc, hn]; exact ⟨_, rfl, rfl⟩
theorem tab_ok {tt : TT} {T : Tab} {Γ : Nat → Gam} (hmix : P.follows .mixedOrders = true) (htt : TTok P tt) {E : Gam} (hΓ : ∀ k, Γ k = gamK T k ++ E) (hE : GamOk P E) (h : ∀ x ∈ T, FnOk P tt Γ x.1 x.2) : ∀ k, GamOk P (Γ k) := by
  intro k
  induction k using Nat.strongRecOn with
  | ind k ih =>
    intro f sps hl sp hs
    rw [hΓ, lk_app] at hl
    cases hg : lk (gamK T k) f with
    | none => rw [hg] at hl; exact hE f sps hl sp hs
    | some l =>
      rw [hg] at hl; injection hl with hl; subst hl
      have hl := gamG_mem hg
      subst hl
      obtain ⟨F, h1, rfl⟩ := specsOf_mem hs
      exact (fn_ok hmix htt (h _ h1) k ih).inn
theorem spec_ok {tt : TT} {T : Tab} {Γ : Nat → Gam} (hmix : P.follows .mixedOrders = true) (htt : TTok P tt) {E : Gam} (hΓ : ∀ k, Γ k = gamK T k ++ E) (hE : GamOk P E) (h : ∀ x ∈ T, FnOk P tt Γ x.1 x.2) {f : Nat} {F : FnD} (hm : (f, F) ∈ T) (k : Nat) : SpecOk P f (F.sp k) :=
  fn_ok hmix htt (h _ hm) k fun j _ => tab_ok hmix htt hΓ hE h j
end
end Go.Proofs.Ytcjiipbppkdkaaa.Eng
