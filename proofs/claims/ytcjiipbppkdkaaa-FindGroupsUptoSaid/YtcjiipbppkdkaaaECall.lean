/- The engine, part 10: calls. -/
import Derived.Test.YtcjiipbppkdkaaaESub
import Derived.Defers
import Derived.Laws.Small
namespace Go.Proofs.Ytcjiipbppkdkaaa.Eng
open Go
set_option linter.unnecessarySimpa false
set_option linter.unusedVariables false
set_option linter.unusedSimpArgs false
def Spec.base (sp : Spec) (M : Mem) : Base := ⟨M.h, M.S, fun b => ∃ p, live M p ∧ p ∉ sp.ro ∧ (M.β p).b = b, fun p => p ∈ sp.ro⟩
structure Forms (sp : Spec) : Prop where
  nodup : sp.out.ids.Nodup
  all : ∀ p ∈ sp.ini.ids, p ∈ sp.ro ∨ p ∈ sp.out.ids
  ro : ∀ p ∈ sp.ro, p ∉ sp.out.ids
def Kept (ks : List Nat) (M M' : Mem) : Prop := ∀ p ∈ ks, ∀ v t T l, M'.go p = some (.row v t T l) → ∃ v0 t0 T0 l0, M.go p = some (.row v0 t0 T0 l0) ∧ l.length = l0.length ∧ M'.β p = M.β p ∧ T.n = T0.n
structure SpecOk (P : Program) (f : FuncId) (sp : Spec) : Prop where
  forms : Forms sp
  enters : ∀ args w, (callFunc f args).run P w = .ok (.enter f args) w
  calls : ∀ (d : sp.ini.den) (r : sp.out.den), sp.fn d = some r → ∀ (w : World) (args : Array Value) (M : Mem), M.h = w.heap → M.go = lk (sp.ini.obj d) → MCore M → (∀ b x, M.S b x → b < M.h.size) →
    RelE M (sp.ini.env d) args → args.size = lenN sp.ini.slots → (∀ p, M.U p → p ∈ sp.ini.refs) →
    Calls P f args w (fun e w' => ∃ v M', e = .returned v ∧ (w'.heap = M'.h ∧ Outer w w') ∧ MOK (sp.base M) M' ∧ M'.go = lk (sp.out.obj r) ∧ VR M' (asRes sp.nres (valsE (sp.out.env r))) v ∧
      (∀ p, M'.U p → M'.go p ≠ none ∨ M'.C p) ∧ (∀ p, M'.C p → M'.go p ≠ none ∨ M.C p) ∧ (∀ p, M'.C p → M.U p → M.C p) ∧ (∀ p, M.C p → M'.C p ∧ (M'.β p).b = (M.β p).b) ∧ Kept sp.ks M M') ∧
      (sp.nd = true → ∀ u, CallsD P f args u w (fun e u' w' => u' = u ∧ ∃ v M', e = .returned v ∧ (w'.heap = M'.h ∧ Outer w w') ∧ MOK (sp.base M) M' ∧ M'.go = lk (sp.out.obj r) ∧ VR M' (asRes sp.nres (valsE (sp.out.env r))) v ∧
      (∀ p, M'.U p → M'.go p ≠ none ∨ M'.C p) ∧ (∀ p, M'.C p → M'.go p ≠ none ∨ M.C p) ∧ (∀ p, M'.C p → M.U p → M.C p) ∧ (∀ p, M.C p → M'.C p ∧ (M'.β p).b = (M.β p).b) ∧ Kept sp.ks M M'))
def Inv (P : Program) (f : FuncId) (args : Array Value) (w : World) (nd : Bool) (Q : Ending → World → Prop) : Prop :=
  ((callFunc f args).run P w = .ok (.enter f args) w ∧ Calls P f args w Q ∧ (nd = true → ∀ u, CallsD P f args u w fun e u' w' => u' = u ∧ Q e w')) ∨ ∃ v w', nd = false ∧ (callFunc f args).run P w = .ok (.value v) w' ∧ Q (.returned v) w'
structure SpecIn (P : Program) (f : FuncId) (sp : Spec) : Prop where
  forms : Forms sp
  calls : ∀ (d : sp.ini.den) (r : sp.out.den), sp.fn d = some r → ∀ (w : World) (args : Array Value) (M : Mem), M.h = w.heap → M.go = lk (sp.ini.obj d) → MCore M → (∀ b x, M.S b x → b < M.h.size) →
    RelE M (sp.ini.env d) args → args.size = lenN sp.ini.slots → (∀ p, M.U p → p ∈ sp.ini.refs) →
    Inv P f args w sp.nd fun e w' => ∃ v M', e = .returned v ∧ (w'.heap = M'.h ∧ Outer w w') ∧ MOK (sp.base M) M' ∧ M'.go = lk (sp.out.obj r) ∧ VR M' (asRes sp.nres (valsE (sp.out.env r))) v ∧
      (∀ p, M'.U p → M'.go p ≠ none ∨ M'.C p) ∧ (∀ p, M'.C p → M'.go p ≠ none ∨ M.C p) ∧ (∀ p, M'.C p → M.U p → M.C p) ∧ (∀ p, M.C p → M'.C p ∧ (M'.β p).b = (M.β p).b) ∧ Kept sp.ks M M'
theorem SpecOk.inn {P : Program} {f : FuncId} {sp : Spec} (h : SpecOk P f sp) : SpecIn P f sp := ⟨h.forms, fun d r hd w args M h1 h2 h3 h4 h5 h6 h7 => .inl ⟨h.enters args w, h.calls d r hd w args M h1 h2 h3 h4 h5 h6 h7⟩⟩
def GamOk (P : Program) (Γ : Gam) : Prop := ∀ f sps, lk Γ f = some sps → ∀ sp ∈ sps, SpecIn P f sp
theorem firstStep_some {l : List Spec} {f : Spec → Option Stp} {s : Stp} (h : firstStep l f = some s) : ∃ sp ∈ l, f sp = some s := by
  induction l with
  | nil => simp [firstStep] at h
  | cons x r ih =>
    simp only [firstStep] at h
    cases hx : f x with
    | some y => rw [hx] at h; injection h with h; subst h; exact ⟨x, by simp, hx⟩
    | none => rw [hx] at h; obtain ⟨sp, h1, h2⟩ := ih h; exact ⟨sp, List.mem_cons_of_mem _ h1, h2⟩
-- the numbers of a form's objects
theorem keys_mkR (s : SSh) (x : s.den) (os : List (Nat × Ob)) : keysOf (mkR s x os) = (match s with | .own c _ _ => [c] | .prow c _ _ => [c] | _ => []) ++ keysOf os := by cases s <;> rfl
theorem keys_rows : ∀ (l : List (Nat × SSh)) (d : denE l) (os : List (Nat × Ob)), keysOf (mkRows l d os) = ownIds l ++ keysOf os
  | [], _, _ => rfl
  | s :: r, d, os => by
    obtain ⟨i, s⟩ := s
    simp only [mkRows, keys_mkR, keys_rows r]
    cases s <;> simp [ownIds]
theorem keys_crows : ∀ (l : List SSh) (d : denS l) (os : List (Nat × Ob)), keysOf (mkCRows l d os) = ownIdsS l ++ keysOf os
  | [], _, _ => rfl
  | s :: r, d, os => by
    simp only [mkCRows, keys_mkR, keys_crows r]
    cases s <;> simp [ownIdsS]
theorem keys_objs : ∀ (l : List (Nat × Nat × List SSh)) (d : denO l), keysOf (mkObjs l d) = ownIdsO l
  | [], _ => rfl
  | s :: r, d => by simp only [mkObjs, keysOf, keys_crows, keys_objs r, ownIdsO]
theorem LSh.keys (s : LSh) (d : s.den) : keysOf (s.obj d) = s.ids := by unfold LSh.obj LSh.ids; rw [keys_rows, keys_objs]
theorem mem_keys {α : Type} : ∀ {l : List (Nat × α)} {p : Nat}, p ∈ keysOf l ↔ lk l p ≠ none
  | [], p => by simp [keysOf, lk]
  | (j, v) :: r, p => by
    rw [lk_cons]
    simp only [keysOf, List.mem_cons, mem_keys (l := r)]
    by_cases h : j = p
    · simp [h]
    · simp [h, Ne.symm h]
def RefIn (ids : List Nat) : CV → Prop
  | .own c v => c ∈ ids ∧ v = 0
  | .agg _ => False
  | .tup _ => False
  | .pidx _ _ _ _ _ => False
  | .asl _ _ _ => False
  | .mptr _ _ _ _ => False
  | .part _ _ _ _ => False
  | .prow c v _ => c ∈ ids ∧ v = 0
  | _ => True
theorem toC_ref (ids : List Nat) : ∀ (T : Ty) (x : T.den) (r : List CV), (∀ c ∈ r, RefIn ids c) → ∀ c ∈ toC T x r, RefIn ids c := by
  intro T
  induction T with
  | nil => intro x r h c hc; exact h c hc
  | cons p q ihp ihq => intro x r h c hc; exact ihp _ _ (ihq _ _ h) c hc
  | mu e ih => intro x r h c hc; exact ih _ _ h c hc
  | _ =>
    intro x r h c hc
    simp only [toC, List.mem_cons] at hc
    rcases hc with rfl | hc
    · trivial
    · exact h c hc
theorem mkCells_ref (ids : List Nat) : ∀ (l : List SSh) (d : denS l), (∀ c ∈ ownIdsS l, c ∈ ids) → ∀ c ∈ mkCells l d, RefIn ids c
  | [], _, _, c, hc => by simp [mkCells] at hc
  | s :: r, d, h, c, hc => by
    have hr : ∀ c ∈ ownIdsS r, c ∈ ids := fun c' hc' => h c' (by clear hc; cases s <;> simp [ownIdsS, hc'])
    have ih := mkCells_ref ids r d.2 hr
    simp only [mkCells] at hc
    cases s with
    | val T => exact toC_ref ids T d.1 _ ih c hc
    | own k t T =>
      simp only [mkC, mkV, List.mem_cons] at hc
      rcases hc with rfl | hc
      · exact ⟨h k (by simp [ownIdsS]), rfl⟩
      · exact ih c hc
    | ptr p off =>
      simp only [mkC, mkV, List.mem_cons] at hc
      rcases hc with rfl | hc
      · trivial
      · exact ih c hc
    | nilp =>
      simp only [mkC, mkV, List.mem_cons] at hc
      rcases hc with rfl | hc
      · trivial
      · exact ih c hc
    | nils =>
      simp only [mkC, mkV, List.mem_cons] at hc
      rcases hc with rfl | hc
      · trivial
      · exact ih c hc
    | top =>
      simp only [mkC, mkV, List.mem_cons] at hc
      rcases hc with rfl | hc
      · trivial
      · exact ih c hc
    | mark =>
      simp only [mkC, mkV, List.mem_cons] at hc
      rcases hc with rfl | hc
      · trivial
      · exact ih c hc
    | mref p =>
      simp only [mkC, mkV, List.mem_cons] at hc
      rcases hc with rfl | hc
      · trivial
      · exact ih c hc
    | mapd =>
      simp only [mkC, mkV, List.mem_cons] at hc
      rcases hc with rfl | hc
      · trivial
      · exact ih c hc
    | clo f l =>
      simp only [mkC, mkV, List.mem_cons] at hc
      rcases hc with rfl | hc
      · trivial
      · exact ih c hc
    | cst k n =>
      simp only [mkC, mkV, List.mem_cons] at hc
      rcases hc with rfl | hc
      · trivial
      · exact ih c hc
    | psl l =>
      simp only [mkC, mkV, List.mem_cons] at hc
      rcases hc with rfl | hc
      · trivial
      · exact ih c hc
    | prow k t l =>
      simp only [mkC, mkV, List.mem_cons] at hc
      rcases hc with rfl | hc
      · exact ⟨h k (by simp [ownIdsS]), rfl⟩
      · exact ih c hc
theorem own_crows {ids : List Nat} : ∀ (l : List (Nat × Nat × List SSh)) (d : denO l), (∀ c ∈ ownIdsO l, c ∈ ids) → ∀ q t cs, (q, Ob.cells t cs) ∈ mkObjs l d → ∀ c ∈ cs, RefIn ids c
  | [], d, h, q, t, cs, hm, c, hc => by simp [mkObjs] at hm
  | s :: r, d, h, q, t, cs, hm, c, hc => by
    simp only [mkObjs, List.mem_cons] at hm
    have hr : ∀ c ∈ ownIdsO r, c ∈ ids := fun c hc => h c (by simp [ownIdsO, hc])
    rcases hm with hm | hm
    · injection hm with h1 h2; injection h2 with h2 h3; subst h3
      exact mkCells_ref ids _ _ (fun c hc => h c (by simp [ownIdsO, hc])) c hc
    · have : ∀ (l : List SSh) (x : denS l) (os : List (Nat × Ob)), (q, Ob.cells t cs) ∈ mkCRows l x os → (q, Ob.cells t cs) ∈ os := by
        intro l
        induction l with
        | nil => intro x os h; exact h
        | cons s r ih =>
          intro x os h
          simp only [mkCRows] at h
          cases s <;> simp only [mkR, List.mem_cons] at h <;> first | exact ih _ _ h | (rcases h with h | h; (injection h with h1 h2; cases h2); exact ih _ _ h)
      exact own_crows r d.2 hr q t cs (this _ _ _ hm) c hc
theorem obj_ref (s : LSh) (d : s.den) {q t : Nat} {cs : List CV} (h : lk (s.obj d) q = some (.cells t cs)) : ∀ c ∈ cs, RefIn s.ids c := by
  have hm := lk_mem h
  have : ∀ (l : List (Nat × SSh)) (x : denE l) (os : List (Nat × Ob)), (q, Ob.cells t cs) ∈ mkRows l x os → (q, Ob.cells t cs) ∈ os := by
    intro l
    induction l with
    | nil => intro x os h; exact h
    | cons s r ih =>
      intro x os h
      obtain ⟨i, s⟩ := s
      simp only [mkRows] at h
      cases s <;> simp only [mkR, List.mem_cons] at h <;> first | exact ih _ _ h | (rcases h with h | h; (injection h with h1 h2; cases h2); exact ih _ _ h)
  exact own_crows _ _ (fun c hc => by simp [LSh.ids, hc]) q t cs (this _ _ _ hm)
def RefV (ids : List Nat) (c : CV) : Prop := RefIn ids c ∨ ∃ T x, c = .agg (toC T x [])
theorem env_ref (s : LSh) (d : s.den) : ∀ c ∈ valsE (s.env d), RefV s.ids c := by
  have : ∀ (l : List (Nat × SSh)) (x : denE l) (ids : List Nat), (∀ c ∈ ownIds l, c ∈ ids) → ∀ c ∈ valsE (mkEnv l x), RefV ids c := by
    intro l
    induction l with
    | nil => intro x ids _ c hc; simp [mkEnv, valsE] at hc
    | cons s r ih =>
      intro x ids h c hc
      obtain ⟨i, s⟩ := s
      simp only [mkEnv, valsE, List.mem_cons] at hc
      rcases hc with hc | hc
      · subst hc
        cases s with
        | val T =>
          have h0 : (asCV T x.1) = .agg (toC T x.1 []) ∨ toC T x.1 [] = [asCV T x.1] := by cases T <;> first | exact .inl rfl | exact .inr rfl
          rcases h0 with h0 | h0
          · exact .inr ⟨T, x.1, h0⟩
          · exact .inl (toC_ref ids T x.1 [] (by simp) _ (by rw [h0]; simp [mkV]))
        | own c t T => exact .inl ⟨h c (by simp [ownIds]), rfl⟩
        | ptr p off => exact .inl trivial
        | nilp => exact .inl trivial
        | nils => exact .inl trivial
        | top => exact .inl trivial
        | mark => exact .inl trivial
        | mref p => exact .inl trivial
        | mapd => exact .inl trivial
        | clo => exact .inl trivial
        | cst k n => exact .inl trivial
        | psl l => exact .inl trivial
        | prow c t l => exact .inl ⟨h c (by simp [ownIds]), rfl⟩
      · exact ih x.2 ids (fun c' hc' => h c' (by clear hc; cases s <;> simp [ownIds, hc'])) c hc
  exact this _ _ _ (fun c hc => by simp [LSh.ids, hc])
theorem renO_lk {go : Nat → Option Ob} {ρ : Rho} {ks : List Nat} {b : Nat} {obj : List (Nat × Ob)} : ∀ (os : List (Nat × Ob)) (q : Nat), (∀ p ∈ keysOf os, ∀ p' ∈ keysOf os, ren ρ b p = ren ρ b p' → p = p') →
    (∀ p, p ∈ keysOf os → ren ρ b p = q → lk (upO (renO go ρ ks b os) obj) q = (lk os p).map (renB go ρ ks b p)) ∧ ((∀ p ∈ keysOf os, ren ρ b p ≠ q) → lk (upO (renO go ρ ks b os) obj) q = lk obj q)
  | [], q, _ => ⟨fun p h => by simp [keysOf] at h, fun _ => rfl⟩
  | (p0, o0) :: r, q, hinj => by
    obtain ⟨h1, h2⟩ := renO_lk (go := go) (ρ := ρ) (ks := ks) (b := b) (obj := obj) r q (fun p hp p' hp' => hinj p (by simp [keysOf, hp]) p' (by simp [keysOf, hp']))
    simp only [renO, upO, lk_cons]
    refine ⟨fun p hp hq => ?_, fun hno => ?_⟩
    · by_cases he : p0 = p
      · subst he; rw [if_pos hq, if_pos rfl]; rfl
      · have hp' : p ∈ keysOf r := by simp only [keysOf, List.mem_cons] at hp; rcases hp with h | h; exact absurd h.symm he; exact h
        rw [if_neg he, if_neg (fun hh => he (hinj p0 (by simp [keysOf]) p (by simp [keysOf, hp']) (hh.trans hq.symm)))]
        exact h1 p hp' hq
    · rw [if_neg (hno p0 (by simp [keysOf]))]
      exact h2 (fun p hp => hno p (by simp [keysOf, hp]))
theorem mem_newIds {ρ : Rho} {b : Nat} : ∀ (l : List Nat) (q : Nat), q ∈ newIds ρ b l ↔ ∃ p ∈ l, (∀ o, lk ρ p ≠ some (some o)) ∧ q = b + p
  | [], q => by simp [newIds]
  | p :: r, q => by
    simp only [newIds]
    cases hl : lk ρ p with
    | none => simp only [List.mem_cons, mem_newIds r q]; constructor
              · rintro (rfl | ⟨p', h1, h2, h3⟩)
                · exact ⟨p, .inl rfl, by simp [hl], rfl⟩
                · exact ⟨p', .inr h1, h2, h3⟩
              · rintro ⟨p', rfl | h1, h2, h3⟩
                · exact .inl h3
                · exact .inr ⟨p', h1, h2, h3⟩
    | some x =>
      cases x with
      | none => simp only [List.mem_cons, mem_newIds r q]; constructor
                · rintro (rfl | ⟨p', h1, h2, h3⟩)
                  · exact ⟨p, .inl rfl, by simp [hl], rfl⟩
                  · exact ⟨p', .inr h1, h2, h3⟩
                · rintro ⟨p', rfl | h1, h2, h3⟩
                  · exact .inl h3
                  · exact .inr ⟨p', h1, h2, h3⟩
      | some o => simp only [mem_newIds r q]; constructor
                  · rintro ⟨p', h1, h2, h3⟩; exact ⟨p', List.mem_cons_of_mem _ h1, h2, h3⟩
                  · rintro ⟨p', h1, h2, h3⟩
                    rcases List.mem_cons.mp h1 with rfl | h1
                    · exact absurd hl (h2 o)
                    · exact ⟨p', h1, h2, h3⟩
theorem mem_renIds {ρ : Rho} {b : Nat} : ∀ (l : List Nat) (p : Nat), p ∈ l → ren ρ b p ∈ renIds ρ b l
  | q :: r, p, h => by
    rcases List.mem_cons.mp h with rfl | h
    · simp [renIds]
    · simp [renIds, mem_renIds r p h]
theorem kindR_ok {go : Nat → Option Ob} {ρ : Rho} : ∀ (l : List Nat), kindR go ρ l = true → ∀ p ∈ l, ∀ o, lk ρ p = some (some o) → ∃ v t T r, go o = some (.row v t T r)
  | [], _, p, hp, _, _ => by simp at hp
  | q :: r, h, p, hp, o, ho => by
    simp only [kindR] at h
    rcases List.mem_cons.mp hp with rfl | hp
    · rw [ho] at h; simp only [] at h
      split at h
      · rename_i v t T l hg; exact ⟨v, t, T, l, hg⟩
      · cases h
    · refine kindR_ok r ?_ p hp o ho
      split at h
      · split at h
        · exact h
        · cases h
      · exact h
theorem kindC_ok {go : Nat → Option Ob} {ρ : Rho} : ∀ (l : List Nat), kindC go ρ l = true → ∀ p ∈ l, (∀ o, lk ρ p = some (some o) → ∃ t r, go o = some (.cells t r)) ∧ lk ρ p ≠ some none
  | [], _, p, hp => by simp at hp
  | q :: r, h, p, hp => by
    simp only [kindC] at h
    rcases List.mem_cons.mp hp with rfl | hp
    · cases hl : lk ρ p with
      | none => simp
      | some x =>
        rw [hl] at h
        cases x with
        | none => cases h
        | some o =>
          simp only [] at h
          split at h
          · rename_i t l hg
            exact ⟨fun o' ho' => by injection ho' with ho'; injection ho' with ho'; subst ho'; exact ⟨t, l, hg⟩, by simp⟩
          · cases h
    · refine kindC_ok r ?_ p hp
      split at h
      · split at h
        · exact h
        · cases h
      · cases h
      · exact h
-- which of a form's objects are rows, which cells
theorem row_ids (s : LSh) (d : s.den) {p v t : Nat} {T : Ty} {l : List T.den} (h : lk (s.obj d) p = some (.row v t T l)) : p ∈ ownIds s.slots ++ rowIds s.objs := by
  have hm := lk_mem h
  have h1 : ∀ (l' : List (Nat × SSh)) (x : denE l') (os : List (Nat × Ob)), (p, Ob.row v t T l) ∈ mkRows l' x os → p ∈ ownIds l' ∨ (p, Ob.row v t T l) ∈ os := by
    intro l'
    induction l' with
    | nil => intro x os h; exact .inr h
    | cons s r ih =>
      intro x os h
      obtain ⟨i, s⟩ := s
      simp only [mkRows] at h
      cases s <;> simp only [mkR, List.mem_cons] at h <;> simp only [ownIds, List.mem_cons] <;> first
        | exact ih _ _ h
        | (rcases h with h | h
           · injection h with h1 h2; exact .inl (.inl h1)
           · rcases ih _ _ h with h | h
             · exact .inl (.inr h)
             · exact .inr h)
  have h2 : ∀ (l' : List SSh) (x : denS l') (os : List (Nat × Ob)), (p, Ob.row v t T l) ∈ mkCRows l' x os → p ∈ ownIdsS l' ∨ (p, Ob.row v t T l) ∈ os := by
    intro l'
    induction l' with
    | nil => intro x os h; exact .inr h
    | cons s r ih =>
      intro x os h
      simp only [mkCRows] at h
      cases s <;> simp only [mkR, List.mem_cons] at h <;> simp only [ownIdsS, List.mem_cons] <;> first
        | exact ih _ _ h
        | (rcases h with h | h
           · injection h with h1 h2; exact .inl (.inl h1)
           · rcases ih _ _ h with h | h
             · exact .inl (.inr h)
             · exact .inr h)
  have h3 : ∀ (l' : List (Nat × Nat × List SSh)) (x : denO l'), (p, Ob.row v t T l) ∈ mkObjs l' x → p ∈ rowIds l' := by
    intro l'
    induction l' with
    | nil => intro x h; simp [mkObjs] at h
    | cons s r ih =>
      intro x h
      simp only [mkObjs, List.mem_cons] at h
      simp only [rowIds, List.mem_append]
      rcases h with h | h
      · injection h with h1 h2; cases h2
      · rcases h2 _ _ _ h with h | h
        · exact .inl h
        · exact .inr (ih _ h)
  rcases h1 _ _ _ hm with h | h
  · simp [h]
  · simp [h3 _ _ h]
theorem cell_ids (s : LSh) (d : s.den) {p t : Nat} {l : List CV} (h : lk (s.obj d) p = some (.cells t l)) : p ∈ cellIds s.objs := by
  have hm := lk_mem h
  have h1 : ∀ (l' : List (Nat × SSh)) (x : denE l') (os : List (Nat × Ob)), (p, Ob.cells t l) ∈ mkRows l' x os → (p, Ob.cells t l) ∈ os := by
    intro l'
    induction l' with
    | nil => intro x os h; exact h
    | cons s r ih =>
      intro x os h
      obtain ⟨i, s⟩ := s
      simp only [mkRows] at h
      cases s <;> simp only [mkR, List.mem_cons] at h <;> first | exact ih _ _ h | (rcases h with h | h; (injection h with h1 h2; cases h2); exact ih _ _ h)
  have h2 : ∀ (l' : List SSh) (x : denS l') (os : List (Nat × Ob)), (p, Ob.cells t l) ∈ mkCRows l' x os → (p, Ob.cells t l) ∈ os := by
    intro l'
    induction l' with
    | nil => intro x os h; exact h
    | cons s r ih =>
      intro x os h
      simp only [mkCRows] at h
      cases s <;> simp only [mkR, List.mem_cons] at h <;> first | exact ih _ _ h | (rcases h with h | h; (injection h with h1 h2; cases h2); exact ih _ _ h)
  have h3 : ∀ (l' : List (Nat × Nat × List SSh)) (x : denO l'), (p, Ob.cells t l) ∈ mkObjs l' x → p ∈ cellIds l' := by
    intro l'
    induction l' with
    | nil => intro x h; simp [mkObjs] at h
    | cons s r ih =>
      intro x h
      simp only [mkObjs, List.mem_cons] at h
      simp only [cellIds, List.mem_cons]
      rcases h with h | h
      · injection h with h1 h2; exact .inl h1
      · exact .inr (ih _ (h2 _ _ _ h))
  exact h3 _ _ (h1 _ _ _ hm)
section
variable {P : Program} {B : Base} {M : Mem} {obj : List (Nat × Ob)} {a : Act} {w : World} {o : Oper} {K : Act → World → Prop} {Q : Exit → Act → World → Prop} {tt : TT} {env : List (Nat × CV)} {cr : List Nat}
theorem toC_same {M1 M2 : Mem} (hS : M2.S = M1.S) (hh : M2.h = M1.h) : ∀ (T : Ty) (x : T.den) (r : List CV) (vs : List Value), VRL M1 (toC T x r) vs → (∀ vs, VRL M1 r vs → VRL M2 r vs) → VRL M2 (toC T x r) vs := by
  intro T
  have one : ∀ (c : CV) (r : List CV) (vs : List Value), VRL M1 (c :: r) vs → (∀ v, VR M1 c v → VR M2 c v) → (∀ vs, VRL M1 r vs → VRL M2 r vs) → VRL M2 (c :: r) vs := by
    intro c r vs h h1 h2
    simp only [VRL] at h ⊢
    obtain ⟨v, vr, e, a, b⟩ := h
    exact ⟨v, vr, e, h1 v a, h2 vr b⟩
  induction T with
  | nil => intro x r vs h hr; exact hr vs h
  | cons p q ihp ihq => intro x r vs h hr; exact ihp _ _ _ h (fun vs h => ihq _ _ _ h hr)
  | int k => intro x r vs h hr; exact one _ _ _ h (fun v h => by simpa [VR] using h) hr
  | bool => intro x r vs h hr; exact one _ _ _ h (fun v h => by simpa [VR] using h) hr
  | str => intro x r vs h hr; exact one _ _ _ h (fun v h => by simpa [VR] using h) hr
  | flt => intro x r vs h hr; exact one _ _ _ h (fun v h => by simpa [VR] using h) hr
  | pt => intro x r vs h hr; exact one _ _ _ h (fun v h => by simpa [VR] using h) hr
  | sl e ih => intro x r vs h hr; exact one _ _ _ h (fun v h => by simp only [VR] at h ⊢; rw [hS, hh]; exact h) hr
  | mu e ih => intro x r vs h hr; exact ih x r vs h hr
theorem capR_ren {M1 M2 : Mem} {ρ : Rho} {b : Nat} (hC : ∀ p, M1.C p → M2.C (ren ρ b p) ∧ (M2.β (ren ρ b p)).b = (M1.β p).b) : ∀ {l : List (Nat × Nat)} {vs : List Value}, CapR M1 l vs → CapR M2 (renP ρ b l) vs
  | [], _, h => h
  | (p, off) :: r, _, ⟨vr, h1, h2, h3⟩ => by
    obtain ⟨g1, g2⟩ := hC p h2
    exact ⟨vr, by rw [g2]; exact h1, g1, capR_ren hC h3⟩
theorem renP_len (ρ : Rho) (b : Nat) : ∀ l : List (Nat × Nat), (renP ρ b l).length = l.length
  | [] => rfl
  | (_, _) :: r => congrArg (· + 1) (renP_len ρ b r)
theorem renP_get (ρ : Rho) (b : Nat) : ∀ (l : List (Nat × Nat)) (i : Nat) (hi : i < l.length) (hi' : i < (renP ρ b l).length), (renP ρ b l)[i] = (ren ρ b l[i].1, l[i].2)
  | (p, off) :: r, 0, _, _ => rfl
  | (p, off) :: r, i + 1, hi, hi' => by simp only [renP, List.getElem_cons_succ]; exact renP_get ρ b r i _ _
theorem psR_ren {M1 M2 : Mem} {ρ : Rho} {b : Nat} (hS : M2.S = M1.S) (hh : M2.h = M1.h) (hC : ∀ p, M1.C p → M2.C (ren ρ b p) ∧ (M2.β (ren ρ b p)).b = (M1.β p).b) {l : List (Nat × Nat)} {v : Value} (h : PsR M1 l v) : PsR M2 (renP ρ b l) v := by
  rcases h with ⟨rfl, h⟩ | ⟨b', o, c, hv, hc, h⟩
  · exact .inl ⟨rfl, h⟩
  · refine .inr ⟨b', o, c, by rw [renP_len]; exact hv, by rw [renP_len]; exact hc, fun i hi => ?_⟩
    have hi0 : i < l.length := by rw [renP_len] at hi; exact hi
    obtain ⟨h1, h2, h3⟩ := h i hi0
    obtain ⟨g1, g2⟩ := hC _ h3
    rw [renP_get ρ b l i hi0 hi, hS, hh]
    exact ⟨h1, by rw [g2]; exact h2, g1⟩
theorem ren_vr {M1 M2 : Mem} {go : Nat → Option Ob} {ρ : Rho} {ks : List Nat} {b : Nat} {ids : List Nat} (hS : M2.S = M1.S) (hh : M2.h = M1.h) (hC : ∀ p, M1.C p → M2.C (ren ρ b p) ∧ (M2.β (ren ρ b p)).b = (M1.β p).b)
    (hR : ∀ p ∈ ids, M2.U (ren ρ b p) ∧ ∀ v t T l, M2.go (ren ρ b p) = some (.row v t T l) → v = rver go ρ ks p ∧ M1.go p = some (.row 0 t T l) ∧ M2.β (ren ρ b p) = M1.β p) {c : CV} {v : Value} (hr : RefV ids c) (h : VR M1 c v) :
    VR M2 (renV go ρ ks b c) v := by
  rcases hr with hr | ⟨T, x, rfl⟩
  · cases c with
    | own p ver =>
      obtain ⟨h1, rfl⟩ := hr
      simp only [VR] at h
      simp only [renV, VR]
      obtain ⟨g1, g2⟩ := hR p h1
      refine ⟨g1, fun v0 t T l hg => ?_⟩
      obtain ⟨e1, e2, e3⟩ := g2 v0 t T l hg
      exact ⟨Nat.le_of_eq e1.symm, fun _ => by rw [e3]; exact (h.2 0 t T l e2).2 rfl⟩
    | ptr p off =>
      simp only [VR] at h
      simp only [renV, VR]
      obtain ⟨g1, g2⟩ := hC p h.1
      exact ⟨g1, by rw [g2]; exact h.2⟩
    | elt T x off => simp only [renV, VR] at h ⊢; rw [hS, hh]; exact h
    | sl T l => simp only [renV, VR] at h ⊢; rw [hS, hh]; exact h
    | agg l => exact hr.elim
    | tup l => exact hr.elim
    | map p =>
      simp only [VR] at h
      simp only [renV, VR]
      obtain ⟨g1, g2⟩ := hC p h.1
      exact ⟨g1, by rw [g2]; exact h.2⟩
    | pidx => exact hr.elim
    | asl => exact hr.elim
    | mptr => exact hr.elim
    | part => exact hr.elim
    | clo f l =>
      simp only [VR] at h
      simp only [renV, VR]
      obtain ⟨vs, e, hl⟩ := h
      exact ⟨vs, e, capR_ren hC hl⟩
    | psl l =>
      simp only [VR] at h
      simp only [renV, VR]
      exact psR_ren hS hh hC h
    | prow p ver l =>
      obtain ⟨h1, rfl⟩ := hr
      simp only [VR] at h
      simp only [renV, VR]
      obtain ⟨g1, g2⟩ := hR p h1
      refine ⟨psR_ren hS hh hC h.1, g1, fun v0 t T l' hg => ?_⟩
      obtain ⟨e1, e2, e3⟩ := g2 v0 t T l' hg
      exact ⟨Nat.le_of_eq e1.symm, fun _ => by rw [e3]; exact (h.2.2 0 t T l' e2).2 rfl⟩
    | pelt a off =>
      simp only [VR] at h
      simp only [renV, VR]
      obtain ⟨b', o, h1, h2, h3, h4⟩ := h
      obtain ⟨g1, g2⟩ := hC a h4
      exact ⟨b', o, h1, by rw [hS]; exact h2, by rw [hh, g2]; exact h3, g1⟩
    | _ => simpa [renV, VR] using h
  · simp only [renV, VR] at h ⊢
    obtain ⟨vs, e, hl⟩ := h
    exact ⟨vs, e, toC_same hS hh T x [] _ hl (fun vs h => by simpa [VRL] using h)⟩
theorem ren_vrl {M1 M2 : Mem} {go : Nat → Option Ob} {ρ : Rho} {ks : List Nat} {b : Nat} {ids : List Nat} (hS : M2.S = M1.S) (hh : M2.h = M1.h) (hC : ∀ p, M1.C p → M2.C (ren ρ b p) ∧ (M2.β (ren ρ b p)).b = (M1.β p).b)
    (hR : ∀ p ∈ ids, M2.U (ren ρ b p) ∧ ∀ v t T l, M2.go (ren ρ b p) = some (.row v t T l) → v = rver go ρ ks p ∧ M1.go p = some (.row 0 t T l) ∧ M2.β (ren ρ b p) = M1.β p) :
    ∀ (l : List CV) (vs : List Value), (∀ c ∈ l, RefV ids c) → VRL M1 l vs → VRL M2 (renL go ρ ks b l) vs
  | [], vs, _, h => by simpa [renL, VRL] using h
  | c :: r, vs, hr, h => by
    simp only [VRL] at h
    obtain ⟨v, vr, e, h1, h2⟩ := h
    simp only [renL, VRL]
    exact ⟨v, vr, e, ren_vr hS hh hC hR (hr c (by simp)) h1, ren_vrl hS hh hC hR r vr (fun c hc => hr c (List.mem_cons_of_mem _ hc)) h2⟩
theorem row_ver {s : LSh} {d : s.den} {p v t : Nat} {T : Ty} {l : List T.den} (h : lk (s.obj d) p = some (.row v t T l)) : v = 0 := by
  have hm := lk_mem h
  have h1 : ∀ (l' : List (Nat × SSh)) (x : denE l') (os : List (Nat × Ob)), (∀ q v t T l, (q, Ob.row v t T l) ∈ os → v = 0) → ∀ q v t T l, (q, Ob.row v t T l) ∈ mkRows l' x os → v = 0 := by
    intro l'
    induction l' with
    | nil => intro x os ho q v t T l h; exact ho _ _ _ _ _ h
    | cons s r ih =>
      intro x os ho q v t T l h
      obtain ⟨i, s⟩ := s
      simp only [mkRows] at h
      cases s <;> simp only [mkR, List.mem_cons] at h <;> first
        | exact ih _ _ ho _ _ _ _ _ h
        | (rcases h with h | h
           · injection h with h1 h2; injection h2
           · exact ih _ _ ho _ _ _ _ _ h)
  have h2 : ∀ (l' : List SSh) (x : denS l') (os : List (Nat × Ob)), (∀ q v t T l, (q, Ob.row v t T l) ∈ os → v = 0) → ∀ q v t T l, (q, Ob.row v t T l) ∈ mkCRows l' x os → v = 0 := by
    intro l'
    induction l' with
    | nil => intro x os ho q v t T l h; exact ho _ _ _ _ _ h
    | cons s r ih =>
      intro x os ho q v t T l h
      simp only [mkCRows] at h
      cases s <;> simp only [mkR, List.mem_cons] at h <;> first
        | exact ih _ _ ho _ _ _ _ _ h
        | (rcases h with h | h
           · injection h with h1 h2; injection h2
           · exact ih _ _ ho _ _ _ _ _ h)
  have h3 : ∀ (l' : List (Nat × Nat × List SSh)) (x : denO l'), ∀ q v t T l, (q, Ob.row v t T l) ∈ mkObjs l' x → v = 0 := by
    intro l'
    induction l' with
    | nil => intro x q v t T l h; simp [mkObjs] at h
    | cons s r ih =>
      intro x q v t T l h
      simp only [mkObjs, List.mem_cons] at h
      rcases h with h | h
      · injection h with h1 h2; cases h2
      · exact h2 _ _ _ (ih _) _ _ _ _ _ h
  exact h1 _ _ _ (h3 _ _) _ _ _ _ _ hm
theorem call_mem (ok : MOK B M) (hgo : M.go = lk obj) {sp : Spec} (hf : Forms sp) {ρ : Rho} {d : sp.ini.den} {r : sp.out.den} {b : Nat} (hi : InjR ρ) (hold : ∀ q ob, lk (sp.ini.obj d) q = some ob → Old M ρ q ob)
    (hkr : kindR (lk obj) ρ (ownIds sp.out.slots ++ rowIds sp.out.objs) = true) (hkc : kindC (lk obj) ρ (cellIds sp.out.objs) = true) (hcr : ∀ q ∈ newIds ρ b sp.out.ids, ¬ M.U q) (hro : ∀ q ∈ renIds ρ b sp.out.ids, ¬ B.ro q) {M1 : Mem}
    (ok1 : MOK (sp.base (M.sub ρ (lk (sp.ini.obj d)))) M1) (hg1 : M1.go = lk (sp.out.obj r)) (hU : ∀ p, M1.U p → M1.go p ≠ none ∨ M1.C p) (hC1 : ∀ p, M1.C p → M1.go p ≠ none ∨ (M.sub ρ (lk (sp.ini.obj d))).C p)
    (hC2 : ∀ p, M1.C p → (M.sub ρ (lk (sp.ini.obj d))).U p → (M.sub ρ (lk (sp.ini.obj d))).C p) (hC3 : ∀ p, (M.sub ρ (lk (sp.ini.obj d))).C p → M1.C p ∧ (M1.β p).b = ((M.sub ρ (lk (sp.ini.obj d))).β p).b) (hK : Kept sp.ks (M.sub ρ (lk (sp.ini.obj d))) M1) :
    ∃ M2 : Mem, M2.h = M1.h ∧ MOK B M2 ∧ Ext M M2 ∧ M2.go = lk (upO (renO (lk obj) ρ sp.ks b (sp.out.obj r)) obj) ∧ (∀ q, M2.U q → q ∈ newIds ρ b sp.out.ids ∨ M.U q) ∧
      ∀ (l : List CV) (vs : List Value), (∀ c ∈ l, RefV sp.out.ids c) → VRL M1 l vs → VRL M2 (renL (lk obj) ρ sp.ks b l) vs := by
  have hkeys := sp.out.keys r
  have mk1 : ∀ p, p ∈ sp.out.ids ↔ M1.go p ≠ none := fun p => by rw [← hkeys, hg1]; exact mem_keys
  -- bound, or new
  have hb0 : ∀ p o, lk ρ p = some (some o) → ren ρ b p = o := fun p o h => by simp [ren, h]
  have hn0 : ∀ p, (∀ o, lk ρ p ≠ some (some o)) → ren ρ b p = b + p := fun p h => by
    unfold ren
    cases hl : lk ρ p with
    | none => rfl
    | some x => cases x with
      | none => rfl
      | some o => exact absurd hl (h o)
  have hnew : ∀ p ∈ sp.out.ids, (∀ o, lk ρ p ≠ some (some o)) → ¬ M.U (b + p) := fun p hp h => hcr _ ((mem_newIds _ _).mpr ⟨p, hp, h, rfl⟩)
  have hbnd : ∀ p ∈ sp.out.ids, ∀ o, lk ρ p = some (some o) → M.U o := by
    intro p hp o ho
    have := (mk1 p).mp hp
    rw [hg1] at this
    cases hg : lk (sp.out.obj r) p with
    | none => exact absurd hg this
    | some ob =>
      cases ob with
      | row v t T l => obtain ⟨v', t', T', l', h⟩ := kindR_ok _ hkr p (row_ids _ _ hg) o ho; exact ok.used o (by rw [hgo, h]; simp)
      | cells t l => obtain ⟨t', l', h⟩ := (kindC_ok _ hkc p (cell_ids _ _ hg)).1 o ho; exact ok.used o (by rw [hgo, h]; simp)
  have dec : ∀ p, (∃ o, lk ρ p = some (some o)) ∨ ∀ o, lk ρ p ≠ some (some o) := fun p => by
    cases hl : lk ρ p with
    | none => exact .inr (by simp)
    | some x => cases x with
      | none => exact .inr (by simp)
      | some o => exact .inl ⟨o, rfl⟩
  have hinj : ∀ p ∈ sp.out.ids, ∀ p' ∈ sp.out.ids, ren ρ b p = ren ρ b p' → p = p' := by
    intro p hp p' hp' he
    rcases dec p with ⟨o, ho⟩ | hn <;> rcases dec p' with ⟨o', ho'⟩ | hn'
    · rw [hb0 p o ho, hb0 p' o' ho'] at he; subst he; exact hi _ _ _ ho ho'
    · rw [hb0 p o ho, hn0 p' hn'] at he; exact absurd (he ▸ hbnd p hp o ho) (hnew p' hp' hn')
    · rw [hn0 p hn, hb0 p' o' ho'] at he; exact absurd (he ▸ hbnd p' hp' o' ho') (hnew p hp hn)
    · rw [hn0 p hn, hn0 p' hn'] at he; omega
  have hlk := fun q => renO_lk (go := lk obj) (ρ := ρ) (ks := sp.ks) (b := b) (obj := obj) (sp.out.obj r) q (fun p hp p' hp' => hinj p (hkeys ▸ hp) p' (hkeys ▸ hp'))
  classical
  let inv : Nat → Option Nat := fun q => if h : ∃ p, p ∈ sp.out.ids ∧ ren ρ b p = q then some (Classical.choose h) else none
  have inv1 : ∀ p ∈ sp.out.ids, inv (ren ρ b p) = some p := by
    intro p hp
    have h : ∃ p', p' ∈ sp.out.ids ∧ ren ρ b p' = ren ρ b p := ⟨p, hp, rfl⟩
    simp only [inv, dif_pos h]
    have hs := Classical.choose_spec h
    rw [hinj _ hs.1 p hp hs.2]
  have inv2 : ∀ q, (∀ p ∈ sp.out.ids, ren ρ b p ≠ q) → inv q = none := by
    intro q h
    have : ¬ ∃ p, p ∈ sp.out.ids ∧ ren ρ b p = q := fun ⟨p, hp, he⟩ => h p hp he
    simp only [inv, dif_neg this]
  have decq : ∀ q, (∃ p, p ∈ sp.out.ids ∧ ren ρ b p = q) ∨ ∀ p ∈ sp.out.ids, ren ρ b p ≠ q := fun q => by
    by_cases h : ∃ p, p ∈ sp.out.ids ∧ ren ρ b p = q
    · exact .inl h
    · exact .inr (fun p hp he => h ⟨p, hp, he⟩)
  let M2 : Mem := ⟨M1.S, M1.h, fun q => match inv q with | some p => M1.β p | none => M.β q, lk (upO (renO (lk obj) ρ sp.ks b (sp.out.obj r)) obj), fun q => q ∈ newIds ρ b sp.out.ids ∨ M.U q, fun q => M.C q ∨ ∃ p ∈ sp.out.ids, (∀ o, lk ρ p ≠ some (some o)) ∧ q = b + p ∧ M1.C p⟩
  have β1 : ∀ p ∈ sp.out.ids, M2.β (ren ρ b p) = M1.β p := fun p hp => by simp only [M2, inv1 p hp]
  have β2 : ∀ q, (∀ p ∈ sp.out.ids, ren ρ b p ≠ q) → M2.β q = M.β q := fun q h => by simp only [M2, inv2 q h]
  have go1 : ∀ p ∈ sp.out.ids, M2.go (ren ρ b p) = (lk (sp.out.obj r) p).map (renB (lk obj) ρ sp.ks b p) := fun p hp => (hlk (ren ρ b p)).1 p (hkeys ▸ hp) rfl
  have go2 : ∀ q, (∀ p ∈ sp.out.ids, ren ρ b p ≠ q) → M2.go q = M.go q := fun q h => by rw [hgo]; exact (hlk q).2 (fun p hp => h p (hkeys ▸ hp))
  -- blocks that the call may write
  have X0 : ∀ blk, (sp.base (M.sub ρ (lk (sp.ini.obj d)))).X blk → ∃ p o, lk ρ p = some (some o) ∧ live M o ∧ (M.β o).b = blk ∧ p ∈ sp.out.ids := by
    intro blk ⟨p, hl, hnr, hbk⟩
    obtain ⟨o, ho, hlo, hbo⟩ := sub_live hold hl
    have hpi : p ∈ sp.ini.ids := by rw [← sp.ini.keys d]; exact mem_keys.mpr hl.1
    exact ⟨p, o, ho, hlo, by rw [← hbo]; exact hbk, (hf.all p hpi).resolve_left hnr⟩
  have other : ∀ q, live M q → (∀ p ∈ sp.out.ids, ren ρ b p ≠ q) → ¬ (sp.base (M.sub ρ (lk (sp.ini.obj d)))).X (M.β q).b := by
    intro q hl hq hx
    obtain ⟨p, o, ho, hlo, hbk, hp⟩ := X0 _ hx
    by_cases he : o = q
    · exact hq p hp (by rw [hb0 p o ho, he])
    · exact ok.inj o q hlo hl he hbk
  have liveO : ∀ q, (∀ p ∈ sp.out.ids, ren ρ b p ≠ q) → live M2 q → live M q := fun q h ⟨h1, h2⟩ => ⟨by rw [← go2 q h]; exact h1, by rw [← β2 q h]; exact h2⟩
  have liveI : ∀ p ∈ sp.out.ids, live M2 (ren ρ b p) → live M1 p := fun p hp ⟨h1, h2⟩ => ⟨(mk1 p).mp hp, by rw [← β1 p hp]; exact h2⟩
  have own1 : ∀ p ∈ sp.out.ids, live M1 p → M.h.size ≤ (M1.β p).b ∨ ∃ p' o, lk ρ p' = some (some o) ∧ live M o ∧ (M.β o).b = (M1.β p).b ∧ p' ∈ sp.out.ids := by
    intro p hp hl
    rcases ok1.own p hl with h | h | h
    · exact absurd hp (hf.ro p h)
    · exact .inl h
    · exact .inr (X0 _ h)
  have ownB : ∀ p' o, lk ρ p' = some (some o) → live M o → p' ∈ sp.out.ids → B.h.size ≤ (M.β o).b ∨ B.X (M.β o).b := by
    intro p' o ho hl hp
    rcases ok.own o hl with h | h
    · exact absurd h (hro o (by have := mem_renIds (ρ := ρ) (b := b) _ _ hp; rwa [hb0 p' o ho] at this))
    · exact h
  have hCt : ∀ p, M1.C p → M2.C (ren ρ b p) ∧ (M2.β (ren ρ b p)).b = (M1.β p).b := by
    intro p hc
    by_cases hp : p ∈ sp.out.ids
    · rw [β1 p hp]
      refine ⟨?_, rfl⟩
      rcases dec p with ⟨o, ho⟩ | hn
      · rw [hb0 p o ho]
        obtain ⟨o', ho', hco⟩ := hC2 p hc (by simp [Mem.sub, ho])
        rw [ho] at ho'; injection ho' with ho'; injection ho' with ho'; subst ho'
        exact .inl hco
      · rw [hn0 p hn]; exact .inr ⟨p, hp, hn, rfl, hc⟩
    · rcases hC1 p hc with h | h
      · exact absurd ((mk1 p).mpr h) hp
      · have h' := h
        obtain ⟨o, ho, hco⟩ := h
        have hno : ∀ p' ∈ sp.out.ids, ren ρ b p' ≠ o := by
          intro p' hp' he
          rcases dec p' with ⟨o', ho'⟩ | hn
          · rw [hb0 p' o' ho'] at he; subst he; exact hp (hi _ _ _ ho ho' ▸ hp')
          · rw [hn0 p' hn] at he; exact hnew p' hp' hn (he ▸ ok.cu o hco)
        rw [hb0 p o ho, β2 o hno, (hC3 p h').2, sub_β ho]
        exact ⟨.inl hco, rfl⟩
  have hRt : ∀ p ∈ sp.out.ids, M2.U (ren ρ b p) ∧ ∀ v t T l, M2.go (ren ρ b p) = some (.row v t T l) → v = rver (lk obj) ρ sp.ks p ∧ M1.go p = some (.row 0 t T l) ∧ M2.β (ren ρ b p) = M1.β p := by
    intro p hp
    refine ⟨?_, fun v t T l hg => ?_⟩
    · rcases dec p with ⟨o, ho⟩ | hn
      · rw [hb0 p o ho]; exact .inr (hbnd p hp o ho)
      · rw [hn0 p hn]; exact .inl ((mem_newIds _ _).mpr ⟨p, hp, hn, rfl⟩)
    · rw [go1 p hp] at hg
      cases hgp : lk (sp.out.obj r) p with
      | none => rw [hgp] at hg; cases hg
      | some ob =>
        rw [hgp] at hg; simp only [Option.map_some] at hg; injection hg with hg
        cases ob with
        | cells t' l' => cases hg
        | row v' t' T' l' =>
          simp only [renB] at hg
          injection hg with g1 g2 g3 g4
          have hv0 := row_ver hgp
          subst hv0; subst g2; subst g3
          have g4 := eq_of_heq g4; subst g4
          exact ⟨g1.symm, by rw [hg1]; exact hgp, β1 p hp⟩
  have hext : Ext M M2 := by
    refine ⟨fun x y h => ok1.base x y h, fun x y h => ok1.cell x y h, fun q h => .inr h, fun q hc => ⟨.inl hc, ?_⟩, fun q hu v t T l hg => ?_⟩
    · rcases decq q with ⟨p, hp, he⟩ | hq
      · rcases dec p with ⟨o, ho⟩ | hn
        · have : o = q := by rw [← hb0 p o ho]; exact he
          subst this
          rw [← he, β1 p hp, (hC3 p ⟨o, ho, hc⟩).2, sub_β ho]
          rw [he]
        · rw [hn0 p hn] at he; exact absurd (he ▸ ok.cu q hc) (hnew p hp hn)
      · rw [β2 q hq]
    · rcases decq q with ⟨p, hp, he⟩ | hq
      · rcases dec p with ⟨o, ho⟩ | hn
        · have ho2 : o = q := by rw [← hb0 p o ho]; exact he
          subst ho2
          rw [← he] at hg
          obtain ⟨e1, e2, e3⟩ := (hRt p hp).2 v t T l hg
          rw [hg1] at e2
          obtain ⟨v', t', T', l', hg'⟩ := kindR_ok _ hkr p (row_ids _ _ e2) o ho
          refine ⟨v', t', T', l', by rw [hgo]; exact hg', ?_, fun hvv => ?_⟩
          · rw [e1]; simp only [rver, ho, hg']; split <;> omega
          · cases hks : memN sp.ks p with
            | false => rw [e1] at hvv; simp only [rver, ho, hg', hks] at hvv; omega
            | true =>
              obtain ⟨v2, t2, T2, l2, k1, k2, k3, k4⟩ := hK p ((memN_iff _ _).mp hks) 0 t T l (by rw [hg1]; exact e2)
              rcases hold p _ k1 with ⟨t3, T3, l3, q1, q2⟩ | ⟨_, _, _, _, _, _, _, _, _, _, _, _, q1⟩
              · injection q1 with g1 g2 g3 g4
                subst g1; subst g2; subst g3
                have g4 := eq_of_heq g4; subst g4
                rcases q2 with ⟨q2, _⟩ | ⟨o2, v4, q2, q3⟩
                · rw [ho] at q2; cases q2
                · rw [ho] at q2; injection q2 with q2; injection q2 with q2; subst q2
                  rw [hgo, hg'] at q3; injection q3 with q3; injection q3 with r1 r2 r3 r4
                  subst r3
                  have r4 := eq_of_heq r4; subst r4
                  exact ⟨k2, by rw [← hb0 p _ ho, e3, k3, sub_β ho, hb0 p _ ho], k4⟩
              · cases q1
        · rw [hn0 p hn] at he; exact absurd (he ▸ hu) (hnew p hp hn)
      · rw [go2 q hq] at hg
        exact ⟨v, t, T, l, hg, Nat.le_refl _, fun _ => ⟨rfl, β2 q hq, rfl⟩⟩
  have hvl := ren_vrl (M1 := M1) (M2 := M2) (go := lk obj) (ρ := ρ) (ks := sp.ks) (b := b) (ids := sp.out.ids) rfl rfl hCt hRt
  refine ⟨M2, rfl, ⟨?_, ?_, ?_, ?_, ?_, ?_, ok1.lt, Nat.le_trans ok.size ok1.size, ?_, fun x y h => ok1.base x y (ok.base x y h), fun x y h => (ok1.cell x y (ok.base x y h)).trans (ok.cell x y h), ?_, ?_⟩, hext, rfl, fun q h => h, hvl⟩
  · intro q ob hg
    rcases decq q with ⟨p, hp, he⟩ | hq
    · subst he
      rw [go1 p hp] at hg
      cases hgp : lk (sp.out.obj r) p with
      | none => rw [hgp] at hg; cases hg
      | some ob1 =>
        rw [hgp] at hg; simp only [Option.map_some] at hg; injection hg with hg; subst hg
        have hor := ok1.obj p ob1 (by rw [hg1]; exact hgp)
        cases ob1 with
        | row v t T l =>
          simp only [renB, OR, β1 p hp] at hor ⊢
          exact hor
        | cells t l =>
          simp only [renB, OR, β1 p hp] at hor ⊢
          obtain ⟨h1, hLies, h4⟩ := hor
          refine ⟨h1, ?_, h4⟩
          cases hm : isMap l with
          | none =>
            obtain ⟨vs, h2, h3⟩ := hLies.cells hm
            exact Lies.of_cells (vs := vs) h2 (hvl l _ (fun c hc => .inl (obj_ref _ _ hgp c hc)) h3)
          | some d0 =>
            obtain ⟨es, ck, h2, h3⟩ := hLies.map hm
            have hl := isMap_eq hm
            subst hl
            unfold Lies
            rw [show renL (lk obj) ρ sp.ks b [.mapd d0] = [.mapd d0] from rfl, isMap_one]
            exact ⟨es, ck, h2, h3⟩
    · rw [go2 q hq] at hg
      have h0 := ok.obj q ob hg
      refine h0.keep hext (β2 q hq) (fun hn => ?_) (fun hn y hy => ?_)
      · exact ok1.keep _ (h0.lt hn) (other q ⟨by rw [hg]; simp, hn⟩ hq)
      · rcases ok1.new _ y hy with h | h | h
        · exact h
        · have := h0.lt hn
          have h' : M.h.size ≤ (M.β q).b := h
          omega
        · exact absurd h (other q ⟨by rw [hg]; simp, hn⟩ hq)
  · intro q hg
    rcases decq q with ⟨p, hp, he⟩ | hq
    · rw [← he]; exact (hRt p hp).1
    · rw [go2 q hq] at hg; exact .inr (ok.used q hg)
  · intro q hc
    rcases hc with hc | ⟨p, hp, hn, he, _⟩
    · exact .inr (ok.cu q hc)
    · exact .inl ((mem_newIds _ _).mpr ⟨p, hp, hn, he⟩)
  · intro q v t T l hg hc
    rcases decq q with ⟨p, hp, he⟩ | hq
    · rw [← he] at hg
      obtain ⟨e1, e2, e3⟩ := (hRt p hp).2 v t T l hg
      have hnc := ok1.rc p 0 t T l e2
      rcases hc with hc | ⟨p', hp', hn, he', hc'⟩
      · rcases dec p with ⟨o, ho⟩ | hn
        · rw [hb0 p o ho] at he; subst he
          exact hnc (hC3 p ⟨o, ho, hc⟩).1
        · rw [hn0 p hn] at he; exact hnew p hp hn (he ▸ ok.cu q hc)
      · have : p = p' := hinj p hp p' hp' (by rw [he, hn0 p' hn]; exact he')
        subst this; exact hnc hc'
    · rw [go2 q hq] at hg
      rcases hc with hc | ⟨p', hp', hn, he', _⟩
      · exact ok.rc q v t T l hg hc
      · exact hq p' hp' (by rw [hn0 p' hn]; exact he'.symm)
  · intro q t l hg
    rcases decq q with ⟨p, hp, he⟩ | hq
    · rw [← he, go1 p hp] at hg
      cases hgp : lk (sp.out.obj r) p with
      | none => rw [hgp] at hg; cases hg
      | some ob1 =>
        rw [hgp] at hg; simp only [Option.map_some] at hg; injection hg with hg
        cases ob1 with
        | row v' t' T' l' => cases hg
        | cells t' l' =>
          have := (hCt p (ok1.cc p t' l' (by rw [hg1]; exact hgp))).1
          rwa [he] at this
    · rw [go2 q hq] at hg; exact .inl (ok.cc q t l hg)
  · intro q q' h1 h2 hne
    rcases decq q with ⟨p, hp, he⟩ | hq <;> rcases decq q' with ⟨p', hp', he'⟩ | hq'
    · subst he; subst he'
      rw [β1 p hp, β1 p' hp']
      exact ok1.inj p p' (liveI p hp h1) (liveI p' hp' h2) (fun e => hne (by rw [e]))
    · subst he
      rw [β1 p hp, β2 q' hq']
      have hl := liveO q' hq' h2
      rcases own1 p hp (liveI p hp h1) with h | ⟨p2, o, ho, hlo, hbo, hp2⟩
      · have := ok.live_lt hl; omega
      · rw [← hbo]
        exact ok.inj o q' hlo hl (fun e => hq' p2 hp2 (by rw [hb0 p2 o ho, e]))
    · subst he'
      rw [β1 p' hp', β2 q hq]
      have hl := liveO q hq h1
      rcases own1 p' hp' (liveI p' hp' h2) with h | ⟨p2, o, ho, hlo, hbo, hp2⟩
      · have := ok.live_lt hl; omega
      · rw [← hbo]
        exact ok.inj q o hl hlo (fun e => hq p2 hp2 (by rw [hb0 p2 o ho, e]))
    · rw [β2 q hq, β2 q' hq']
      exact ok.inj q q' (liveO q hq h1) (liveO q' hq' h2) hne
  · intro x hx hX
    have hs := ok.size
    have : M1.h[x]? = M.h[x]? := ok1.keep x (by show x < M.h.size; omega) (fun h => by
      obtain ⟨p, o, ho, hlo, hbo, hp⟩ := X0 x h
      rcases ownB p o ho hlo hp with h | h
      · omega
      · exact hX (hbo ▸ h))
    show M1.h[x]? = _
    rw [this]; exact ok.keep x hx hX
  · intro x y h
    rcases ok1.new x y h with h | h | h
    · exact ok.new x y h
    · have hs := ok.size
      have h' : M.h.size ≤ x := h
      exact .inr (.inl (by omega))
    · obtain ⟨p, o, ho, hlo, hbo, hp⟩ := X0 x h
      rcases ownB p o ho hlo hp with h | h
      · exact .inr (.inl (by rw [← hbo]; exact h))
      · exact .inr (.inr (by rw [← hbo]; exact h))
  · intro q hl
    rcases decq q with ⟨p, hp, he⟩ | hq
    · subst he
      rw [β1 p hp]
      rcases own1 p hp (liveI p hp hl) with h | ⟨p2, o, ho, hlo, hbo, hp2⟩
      · have hs := ok.size; exact .inr (.inl (by omega))
      · rw [← hbo]; exact .inr (ownB p2 o ho hlo hp2)
    · rw [β2 q hq]; exact ok.own q (liveO q hq hl)
theorem zipI_lk : ∀ (l : List CV) (i j : Nat), lk (zipI i l) j = if i ≤ j then l[j - i]? else none
  | [], i, j => by simp [zipI, lk]
  | c :: r, i, j => by
    simp only [zipI, lk_cons, zipI_lk r (i + 1) j]
    by_cases h : i = j
    · subst h; simp
    · rw [if_neg h]
      by_cases h2 : i ≤ j
      · rw [if_pos (by omega), if_pos h2]
        have : j - i = (j - (i + 1)) + 1 := by omega
        rw [this, List.getElem?_cons_succ]
      · rw [if_neg (by omega), if_neg h2]
theorem renL_length {go : Nat → Option Ob} {ρ : Rho} {ks : List Nat} {b : Nat} : ∀ l, (renL go ρ ks b l).length = l.length
  | [] => rfl
  | _ :: r => by simp [renL, renL_length r]
theorem firstN_ren {go : Nat → Option Ob} {ρ : Rho} {ks : List Nat} {b : Nat} : ∀ (n : Nat) (l : List CV), renL go ρ ks b (firstN n l) = firstN n (renL go ρ ks b l)
  | 0, _ => rfl
  | _ + 1, [] => rfl
  | n + 1, c :: r => by simp only [firstN, renL, firstN_ren n r]
theorem firstN_mem {α : Type} : ∀ (n : Nat) (l : List α) (x : α), x ∈ firstN n l → x ∈ l
  | 0, _, _, h => by simp [firstN] at h
  | _ + 1, [], _, h => by simp [firstN] at h
  | n + 1, c :: r, x, h => by
    simp only [firstN, List.mem_cons] at h
    rcases h with h | h
    · simp [h]
    · exact List.mem_cons_of_mem _ (firstN_mem n r x h)
theorem VRL.at {M : Mem} : ∀ {l : List CV} {vs : List Value} {i : Nat} {c : CV}, VRL M l vs → l[i]? = some c → ∃ v, vs[i]? = some v ∧ VR M c v
  | [], _, i, c, _, h => by simp at h
  | x :: r, vs, i, c, hl, h => by
    simp only [VRL] at hl
    obtain ⟨v, vr, rfl, h1, h2⟩ := hl
    cases i with
    | zero => simp at h; subst h; exact ⟨v, rfl, h1⟩
    | succ i => simp at h; obtain ⟨u, g1, g2⟩ := VRL.at h2 h; exact ⟨u, by simpa using g1, g2⟩
theorem capP_ok {M : Mem} : ∀ {l : List (Nat × Nat)} {vs : List Value}, CapR M l vs → VRL M (capP l) vs
  | [], _, h => by simp only [CapR] at h; simpa only [capP, VRL] using h
  | (p, off) :: r, _, ⟨vr, h1, h2, h3⟩ => by
    simp only [capP, VRL]
    exact ⟨_, vr, h1, ⟨h2, rfl⟩, capP_ok h3⟩
theorem callStep_ok (ok : MOK B M) (hgo : M.go = lk obj) (hw : w.heap = M.h) {f : Nat} {sp : Spec} (hspok : SpecIn P f sp) {dst : Option Nat} {cs : List CV} {vs : Array Value} (hex : VRL M cs vs.toList)
    {s : Stp} (hs : callStep (lk obj) dst sp cs = some s) (x : s.α) (hx : s.o = some x) (hcr : ∀ d ∈ s.cr, ¬ M.U d) (hro : ∀ d ∈ s.wr, ¬ B.ro d) :
    Inv P f vs w sp.nd fun e w' => ∃ v M2, e = Ending.returned v ∧ Outer w w' ∧ w'.heap = M2.h ∧ MOK B M2 ∧ Ext M M2 ∧ VR M2 (s.f x).v v ∧ M2.go = lk (upO (s.f x).up obj) ∧ (∀ i, M2.U i → i ∈ s.cr ∨ M.U i) := by
  unfold callStep at hs
  split at hs
  · cases hs
  · rename_i d ρ hget
    split at hs
    · cases hs
    · rename_i hkind
      injection hs with hs; subst hs
      simp only [Bool.and_eq_true] at hkind
      have hEargs : RelE M (zipI 0 cs) vs := by
        intro i u hi
        rw [zipI_lk, if_pos (Nat.zero_le _), Nat.sub_zero] at hi
        obtain ⟨v, h1, h2⟩ := hex.at hi
        exact ⟨v, by simpa using h1, h2⟩
      rw [← hgo] at hget
      obtain ⟨_, hi, hold, hE0⟩ := LSh.get_ok ok hEargs hget (fun p p' o h => by simp [lk] at h)
      have hcore := sub_core ok hi hold
      have hsize : vs.size = lenN sp.ini.slots := by
        have := beq_of hkind.2
        rw [lenN_eq] at this; rw [← this]; have hx := hex.length; simp only [Array.length_toList] at hx; omega
      have hcalls := hspok.calls d x hx w vs (M.sub ρ (lk (sp.ini.obj d))) hw.symm rfl hcore ok.lt hE0 hsize (fun p hp => (LSh.get_keys hget p hp).resolve_left (by simp [lk]))
      have fin : ∀ e w', (∃ v M1, e = Ending.returned v ∧ (w'.heap = M1.h ∧ Outer w w') ∧ MOK (sp.base (M.sub ρ (lk (sp.ini.obj d)))) M1 ∧ M1.go = lk (sp.out.obj x) ∧ VR M1 (asRes sp.nres (valsE (sp.out.env x))) v ∧
          (∀ p, M1.U p → M1.go p ≠ none ∨ M1.C p) ∧ (∀ p, M1.C p → M1.go p ≠ none ∨ (M.sub ρ (lk (sp.ini.obj d))).C p) ∧ (∀ p, M1.C p → (M.sub ρ (lk (sp.ini.obj d))).U p → (M.sub ρ (lk (sp.ini.obj d))).C p) ∧ (∀ p, (M.sub ρ (lk (sp.ini.obj d))).C p → M1.C p ∧ (M1.β p).b = ((M.sub ρ (lk (sp.ini.obj d))).β p).b) ∧ Kept sp.ks (M.sub ρ (lk (sp.ini.obj d))) M1) →
          ∃ v M2, e = Ending.returned v ∧ Outer w w' ∧ w'.heap = M2.h ∧ MOK B M2 ∧ Ext M M2 ∧ VR M2 (asRes sp.nres (renL (lk obj) ρ sp.ks (callBase dst) (valsE (sp.out.env x)))) v ∧ M2.go = lk (upO (renO (lk obj) ρ sp.ks (callBase dst) (sp.out.obj x)) obj) ∧ (∀ i, M2.U i → i ∈ newIds ρ (callBase dst) sp.out.ids ∨ M.U i) := by
        rintro e w' ⟨v, M1, rfl, ⟨hw', ho⟩, ok1, hg1, hvr, hU, hC1, hC2, hC3, hK⟩
        obtain ⟨M2, h1, ok2, e2, hg2, hU2, hvl⟩ := call_mem ok hgo hspok.forms (b := callBase dst) hi hold hkind.1.1 hkind.1.2 hcr hro ok1 hg1 hU hC1 hC2 hC3 hK
        refine ⟨v, M2, rfl, ho, by rw [hw', h1], ok2, e2, ?_, hg2, hU2⟩
        unfold asRes at hvr ⊢
        cases hn : Nat.beq sp.nres 1 with
        | true =>
          rw [hn] at hvr; simp only [] at hvr ⊢
          have href := env_ref sp.out x
          cases hl1 : valsE (sp.out.env x) with
          | nil => rw [hl1] at hvr; simpa [renL, headV, VR] using hvr
          | cons cv r =>
            rw [hl1] at hvr href
            have := hvl [cv] [v] (fun c hc => href c (by simp at hc; simp [hc])) (by simp only [VRL]; exact ⟨v, [], rfl, hvr, rfl⟩)
            simp only [renL, VRL] at this
            obtain ⟨u, ur, he, h3, _⟩ := this
            injection he with he; subst he; exact h3
        | false =>
          rw [hn] at hvr; simp only [VR] at hvr ⊢
          obtain ⟨vs, hv1, hl1⟩ := hvr
          exact ⟨vs, hv1, by rw [← firstN_ren]; exact hvl _ _ (fun c hc => env_ref _ _ c (firstN_mem _ _ _ hc)) hl1⟩
      rcases hcalls with ⟨hent, hcalls, hd⟩ | ⟨v, w1, hnd, hval, hfin⟩
      · exact .inl ⟨hent, hcalls.mono fin, fun hnd u => (hd hnd u).mono fun e u' w' he => ⟨he.1, fin e w' he.2⟩⟩
      · exact .inr ⟨v, w1, hnd, hval, fin _ _ hfin⟩
theorem op_call {Γ : Gam} (hΓ : GamOk P Γ) (ok : MOK B M) (hgo : M.go = lk obj) (hE : RelE M env a.tmps) (hw : w.heap = M.h) {fo : Operand} {f : Nat} {c : Call} (hop : o.op = .call c) (hc : c.callee = .value fo) {ex : List CV} {cv : Array Value} (hfo : a.eval fo = .func (.func f) #[] cv) (hex : VRL M ex cv.toList)
    {sps : List Spec} (hl : lk Γ f = some sps) {s : Stp} (h : firstStep sps (fun sp => callStep (lk obj) o.dst sp (c.args.toList.map (operand env) ++ ex)) = some s) (x : s.α) (hx : s.o = some x)
    (hcr : ∀ d ∈ s.cr, ¬ M.U d) (hro : ∀ d ∈ s.wr, ¬ B.ro d) (hk : Cont w B M obj s.cr (s.f x) a o.dst K) : o.wp P a w K Q := by
  obtain ⟨sp, hsp, hs⟩ := firstStep_some h
  have hspok := hΓ f sps hl sp hsp
  have hargs : VRL M (c.args.toList.map (operand env) ++ ex) (c.args.map a.eval ++ cv).toList := by
    have h1 : ∀ l : List Operand, VRL M (l.map (operand env)) (l.map a.eval) := by
      intro l
      induction l with
      | nil => simp only [List.map_nil, VRL]
      | cons y r ih => simp only [List.map_cons, VRL]; exact ⟨_, _, rfl, operand_ok hE y, ih⟩
    have h2 := (h1 c.args.toList).append hex
    simpa using h2
  rcases callStep_ok ok hgo hw hspok hargs hs x hx hcr hro with ⟨hent, hcalls, _⟩ | ⟨v, w1, _, hval, v', M2, he, h1, h2, h3, h4, h5, h6, h7⟩
  · have hrun : (execOp a.eval o).run P w = .ok (.enter f (c.args.map a.eval ++ cv)) w := by
      simp only [execOp, hop, resolve, hc, hfo, Deferred.ofValue, Sem.run_bind, Sem.run_pure, Result.andThen_ok, invoke, Array.empty_append, Array.append_empty, hent]
    unfold Oper.wp
    rw [hrun, Oper.upon_enter]
    refine hcalls.mono fun e w' he => ?_
    obtain ⟨v, M2, rfl, h1, h2, h3, h4, h5, h6, h7⟩ := he
    exact hk v w' M2 h1 h2 h3 h4 h5 h6 h7
  · have hrun : (execOp a.eval o).run P w = .ok (.value v) w1 := by
      simp only [execOp, hop, resolve, hc, hfo, Deferred.ofValue, Sem.run_bind, Sem.run_pure, Result.andThen_ok, invoke, Array.empty_append, Array.append_empty, hval]
    injection he with he; subst he
    exact wp_value hrun (hk v w1 M2 h1 h2 h3 h4 h5 h6 h7)
theorem op_minMax {Γ : Gam} (ok : MOK B M) (hgo : M.go = lk obj) (hE : RelE M env a.tmps) (hw : w.heap = M.h) {c : Call} (hop : o.op = .call c) {lo : Bool} (hc : c.callee = .builtin (match lo with | true => .min | false => .max)) {s : Stp}
    (h : minMax lo (c.args.toList.map (operand env)) = some s) (x : s.α) (hk : Cont w B M obj s.cr (s.f x) a o.dst K) : o.wp P a w K Q := by
  have hargs : ∃ y z, c.args = #[y, z] ∧ minMax lo [operand env y, operand env z] = some s := by
    cases ha : c.args.toList with
    | nil => rw [ha] at h; simp [minMax] at h
    | cons y r =>
      cases r with
      | nil => rw [ha] at h; simp only [List.map] at h; unfold minMax at h; split at h <;> simp_all
      | cons z r2 =>
        cases r2 with
        | nil => rw [ha] at h; exact ⟨y, z, by rw [← Array.toArray_toList (xs := c.args), ha], by simpa using h⟩
        | cons u r3 => rw [ha] at h; simp only [List.map] at h; unfold minMax at h; split at h <;> simp_all
  obtain ⟨y, z, hargs, h⟩ := hargs
  have hy := operand_ok hE y
  have hz := operand_ok hE z
  unfold minMax at h
  split at h
  · rename_i k n k' m heq
    split at h
    · rename_i hk'
      subst hk'
      injection h with h; subst h
      injection heq with e1 e2; injection e2 with e2 _
      rw [e1] at hy; rw [e2] at hz
      refine wp_same (v := .int k (match (match lo with | true => decide (m < n) | false => decide (m > n)) with | true => m | false => n)) (w' := w) (d := ⟨.int k (match (match lo with | true => decide (m < n) | false => decide (m > n)) with | true => m | false => n), []⟩) ?_ hw ok hgo (by simp [VR]) rfl hk
      cases lo with
      | true =>
        by_cases hlt : m < n
        · simp [execOp, hop, resolve, hc, hargs, invoke, builtin, hy.int, hz.int, run_min_int2, hlt]
        · simp [execOp, hop, resolve, hc, hargs, invoke, builtin, hy.int, hz.int, run_min_int2, hlt]
      | false =>
        by_cases hlt : m > n
        · simp [execOp, hop, resolve, hc, hargs, invoke, builtin, hy.int, hz.int, run_max_int2, hlt]
        · simp [execOp, hop, resolve, hc, hargs, invoke, builtin, hy.int, hz.int, run_max_int2, hlt]
    · cases h
  · cases h
theorem capsOf_ok {M : Mem} {env : List (Nat × CV)} {a : Act} (hE : RelE M env a.tmps) : ∀ {xs : List Operand} {l : List (Nat × Nat)}, capsOf env xs = some l → CapR M l (xs.map a.eval)
  | [], l, h => by simp only [capsOf] at h; injection h with h; subst h; simp [CapR]
  | x :: r, l, h => by
    simp only [capsOf] at h
    have hx := operand_ok hE x
    cases hc : operand env x <;> rw [hc] at h <;> simp only [] at h <;> first | (cases h; done) | skip
    rename_i ob off
    rw [hc] at hx
    simp only [VR] at hx
    cases hr : capsOf env r with
    | none => rw [hr] at h; cases h
    | some l' =>
      rw [hr] at h; injection h with h; subst h
      exact ⟨r.map a.eval, by rw [List.map_cons, hx.2], hx.1, capsOf_ok hE hr⟩
theorem op_makeFunc {Γ : Gam} (ok : MOK B M) (hgo : M.go = lk obj) (hE : RelE M env a.tmps) (hw : w.heap = M.h) {fn : Fn} {first caps : Array Operand} (hop : o.op = .makeFunc fn first caps) {s : Stp}
    (h : step tt Γ env (lk obj) o.dst (.makeFunc fn first caps) = some s) (x : s.α) (hk : Cont w B M obj s.cr (s.f x) a o.dst K) : o.wp P a w K Q := by
  simp only [step] at h
  split at h
  · rename_i f hf
    split at h
    · rename_i l hl
      injection h with h; subst h
      have hc := capsOf_ok hE hl
      have h0 : first = #[] := by cases first with | mk l => simp only [] at hf; subst hf; rfl
      refine wp_same (v := .func (.func f) #[] (caps.map a.eval)) (w' := w) (d := ⟨.clo f l, []⟩) ?_ hw ok hgo ?_ rfl hk
      · subst h0; simp [execOp, hop, Instr.makeFunc]
      · simp only [VR]
        exact ⟨_, rfl, by simpa using hc⟩
    · cases h
  · cases h
end
end Go.Proofs.Ytcjiipbppkdkaaa.Eng
