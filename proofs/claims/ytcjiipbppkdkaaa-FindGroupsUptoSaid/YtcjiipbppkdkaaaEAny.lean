/- The engine, part 13: regions in whose operations there is no order but what they need. -/
import Derived.Test.YtcjiipbppkdkaaaEMono
import Derived.Orders
namespace Go.Proofs.Ytcjiipbppkdkaaa.Eng
open Go
set_option linter.unusedVariables false
set_option linter.unusedSimpArgs false
theorem disN_ok : ∀ {l l' : List Nat}, disN l l' = true → ∀ x ∈ l, x ∉ l'
 | [], _, _, x, hx => by simp at hx
 | y :: r, l', h, x, hx => by
  simp only [disN] at h
  cases hy : memN l' y with
  | true => rw [hy] at h; cases h
  | false =>
   rw [hy] at h
   rcases List.mem_cons.mp hx with e | e
   ·subst e; intro hm; rw [(memN_iff _ _).mpr hm] at hy; cases hy
   ·exact disN_ok h x e
theorem upO_skip : ∀ {up : List (Nat × Option Ob)} {l : List (Nat × Ob)} {o : Nat}, o ∉ keysOf up → lk (upO up l) o = lk l o
 | [], l, o, _ => rfl
 | (p, some b) :: r, l, o, h => by
  simp only [keysOf, List.mem_cons, not_or] at h
  simp only [upO, lk_cons]
  rw [if_neg (fun e => h.1 e.symm)]; exact upO_skip h.2
 | (p, none) :: r, l, o, h => by
  simp only [keysOf, List.mem_cons, not_or] at h
  exact upO_skip (up := r) h.2
theorem upO_congr : ∀ {up : List (Nat × Option Ob)} {l l' : List (Nat × Ob)} {o : Nat}, lk l o = lk l' o → lk (upO up l) o = lk (upO up l') o
 | [], l, l', o, h => h
 | (p, some b) :: r, l, l', o, h => by
  simp only [upO, lk_cons]
  by_cases e : p = o
  ·simp only [if_pos e]
  ·simp only [if_neg e]; exact upO_congr h
 | (p, none) :: r, l, l', o, h => upO_congr (up := r) h
structure Eqv (st st' : St) : Prop where
 env : ∀ t, lk st.env t = lk st'.env t
 obj : ∀ o, lk st.obj o = lk st'.obj o
 used : ∀ i, memN st.used i = memN st'.used i
theorem Eqv.rfl {st : St} : Eqv st st := ⟨fun _ => .refl _, fun _ => .refl _, fun _ => .refl _⟩
theorem Eqv.symm {st st' : St} (h : Eqv st st') : Eqv st' st := ⟨fun t => (h.env t).symm, fun o => (h.obj o).symm, fun i => (h.used i).symm⟩
theorem Eqv.trans {st st' st'' : St} (h : Eqv st st') (h' : Eqv st' st'') : Eqv st st'' := ⟨fun t => (h.env t).trans (h'.env t), fun o => (h.obj o).trans (h'.obj o), fun i => (h.used i).trans (h'.used i)⟩
theorem app_env (D : Dn) (st : St) (t : Nat) : lk (D.app st).env t = if D.dst = some t then some D.v else lk st.env t := by
 unfold Dn.app apply putE
 cases hd : D.dst with
 | none => simp
 | some d => simp only [lk_cons, Option.some.injEq]
theorem app_used (D : Dn) (st : St) (i : Nat) : memN (D.app st).used i = true ↔ i ∈ D.cr ∨ memN st.used i = true := by
 unfold Dn.app apply
 simp only [memN_iff, List.mem_append]
theorem bool_iff {a b : Bool} (h : a = true ↔ b = true) : a = b := by cases a <;> cases b <;> simp_all
theorem Eqv.app {st st' : St} (h : Eqv st st') (D : Dn) : Eqv (D.app st) (D.app st') :=
 ⟨fun t => by rw [app_env, app_env, h.env], fun o => upO_congr (h.obj o), fun i => bool_iff (by rw [app_used, app_used, h.used])⟩
structure Free (D E : Dn) : Prop where
 dst : ∀ t, D.dst = some t → E.dst ≠ some t
 up : ∀ o ∈ keysOf D.up, o ∉ keysOf E.up
theorem Free.comm {D E : Dn} (h : Free D E) (st : St) : Eqv (D.app (E.app st)) (E.app (D.app st)) := by
 refine ⟨fun t => ?_, fun o => ?_, fun i => bool_iff (by rw [app_used, app_used, app_used, app_used]; exact or_left_comm)⟩
 ·rw [app_env, app_env, app_env, app_env]
  by_cases h1 : D.dst = some t
  ·rw [if_pos h1, if_neg (h.dst t h1)]
   simp only [if_pos h1]
  ·simp only [if_neg h1]
 ·show lk (upO D.up (upO E.up st.obj)) o = lk (upO E.up (upO D.up st.obj)) o
  by_cases h1 : o ∈ keysOf D.up
  ·rw [upO_skip (h.up o h1)]
   exact upO_congr (upO_skip (h.up o h1))
  ·rw [upO_skip h1]
   exact (upO_congr (upO_skip h1)).symm
def sel : List Dn → Nat → (Nat → Bool) → St → St
 | [], _, _, st => st
 | D :: r, i, S, st => sel r (i + 1) S (match S i with | true => D.app st | false => st)
theorem Eqv.sel : ∀ {L : List Dn} {i : Nat} {S : Nat → Bool} {st st' : St}, Eqv st st' → Eqv (sel L i S st) (sel L i S st')
 | [], _, _, _, _, h => h
 | D :: r, i, S, st, st', h => by
  simp only [Eng.sel]
  cases S i with
  | true => exact Eqv.sel (h.app D)
  | false => exact Eqv.sel h
theorem sel_congr : ∀ {L : List Dn} {i : Nat} {S S' : Nat → Bool} {st : St}, (∀ n, n < L.length → S (i + n) = S' (i + n)) → sel L i S st = sel L i S' st
 | [], _, _, _, _, _ => rfl
 | D :: r, i, S, S', st, h => by
  simp only [sel]
  rw [show S i = S' i from h 0 (by simp)]
  exact sel_congr fun n hn => by have := h (n + 1) (by simp; omega); rwa [show i + (n + 1) = i + 1 + n by omega] at this
theorem sel_none : ∀ {L : List Dn} {i : Nat} {S : Nat → Bool} {st : St}, (∀ n, S (i + n) = false) → sel L i S st = st
 | [], _, _, _, _ => rfl
 | D :: r, i, S, st, h => by
  simp only [sel]
  rw [show S i = false from h 0]
  exact sel_none fun n => by have := h (n + 1); rwa [show i + (n + 1) = i + 1 + n by omega] at this
theorem sel_take : ∀ {L : List Dn} {i m : Nat} {st : St}, sel L i (fun n => decide (n < i + m)) st = sel (L.take m) i (fun _ => true) st
 | [], i, m, st => by simp [sel]
 | D :: r, i, 0, st => by simp only [List.take_zero, sel]; rw [show decide (i < i + 0) = false by simp]; exact sel_none fun n => by simp; omega
 | D :: r, i, m + 1, st => by
  simp only [List.take_succ_cons, sel]
  rw [show decide (i < i + (m + 1)) = true by simp]
  have := sel_take (L := r) (i := i + 1) (m := m) (st := D.app st)
  rw [show i + 1 + m = i + (m + 1) by omega] at this
  exact this
theorem sel_env : ∀ {L : List Dn} {i : Nat} {S S' : Nat → Bool} {st st' : St} {t : Nat}, lk st.env t = lk st'.env t → (∀ n D, L[n]? = some D → S (i + n) ≠ S' (i + n) → D.dst ≠ some t) → lk (sel L i S st).env t = lk (sel L i S' st').env t
 | [], _, _, _, _, _, _, h, _ => h
 | D :: r, i, S, S', st, st', t, h, hd => by
  simp only [sel]
  refine sel_env ?_ (fun n E hE hne => hd (n + 1) E (by simpa using hE) (by rwa [show i + (n + 1) = i + 1 + n by omega]))
  have h0 := hd 0 D (by simp)
  simp only [Nat.add_zero] at h0
  cases h1 : S i <;> cases h2 : S' i <;> simp only [] <;> first
   | exact h
   | (rw [app_env, app_env, h]; done)
   | (rw [app_env, if_neg (h0 (by rw [h1, h2]; simp))]; exact h)
theorem sel_obj : ∀ {L : List Dn} {i : Nat} {S S' : Nat → Bool} {st st' : St} {o : Nat}, lk st.obj o = lk st'.obj o → (∀ n D, L[n]? = some D → S (i + n) ≠ S' (i + n) → o ∉ keysOf D.up) → lk (sel L i S st).obj o = lk (sel L i S' st').obj o
 | [], _, _, _, _, _, _, h, _ => h
 | D :: r, i, S, S', st, st', o, h, hd => by
  simp only [sel]
  refine sel_obj ?_ (fun n E hE hne => hd (n + 1) E (by simpa using hE) (by rwa [show i + (n + 1) = i + 1 + n by omega]))
  have h0 := hd 0 D (by simp)
  simp only [Nat.add_zero] at h0
  cases h1 : S i <;> cases h2 : S' i <;> simp only []
  ·exact h
  ·exact h.trans (upO_skip (h0 (by rw [h1, h2]; simp))).symm
  ·exact (upO_skip (h0 (by rw [h1, h2]; simp))).trans h
  ·exact upO_congr h
theorem sel_used : ∀ {L : List Dn} {i : Nat} {S : Nat → Bool} {st : St} {x : Nat}, memN (sel L i S st).used x = true ↔ memN st.used x = true ∨ ∃ n D, L[n]? = some D ∧ S (i + n) = true ∧ x ∈ D.cr
 | [], _, _, _, _ => by simp [sel]
 | D :: r, i, S, st, x => by
  simp only [sel]
  rw [sel_used]
  have e : (∃ n E, (D :: r)[n]? = some E ∧ S (i + n) = true ∧ x ∈ E.cr) ↔ (S i = true ∧ x ∈ D.cr) ∨ ∃ n E, r[n]? = some E ∧ S (i + 1 + n) = true ∧ x ∈ E.cr := by
   constructor
   ·rintro ⟨n, E, h1, h2, h3⟩
    cases n with
    | zero => simp only [List.getElem?_cons_zero, Option.some.injEq] at h1; subst h1; exact .inl ⟨h2, h3⟩
    | succ n => exact .inr ⟨n, E, by simpa using h1, by rwa [show i + 1 + n = i + (n + 1) by omega], h3⟩
   ·rintro (⟨h1, h2⟩ | ⟨n, E, h1, h2, h3⟩)
    ·exact ⟨0, D, by simp, h1, h2⟩
    ·exact ⟨n + 1, E, by simpa using h1, by rwa [show i + (n + 1) = i + 1 + n by omega], h3⟩
  rw [e]
  cases hs : S i with
  | true =>
   simp only [app_used, true_and]
   constructor
   ·rintro ((h | h) | h)
    ·exact .inr (.inl h)
    ·exact .inl h
    ·exact .inr (.inr h)
   ·rintro (h | h | h)
    ·exact .inl (.inr h)
    ·exact .inl (.inl h)
    ·exact .inr h
  | false => simp
theorem sel_comm : ∀ {L : List Dn} {i : Nat} {S : Nat → Bool} {st : St} {E : Dn}, (∀ n D, L[n]? = some D → S (i + n) = true → Free D E) → Eqv (sel L i S (E.app st)) (E.app (sel L i S st))
 | [], _, _, _, _, _ => Eqv.rfl
 | D :: r, i, S, st, E, h => by
  simp only [sel]
  have hr : ∀ n D', r[n]? = some D' → S (i + 1 + n) = true → Free D' E := fun n D' h1 h2 => h (n + 1) D' (by simpa using h1) (by rwa [show i + (n + 1) = i + 1 + n by omega])
  cases hs : S i with
  | true => exact (Eqv.sel ((h 0 D (by simp) hs).comm st)).trans (sel_comm hr)
  | false => exact sel_comm hr
theorem sel_add : ∀ {L : List Dn} {i m : Nat} {S S' : Nat → Bool} {st : St} {E : Dn}, L[m]? = some E → S (i + m) = false → (∀ n, S' n = (S n || n == i + m)) → (∀ n D, m < n → L[n]? = some D → S (i + n) = true → Free D E) → Eqv (sel L i S' st) (E.app (sel L i S st))
 | [], _, _, _, _, _, _, h, _, _, _ => by simp at h
 | D :: r, i, 0, S, S', st, E, h, h0, hs, hf => by
  simp only [List.getElem?_cons_zero, Option.some.injEq] at h; subst h
  simp only [sel]
  rw [show S' i = true by rw [hs]; simp, show S i = false from h0]
  simp only []
  rw [sel_congr (S := S') (S' := S) (fun n _ => by rw [hs, show (i + 1 + n == i + 0) = false by simp; omega, Bool.or_false])]
  exact sel_comm fun n D' h1 h2 => hf (n + 1) D' (by omega) (by simpa using h1) (by rwa [show i + (n + 1) = i + 1 + n by omega])
 | D :: r, i, m + 1, S, S', st, E, h, h0, hs, hf => by
  simp only [sel]
  rw [show S' i = S i by rw [hs, show (i == i + (m + 1)) = false by simp, Bool.or_false]]
  exact sel_add (m := m) (by simpa using h) (by rwa [show i + 1 + m = i + (m + 1) by omega]) (fun n => by rw [hs]; rw [show i + 1 + m = i + (m + 1) by omega])
   (fun n D' hn h1 h2 => hf (n + 1) D' (by omega) (by simpa using h1) (by rwa [show i + (n + 1) = i + 1 + n by omega]))
section
variable {P : Program} {B : Base} {R : Type}
theorem Rel.eqv {β0 : Start} {nt : Nat} {ps : List Nat} {st st' : St} {a : Act} {w : World} {M : Mem} (h : Rel B β0 nt ps st a w M) (e : Eqv st st') : Rel B β0 nt ps st' a w M :=
 ⟨h.ok, h.go.trans (funext e.obj), fun i c hc => h.E i c (by rw [e.env]; exact hc), h.hw, fun i hi => by rw [← e.used]; exact h.used i hi, h.nt, h.df.trans (by unfold dfs; rw [e.used]), h.ps, h.out⟩
def wantA (all : List Oper) (o : Oper) (env : List (Nat × CV)) : Option Bool :=
 match o.guard with
 | none => some true
 | some (g, w) => match guardT all g with
  | none => none
  | some t => match lk env t with
   | some (.bool b) => some (b == w)
   | some .und => some false
   | _ => none
def CellAt (l : List (Nat × Ob)) (p off q qo : Nat) : Prop := ∃ b, lk l p = some b ∧ cellP b off q qo = true
theorem upO_at : ∀ {up : List (Nat × Option Ob)} {l : List (Nat × Ob)} {p : Nat} {b : Ob}, lk up p = some (some b) → lk (upO up l) p = some b
 | [], _, _, _, h => by simp [lk] at h
 | (o, x) :: r, l, p, b, h => by
  rw [lk_cons] at h
  by_cases e : o = p
  ·rw [if_pos e] at h; injection h with h; subst h
   simp only [upO, lk_cons, if_pos e]
  ·rw [if_neg e] at h
   cases x with
   | none => simp only [upO]; exact upO_at h
   | some c => simp only [upO, lk_cons, if_neg e]; exact upO_at h
theorem lk_keys {α : Type} : ∀ {l : List (Nat × α)} {p : Nat}, lk l p = none → p ∉ keysOf l
 | [], _, _ => by simp [keysOf]
 | (o, x) :: r, p, h => by
  rw [lk_cons] at h
  by_cases e : o = p
  ·rw [if_pos e] at h; cases h
  ·rw [if_neg e] at h
   simp only [keysOf, List.mem_cons, not_or]
   exact ⟨fun h => e h.symm, lk_keys h⟩
theorem lk_keys' {α : Type} : ∀ {l : List (Nat × α)} {p : Nat} {x : α}, lk l p = some x → p ∈ keysOf l
 | [], _, _, h => by simp [lk] at h
 | (o, y) :: r, p, x, h => by
  rw [lk_cons] at h
  simp only [keysOf, List.mem_cons]
  by_cases e : o = p
  ·exact .inl e.symm
  ·rw [if_neg e] at h; exact .inr (lk_keys' h)
theorem CellAt.app {D : Dn} {st : St} {p off q qo : Nat} (h : CellAt st.obj p off q qo) (hk : keepsP (some (p, off, q, qo)) D.up = true) : CellAt (D.app st).obj p off q qo := by
 show CellAt (upO D.up st.obj) p off q qo
 simp only [keepsP] at hk
 split at hk
 ·rename_i hn
  obtain ⟨b, h1, h2⟩ := h
  exact ⟨b, by rw [upO_skip (lk_keys hn)]; exact h1, h2⟩
 ·cases hk
 ·rename_i b hb
  exact ⟨b, upO_at hb, hk⟩
theorem sel_cell : ∀ {L : List Dn} {i : Nat} {S : Nat → Bool} {st : St} {p off q qo : Nat}, CellAt st.obj p off q qo → (∀ D ∈ L, keepsP (some (p, off, q, qo)) D.up = true) → CellAt (sel L i S st).obj p off q qo
 | [], _, _, _, _, _, _, _, h, _ => h
 | D :: r, i, S, st, p, off, q, qo, h, hk => by
  simp only [sel]
  refine sel_cell ?_ fun E hE => hk E (List.mem_cons_of_mem _ hE)
  cases S i <;> simp only []
  ·exact h
  ·exact h.app (hk D (List.mem_cons_self ..))
theorem keepsAll_mem : ∀ {acc : List Dn} {up : List (Nat × Option Ob)}, keepsAll acc up = true → ∀ D ∈ acc, keepsP D.ld up = true
 | [], _, _, D, h => by simp at h
 | E :: r, up, h, D, hD => by
  simp only [keepsAll] at h
  split at h <;> first | (cases h; done) | skip
  rename_i h1
  rcases List.mem_cons.mp hD with e | e
  ·subst e; exact h1
  ·exact keepsAll_mem h D e
theorem keepsAll_nil : ∀ acc : List Dn, keepsAll acc [] = true
 | [] => rfl
 | D :: r => by
  have h : keepsP D.ld [] = true := by
   unfold keepsP
   split
   ·rfl
   ·rfl
  simp only [keepsAll, h]; exact keepsAll_nil r
theorem noneW_mem : ∀ {acc : List Dn} {p : Nat}, noneW acc p = true → ∀ D ∈ acc, p ∉ keysOf D.up
 | [], _, _, D, h => by simp at h
 | E :: r, p, h, D, hD => by
  simp only [noneW] at h
  split at h <;> first | (cases h; done) | skip
  rename_i h1
  rcases List.mem_cons.mp hD with e | e
  ·subst e
   intro hm
   rw [(memN_iff _ _).mpr hm] at h1; cases h1
  ·exact noneW_mem h D e
structure Lds (C : Cfg R) (o : Oper) (D : Dn) (st : St) : Prop where
 ex : ∃ t a d p off q qo, D.ld = some (p, off, q, qo) ∧ o.op = .load t a ∧ lk C.tt t = some d ∧ (Nat.beq d.size 1 && !d.agg) = true ∧ operand st.env a = .ptr p off ∧ CellAt st.obj p off q qo ∧ D.v = .ptr q qo
 up : D.up = []
 cr : D.cr = []
theorem ldOf_ok {tt : TT} {env : List (Nat × CV)} {obj : List (Nat × Ob)} {acc : List Dn} {op : Op} {p off q qo : Nat} (h : ldOf tt env (lk obj) acc op = some (p, off, q, qo)) :
  ∃ t a d, op = .load t a ∧ lk tt t = some d ∧ (Nat.beq d.size 1 && !d.agg) = true ∧ operand env a = .ptr p off ∧ CellAt obj p off q qo ∧ noneW acc p = true := by
 cases op <;> simp only [ldOf] at h <;> first | (cases h; done) | skip
 rename_i t a
 split at h <;> first | (cases h; done) | skip
 rename_i d hd
 split at h <;> first | (cases h; done) | skip
 rename_i hz
 split at h <;> first | (cases h; done) | skip
 rename_i p' off' ha
 split at h <;> first | (cases h; done) | skip
 rename_i t' l hg
 split at h <;> first | (cases h; done) | skip
 rename_i q' qo' r hl
 split at h <;> first | (cases h; done) | skip
 rename_i hn
 injection h with h
 obtain ⟨rfl, rfl, rfl, rfl⟩ : p' = p ∧ off' = off ∧ q' = q ∧ qo' = qo := by
  injection h with h1 h2; injection h2 with h2 h3; injection h3 with h3 h4; exact ⟨h1, h2, h3, h4⟩
 refine ⟨t, a, d, rfl, hd, hz, ha, ⟨_, hg, ?_⟩, hn⟩
 simp only [cellP, hl, Nat.beq_refl, Bool.and_self]
theorem Lds.step {C : Cfg R} {o : Oper} {D : Dn} {st : St} (h : Lds C o D st) : ∃ s x, step C.tt C.Γ st.env (lk st.obj) o.dst o.op = some s ∧ s.o = some x ∧ D.v = (s.f x).v ∧ D.up = (s.f x).up ∧ D.cr = s.cr ∧ s.wr = [] := by
 obtain ⟨⟨t, a, d, p, off, q, qo, h1, h2, h3, h4, h5, ⟨b, h6, h7⟩, h8⟩, hu, hc⟩ := h
 unfold cellP at h7
 split at h7 <;> first | (cases h7; done) | skip
 rename_i t' l
 split at h7 <;> first | (cases h7; done) | skip
 rename_i q' qo' r hl
 rw [Bool.and_eq_true] at h7
 have hq := Nat.eq_of_beq_eq_true h7.1
 have hqo := Nat.eq_of_beq_eq_true h7.2
 subst hq; subst hqo
 simp only [Bool.and_eq_true, Bool.not_eq_true'] at h4
 have hz := Nat.eq_of_beq_eq_true h4.1
 have hm : isMap l = none := by
  unfold isMap
  split
  ·rename_i dd
   cases off with
   | zero => simp [dropL] at hl
   | succ n => cases n <;> simp [dropL] at hl
  ·rfl
 refine ⟨⟨Unit, some (), fun _ => ⟨.ptr q' qo', []⟩, [p], [], []⟩, (), ?_, rfl, h8, hu, hc, rfl⟩
 simp only [h2, Eng.step, h3, h5, h6, hm, hl, hz, takeL, asVal, h4.2]
structure Fit (C : Cfg R) (all : List Oper) (o : Oper) (i : Nat) (D : Dn) (st : St) : Prop where
 i : D.i = i
 lks : D.lks = looks all o
 dst : D.dst = o.dst
 ok : dstOk C.nt o.dst = true
 ldn : D.ld = none ∨ Lds C o D st
 run : (wantA all o st.env = some false ∧ D.v = .und ∧ D.up = [] ∧ D.cr = []) ∨ (wantA all o st.env = some true ∧ Lds C o D st) ∨
  (wantA all o st.env = some true ∧ ∃ Γ' s x, SubG Γ' C.Γ ∧ stepP C.tt Γ' st.env (restr D.rd (lk st.obj)) o.dst o.op = some s ∧ s.o = some x ∧ D.v = (s.f x).v ∧ D.up = (s.f x).up ∧ D.cr = s.cr ∧ anyN (memN C.ro) s.wr = false)
 nm : MARK ∉ D.cr
theorem looks_op {all : List Oper} {o : Oper} {t : Nat} (h : t ∈ opTmps o.op) : t ∈ looks all o := by
 unfold looks
 split
 ·split
  ·exact List.mem_cons_of_mem _ h
  ·exact h
 ·exact h
theorem wantA_congr {all : List Oper} {o : Oper} {env env' : List (Nat × CV)} (h : ∀ t ∈ looks all o, lk env t = lk env' t) : wantA all o env = wantA all o env' := by
 unfold wantA
 unfold looks at h
 cases hg : o.guard with
 | none => rfl
 | some gw =>
  rw [hg] at h; simp only [] at h ⊢
  cases ht : guardT all gw.1 with
  | none => rfl
  | some t =>
   rw [ht] at h; simp only [] at h ⊢
   rw [h t (by simp)]
theorem Fit.agree {C : Cfg R} {all : List Oper} {o : Oper} {i : Nat} {D : Dn} {st st' : St} (h : Fit C all o i D st) (he : ∀ t ∈ D.lks, lk st.env t = lk st'.env t) (ho : ∀ p ∈ D.rd, lk st.obj p = lk st'.obj p) (hc : ∀ p off q qo, D.ld = some (p, off, q, qo) → CellAt st.obj p off q qo → CellAt st'.obj p off q qo) : Fit C all o i D st' := by
 have hl : ∀ t ∈ looks all o, lk st.env t = lk st'.env t := by rw [← h.lks]; exact he
 have hR : restr D.rd (lk st.obj) = restr D.rd (lk st'.obj) := funext fun p => by
  unfold restr
  cases hm : memN D.rd p with
  | false => rfl
  | true => exact ho p ((memN_iff _ _).mp hm)
 have hL : Lds C o D st → Lds C o D st' := fun g => by
  obtain ⟨⟨t, a, d, p, off, q, qo, h1, h2, h3, h4, h5, h6, h8⟩, hu, hcr⟩ := g
  exact ⟨⟨t, a, d, p, off, q, qo, h1, h2, h3, h4, by rw [← operand_congr (fun t ht => hl t (looks_op (by rw [h2]; exact ht)))]; exact h5, hc p off q qo h1 h6, h8⟩, hu, hcr⟩
 refine ⟨h.i, h.lks, h.dst, h.ok, h.ldn.imp id hL, ?_, h.nm⟩
 rw [← wantA_congr hl, ← hR]
 refine h.run.imp id (Or.imp (And.imp id hL) (And.imp id fun g => ?_))
 obtain ⟨Γ', s, x, g1, g2, g3⟩ := g
 exact ⟨Γ', s, x, g1, by rw [← stepP_congr (fun t ht => hl t (looks_op ht))]; exact g2, g3⟩
theorem Fit.eqv {C : Cfg R} {all : List Oper} {o : Oper} {i : Nat} {D : Dn} {st st' : St} (h : Fit C all o i D st) (e : Eqv st st') : Fit C all o i D st' := h.agree (fun t _ => e.env t) (fun p _ => e.obj p) (fun p off q qo _ hc => by obtain ⟨b, h1, h2⟩ := hc; exact ⟨b, by rw [← e.obj p]; exact h1, h2⟩)
structure Seen (C : Cfg R) (all : List Oper) (o : Oper) (i : Nat) (acc : List Dn) (D : Dn) (st : St) : Prop where
 fit : Fit C all o i D st
 after : afterOk i o.after.toList = true
 anc : D.anc = ancOf acc o.after.toList
 pairs : pairsOk acc D = true
 new : ∀ x ∈ D.cr, memN st.used x = false
 keeps : keepsAll acc D.up = true
 non : ∀ p off q qo, D.ld = some (p, off, q, qo) → noneW acc p = true
theorem Seen.eqv {C : Cfg R} {all : List Oper} {o : Oper} {i : Nat} {acc : List Dn} {D : Dn} {st st' : St} (h : Seen C all o i acc D st) (e : Eqv st st') : Seen C all o i acc D st' :=
 ⟨h.fit.eqv e, h.after, h.anc, h.pairs, fun x hx => by rw [← e.used]; exact h.new x hx, h.keeps, h.non⟩
theorem runOpA_seen {C : Cfg R} {all : List Oper} {o : Oper} {j : Nat} {acc : List Dn} {st : St} {k : Dn → Option R} {r : R} (h : runOpA C all o j acc st k = some r) (hw : wantA all o st.env = some true) (ha : afterOk j o.after.toList = true) :
  ∃ D, Seen C all o j acc D st ∧ k D = some r := by
 unfold runOpA at h
 cases hd : dstOk C.nt o.dst with
 | false => rw [hd] at h; cases h
 | true =>
  rw [hd] at h; simp only [] at h
  cases hl : ldOf C.tt st.env (lk st.obj) acc o.op with
  | some x =>
   obtain ⟨p, off, q, qo⟩ := x
   rw [hl] at h; simp only [] at h
   split at h <;> first | (cases h; done) | skip
   rename_i hp
   obtain ⟨t, a, d, g1, g2, g3, g4, g5, g6⟩ := ldOf_ok hl
   have hL : Lds C o ⟨j, ancOf acc o.after.toList, looks all o, o.dst, .ptr q qo, [], [], [], some (p, off, q, qo)⟩ st := ⟨⟨t, a, d, p, off, q, qo, rfl, g1, g2, g3, g4, g5, rfl⟩, rfl, rfl⟩
   exact ⟨_, ⟨⟨rfl, rfl, rfl, hd, .inr hL, .inr (.inl ⟨hw, hL⟩), fun hm => by simp at hm⟩, ha, rfl, hp, fun y hy => by simp at hy, keepsAll_nil _, fun p' off' q' qo' e => by injection e with e; injection e with e1 e2; subst e1; exact g6⟩, h⟩
  | none =>
  rw [hl] at h; simp only [] at h
  cases hs : stepP C.tt C.Γ st.env (restr (rdOf (lk st.obj) st.env o.op) (lk st.obj)) o.dst o.op with
  | none => rw [hs] at h; cases h
  | some s =>
   rw [hs] at h; simp only [] at h
   cases h0 : anyN (memN (MARK :: st.used)) s.cr with
   | true => rw [h0] at h; cases h
   | false =>
    obtain ⟨h1, hmk⟩ := anyN_mark h0
    rw [h0] at h; simp only [] at h
    cases h2 : anyN (memN C.ro) s.wr with
    | true => rw [h2] at h; cases h
    | false =>
     rw [h2] at h; simp only [] at h
     cases hx : s.o with
     | none => rw [hx] at h; cases h
     | some x =>
      rw [hx] at h; simp only [Option.bind_some] at h
      split at h <;> first | (cases h; done) | skip
      rename_i hp
      split at h <;> first | (cases h; done) | skip
      rename_i hk
      refine ⟨_, ⟨⟨rfl, rfl, rfl, hd, .inl rfl, .inr (.inr ⟨hw, C.Γ, s, x, SubG.rfl, hs, hx, rfl, rfl, rfl, h2⟩), hmk⟩, ha, rfl, hp, fun y hy => ?_, hk, fun _ _ _ _ e => by cases e⟩, h⟩
      cases hm : memN st.used y with
      | false => rfl
      | true => rw [(anyN_iff _ _).mpr ⟨y, hy, hm⟩] at h1; cases h1
theorem Seen.cut {C : Cfg R} {g n : Nat} {all : List Oper} {o : Oper} {i : Nat} {acc : List Dn} {D : Dn} {st : St} (h : Seen (cutC C g n) all o i acc D st) : Seen C all o i acc D st := by
 have hL : Lds (cutC C g n) o D st → Lds C o D st := fun q => ⟨q.1, q.2, q.3⟩
 refine ⟨⟨h.fit.i, h.fit.lks, h.fit.dst, h.fit.ok, h.fit.ldn.imp id hL, ?_, h.fit.nm⟩, h.after, h.anc, h.pairs, h.new, h.keeps, h.non⟩
 refine h.fit.run.imp id (Or.imp (And.imp id hL) (And.imp id fun q => ?_))
 obtain ⟨Γ', s, x, g1, g2⟩ := q
 refine ⟨Γ', s, x, fun f sps hl sp hs => ?_, g2⟩
 obtain ⟨sps', h1, h2⟩ := g1 f sps hl sp hs
 obtain ⟨sps'', h3, h4⟩ := cutG_lk h1
 exact ⟨sps'', h3, h4 sp h2⟩
theorem skipA_seen {C : Cfg R} {all : List Oper} {o : Oper} {j : Nat} {acc : List Dn} {st : St} {k : Dn → Option R} {r : R} (h : skipA C all o j acc k = some r) (hw : wantA all o st.env = some false) (ha : afterOk j o.after.toList = true) :
  ∃ D, Seen C all o j acc D st ∧ k D = some r := by
 unfold skipA at h
 cases hd : dstOk C.nt o.dst with
 | false => rw [hd] at h; cases h
 | true =>
  rw [hd] at h; simp only [] at h
  split at h <;> first | (cases h; done) | skip
  rename_i hp
  exact ⟨_, ⟨⟨rfl, rfl, rfl, hd, .inl rfl, .inl ⟨hw, rfl, rfl, rfl⟩, fun hm => by simp at hm⟩, ha, rfl, hp, fun y hy => by simp at hy, keepsAll_nil _, fun _ _ _ _ e => by cases e⟩, h⟩
theorem Eqv.learn {st : St} {t : Nat} {b : Bool} (h : lk st.env t = some (.bool b)) : Eqv st ⟨(t, .bool b) :: st.env, st.obj, st.used⟩ := by
 refine ⟨fun u => ?_, fun _ => .refl _, fun _ => .refl _⟩
 rw [lk_cons]
 by_cases e : t = u
 ·subst e; rw [if_pos (.refl _)]; exact h
 ·rw [if_neg e]
theorem Eqv.learnI {st : St} {t : Nat} {kd : IntKind} {n : Int} (h : lk st.env t = some (.int kd n)) : Eqv st (Eng.learn t kd n st) := by
 refine ⟨fun u => ?_, fun _ => .refl _, fun _ => .refl _⟩
 unfold Eng.learn
 rw [lk_cons]
 by_cases e : t = u
 ·subst e; rw [if_pos (.refl _)]; exact h
 ·rw [if_neg e]
theorem runAny_seen {C : Cfg R} {all : List Oper} {k : St → Option R} {r : R} : ∀ (l : List Oper) (j : Nat) (acc : List Dn) (st : St), runAny C all l j acc st k = some r →
  ∃ (Ds : List Dn) (st' : St), Ds.length = l.length ∧ k st' = some r ∧ Eqv st' (sel Ds j (fun _ => true) st) ∧ ∀ n o, l[n]? = some o → ∃ D, Ds[n]? = some D ∧ Seen C all o (j + n) ((Ds.take n).reverse ++ acc) D (sel (Ds.take n) j (fun _ => true) st)
 | [], j, acc, st, h => ⟨[], st, rfl, h, Eqv.rfl, fun n o ho => by simp at ho⟩
 | o :: rest, j, acc, st, h => by
  have key : ∃ st1 D, Eqv st st1 ∧ Seen C all o j acc D st1 ∧ runAny C all rest (j + 1) (D :: acc) (D.app st1) k = some r := by
   simp only [runAny] at h
   cases ha : afterOk j o.after.toList with
   | false => rw [ha] at h; cases h
   | true =>
    rw [ha] at h; simp only [] at h
    cases hg : o.guard with
    | none =>
     rw [hg] at h
     cases hsp : splitOf C o st with
     | none =>
      rw [hsp] at h; simp only [] at h
      obtain ⟨D, h1, h2⟩ := runOpA_seen h (by simp [wantA, hg]) ha
      exact ⟨st, D, Eqv.rfl, h1, h2⟩
     | some x =>
      obtain ⟨t, kd, n, m, g⟩ := x
      rw [hsp] at h; simp only [] at h
      rcases splitRun_some h with h | h
      ·obtain ⟨D, h1, h2⟩ := runOpA_seen h (by simp [wantA, hg]) ha
       exact ⟨learn t kd n st, D, Eqv.learnI (splitOf_lk hsp), h1, h2⟩
      ·obtain ⟨D, h1, h2⟩ := runOpA_seen (C := cutC C g (m / 1000)) h (by simp [wantA, hg]) ha
       exact ⟨st, D, Eqv.rfl, h1.cut, h2⟩
    | some gw =>
     obtain ⟨g, want⟩ := gw
     rw [hg] at h; simp only [] at h
     cases ht : guardT all g with
     | none => rw [ht] at h; cases h
     | some t =>
      rw [ht] at h; simp only [] at h
      cases hl : lk st.env t with
      | none => rw [hl] at h; cases h
      | some c =>
       rw [hl] at h
       cases c <;> simp only [] at h <;> first | (cases h; done) | skip
       case und =>
        obtain ⟨D, h1, h2⟩ := skipA_seen (st := st) h (by simp [wantA, hg, ht, hl]) ha
        exact ⟨st, D, Eqv.rfl, h1, h2⟩
       case bool b =>
        cases b <;> cases want <;> simp only [] at h
        ·obtain ⟨D, h1, h2⟩ := runOpA_seen h (by simp [wantA, hg, ht, lk_cons]) ha
         exact ⟨_, D, Eqv.learn hl, h1, h2⟩
        ·obtain ⟨D, h1, h2⟩ := skipA_seen (st := ⟨(t, .bool false) :: st.env, st.obj, st.used⟩) h (by simp [wantA, hg, ht, lk_cons]) ha
         exact ⟨_, D, Eqv.learn hl, h1, h2⟩
        ·obtain ⟨D, h1, h2⟩ := skipA_seen (st := ⟨(t, .bool true) :: st.env, st.obj, st.used⟩) h (by simp [wantA, hg, ht, lk_cons]) ha
         exact ⟨_, D, Eqv.learn hl, h1, h2⟩
        ·obtain ⟨D, h1, h2⟩ := runOpA_seen h (by simp [wantA, hg, ht, lk_cons]) ha
         exact ⟨_, D, Eqv.learn hl, h1, h2⟩
  obtain ⟨st1, D, e, hD, hr⟩ := key
  obtain ⟨Ds, st', h1, h2, h3, h4⟩ := runAny_seen rest (j + 1) (D :: acc) _ hr
  refine ⟨D :: Ds, st', by simp [h1], h2, ?_, fun n o' ho => ?_⟩
  ·simp only [sel]
   exact h3.trans (Eqv.sel (e.symm.app D))
  ·cases n with
   | zero =>
    simp only [List.getElem?_cons_zero, Option.some.injEq] at ho; subst ho
    refine ⟨D, by simp, ?_⟩
    simp only [List.take_zero, List.reverse_nil, List.nil_append, sel, Nat.add_zero]
    exact hD.eqv e.symm
   | succ n =>
    obtain ⟨E, g1, g2⟩ := h4 n o' (by simpa using ho)
    refine ⟨E, by simpa using g1, ?_⟩
    simp only [List.take_succ_cons, List.reverse_cons, List.append_assoc, List.singleton_append, sel]
    rw [show j + (n + 1) = j + 1 + n by omega]
    exact g2.eqv (Eqv.sel (e.symm.app D))
theorem mem_unionN {x : Nat} : ∀ {l r : List Nat}, x ∈ unionN l r → x ∈ l ∨ x ∈ r
 | [], r, h => .inr h
 | y :: l, r, h => by
  simp only [unionN] at h
  split at h
  ·rcases mem_unionN h with h | h
   ·exact .inl (List.mem_cons_of_mem _ h)
   ·exact .inr h
  ·rcases List.mem_cons.1 h with h | h
   ·exact .inl (by rw [h]; exact List.mem_cons_self ..)
   ·rcases mem_unionN h with h | h
    ·exact .inl (List.mem_cons_of_mem _ h)
    ·exact .inr h
theorem mem_addA {acc : List Dn} {i x : Nat} {r : List Nat} (h : x ∈ addA acc i r) : x = i ∨ x ∈ ancAt acc i ∨ x ∈ r := by
 unfold addA at h
 split at h
 ·exact .inr (.inr h)
 ·rcases List.mem_cons.1 h with h | h
  ·exact .inl h
  ·rcases mem_unionN h with h | h
   ·exact .inr (.inl h)
   ·exact .inr (.inr h)
theorem mem_ancOf {acc : List Dn} {x : Nat} : ∀ {es : List Edge}, x ∈ ancOf acc es → ∃ e ∈ es, Region.binds .any e = true ∧ (x = e.on ∨ x ∈ ancAt acc e.on)
 | [], h => by simp [ancOf] at h
 | e :: r, h => by
  simp only [ancOf] at h
  cases hb : Region.binds .any e with
  | true =>
   rw [hb] at h
   simp only [] at h
   rcases mem_addA h with h | h | h
   ·exact ⟨e, by simp, hb, .inl h⟩
   ·exact ⟨e, by simp, hb, .inr h⟩
   ·obtain ⟨e', h1, h2⟩ := mem_ancOf h; exact ⟨e', List.mem_cons_of_mem _ h1, h2⟩
  | false =>
   rw [hb] at h
   obtain ⟨e', h1, h2⟩ := mem_ancOf h; exact ⟨e', List.mem_cons_of_mem _ h1, h2⟩
theorem mem_ancAt {x i : Nat} : ∀ {acc : List Dn}, x ∈ ancAt acc i → ∃ D ∈ acc, D.i = i ∧ x ∈ D.anc
 | [], h => by simp [ancAt] at h
 | D :: r, h => by
  simp only [ancAt] at h
  cases hb : Nat.beq D.i i with
  | true => rw [hb] at h; exact ⟨D, by simp, beq_of hb, h⟩
  | false => rw [hb] at h; obtain ⟨E, h1, h2⟩ := mem_ancAt h; exact ⟨E, List.mem_cons_of_mem _ h1, h2⟩
theorem afterOk_lt {j : Nat} : ∀ {es : List Edge}, afterOk j es = true → ∀ e ∈ es, Region.binds .any e = true → e.on < j
 | [], _, e, he, _ => by simp at he
 | x :: r, h, e, he, hb => by
  simp only [afterOk] at h
  cases hx : Region.binds .any x with
  | false =>
   rw [hx] at h
   rcases List.mem_cons.mp he with h1 | h1
   ·subst h1; rw [hb] at hx; cases hx
   ·exact afterOk_lt h e h1 hb
  | true =>
   rw [hx] at h; simp only [] at h
   cases hl : Nat.blt x.on j with
   | false => rw [hl] at h; cases h
   | true =>
    rw [hl] at h
    rcases List.mem_cons.mp he with h1 | h1
    ·subst h1; simpa [Nat.blt_eq] using hl
    ·exact afterOk_lt h e h1 hb
theorem pairsOk_mem {E : Dn} : ∀ {acc : List Dn}, pairsOk acc E = true → ∀ D ∈ acc, memN E.anc D.i = true ∨ pairOk D E = true
 | [], _, D, h => by simp at h
 | X :: r, h, D, hD => by
  simp only [pairsOk] at h
  cases h1 : memN E.anc X.i with
  | true =>
   rw [h1] at h
   rcases List.mem_cons.mp hD with e | e
   ·subst e; exact .inl h1
   ·exact pairsOk_mem h D e
  | false =>
   rw [h1] at h; simp only [] at h
   cases h2 : pairOk X E with
   | false => rw [h2] at h; cases h
   | true =>
    rw [h2] at h
    rcases List.mem_cons.mp hD with e | e
    ·subst e; exact .inr h2
    ·exact pairsOk_mem h D e
structure Apart (D E : Dn) : Prop where
 d1 : ∀ t, D.dst = some t → t ∉ E.lks
 d2 : ∀ t, E.dst = some t → t ∉ D.lks
 d3 : ∀ t, D.dst = some t → E.dst ≠ some t
 u1 : ∀ o ∈ keysOf D.up, o ∉ E.rd
 u2 : ∀ o ∈ keysOf D.up, o ∉ keysOf E.up
 u3 : ∀ o ∈ keysOf E.up, o ∉ D.rd
theorem pairOk_ok {D E : Dn} (h : pairOk D E = true) : Apart D E := by
 unfold pairOk at h
 have di : ∀ {l : List Nat} {d : Option Nat}, dstIn l d = false → ∀ t, d = some t → t ∉ l := by
  intro l d h t hd hm
  subst hd; simp only [dstIn] at h; rw [(memN_iff _ _).mpr hm] at h; cases h
 split at h <;> first | (cases h; done) | skip
 rename_i h1
 split at h <;> first | (cases h; done) | skip
 rename_i h2
 split at h <;> first | (cases h; done) | skip
 rename_i h3
 split at h <;> first | (cases h; done) | skip
 rename_i h4
 split at h <;> first | (cases h; done) | skip
 rename_i h5
 exact ⟨di h1, di h2, fun t hd he => by rw [hd, he] at h3; simp [dstEq] at h3, disN_ok h4, disN_ok h5, disN_ok h⟩
def left (S : Nat → Bool) : Nat → Nat
 | 0 => 0
 | n + 1 => left S n + (if S n then 0 else 1)
theorem left_zero {S : Nat → Bool} : ∀ {n : Nat}, left S n = 0 → ∀ m, m < n → S m = true
 | 0, _, m, h => by omega
 | n + 1, h, m, hm => by
  simp only [left] at h
  by_cases e : m = n
  ·subst e; cases hs : S m with
   | true => rfl
   | false => rw [hs] at h; simp at h
  ·exact left_zero (n := n) (by omega) m (by omega)
theorem left_same {S S' : Nat → Bool} : ∀ {n : Nat}, (∀ m, m < n → S' m = S m) → left S' n = left S n
 | 0, _ => rfl
 | n + 1, h => by simp only [left]; rw [left_same (fun m hm => h m (by omega)), h n (by omega)]
theorem left_set {S S' : Nat → Bool} {j : Nat} (h0 : S j = false) (h1 : S' j = true) (h2 : ∀ m, m ≠ j → S' m = S m) : ∀ {n : Nat}, j < n → left S' n + 1 = left S n
 | 0, h => by omega
 | n + 1, h => by
  simp only [left]
  by_cases e : j = n
  ·subst e; rw [h0, h1, left_same (fun m hm => h2 m (by omega))]; simp
  ·have := left_set h0 h1 h2 (n := n) (by omega)
   rw [h2 n (fun x => e x.symm)]; omega
theorem wantA_ok {C : Cfg R} {arr : Array Oper} {o : Oper} {β0 : Start} {st : St} {a : Act} {w : World} {M : Mem} (hr : Rel B β0 C.nt C.ps st a w M) {b : Bool} (h : wantA arr.toList o st.env = some b) : Region.wanted o (yielded arr a.tmps) = b := by
 unfold wantA at h
 cases hg : o.guard with
 | none => rw [hg] at h; injection h with h; simp [Region.wanted, hg, h]
 | some gw =>
  obtain ⟨j, want⟩ := gw
  rw [hg] at h; simp only [] at h
  cases ht : guardT arr.toList j with
  | none => rw [ht] at h; cases h
  | some t =>
   rw [ht] at h; simp only [] at h
   have hdst := guardT_eq ht
   cases hl : lk st.env t with
   | none => rw [hl] at h; cases h
   | some c =>
    rw [hl] at h
    obtain ⟨v, hv, hvr⟩ := hr.E t c hl
    cases c <;> simp only [] at h <;> first | (cases h; done) | skip
    case und =>
     injection h with h; subst h
     simp only [VR] at hvr; subst hvr
     simp [Region.wanted, hg, yielded, hdst, hv, undef]
    case bool b' =>
     injection h with h; subst h
     have hv' := hvr.bool; subst hv'
     simp only [Region.wanted, hg, yielded, hdst, Option.bind_some, hv]
     cases b' <;> cases want <;> rfl
theorem Fit.wp {C : Cfg R} (hC : Fits P B C) {arr : Array Oper} {o : Oper} {j : Nat} {D : Dn} {β0 : Start} {st : St} {a : Act} {w : World} {M : Mem} {Q : Exit → Act → World → Prop} {K : Act → World → Prop} (hj : arr[j]? = some o) (hF : Fit C arr.toList o j D st)
  (hnew : ∀ x ∈ D.cr, memN st.used x = false) (hr : Rel B β0 C.nt C.ps st a w M) (hk : ∀ a' w' M', Rel B β0 C.nt C.ps (D.app st) a' w' M' → K a' w') : wpOp P arr Q j K a w := by
 unfold wpOp
 rw [hj]; simp only []
 rcases hF.run with ⟨hw, hv, hu, hc⟩ | ⟨hw, hL⟩ | ⟨hw, Γ1, s, x, hsub, hs, hx, hv, hu, hc, hro⟩
 ·rw [if_neg (by rw [wantA_ok hr hw]; simp)]
  refine hk _ _ M ?_
  have := hr.skip hF.ok
  unfold Dn.app apply
  rw [hv, hu, hc, hF.dst]
  exact this
 ·rw [if_pos (wantA_ok hr hw)]
  obtain ⟨s, x, hs, hx, hv, hu, hc, hwr⟩ := hL.step
  refine .inl (step_ok hC.tt hC.Γ hr.ok hr.go hr.E hr.hw hs x hx (fun d hd' hu' => ?_) (fun d hd' hro' => ?_) (fun v w' M' ho hw' ok' e hv' hgo hU => ?_))
  ·have := hnew d (by rw [hc]; exact hd')
   rw [hr.used d hu'] at this; cases this
  ·rw [hwr] at hd'; simp at hd'
  ·refine hk _ _ M' ?_
   have := hr.apply hF.ok ho hw' ok' e hv' hgo hU (hc ▸ hF.nm)
   unfold Dn.app
   rw [hF.dst, hv, hu, hc]
   exact this
 ·rw [if_pos (wantA_ok hr hw)]
  have hrun : (∀ d ∈ s.cr, ¬ M.U d) → (∀ d ∈ s.wr, ¬ B.ro d) → Cont w B M st.obj s.cr (s.f x) a o.dst K → o.wp P a w K Q := by
   rcases stepP_mono restr_le hs with hs' | ⟨Γ', hΓ', hs'⟩
   ·exact fun h1 h2 h3 => pstep_ok hC.tt hr.ok hr.go hr.E hr.hw hs' x hx h1 h2 h3
   ·exact fun h1 h2 h3 => step_ok hC.tt (hΓ'.ok (hsub.ok hC.Γ)) hr.ok hr.go hr.E hr.hw hs' x hx h1 h2 h3
  refine .inl (hrun (fun d hd' hu' => ?_) (fun d hd' hro' => ?_) (fun v w' M' ho hw' ok' e hv' hgo hU => ?_))
  ·have := hnew d (by rw [hc]; exact hd')
   rw [hr.used d hu'] at this; cases this
  ·have : anyN (memN C.ro) s.wr = true := (anyN_iff _ _).mpr ⟨d, hd', (memN_iff _ _).mpr (hC.ro d hro')⟩
   rw [hro] at this; cases this
  ·refine hk _ _ M' ?_
   have := hr.apply hF.ok ho hw' ok' e hv' hgo hU (hc ▸ hF.nm)
   unfold Dn.app
   rw [hF.dst, hv, hu, hc]
   exact this
theorem any_ok {C : Cfg R} (hC : Fits P B C) (hm : P.follows .mixedOrders = true) {β0 : Start} {arr : Array Oper} {id : Nat} {k : St → Option R} {r : R} {Q : Exit → Act → World → Prop} {st : St} {a : Act} {w : World} {M : Mem}
  (hr : Rel B β0 C.nt C.ps st a w M) (h : runAny C arr.toList arr.toList 0 [] st k = some r) (hk : ∀ st' a' w' M', Rel B β0 C.nt C.ps st' a' w' M' → k st' = some r → Q .normal a' w') : (Code.region id arr true).wp P Q a w := by
 obtain ⟨Ds, st', hlen, hst, he, hseen⟩ := runAny_seen _ _ _ _ h
 have hat : ∀ {n : Nat} {o : Oper}, arr[n]? = some o → arr.toList[n]? = some o := fun ho => by simpa using ho
 have hsn : ∀ n o, arr[n]? = some o → ∃ D, Ds[n]? = some D ∧ Seen C arr.toList o n (Ds.take n).reverse D (sel (Ds.take n) 0 (fun _ => true) st) := fun n o ho => by
  obtain ⟨D, h1, h2⟩ := hseen n o (hat ho)
  rw [Nat.zero_add, List.append_nil] at h2
  exact ⟨D, h1, h2⟩
 have hDo : ∀ n D, Ds[n]? = some D → ∃ o, arr[n]? = some o ∧ Seen C arr.toList o n (Ds.take n).reverse D (sel (Ds.take n) 0 (fun _ => true) st) := fun n D hD => by
  have hn : n < arr.size := by have := (List.getElem?_eq_some_iff.mp hD).1; rw [hlen] at this; simpa using this
  obtain ⟨D', h1, h2⟩ := hsn n arr[n] (by simp [hn])
  rw [hD] at h1; injection h1 with h1; subst h1
  exact ⟨arr[n], by simp [hn], h2⟩
 let closed : (Nat → Bool) → Prop := fun S => ∀ n o, arr[n]? = some o → S n = true → ∀ e ∈ o.after.toList, Region.binds .any e = true → S e.on = true
 have hanc : ∀ S, closed S → ∀ n D, Ds[n]? = some D → S n = true → ∀ x ∈ D.anc, S x = true := by
  intro S hS n
  induction n using Nat.strongRecOn with
  | ind n ih =>
   intro D hD hn x hx
   obtain ⟨o, ho, hs⟩ := hDo n D hD
   rw [hs.anc] at hx
   obtain ⟨e, h1, h2, h3⟩ := mem_ancOf hx
   have hon := hS n o ho hn e h1 h2
   rcases h3 with h3 | h3
   ·subst h3; exact hon
   ·obtain ⟨E, g1, g2, g3⟩ := mem_ancAt h3
    rw [List.mem_reverse] at g1
    obtain ⟨m, g4⟩ := List.mem_iff_getElem?.mp g1
    have hmn : m < n := by have := (List.getElem?_eq_some_iff.mp g4).1; simp at this; omega
    have g5 : Ds[m]? = some E := by rw [List.getElem?_take, if_pos hmn] at g4; exact g4
    obtain ⟨o', ho', hs'⟩ := hDo m E g5
    have : m = e.on := by rw [← g2, hs'.fit.i]
    exact ih m hmn E g5 (by rw [this]; exact hon) x g3
 -- who may come either way
 have hap : ∀ S, closed S → ∀ j E, Ds[j]? = some E → S j = false → (∀ o, arr[j]? = some o → ∀ e ∈ o.after.toList, Region.binds .any e = true → S e.on = true) → ∀ n D, Ds[n]? = some D →
   (n < j → S n = false → Apart D E) ∧ (j < n → S n = true → Apart E D) := by
  intro S hS j E hE hj hready n D hD
  constructor
  ·intro hn hs
   obtain ⟨o, ho, hsn⟩ := hDo j E hE
   have hmem : D ∈ (Ds.take j).reverse := by
    rw [List.mem_reverse]
    exact List.mem_iff_getElem?.mpr ⟨n, by rw [List.getElem?_take, if_pos hn]; exact hD⟩
   rcases pairsOk_mem hsn.pairs D hmem with h1 | h1
   ·exfalso
    rw [memN_iff] at h1
    obtain ⟨_, _, hs'⟩ := hDo n D hD
    rw [hs'.fit.i] at h1
    have hcl : closed (fun m => S m || m == j) := by
     intro m o' ho' hm e he hb
     simp only [Bool.or_eq_true, beq_iff_eq] at hm ⊢
     rcases hm with hm | hm
     ·exact .inl (hS m o' ho' hm e he hb)
     ·subst hm; exact .inl (hready o' ho' e he hb)
    have := hanc _ hcl j E hE (by simp) n h1
    simp only [Bool.or_eq_true, beq_iff_eq, hs] at this
    rcases this with h | h
    ·cases h
    ·omega
   ·exact pairOk_ok h1
  ·intro hn hs
   obtain ⟨o, ho, hsn⟩ := hDo n D hD
   have hmem : E ∈ (Ds.take n).reverse := by
    rw [List.mem_reverse]
    exact List.mem_iff_getElem?.mpr ⟨j, by rw [List.getElem?_take, if_pos hn]; exact hE⟩
   rcases pairsOk_mem hsn.pairs E hmem with h1 | h1
   ·exfalso
    rw [memN_iff] at h1
    obtain ⟨_, _, hs'⟩ := hDo j E hE
    rw [hs'.fit.i] at h1
    have := hanc S hS n D hD hs j h1
    rw [hj] at this; cases this
   ·exact pairOk_ok h1
 have main : ∀ (fuel : Nat) (listed : Array Bool) (a : Act) (w : World) (M : Mem), listed.size = arr.size → closed (fun n => listed.getD n false) → left (fun n => listed.getD n false) arr.size ≤ fuel →
   Rel B β0 C.nt C.ps (sel Ds 0 (fun n => listed.getD n false) st) a w M → wpAny P .any arr Q fuel listed a w := by
  have hend : ∀ (listed : Array Bool) (a : Act) (w : World) (M : Mem), (∀ n, n < arr.size → listed.getD n false = true) → Rel B β0 C.nt C.ps (sel Ds 0 (fun n => listed.getD n false) st) a w M → Q .normal a w := by
   intro listed a w M hall hr
   rw [sel_congr (S' := fun _ => true) (fun n hn => by rw [Nat.zero_add]; exact hall n (by rw [hlen] at hn; simpa using hn))] at hr
   exact hk st' a w M (hr.eqv he.symm) hst
  have hin : ∀ (listed : Array Bool) (n : Nat), n < listed.size → listed.getD n true = listed.getD n false := fun listed n hn => by simp [hn]
  have hnil : ∀ (listed : Array Bool), listed.size = arr.size → Region.ready .any arr listed = [] → ∀ n, n < arr.size → listed.getD n false = true := by
   intro listed hsz hnil n
   induction n using Nat.strongRecOn with
   | ind n ih =>
    intro hn
    cases hl : listed.getD n false with
    | true => rfl
    | false =>
     exfalso
     obtain ⟨D, _, hs⟩ := hsn n arr[n] (by simp [hn])
     have : n ∈ Region.ready .any arr listed := mem_ready.mpr ⟨by rw [hin _ _ (by omega)]; exact hl, arr[n], by simp [hn], fun e he hb => ih e.on (afterOk_lt hs.after e (by simpa using he) hb) (by have := afterOk_lt hs.after e (by simpa using he) hb; omega)⟩
     rw [hnil] at this; simp at this
  intro fuel
  induction fuel with
  | zero =>
   intro listed a w M hsz hcl hleft hr
   have hall := left_zero (Nat.le_zero.mp hleft)
   refine ⟨List.eq_nil_iff_forall_not_mem.mpr fun n hn => ?_, hend listed a w M hall hr⟩
   obtain ⟨h1, o, h2, _⟩ := mem_ready.mp hn
   have hlt : n < arr.size := (Array.getElem?_eq_some_iff.mp h2).1
   have := hall n hlt
   rw [hin _ _ (by omega)] at h1
   rw [h1] at this; cases this
  | succ fuel ih =>
   intro listed a w M hsz hcl hleft hr
   refine ⟨fun hn => hend listed a w M (hnil listed hsz hn) hr, fun j hj => ?_⟩
   obtain ⟨h1, o, ho, hall⟩ := mem_ready.mp hj
   have hlt : j < arr.size := (Array.getElem?_eq_some_iff.mp ho).1
   rw [hin _ _ (by omega)] at h1
   obtain ⟨E, hE, hs⟩ := hsn j o ho
   have hready : ∀ o', arr[j]? = some o' → ∀ e ∈ o'.after.toList, Region.binds .any e = true → listed.getD e.on false = true := fun o' ho' e he hb => by
    rw [ho] at ho'; injection ho' with ho'; subst ho'
    exact hall e (by simpa using he) hb
   have hAp := hap _ hcl j E hE h1 hready
   rw [← Nat.zero_add j] at hs
   have hpre : sel (Ds.take j) 0 (fun _ => true) st = sel Ds 0 (fun n => decide (n < j)) st := by
    have := sel_take (L := Ds) (i := 0) (m := j) (st := st)
    rw [Nat.zero_add] at this; exact this.symm
   rw [Nat.zero_add] at hs
   rw [hpre] at hs
   have hfit : Fit C arr.toList o j E (sel Ds 0 (fun n => listed.getD n false) st) := by
    have hcell : ∀ p off q qo, E.ld = some (p, off, q, qo) → CellAt (sel Ds 0 (fun n => decide (n < j)) st).obj p off q qo → CellAt (sel Ds 0 (fun n => listed.getD n false) st).obj p off q qo := by
     intro p off q qo hld hca
     have hnw := noneW_mem (hs.non p off q qo hld)
     have hst : CellAt st.obj p off q qo := by
      obtain ⟨b, g1, g2⟩ := hca
      refine ⟨b, ?_, g2⟩
      rw [← g1]
      have e1 : lk (sel Ds 0 (fun n => decide (n < j)) st).obj p = lk (sel Ds 0 (fun _ => false) st).obj p := sel_obj rfl fun n D hD hne => by
       rw [Nat.zero_add] at hne
       have hn : n < j := by
        by_cases hn : n < j
        ·exact hn
        ·simp only [hn, decide_false] at hne; exact absurd rfl hne
       exact hnw D (by rw [List.mem_reverse]; exact List.mem_iff_getElem?.mpr ⟨n, by rw [List.getElem?_take, if_pos hn]; exact hD⟩)
      rw [e1, sel_none (fun _ => rfl)]
     refine sel_cell hst fun D hD => ?_
     obtain ⟨n, hn⟩ := List.mem_iff_getElem?.mp hD
     obtain ⟨o', ho', hs'⟩ := hDo n D hn
     by_cases h1n : n < j
     ·have := hnw D (by rw [List.mem_reverse]; exact List.mem_iff_getElem?.mpr ⟨n, by rw [List.getElem?_take, if_pos h1n]; exact hn⟩)
      have hlk : lk D.up p = none := by
       cases hx : lk D.up p with
       | none => rfl
       | some y => exact absurd (lk_keys' hx) this
      simp only [keepsP, hlk]
     ·by_cases h2n : n = j
      ·subst h2n
       rw [hE] at hn; injection hn with hn; subst hn
       have hu : E.up = [] := by
        rcases hs.fit.ldn with h | h
        ·rw [hld] at h; cases h
        ·exact h.up
       simp only [keepsP, hu, lk]
      ·have := keepsAll_mem hs'.keeps E (by rw [List.mem_reverse]; exact List.mem_iff_getElem?.mpr ⟨j, by rw [List.getElem?_take, if_pos (by omega)]; exact hE⟩)
       rw [hld] at this; exact this
    refine hs.fit.agree (fun t ht => sel_env rfl fun n D hD hne hd => ?_) (fun p hp => sel_obj rfl fun n D hD hne hd => ?_) hcell
    ·rw [Nat.zero_add] at hne
     by_cases hn : n < j
     ·have : listed.getD n false = false := by simp only [hn, decide_true] at hne; cases hx : listed.getD n false with | false => rfl | true => rw [hx] at hne; exact absurd rfl hne
      exact ((hAp n D hD).1 hn this).d1 t hd ht
     ·have : listed.getD n false = true := by simp only [hn, decide_false] at hne; cases hx : listed.getD n false with | true => rfl | false => rw [hx] at hne; exact absurd rfl hne
      have hnj : n ≠ j := fun e => by subst e; rw [h1] at this; cases this
      exact ((hAp n D hD).2 (by omega) this).d2 t hd ht
    ·rw [Nat.zero_add] at hne
     by_cases hn : n < j
     ·have : listed.getD n false = false := by simp only [hn, decide_true] at hne; cases hx : listed.getD n false with | false => rfl | true => rw [hx] at hne; exact absurd rfl hne
      exact ((hAp n D hD).1 hn this).u1 p hd hp
     ·have : listed.getD n false = true := by simp only [hn, decide_false] at hne; cases hx : listed.getD n false with | true => rfl | false => rw [hx] at hne; exact absurd rfl hne
      have hnj : n ≠ j := fun e => by subst e; rw [h1] at this; cases this
      exact ((hAp n D hD).2 (by omega) this).u3 p hd hp
   have hnew : ∀ x ∈ E.cr, memN (sel Ds 0 (fun n => listed.getD n false) st).used x = false := by
    intro x hx
    cases hu : memN (sel Ds 0 (fun n => listed.getD n false) st).used x with
    | false => rfl
    | true =>
     exfalso
     have hno := hs.new x hx
     have hyes : memN (sel Ds 0 (fun n => decide (n < j)) st).used x = true := by
      rcases sel_used.mp hu with h2 | ⟨n, D, h2, h3, h4⟩
      ·exact sel_used.mpr (.inl h2)
      ·rw [Nat.zero_add] at h3
       by_cases hn : n < j
       ·exact sel_used.mpr (.inr ⟨n, D, h2, by simpa using hn, h4⟩)
       ·exfalso
        have hnj : n ≠ j := fun e => by subst e; rw [h1] at h3; cases h3
        obtain ⟨o', ho', hs'⟩ := hDo n D h2
        have g := hs'.new x h4
        have : memN (sel (Ds.take n) 0 (fun _ => true) st).used x = true := sel_used.mpr (.inr ⟨j, E, by rw [List.getElem?_take, if_pos (by omega)]; exact hE, rfl, hx⟩)
        rw [this] at g; cases g
     rw [hyes] at hno; cases hno
   refine hfit.wp hC ho hnew hr fun a' w' M' hr' => ?_
   have hset : ∀ n, (listed.setIfInBounds j true).getD n false = (listed.getD n false || n == j) := by
    intro n
    by_cases e : n = j
    ·subst e; have : n < listed.size := by omega
     simp [this]
    ·rw [getD_set_ne false (fun h => e h.symm)]; simp [e]
   refine ih _ a' w' M' (by simpa using hsz) ?_ ?_ (hr'.eqv (sel_add (m := j) hE (by rw [Nat.zero_add]; exact h1) (fun n => by rw [Nat.zero_add]; exact hset n) (fun n D hn hD hsn => ?_)).symm)
   ·intro n o' ho' hn e he' hb
    simp only [hset, Bool.or_eq_true, beq_iff_eq] at hn ⊢
    rcases hn with hn | hn
    ·exact .inl (hcl n o' ho' hn e he' hb)
    ·subst hn; exact .inl (hready o' ho' e he' hb)
   ·have := left_set (S := fun n => listed.getD n false) (S' := fun n => (listed.setIfInBounds j true).getD n false) (j := j) h1 (by simp only [hset]; simp) (fun m hm' => by simp only [hset]; simp [hm']) hlt
    omega
   ·rw [Nat.zero_add] at hsn
    have := (hAp n D hD).2 hn hsn
    exact ⟨fun t hd he' => this.d3 t he' hd, fun p hp hq => this.u2 p hq hp⟩
 refine wp_region_any hm (main arr.size _ a _ M (by simp) (fun n o ho hn => ?_) ?_ ?_)
 ·have : (Array.replicate arr.size false).getD n false = false := by
   simp only [Array.getD_eq_getD_getElem?, Array.getElem?_replicate]; split <;> rfl
  simp only [this] at hn; cases hn
 ·have : ∀ (S : Nat → Bool) (n : Nat), left S n ≤ n := by
   intro S n; induction n with
   | zero => simp [left]
   | succ n ih => simp only [left]; split <;> omega
  exact this _ _
 ·rw [sel_none (fun n => by simp only [Array.getD_eq_getD_getElem?, Array.getElem?_replicate]; split <;> rfl)]
  exact ⟨hr.ok, hr.go, hr.E, hr.hw, hr.used, hr.nt, hr.df, hr.ps, hr.out.trans ⟨rfl, rfl, rfl⟩⟩
end
end Go.Proofs.Ytcjiipbppkdkaaa.Eng
