/- The engine, part 11: what the evaluator says of code is what the code does. -/
import Derived.Test.YtcjiipbppkdkaaaECall
import Derived.Test.YtcjiipbppkdkaaaEStepP
import Derived.Deep.LoopGhost
namespace Go.Proofs.Ytcjiipbppkdkaaa.Eng
open Go
set_option linter.unusedVariables false
set_option linter.unusedSimpArgs false
section
variable {P : Program} {B : Base} {R : Type}
theorem step_ok {M : Mem} {obj : List (Nat × Ob)} {a : Act} {w : World} {o : Oper} {K : Act → World → Prop} {Q : Exit → Act → World → Prop} {tt : TT} {env : List (Nat × CV)} {Γ : Gam}
  (htt : TTok P tt) (hΓ : GamOk P Γ) (ok : MOK B M) (hgo : M.go = lk obj) (hE : RelE M env a.tmps) (hw : w.heap = M.h) {s : Stp} (h : step tt Γ env (lk obj) o.dst o.op = some s) (x : s.α) (hx : s.o = some x)
  (hcr : ∀ d ∈ s.cr, ¬ M.U d) (hro : ∀ d ∈ s.wr, ¬ B.ro d) (hk : Cont w B M obj s.cr (s.f x) a o.dst K) : o.wp P a w K Q := by
 cases hop : o.op <;> rw [hop] at h
 case move y => simp only [step] at h; injection h with h; subst h; exact op_move ok hgo hE hw (.inl hop) hk
 case assign y => simp only [step] at h; injection h with h; subst h; exact op_move ok hgo hE hw (.inr hop) hk
 case pick c y z => exact op_pick ok hgo hE hw hop h x hk
 case alloc t => exact op_alloc htt ok hgo hw hop h x hcr hk
 case box t y => exact op_box htt ok hgo hE hw hop h x hcr hk
 case build t ps => exact op_build htt ok hgo hE hw hop h x hk
 case buildSlice t n ps => exact op_buildSlice htt ok hgo hE hw hop h x hcr hk
 case load t y =>
  cases hc : operand env y
  case mptr p v i off => exact op_load_mu htt ok hgo hE hw hop h hc x hx hk
  all_goals exact op_load htt ok hgo hE hw hop h (fun p v i off hh => by rw [hc] at hh; cases hh) x hx hk
 case store t y z =>
  cases hc : operand env y
  case mptr p v i off => exact op_store_mu htt ok hgo hE hw hop h hc x hx hro hk
  all_goals exact op_store htt ok hgo hE hw hop h (fun p v i off hh => by rw [hc] at hh; cases hh) x hro hk
 case nilCheck y => exact op_nilCheck ok hgo hE hw hop h x hk
 case binOp op t y z t' => exact op_binOp htt ok hgo hE hw hop h x hx hk
 case unOp u t y => exact op_unOp ok hgo hE hw hop h x hk
 case convert t t' y => exact op_convert htt ok hgo hE hw hop h x hx hcr hk
 case slice t y lo hi mx => exact op_slice htt ok hgo hE hw hop h x hx hk
 case fieldAddr t y f => exact op_fieldAddr htt ok hgo hE hw hop h x hk
 case field t y f => exact op_field htt ok hgo hE hw hop h x hk
 case indexAddr t y i => exact op_indexAddr htt ok hgo hE hw hop h x hx hk
 case index t y i => exact op_index htt ok hgo hE hw hop h x hx hk
 case extract y i => exact op_extract ok hgo hE hw hop h x hk
 case makeSlice t y z => exact op_makeSlice htt ok hgo hE hw hop h x hx hcr hk
 case makeMap t r => exact op_makeMap htt ok hgo hw hop h x hcr hk
 case lookup t y z c => exact op_lookup htt ok hgo hE hw hop h x hk
 case mapUpdate t y z u => exact op_mapUpdate htt ok hgo hE hw hop h x hro hk
 case call c =>
  have h0 := h
  simp only [step] at h
  split at h
  ·rename_i hc
   split at h
   ·rename_i y t ha ht
    split at h
    ·rename_i n hl
     injection h with h; subst h
     exact op_len htt ok hgo hE hw hop hc ha ht hl rfl hk
    ·cases h
   ·cases h
  ·rename_i hc
   split at h
   ·rename_i t t2 ys yx ha ht
    split at h
    ·rename_i hok
     exact op_append htt ok hgo hE hw hop hc ht ha hok h x hx hcr hro hk
    ·cases h
   ·cases h
  ·rename_i hc
   split at h
   ·rename_i t t2 ys yx ha ht
    exact op_copy htt ok hgo hE hw hop hc ha ht h0 x hro hk
   ·cases h
  ·rename_i hc; exact op_minMax (Γ := Γ) ok hgo hE hw hop (lo := true) hc h x hk
  ·rename_i hc; exact op_minMax (Γ := Γ) ok hgo hE hw hop (lo := false) hc h x hk
  ·rename_i fo hc
   split at h
   ·rename_i f hfo
    split at h
    ·rename_i sps hl
     have hv := operand_ok hE fo
     rw [hfo] at hv
     exact op_call hΓ ok hgo hE hw hop hc (ex := []) (cv := #[]) hv.fn (by simp [VRL]) hl (by simpa using h) x hx hcr hro hk
    ·cases h
   ·rename_i f l hfo
    split at h
    ·rename_i sps hl
     have hv := operand_ok hE fo
     rw [hfo] at hv
     simp only [VR] at hv
     obtain ⟨vs, hv1, hv2⟩ := hv
     exact op_call hΓ ok hgo hE hw hop hc hv1 (capP_ok hv2) hl h x hx hcr hro hk
    ·cases h
   ·cases h
  ·cases h
 case makeFunc fn first caps => exact op_makeFunc ok hgo hE hw hop h x hk
 all_goals (simp [step] at h)
structure Start where
 b : Nat → Nat
 w : World
 k : Nat → Option (Hd × Nat × Nat)
 dl : List Deferred
def PsOk (β0 : Start) (M : Mem) (p : Nat) : Prop := match β0.k p with
 | none => M.C p ∧ (M.β p).b = β0.b p
 | some q => M.U p ∧ ∀ t T l, M.go p = some (.row 0 t T l) → l.length = q.2.1 ∧ M.β p = q.1 ∧ T.n = q.2.2
theorem PsOk.ext {β0 : Start} {M M' : Mem} {p : Nat} (h : PsOk β0 M p) (e : Ext M M') : PsOk β0 M' p := by
 unfold PsOk at h ⊢
 cases hk : β0.k p with
 | none =>
  rw [hk] at h
  obtain ⟨h1, h2⟩ := h
  obtain ⟨h3, h4⟩ := e.cells p h1
  exact ⟨h3, by rw [h4]; exact h2⟩
 | some q =>
  rw [hk] at h
  obtain ⟨h1, h2⟩ := h
  refine ⟨e.U p h1, fun t T l hg => ?_⟩
  obtain ⟨v0, t0, T0, l0, g1, g2, g3⟩ := e.row p h1 0 t T l hg
  obtain rfl : v0 = 0 := by omega
  obtain ⟨k1, k2, k3⟩ := g3 rfl
  obtain ⟨q1, q2, q3⟩ := h2 t0 T0 l0 g1
  exact ⟨k1.trans q1, k2.trans q2, k3.trans q3⟩
def mkDf (f b : Nat) : Deferred := ⟨.fn (.func f) #[], #[.pointer (some ⟨b, 0, none⟩)]⟩
def dfs (β0 : Start) (used : List Nat) : List Deferred := match memN used MARK with | true => β0.dl | false => []
def DlOk (df : Option (Nat × Nat)) (β0 : Start) : Prop := ∀ f p, df = some (f, p) → β0.dl = [mkDf f (β0.b p)] ∧ β0.k p = none
theorem dfs_app {β0 : Start} {cr used : List Nat} (h : MARK ∉ cr) : dfs β0 (cr ++ used) = dfs β0 used := by
 have e : memN (cr ++ used) MARK = memN used MARK := by
  cases hu : memN used MARK with
  | true => rw [memN_iff] at hu ⊢; exact List.mem_append_right _ hu
  | false =>
   cases hc : memN (cr ++ used) MARK with
   | false => rfl
   | true =>
    rw [memN_iff, List.mem_append] at hc
    rcases hc with hc | hc
    ·exact absurd hc h
    ·rw [(memN_iff _ _).mpr hc] at hu; cases hu
 unfold dfs; rw [e]
theorem anyN_mark {used cr : List Nat} (h : anyN (memN (MARK :: used)) cr = false) : anyN (memN used) cr = false ∧ MARK ∉ cr := by
 constructor
 ·cases hc : anyN (memN used) cr with
  | false => rfl
  | true =>
   obtain ⟨x, h1, h2⟩ := (anyN_iff _ _).mp hc
   have : anyN (memN (MARK :: used)) cr = true := (anyN_iff _ _).mpr ⟨x, h1, by rw [memN_iff] at h2 ⊢; exact List.mem_cons_of_mem _ h2⟩
   rw [h] at this; cases this
 ·intro hm
  have : anyN (memN (MARK :: used)) cr = true := (anyN_iff _ _).mpr ⟨MARK, hm, by rw [memN_iff]; exact List.mem_cons_self ..⟩
  rw [h] at this; cases this
structure Rel (B : Base) (β0 : Start) (nt : Nat) (ps : List Nat) (st : St) (a : Act) (w : World) (M : Mem) : Prop where
 ok : MOK B M
 go : M.go = lk st.obj
 E : RelE M st.env a.tmps
 hw : w.heap = M.h
 used : ∀ i, M.U i → memN st.used i = true
 nt : a.tmps.size = nt
 df : a.defers = dfs β0 st.used
 ps : ∀ p ∈ ps, PsOk β0 M p
 out : Outer β0.w w
theorem Rel.apply {β0 : Start} {nt : Nat} {ps : List Nat} {st : St} {a : Act} {w w' : World} {M M' : Mem} {dst : Option Nat} {cr : List Nat} {d : Dl} {v : Value} (h : Rel B β0 nt ps st a w M) (hd : dstOk nt dst = true)
  (ho : Outer w w') (hw : w'.heap = M'.h) (ok : MOK B M') (e : Ext M M') (hv : VR M' d.v v) (hgo : M'.go = lk (upO d.up st.obj)) (hU : ∀ i, M'.U i → i ∈ cr ∨ M.U i) (hmk : MARK ∉ cr) : Rel B β0 nt ps (Eng.apply dst cr st d) (a.put dst v) w' M' := by
 refine ⟨ok, hgo, (h.E.ext e).put h.nt hd hv, hw, fun i hi => ?_, by rw [put_size]; exact h.nt, by rw [put_defers]; exact h.df.trans (dfs_app hmk).symm, fun p hp => (h.ps p hp).ext e, h.out.trans ho⟩
 ·simp only [Eng.apply, memN_iff, List.mem_append]
  rcases hU i hi with h1 | h1
  ·exact .inl h1
  ·exact .inr ((memN_iff _ _).mp (h.used i h1))
theorem Rel.env {β0 : Start} {nt : Nat} {ps : List Nat} {st : St} {a : Act} {w : World} {M : Mem} (h : Rel B β0 nt ps st a w M) {env : List (Nat × CV)} (hE : RelE M env a.tmps) : Rel B β0 nt ps ⟨env, st.obj, st.used⟩ a w M :=
 ⟨h.ok, h.go, hE, h.hw, h.used, h.nt, h.df, h.ps, h.out⟩
theorem Rel.skip {β0 : Start} {nt : Nat} {ps : List Nat} {st : St} {a : Act} {w : World} {M : Mem} (h : Rel B β0 nt ps st a w M) {dst : Option Nat} (hd : dstOk nt dst = true) : Rel B β0 nt ps ⟨putE dst .und st.env, st.obj, st.used⟩ (a.put dst undef) w M :=
 ⟨h.ok, h.go, h.E.put h.nt hd (by simp [VR]), h.hw, h.used, by rw [put_size]; exact h.nt, by rw [put_defers]; exact h.df, h.ps, h.out⟩
structure Fits (P : Program) (B : Base) (C : Cfg R) : Prop where
 tt : TTok P C.tt
 Γ : GamOk P C.Γ
 ro : ∀ p, B.ro p → p ∈ C.ro
theorem runStp_ok0 {C : Cfg R} (hC : Fits P B C) {β0 : Start} {st : St} {a : Act} {w : World} {M : Mem} {o : Oper} {k : St → Option R} {r : R} {K : Act → World → Prop} {Q : Exit → Act → World → Prop} (hr : Rel B β0 C.nt C.ps st a w M)
  (hd : dstOk C.nt o.dst = true) {s : Stp} (hs : ∀ x, s.o = some x → (∀ d ∈ s.cr, ¬ M.U d) → (∀ d ∈ s.wr, ¬ B.ro d) → Cont w B M st.obj s.cr (s.f x) a o.dst K → o.wp P a w K Q) (h : runStp C o.dst st s k = some r) (hk : ∀ st' a' w' M', Rel B β0 C.nt C.ps st' a' w' M' → k st' = some r → K a' w') : o.wp P a w K Q := by
 unfold runStp at h
 cases h0 : anyN (memN (MARK :: st.used)) s.cr with
 | true => rw [h0] at h; cases h
 | false =>
  obtain ⟨h1, hmk⟩ := anyN_mark h0
  rw [h0] at h; simp only [] at h
  cases h2 : anyN (memN C.ro) s.wr with
  | true => rw [h2] at h; cases h
  | false =>
   rw [h2] at h; simp only [] at h
   cases hx : s.o with
   | none => rw [hx] at h; cases h
   | some x =>
    rw [hx] at h; simp only [Option.bind_some] at h
    refine hs x hx (fun d hd' hu => ?_) (fun d hd' hro => ?_) (fun v w' M' ho hw' ok' e hv hgo hU => ?_)
    ·have := hr.used d hu
     have : anyN (memN st.used) s.cr = true := (anyN_iff _ _).mpr ⟨d, hd', this⟩
     rw [h1] at this; cases this
    ·have : anyN (memN C.ro) s.wr = true := (anyN_iff _ _).mpr ⟨d, hd', (memN_iff _ _).mpr (hC.ro d hro)⟩
     rw [h2] at this; cases this
    ·exact hk _ _ w' M' (hr.apply hd ho hw' ok' e hv hgo hU hmk) h
theorem runStp_ok {C : Cfg R} (hC : Fits P B C) {Γ' : Gam} (hΓ : GamOk P Γ') {β0 : Start} {st : St} {a : Act} {w : World} {M : Mem} {o : Oper} {k : St → Option R} {r : R} {K : Act → World → Prop} {Q : Exit → Act → World → Prop} (hr : Rel B β0 C.nt C.ps st a w M)
  (hd : dstOk C.nt o.dst = true) {s : Stp} (hs : step C.tt Γ' st.env (lk st.obj) o.dst o.op = some s) (h : runStp C o.dst st s k = some r) (hk : ∀ st' a' w' M', Rel B β0 C.nt C.ps st' a' w' M' → k st' = some r → K a' w') : o.wp P a w K Q :=
 runStp_ok0 hC hr hd (fun x hx hcr hro hcont => step_ok hC.tt hΓ hr.ok hr.go hr.E hr.hw hs x hx hcr hro hcont) h hk
theorem afterFirst_sub {l : List Spec} {f : Spec → Option Stp} {sp : Spec} (h : sp ∈ afterFirst l f) : sp ∈ l := by
 induction l with
 | nil => exact h
 | cons s r ih =>
  unfold afterFirst at h
  split at h
  ·exact List.mem_cons_of_mem _ h
  ·exact List.mem_cons_of_mem _ (ih h)
theorem altStep_ok {P : Program} {tt : TT} {Γ : Gam} (hΓ : GamOk P Γ) {env : List (Nat × CV)} {go : Nat → Option Ob} {dst : Option Nat} {op : Op} {s : Stp} (h : altStep Γ env go dst op = some s) : ∃ Γ', GamOk P Γ' ∧ step tt Γ' env go dst op = some s := by
 cases op with
 | call c =>
  simp only [altStep] at h
  cases hc : c.callee with
  | value f =>
   rw [hc] at h; simp only [] at h
   split at h <;> first | (cases h; done) | skip
   rename_i f' hf
   split at h <;> first | (cases h; done) | skip
   rename_i sps hl
   split at h <;> first | (cases h; done) | skip
   refine ⟨(f', afterFirst sps fun sp => callStep go dst sp (c.args.toList.map (operand env))) :: Γ, fun g sps' hg sp hs => ?_, ?_⟩
   ·rw [lk_cons] at hg
    by_cases e : f' = g
    ·subst e; rw [if_pos rfl] at hg; injection hg with hg; subst hg
     exact hΓ _ _ hl _ (afterFirst_sub hs)
    ·rw [if_neg e] at hg; exact hΓ g sps' hg sp hs
   ·simp only [step, hc, hf, lk_cons, if_true]; exact h
  | _ => rw [hc] at h; cases h
 | _ => cases h
theorem altC_some {C : Cfg R} {env : List (Nat × CV)} {go : Nat → Option Ob} {dst : Option Nat} {op : Op} {s : Stp} (h : altC C env go dst op = some s) : altStep C.Γ env go dst op = some s := by
 unfold altC at h
 split at h
 ·cases h
 ·exact h
theorem runOp0_ok {C : Cfg R} (hC : Fits P B C) {β0 : Start} {st : St} {a : Act} {w : World} {M : Mem} {o : Oper} {k : St → Option R} {r : R} {K : Act → World → Prop} {Q : Exit → Act → World → Prop} (hr : Rel B β0 C.nt C.ps st a w M)
  (h : runOp0 C o st k = some r) (hk : ∀ st' a' w' M', Rel B β0 C.nt C.ps st' a' w' M' → k st' = some r → K a' w') : o.wp P a w K Q := by
 unfold runOp0 at h
 cases hd : dstOk C.nt o.dst with
 | false => rw [hd] at h; cases h
 | true =>
  rw [hd] at h; simp only [] at h
  cases hs : step C.tt C.Γ st.env (lk st.obj) o.dst o.op with
  | none => rw [hs] at h; cases h
  | some s =>
   rw [hs] at h; simp only [] at h
   cases ha : altC C st.env (lk st.obj) o.dst o.op with
   | none => rw [ha] at h; exact runStp_ok hC hC.Γ hr hd hs h hk
   | some s2 =>
    rw [ha] at h; simp only [orE] at h
    split at h
    ·rename_i r' h1
     injection h with h; subst h
     exact runStp_ok hC hC.Γ hr hd hs h1 hk
    ·obtain ⟨Γ', hΓ', hs2⟩ := altStep_ok (tt := C.tt) hC.Γ (altC_some ha)
     exact runStp_ok hC hΓ' hr hd hs2 h hk
theorem splitRun_some {R : Type} {n : Int} {f : Int → Option R} {g : Option R} {r : R} : ∀ {m : Nat}, splitRun n f g m = some r → f n = some r ∨ g = some r
 | 0, h => .inr h
 | m + 1, h => by
  unfold splitRun at h
  cases hb : (n == (m : Int)) with
  | true =>
   rw [hb] at h
   have := eq_of_beq hb
   rw [← this] at h
   exact .inl h
  | false => rw [hb] at h; exact splitRun_some h
theorem dropS_mem {sp : Spec} : ∀ {n : Nat} {l : List Spec}, sp ∈ dropS n l → sp ∈ l
 | 0, _, h => h
 | _ + 1, [], h => by cases h
 | n + 1, _ :: r, h => List.mem_cons_of_mem _ (dropS_mem (n := n) h)
theorem cutG_lk {g n f : Nat} {sps : List Spec} : ∀ {Γ : Gam}, lk (cutG g n Γ) f = some sps → ∃ sps', lk Γ f = some sps' ∧ ∀ sp ∈ sps, sp ∈ sps'
 | [], h => by simp [cutG, lk] at h
 | (f', l) :: r, h => by
  simp only [cutG] at h
  cases hb : Nat.beq f' g with
  | true =>
   rw [hb] at h
   simp only [lk_cons] at h ⊢
   by_cases e : f' = f
   ·rw [if_pos e] at h ⊢; injection h with h; subst h; exact ⟨l, rfl, fun sp hs => dropS_mem hs⟩
   ·rw [if_neg e] at h ⊢; exact cutG_lk h
  | false =>
   rw [hb] at h
   simp only [lk_cons] at h ⊢
   by_cases e : f' = f
   ·rw [if_pos e] at h ⊢; injection h with h; subst h; exact ⟨l, rfl, fun sp hs => hs⟩
   ·rw [if_neg e] at h ⊢; exact cutG_lk h
theorem cutG_ok {g n : Nat} {Γ : Gam} (h : GamOk P Γ) : GamOk P (cutG g n Γ) := fun f sps hl sp hs => by
 obtain ⟨sps', h1, h2⟩ := cutG_lk hl
 exact h f sps' h1 sp (h2 sp hs)
theorem cutC_fits {C : Cfg R} {g n : Nat} (h : Fits P B C) : Fits P B (cutC C g n) := ⟨h.tt, cutG_ok h.Γ, h.ro⟩
theorem splitOf_lk {C : Cfg R} {o : Oper} {st : St} {t : Nat} {kd : IntKind} {n : Int} {m g : Nat} (h : splitOf C o st = some (t, kd, n, m, g)) : lk st.env t = some (.int kd n) := by
 unfold splitOf at h
 repeat' (split at h <;> first | (cases h; done) | skip)
 rename_i hl
 injection h with h; injection h with h1 h; injection h with h2 h; injection h with h3 h
 subst h1; subst h2; subst h3
 exact hl
theorem RelE.learn {M : Mem} {env : List (Nat × CV)} {tmps : Array Value} (h : RelE M env tmps) {t : Nat} {c : CV} (hb : lk env t = some c) : RelE M ((t, c) :: env) tmps := by
 intro i c' hc
 rw [lk_cons] at hc
 by_cases ht : t = i
 ·rw [if_pos ht] at hc; injection hc with hc; subst hc; subst ht; exact h _ _ hb
 ·rw [if_neg ht] at hc; exact h i c' hc
theorem pstepC_some {C : Cfg R} {env : List (Nat × CV)} {go : Nat → Option Ob} {dst : Option Nat} {op : Op} {s : Stp} (h : pstepC C env go dst op = some s) : pstep C.tt env go dst op = some s := by
 unfold pstepC at h
 split at h
 ·split at h
  ·cases h
  ·exact h
 ·exact h
theorem runOp1_ok {C : Cfg R} (hC : Fits P B C) {β0 : Start} (hβ : DlOk C.df β0) {st : St} {a : Act} {w : World} {M : Mem} {o : Oper} {k : St → Option R} {r : R} {K : Act → World → Prop} {Q : Exit → Act → World → Prop} (hr : Rel B β0 C.nt C.ps st a w M)
  (h : runOp1 C o st k = some r) (hk : ∀ st' a' w' M', Rel B β0 C.nt C.ps st' a' w' M' → k st' = some r → K a' w') : o.wp P a w K Q := by
 unfold runOp1 at h
 cases hop : o.op with
 | defer c =>
  rw [hop] at h
  simp only [isDefer] at h
  unfold deferOp at h
  split at h <;> first | (cases h; done) | skip
  rename_i f p g x hdf hdst hcal hargs
  split at h <;> first | (cases h; done) | skip
  rename_i f' p' off hg hx
  split at h <;> first | (cases h; done) | skip
  rename_i hb
  simp only [Bool.and_eq_true, Bool.not_eq_true'] at hb
  obtain ⟨⟨⟨⟨b1, b2⟩, b3⟩, b4⟩, b5⟩ := hb
  have b1 := beq_of b1; have b2 := beq_of b2; have b3 := beq_of b3
  subst b1; subst b2; subst b3
  have hpsp := hr.ps p' ((memN_iff _ _).mp b4)
  obtain ⟨d1, d2⟩ := hβ f' p' hdf
  unfold PsOk at hpsp
  rw [d2] at hpsp
  have vg := operand_ok hr.E g
  rw [hg] at vg
  have vg := vg.fn
  have vx := operand_ok hr.E x
  rw [hx] at vx
  simp only [VR] at vx
  have hca : c.args = #[x] := by
   have : c.args.toList = [x] := hargs
   apply Array.ext'; simpa using this
  have hrun : (execOp a.eval o).run P w = .ok (.defer (mkDf f' (β0.b p'))) w := by
   simp only [execOp, hop, resolve, hcal, vg, Deferred.ofValue, Sem.run_bind, Sem.run_pure, Result.andThen_ok]
   rw [hca]
   simp [mkDf, vx.2, hpsp.2]
  unfold Oper.wp
  rw [hrun, Oper.upon_defer]
  refine hk ⟨st.env, st.obj, MARK :: st.used⟩ _ w M ⟨hr.ok, hr.go, ?_, hr.hw, fun i hi => ?_, ?_, ?_, hr.ps, hr.out⟩ h
  ·rw [hdst]; exact hr.E
  ·have := hr.used i hi
   rw [memN_iff] at this ⊢; exact List.mem_cons_of_mem _ this
  ·rw [hdst]; exact hr.nt
  ·rw [hdst]
   show mkDf f' (β0.b p') :: a.defers = _
   rw [hr.df]
   have e1 : dfs β0 st.used = [] := by unfold dfs; rw [b5]
   have e2 : dfs β0 (MARK :: st.used) = β0.dl := by
    have : memN (MARK :: st.used) MARK = true := by rw [memN_iff]; exact List.mem_cons_self ..
    unfold dfs; rw [this]
   show _ = dfs β0 (MARK :: st.used)
   rw [e1, e2, d1]
 | _ =>
  rw [hop] at h
  simp only [isDefer] at h
  split at h
  ·rename_i s hs
   split at h <;> first | (cases h; done) | skip
   rename_i hd
   exact runStp_ok0 hC hr hd (fun x hx hcr hro hcont => pstep_ok hC.tt hr.ok hr.go hr.E hr.hw (s := s) (by rw [hop]; exact pstepC_some hs) x hx hcr hro hcont) h hk
  ·exact runOp0_ok hC hr h hk
theorem runOp_ok {C : Cfg R} (hC : Fits P B C) {β0 : Start} (hβ : DlOk C.df β0) {st : St} {a : Act} {w : World} {M : Mem} {o : Oper} {k : St → Option R} {r : R} {K : Act → World → Prop} {Q : Exit → Act → World → Prop} (hr : Rel B β0 C.nt C.ps st a w M)
  (h : runOp C o st k = some r) (hk : ∀ st' a' w' M', Rel B β0 C.nt C.ps st' a' w' M' → k st' = some r → K a' w') : o.wp P a w K Q := by
 unfold runOp at h
 cases hs : splitOf C o st with
 | none => rw [hs] at h; exact runOp1_ok hC hβ hr h hk
 | some x =>
  obtain ⟨t, kd, n, m, g⟩ := x
  rw [hs] at h; simp only [] at h
  rcases splitRun_some h with h | h
  ·exact runOp1_ok hC hβ (st := learn t kd n st) (hr.env (hr.E.learn (splitOf_lk hs))) h hk
  ·exact runOp1_ok (C := cutC C g (m / 1000)) (cutC_fits hC) hβ hr h hk
theorem guardT_eq {arr : Array Oper} {j t : Nat} (h : guardT arr.toList j = some t) : (arr[j]?).bind (·.dst) = some t := by
 unfold guardT at h
 rw [nth_eq] at h
 have e : arr.toList[j]? = arr[j]? := by simp
 rw [e] at h
 cases hg : arr[j]? with
 | none => rw [hg] at h; cases h
 | some o => rw [hg] at h; exact h
theorem RelE.over {M : Mem} {env : List (Nat × CV)} {tmps : Array Value} (h : RelE M env tmps) {t : Nat} {b : Bool} (hb : lk env t = some (.bool b)) : RelE M ((t, .bool b) :: env) tmps := by
 intro i c hc
 rw [lk_cons] at hc
 by_cases ht : t = i
 ·rw [if_pos ht] at hc; injection hc with hc; subst hc; subst ht; exact h _ _ hb
 ·rw [if_neg ht] at hc; exact h i c hc
theorem guard_cases {C : Cfg R} {arr : Array Oper} {o : Oper} {rest : List Oper} {β0 : Start} {st : St} {a : Act} {w : World} {M : Mem} {k : St → Option R} {r : R} (hr : Rel B β0 C.nt C.ps st a w M)
  (h : runOps C arr.toList (o :: rest) st k = some r) :
  (Region.wanted o (yielded arr a.tmps) = true ∧ ∃ st1, Rel B β0 C.nt C.ps st1 a w M ∧ runOp C o st1 (fun st' => runOps C arr.toList rest st' k) = some r) ∨
  (Region.wanted o (yielded arr a.tmps) = false ∧ ∃ st1, Rel B β0 C.nt C.ps st1 a w M ∧ runOps C arr.toList rest ⟨putE o.dst .und st1.env, st1.obj, st1.used⟩ k = some r) := by
 simp only [runOps] at h
 cases hg : o.guard with
 | none =>
  rw [hg] at h
  exact .inl ⟨by simp [Region.wanted, hg], st, hr, h⟩
 | some jw =>
  obtain ⟨j, want⟩ := jw
  rw [hg] at h; simp only [] at h
  cases ht : guardT arr.toList j with
  | none => rw [ht] at h; cases h
  | some t =>
   rw [ht] at h; simp only [] at h
   have hdst := guardT_eq ht
   cases hl : lk st.env t with
   | none => rw [hl] at h; cases h
   | some c =>
    rw [hl] at h
    obtain ⟨v, hv, hvr⟩ := hr.E t c hl
    cases c <;> simp only [] at h <;> first | (cases h; done) | skip
    case und =>
     have hw : Region.wanted o (yielded arr a.tmps) = false := by
      simp only [VR] at hvr; subst hvr
      simp [Region.wanted, hg, yielded, hdst, hv, undef]
     exact .inr ⟨hw, st, hr, h⟩
    case bool b =>
     have hv' := hvr.bool; subst hv'
     have hwt : ∀ wt, o.guard = some (j, wt) → Region.wanted o (yielded arr a.tmps) = (b == wt) := by
      intro wt hgw
      simp only [Region.wanted, hgw, yielded, hdst, Option.bind_some, hv]
      cases b <;> cases wt <;> rfl
     have hr1 : Rel B β0 C.nt C.ps ⟨(t, .bool b) :: st.env, st.obj, st.used⟩ a w M := hr.env (hr.E.over hl)
     cases b <;> cases want <;> simp only [] at h
     ·exact .inl ⟨hwt _ hg, _, hr1, h⟩
     ·exact .inr ⟨hwt _ hg, _, hr1, h⟩
     ·exact .inr ⟨hwt _ hg, _, hr1, h⟩
     ·exact .inl ⟨hwt _ hg, _, hr1, h⟩
def dsts (nt : Nat) (l : List Oper) : Prop := ∀ o ∈ l, dstOk nt o.dst = true
theorem runOps_ok {C : Cfg R} (hC : Fits P B C) {β0 : Start} (hβ : DlOk C.df β0) {arr : Array Oper} {k : St → Option R} {r : R} {Q : Exit → Act → World → Prop} (hk : ∀ st' a' w' M', Rel B β0 C.nt C.ps st' a' w' M' → k st' = some r → Q .normal a' w') :
  ∀ (l : List Oper) (st : St) (a : Act) (w : World) (M : Mem), dsts C.nt l → Rel B β0 C.nt C.ps st a w M → runOps C arr.toList l st k = some r → wpList P arr Q l a w
 | [], st, a, w, M, _, hr, h => hk st a w M hr h
 | o :: rest, st, a, w, M, hd, hr, h => by
  have hd' : dsts C.nt rest := fun o ho => hd o (List.mem_cons_of_mem _ ho)
  unfold wpList
  rcases guard_cases hr h with ⟨hw, st1, hr1, h1⟩ | ⟨hw, st1, hr1, h1⟩
  ·rw [if_pos hw]
   exact .inl (runOp_ok hC hβ hr1 h1 (fun st' a' w' M' hr' h' => runOps_ok hC hβ hk rest st' a' w' M' hd' hr' h'))
  ·rw [if_neg (by rw [hw]; simp)]
   exact runOps_ok hC hβ hk rest _ _ w M hd' (hr1.skip (hd o (by simp))) h1
end
end Go.Proofs.Ytcjiipbppkdkaaa.Eng
