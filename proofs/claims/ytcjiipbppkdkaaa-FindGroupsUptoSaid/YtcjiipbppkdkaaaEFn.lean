/- The engine, part 12: code, labels, functions. -/
import Derived.Test.YtcjiipbppkdkaaaEAny
import Derived.Scope
namespace Go.Proofs.Ytcjiipbppkdkaaa.Eng
open Go
set_option linter.unusedVariables false
set_option linter.unusedSimpArgs false
def exOf : Ex → Exit
  | .normal => .normal
  | .exit i => .exit i
  | .ret => .ret
section
variable {P : Program} {B : Base} {R : Type}
theorem idRho_lk : ∀ (l : List Nat) (p : Nat), (p ∈ l → lk (idRho l) p = some (some p)) ∧ (p ∉ l → lk (idRho l) p = none)
  | [], p => ⟨by simp, fun _ => rfl⟩
  | q :: r, p => by
    simp only [idRho, lk_cons]
    obtain ⟨h1, h2⟩ := idRho_lk r p
    by_cases h : q = p
    · subst h; exact ⟨fun _ => by simp, fun hn => absurd (by simp) hn⟩
    · simp only [if_neg h]
      exact ⟨fun hp => h1 (by rcases List.mem_cons.mp hp with e | e; exact absurd e.symm h; exact e), fun hn => h2 (fun hp => hn (List.mem_cons_of_mem _ hp))⟩
theorem idRho_inj (l : List Nat) : InjR (idRho l) := by
  intro a b o ha hb
  have key : ∀ p, lk (idRho l) p = some (some o) → p = o := by
    intro p hp
    by_cases h : p ∈ l
    · rw [(idRho_lk l p).1 h] at hp; injection hp with hp; injection hp
    · rw [(idRho_lk l p).2 h] at hp; cases hp
  rw [key a ha, key b hb]
theorem rowIds_sub : ∀ (l : List (Nat × Nat × List SSh)) (p : Nat), p ∈ rowIds l → p ∈ ownIdsO l
  | [], p, h => by simp [rowIds] at h
  | s :: r, p, h => by
    simp only [rowIds, List.mem_append] at h
    simp only [ownIdsO, List.mem_cons, List.mem_append]
    rcases h with h | h
    · exact .inr (.inl h)
    · exact .inr (.inr (rowIds_sub r p h))
theorem ver0_ok {go : Nat → Option Ob} : ∀ {ps : List Nat}, ver0 go ps = true → ∀ p ∈ ps, ∀ v t T l, go p = some (.row v t T l) → v = 0
  | [], _, p, hp, _, _, _, _, _ => by simp at hp
  | q :: r, h, p, hp, v, t, T, l, hg => by
    simp only [ver0] at h
    split at h
    · split at h
      · rename_i hq
        rcases List.mem_cons.mp hp with e | e
        · subst e
          rw [hq] at hg; injection hg with hg; injection hg with h1 _ _ _; exact h1.symm
        · exact ver0_ok h p e v t T l hg
      · cases h
    · rename_i hq
      rcases List.mem_cons.mp hp with e | e
      · subst e; exact absurd hg (hq _ _ _ _)
      · exact ver0_ok h p e v t T l hg
theorem PsOk.sub {β0 : Start} {M : Mem} {ρ : Rho} {os : List (Nat × Ob)} {p : Nat} (h : PsOk β0 M p) (hid : lk ρ p = some (some p)) (hold : ∀ q ob, lk os q = some ob → Old M ρ q ob) (hv : ∀ v t T l, M.go p = some (.row v t T l) → v = 0) : PsOk β0 (M.sub ρ (lk os)) p := by
  unfold PsOk at h ⊢
  cases hk : β0.k p with
  | none =>
    rw [hk] at h
    exact ⟨⟨p, hid, h.1⟩, by rw [sub_β hid]; exact h.2⟩
  | some q =>
    rw [hk] at h
    refine ⟨by simp [Mem.sub, hid], fun t T l hg => ?_⟩
    rcases hold p _ hg with ⟨t', T', l', h1, h2⟩ | ⟨_, _, _, _, _, _, _, _, _, _, _, _, h1⟩
    · injection h1 with _ g2 g3 g4
      subst g2; subst g3
      have g4 := eq_of_heq g4; subst g4
      rcases h2 with ⟨h2, _⟩ | ⟨o, v, h2, h3⟩
      · rw [hid] at h2; cases h2
      · rw [hid] at h2; injection h2 with h2; injection h2 with h2; subst h2
        have := hv _ _ _ _ h3
        subst this
        rw [sub_β hid]; exact h.2 _ _ _ h3
    · cases h1
theorem enterD_ok {C : Cfg R} {β0 : Start} {st : St} {a : Act} {w : World} {M : Mem} {l : Lab R} {dr : l.sh.den} (hro : ∀ p, B.ro p → p ∈ C.ps) (hr : Rel B β0 C.nt C.ps st a w M) (h : enterD C.ps l st = some dr) :
    ∃ M', Rel B β0 C.nt C.ps (l.sh.st C.ps dr) a w M' := by
  unfold enterD at h
  split at h <;> first | (cases h; done) | skip
  rename_i hver
  rw [Bool.and_eq_true] at hver
  obtain ⟨hmk, hver⟩ := hver
  split at h
  · rename_i d ρ hg
    injection h with h; subst h
    rw [← hr.go] at hg hver
    obtain ⟨hle, hi, hold, hE⟩ := LSh.get_ok hr.ok hr.E hg (idRho_inj C.ps)
    have hid : ∀ p ∈ C.ps, lk ρ p = some (some p) := fun p hp => hle p _ ((idRho_lk C.ps p).1 hp)
    refine ⟨M.sub ρ (lk (l.sh.obj d)), sub_ok hr.ok hi hold (fun p o ho hb => ?_), rfl, hE, hr.hw, fun p hp => ?_, hr.nt, hr.df.trans ?_, fun p hp => ?_, hr.out⟩
    · exact hi p o o ho (hid o (hro o hb))
    · simp only [LSh.st, memN_iff, List.mem_append]
      rcases LSh.get_keys hg p hp with h1 | h1
      · right
        by_cases h2 : p ∈ C.ps
        · exact h2
        · exact absurd ((idRho_lk C.ps p).2 h2) h1
      · exact .inl h1
    · unfold dfs LSh.st
      simp only []
      cases h1 : memN st.used MARK <;> cases h2 : memN (l.sh.refs ++ C.ps) MARK <;> rw [h1, h2] at hmk <;> first | rfl | (cases hmk; done)
    · exact (hr.ps p hp).sub (hid p hp) hold (ver0_ok hver p hp)
  · cases h
theorem enter_ok {C : Cfg R} {β0 : Start} {st : St} {a : Act} {w : World} {M : Mem} {r : R} (hro : ∀ p, B.ro p → p ∈ C.ps) (hr : Rel B β0 C.nt C.ps st a w M) : ∀ {L : List (Lab R)}, enter C.ps L st = some r →
    ∃ l ∈ L, ∃ d M', l.f d = some r ∧ Rel B β0 C.nt C.ps (l.sh.st C.ps d) a w M'
  | [], h => by cases h
  | l :: L, h => by
    unfold enter at h
    split at h
    · rename_i d hd
      obtain ⟨M', h2⟩ := enterD_ok hro hr hd
      exact ⟨l, List.mem_cons_self .., d, M', h, h2⟩
    · obtain ⟨l', h1, h2⟩ := enter_ok hro hr h
      exact ⟨l', List.mem_cons_of_mem _ h1, h2⟩
theorem labVC_mem {g : Nat → (sh : LSh) → sh.den → Option R} {l : LabF R} : ∀ {L : List (LabF R)}, labVC g L → l ∈ L → (∀ d, l.f 0 d = none) ∧ ∀ k (d : l.sh.den), l.f (k + 1) d = g k l.sh d
  | [], _, h => by cases h
  | x :: r, h, hm => by
    rcases List.mem_cons.mp hm with rfl | hm
    · exact h.1
    · exact labVC_mem h.2 hm
theorem labL_mem {k : Nat} {l : Lab R} : ∀ {L : List (LabF R)}, l ∈ labL k L → ∃ x ∈ L, l = ⟨x.sh, x.f k⟩
  | [], h => by cases h
  | x :: r, h => by
    rcases List.mem_cons.mp h with rfl | h
    · exact ⟨x, List.mem_cons_self .., rfl⟩
    · obtain ⟨y, h1, h2⟩ := labL_mem h; exact ⟨y, List.mem_cons_of_mem _ h1, h2⟩
theorem opsOk_iff {nt : Nat} : ∀ {l : List Oper}, opsOk nt l = true → dsts nt l
  | [], _, o, ho => by simp at ho
  | x :: r, h, o, ho => by
    simp only [opsOk] at h
    cases hx : dstOk nt x.dst with
    | false => rw [hx] at h; cases h
    | true =>
      rw [hx] at h
      rcases List.mem_cons.mp ho with e | e
      · rw [e]; exact hx
      · exact opsOk_iff h o e
structure Fam (P : Program) (B : Base) (C : Nat → Cfg R) (lab : Nat → List (LabF R)) (nt : Nat) (ps : List Nat) (k0 : Nat) : Prop where
  mixed : P.follows .mixedOrders = true
  fits : ∀ k, k ≤ k0 → Fits P B (C k)
  hnt : ∀ k, (C k).nt = nt
  hps : ∀ k, (C k).ps = ps
  hlab : ∀ k, (C k).lab = labK lab k
  ro : ∀ p, B.ro p → p ∈ ps
theorem labAt_mem {C : Nat → Cfg R} {lab : Nat → List (LabF R)} {k kind : Nat} {c : Code} {l : Lab R} (hC : (C k).lab = labK lab k) (h : l ∈ labAt (C k) kind c) :
    ∃ x ∈ labsAt lab kind c, l = ⟨x.sh, x.f k⟩ := by
  unfold labAt at h
  unfold labsAt
  split at h
  · rename_i i hi
    rw [hC] at h
    exact labL_mem h
  · cases h
theorem exec_ok {C : Nat → Cfg R} {lab : Nat → List (LabF R)} {nt k0 : Nat} {ps : List Nat} (F : Fam P B C lab nt ps k0) {β0 : Start} (hβ : ∀ k, DlOk (C k).df β0) {r : R} : ∀ (c : Code) (K : Nat → Ex → St → Option R) (Q : Exit → Act → World → Prop),
    VCs C lab c K → codeOk nt c = true → ∀ k1, k1 ≤ k0 → (∀ k, k ≤ k1 → ∀ e st a w M, Rel B β0 nt ps st a w M → K k e st = some r → Q (exOf e) a w) →
    ∀ k, k ≤ k1 → ∀ st a w M, Rel B β0 nt ps st a w M → exec (C k) c (K k) st = some r → c.wp P Q a w
  | .skip, K, Q, _, _, k1, hk1, hK, k, hk, st, a, w, M, hr, h => by simp only [exec] at h; exact wp_skip (hK k hk _ st a w M hr h)
  | .ret, K, Q, _, _, k1, hk1, hK, k, hk, st, a, w, M, hr, h => by simp only [exec] at h; exact wp_ret (hK k hk _ st a w M hr h)
  | .exit id, K, Q, _, _, k1, hk1, hK, k, hk, st, a, w, M, hr, h => by simp only [exec] at h; exact wp_exit (hK k hk _ st a w M hr h)
  | .region id ops draw, K, Q, _, hc, k1, hk1, hK, k, hk, st, a, w, M, hr, h => by
    cases draw with
    | true =>
      simp only [exec] at h
      refine any_ok (F.fits k (by omega)) F.mixed (by rw [F.hnt, F.hps]; exact hr) h (fun st' a' w' M' hr' h' => ?_)
      rw [F.hnt, F.hps] at hr'
      exact hK k hk .normal st' a' w' M' hr' h'
    | false =>
      simp only [exec] at h
      simp only [codeOk] at hc
      refine wp_region_list (runOps_ok (F.fits k (by omega)) (β0 := β0) (hβ k) (fun st' a' w' M' hr' h' => ?_) ops.toList st a w M (by rw [F.hnt]; exact opsOk_iff hc) (by rw [F.hnt, F.hps]; exact hr) h)
      rw [F.hnt, F.hps] at hr'
      exact hK k hk .normal st' a' w' M' hr' h'
  | .cond c x y, K, Q, hv, hc, k1, hk1, hK, k, hk, st, a, w, M, hr, h => by
    simp only [exec] at h
    simp only [codeOk] at hc
    have hc1 : codeOk nt x = true := by cases hx : codeOk nt x with | true => rfl | false => rw [hx] at hc; cases hc
    have hc2 : codeOk nt y = true := by rw [hc1] at hc; exact hc
    have ho := operand_ok hr.E c
    cases hcv : operand st.env c <;> rw [hcv] at h <;> simp only [] at h <;> first | (cases h; done) | skip
    case bool b =>
      rw [hcv] at ho
      cases b with
      | true => exact wp_cond_true ho.bool (exec_ok F hβ x K Q hv.1 hc1 k1 hk1 hK k hk st a w M hr h)
      | false => exact wp_cond_false ho.bool (exec_ok F hβ y K Q hv.2 hc2 k1 hk1 hK k hk st a w M hr h)
    case qnil e =>
      rw [hcv] at ho
      simp only [VR] at ho
      obtain ⟨b, hb, hn⟩ := ho
      cases e with
      | true =>
        simp only [] at h
        obtain ⟨h1, h2⟩ := bothE_some h
        cases b with
        | true => exact wp_cond_true hb (exec_ok F hβ x K Q hv.1 hc1 k1 hk1 hK k hk st a w M hr h1)
        | false => exact wp_cond_false hb (exec_ok F hβ y K Q hv.2 hc2 k1 hk1 hK k hk st a w M hr h2)
      | false =>
        simp only [] at h
        rw [hn rfl] at hb
        exact wp_cond_false hb (exec_ok F hβ y K Q hv.2 hc2 k1 hk1 hK k hk st a w M hr h)
  | .block id c, K, Q, hv, hc, k1, hk1, hK, k, hk, st, a, w, M, hr, h => by
    simp only [exec] at h
    simp only [codeOk] at hc
    refine wp_block (exec_ok F hβ c (fun k => blockK id (K k)) _ hv hc k1 hk1 (fun k hk e st a w M hr h => ?_) k hk st a w M hr h)
    cases e with
    | normal => exact hK k hk .normal st a w M hr h
    | ret => exact hK k hk .ret st a w M hr h
    | exit i =>
      simp only [blockK] at h
      simp only [exOf, Exit.inBlock]
      cases hb : Nat.beq i id with
      | true =>
        rw [hb] at h
        rw [if_pos (beq_of hb)]
        exact hK k hk .normal st a w M hr h
      | false =>
        rw [hb] at h
        rw [if_neg (fun he => by subst he; simp at hb)]
        exact hK k hk (.exit i) st a w M hr h
  | .seq x y, K, Q, hv, hc, k1, hk1, hK, k, hk, st, a, w, M, hr, h => by
    simp only [exec] at h
    simp only [codeOk] at hc
    have hc1 : codeOk nt x = true := by cases hx : codeOk nt x with | true => rfl | false => rw [hx] at hc; cases hc
    have hc2 : codeOk nt y = true := by rw [hc1] at hc; exact hc
    obtain ⟨v1, v2, v3⟩ := hv
    refine wp_seq (exec_ok F hβ x (fun k => seqK (C k) y (K k)) _ v1 hc1 k1 hk1 (fun k hk e st a w M hr h => ?_) k hk st a w M hr h)
    cases e with
    | exit i => exact hK k hk (.exit i) st a w M hr h
    | ret => exact hK k hk .ret st a w M hr h
    | normal =>
      show y.wp P Q a w
      simp only [seqK] at h
      cases hl : labAt (C k) 1 y with
      | nil =>
        rw [hl] at h
        exact exec_ok F hβ y K Q v2 hc2 k1 hk1 hK k hk st a w M hr h
      | cons l0 lr =>
        rw [hl] at h
        obtain ⟨l, hm0, d, M', hd, hr'⟩ := enter_ok (C := C k) (by rw [F.hps]; exact F.ro) (by rw [F.hnt, F.hps]; exact hr) h
        rw [← hl] at hm0
        obtain ⟨lf, hm, rfl⟩ := labAt_mem (F.hlab k) hm0
        have v3 := labVC_mem v3 hm
        rw [F.hnt, F.hps] at hr'
        cases k with
        | zero => have hd0 : lf.f 0 d = some r := hd; rw [v3.1] at hd0; cases hd0
        | succ k' =>
          have hd' : lf.f (k' + 1) d = some r := hd
          rw [v3.2 k' d, F.hps] at hd'
          exact exec_ok F hβ y K Q v2 hc2 k1 hk1 hK k' (by omega) _ a w M' hr' hd'
  | .loop c, K, Q, hv, hc, k1, hk1, hK, k, hk, st, a, w, M, hr, h => by
    simp only [codeOk] at hc
    obtain ⟨v1, v2⟩ := hv
    have inner : ∀ k, k ≤ k1 → ∀ st a w M, Rel B β0 nt ps st a w M → exec (C k) (.loop c) (K k) st = some r → ∃ lf ∈ labsAt lab 0 c, ∃ d M', lf.f k d = some r ∧ Rel B β0 nt ps (lf.sh.st ps d) a w M' := by
      intro k hk st a w M hr h
      simp only [exec] at h
      obtain ⟨l, hm0, d, M', hd, hr'⟩ := enter_ok (C := C k) (by rw [F.hps]; exact F.ro) (by rw [F.hnt, F.hps]; exact hr) h
      obtain ⟨lf, hm, rfl⟩ := labAt_mem (F.hlab k) hm0
      rw [F.hnt, F.hps] at hr'
      exact ⟨lf, hm, d, M', hd, hr'⟩
    obtain ⟨lf, hm, d, M', hd, hr'⟩ := inner k hk st a w M hr h
    refine wp_loop_ghost (fun n a w => n ≤ k1 ∧ ∃ lf ∈ labsAt lab 0 c, ∃ d M, lf.f n d = some r ∧ Rel B β0 nt ps (lf.sh.st ps d) a w M) k ⟨hk, lf, hm, d, M', hd, hr'⟩ (fun n a w hI => ?_)
    obtain ⟨hn, lf, hm, d, M, hd, hr⟩ := hI
    have v2 := labVC_mem v2 hm
    cases n with
    | zero => rw [v2.1] at hd; cases hd
    | succ n' =>
      rw [v2.2 n' d, F.hps] at hd
      refine exec_ok F hβ c (fun k => loopK (C k) c (K k)) _ v1 hc n' (by omega) (fun k hk' e st a w M hr h => ?_) n' (Nat.le_refl _) _ a w M hr hd
      cases e with
      | exit j => exact hK k (by omega) (.exit j) st a w M hr h
      | ret => exact hK k (by omega) .ret st a w M hr h
      | normal =>
        simp only [loopK] at h
        obtain ⟨lf', hm', d', M2, hd', hr2⟩ := inner k (by omega) st a w M hr h
        exact ⟨k, by omega, by omega, lf', hm', d', M2, hd', hr2⟩
  | .label _, K, Q, _, _, k1, hk1, hK, k, hk, st, a, w, M, hr, h => by simp only [exec] at h; exact wp_label (hK k hk .normal st a w M hr h)
  | .goto _, _, _, _, _, _, _, _, _, _, _, _, _, _, _, h => by simp [exec] at h
  | .scope c, K, Q, hv, hc, k1, hk1, hK, k, hk, st, a, w, M, hr, h => by
    simp only [exec] at h
    simp only [codeOk] at hc
    refine wp_scope_straight (exec_ok F hβ c K _ hv hc k1 hk1 (fun k hk e st a w M hr h => ?_) k hk st a w M hr h)
    have := hK k hk e st a w M hr h
    cases e <;> exact this
  | .rangeFunc _ _ _ _, _, _, _, _, _, _, _, _, _, _, _, _, _, _, h => by simp [exec] at h
  | .refuse _, _, _, _, _, _, _, _, _, _, _, _, _, _, _, h => by simp [exec] at h
theorem subN_ok : ∀ {l l' : List Nat}, subN l l' = true → ∀ x ∈ l, x ∈ l'
  | [], _, _, x, hx => by simp at hx
  | y :: r, l', h, x, hx => by
    simp only [subN] at h
    cases hy : memN l' y with
    | false => rw [hy] at h; cases h
    | true =>
      rw [hy] at h
      rcases List.mem_cons.mp hx with e | e
      · subst e; exact (memN_iff _ _).mp hy
      · exact subN_ok h x e
theorem nodupN_ok : ∀ {l : List Nat}, nodupN l = true → l.Nodup
  | [], _ => List.nodup_nil
  | y :: r, h => by
    simp only [nodupN] at h
    cases hy : memN r y with
    | true => rw [hy] at h; cases h
    | false =>
      rw [hy] at h
      exact List.nodup_cons.mpr ⟨fun hm => (by rw [(memN_iff _ _).mpr hm] at hy; cases hy), nodupN_ok h⟩
theorem cellIds_sub : ∀ (l : List (Nat × Nat × List SSh)) (p : Nat), p ∈ cellIds l → p ∈ ownIdsO l
  | [], p, h => by simp [cellIds] at h
  | s :: r, p, h => by
    simp only [cellIds, List.mem_cons] at h
    simp only [ownIdsO, List.mem_cons, List.mem_append]
    rcases h with h | h
    · exact .inl h
    · exact .inr (.inr (cellIds_sub r p h))
theorem resEnv_ok {M : Mem} {tt : TT} (htt : TTok P tt) {env : List (Nat × CV)} {a : Act} {w : World} (ok : MOK B M) (hE : RelE M env a.tmps) (hw : w.heap = M.h) : ∀ (rs : List ResultVar) (i : Nat) (l : List (Nat × CV)), resEnv tt env M.go i rs = some l →
    ∃ vs : List Value, vs.length = rs.length ∧ (rs.mapM (fun x : ResultVar => (match x with | .tmp t => pure (a.tmps.getD t undef) | .cell ad t => do loadVar t (← asAddr (a.tmps.getD ad undef)) : Sem Value))).run P w = .ok vs w ∧
      ∀ j c, lk l j = some c → ∃ v, i ≤ j ∧ vs[j - i]? = some v ∧ VR M c v
  | [], i, l, h => by simp only [resEnv] at h; injection h with h; subst h; exact ⟨[], rfl, by simp, fun j c hc => by simp [lk] at hc⟩
  | .tmp t :: r, i, l, h => by
    simp only [resEnv] at h
    cases hl : lk env t with
    | none => rw [hl] at h; cases h
    | some c0 =>
      rw [hl] at h; simp only [] at h
      cases hr : resEnv tt env M.go (i + 1) r with
      | none => rw [hr] at h; cases h
      | some l' =>
        rw [hr] at h; injection h with h; subst h
        obtain ⟨vs, h1, h2, h3⟩ := resEnv_ok htt ok hE hw r (i + 1) l' hr
        obtain ⟨v, hv, hvr⟩ := hE t c0 hl
        have hgd : a.tmps.getD t undef = v := by simp [Array.getD_eq_getD_getElem?, hv]
        refine ⟨v :: vs, by simp [h1], ?_, fun j c hc => ?_⟩
        · simp only [List.mapM_cons, Sem.run_bind, Sem.run_pure, Result.andThen_ok, h2, hgd]
        · rw [lk_cons] at hc
          by_cases hij : i = j
          · rw [if_pos hij] at hc; injection hc with hc; subst hc; subst hij
            exact ⟨v, Nat.le_refl _, by simp, hvr⟩
          · rw [if_neg hij] at hc
            obtain ⟨u, g1, g2, g3⟩ := h3 j c hc
            refine ⟨u, by omega, ?_, g3⟩
            have : j - i = (j - (i + 1)) + 1 := by omega
            rw [this, List.getElem?_cons_succ]; exact g2
  | .cell ad t :: r, i, l, h => by
    simp only [resEnv] at h
    cases hd : lk tt t with
    | none => rw [hd] at h; cases h
    | some d =>
      rw [hd] at h; simp only [] at h
      have hop := operand_ok hE (.tmp ad)
      cases hc : operand env (.tmp ad) <;> rw [hc] at h <;> simp only [] at h <;> first | (cases h; done) | skip
      rename_i ob off
      rw [hc] at hop
      simp only [VR] at hop
      cases hg : M.go ob with
      | none => rw [hg] at h; cases h
      | some x =>
        rw [hg] at h
        cases x with
        | row => cases h
        | cells t' cs =>
          simp only [] at h
          cases hm : isMap cs with
          | some => rw [hm] at h; cases h
          | none =>
          rw [hm] at h; simp only [] at h
          cases ht : takeL d.size (dropL off cs) with
          | none => rw [ht] at h; cases h
          | some cs' =>
            rw [ht] at h; simp only [] at h
            cases hav : asVal d.agg cs' with
            | none => rw [hav] at h; cases h
            | some c0 =>
              rw [hav] at h; simp only [] at h
              cases hr : resEnv tt env M.go (i + 1) r with
              | none => rw [hr] at h; cases h
              | some l' =>
                rw [hr] at h; injection h with h; subst h
                obtain ⟨vs, h1, h2, h3⟩ := resEnv_ok htt ok hE hw r (i + 1) l' hr
                have hor := ok.obj ob _ hg
                simp only [OR] at hor
                obtain ⟨hn, hLies, _⟩ := hor
                obtain ⟨cv, hb, hl⟩ := hLies.cells hm
                obtain ⟨g1, g2⟩ := (hl.drop off).take _ ht
                obtain ⟨v, hv, hvr⟩ := cells_load (P := P) (w := w) (htt t d hd) (b := (M.β ob).b) (off := off) (by simp at g2 ⊢; omega) g1 hav (fun j v hj => by
                  rw [hw]; unfold cellAt; rw [hb]; exact list_getElem?_toList hj)
                have hev : a.tmps.getD ad undef = .pointer (some ⟨(M.β ob).b, off, none⟩) := hop.2
                have hload : (loadVar t ⟨(M.β ob).b, off, none⟩).run P w = .ok v w := by
                  simp only [Instr.loadAt, Instr.sureAddr, Sem.run_bind, Sem.run_pure, Result.andThen_ok] at hv; exact hv
                refine ⟨v :: vs, by simp [h1], ?_, fun j c hc => ?_⟩
                · have hasA : (asAddr (a.tmps.getD ad undef)).run P w = .ok ⟨(M.β ob).b, off, none⟩ w := by rw [hev]; rfl
                  simp only [List.mapM_cons, Sem.run_bind, Sem.run_pure, Result.andThen_ok, h2, hasA, hload]
                · rw [lk_cons] at hc
                  by_cases hij : i = j
                  · rw [if_pos hij] at hc; injection hc with hc; subst hc; subst hij
                    exact ⟨v, Nat.le_refl _, by simp, hvr⟩
                  · rw [if_neg hij] at hc
                    obtain ⟨u, g1, g2, g3⟩ := h3 j c hc
                    refine ⟨u, by omega, ?_, g3⟩
                    have : j - i = (j - (i + 1)) + 1 := by omega
                    rw [this, List.getElem?_cons_succ]; exact g2
theorem seq_ge : ∀ (l : List (Nat × SSh)) (d : denE l) (i j : Nat) (c : CV), seqSlots i l = true → lk (mkEnv l d) j = some c → i ≤ j
  | [], _, _, _, _, _, h => by simp [mkEnv, lk] at h
  | s :: r, d, i, j, c, hs, h => by
    simp only [seqSlots] at hs
    cases hb : Nat.beq s.1 i with
    | false => rw [hb] at hs; cases hs
    | true =>
      rw [hb] at hs
      simp only [mkEnv, lk_cons] at h
      by_cases hj : s.1 = j
      · have := beq_of hb; omega
      · rw [if_neg hj] at h
        have := seq_ge r d.2 (i + 1) j c hs h
        omega
theorem vals_seq {M1 : Mem} : ∀ (l : List (Nat × SSh)) (d : denE l) (i : Nat) (us : List Value), seqSlots i l = true → us.length = l.length → (∀ j c, lk (mkEnv l d) j = some c → ∃ v, us[j - i]? = some v ∧ VR M1 c v) →
    VRL M1 (valsE (mkEnv l d)) us
  | [], _, _, us, _, hl, _ => by simp only [mkEnv, valsE, VRL]; exact List.eq_nil_of_length_eq_zero hl
  | s :: r, d, i, [], _, hl, _ => by simp at hl
  | s :: r, d, i, u :: us, hs, hl, h => by
    simp only [seqSlots] at hs
    cases hb : Nat.beq s.1 i with
    | false => rw [hb] at hs; cases hs
    | true =>
      rw [hb] at hs
      have hsi := beq_of hb
      simp only [mkEnv, valsE, VRL]
      obtain ⟨v, h1, h2⟩ := h i (mkV s.2 d.1) (by simp only [mkEnv, lk_cons, if_pos hsi])
      rw [Nat.sub_self] at h1
      simp only [List.getElem?_cons_zero] at h1; injection h1 with h1; subst h1
      refine ⟨u, us, rfl, h2, vals_seq r d.2 (i + 1) us hs (by simpa using hl) (fun j c hc => ?_)⟩
      have hge := seq_ge r d.2 (i + 1) j c hs hc
      obtain ⟨v', g1, g2⟩ := h j c (by simp only [mkEnv, lk_cons]; rw [if_neg (by omega)]; exact hc)
      have e : j - i = (j - (i + 1)) + 1 := by omega
      rw [e, List.getElem?_cons_succ] at g1
      exact ⟨v', g1, g2⟩
theorem vals_len : ∀ (l : List (Nat × SSh)) (d : denE l), (valsE (mkEnv l d)).length = l.length
  | [], _ => rfl
  | s :: r, d => by simp [mkEnv, valsE, vals_len r]
theorem appN_eq : ∀ (a b : List Nat), appN a b = a ++ b
  | [], _ => rfl
  | x :: r, b => by simp only [appN, appN_eq r b, List.cons_append]
theorem appE_lk : ∀ (a b : List (Nat × CV)) (i : Nat) (c : CV), lk (appE a b) i = some c → lk a i = some c ∨ lk b i = some c
  | [], _, _, _, h => .inr h
  | (j, v) :: r, b, i, c, h => by
    simp only [appE, lk_cons] at h ⊢
    by_cases e : j = i
    · rw [if_pos e] at h ⊢; exact .inl h
    · rw [if_neg e] at h ⊢; exact appE_lk r b i c h
theorem extra_lk : ∀ (n i : Nat) (l : List (Nat × SSh)) (j : Nat) (c : CV), seqSlots i l = true → lk (extra n l) j = some c → i + n ≤ j ∧ ∃ c0 t T, c = .own c0 0 ∧ l[j - i]? = some (j, .own c0 t T)
  | n, i, [], j, c, _, h => by cases n <;> simp [extra, lk] at h
  | 0, i, (k, s) :: r, j, c, hs, h => by
    simp only [seqSlots] at hs
    cases hb : Nat.beq k i with
    | false => rw [hb] at hs; cases hs
    | true =>
      rw [hb] at hs
      have hk := beq_of hb
      subst hk
      have rec_ : lk (extra 0 r) j = some c → k + 0 ≤ j ∧ ∃ c0 t T, c = .own c0 0 ∧ ((k, s) :: r)[j - k]? = some (j, .own c0 t T) := fun h => by
        obtain ⟨h1, c0, t, T, h2, h3⟩ := extra_lk 0 (k + 1) r j c hs h
        refine ⟨by omega, c0, t, T, h2, ?_⟩
        have e : j - k = (j - (k + 1)) + 1 := by omega
        rw [e, List.getElem?_cons_succ]; exact h3
      cases s <;> simp only [extra] at h <;> first | (simp [lk] at h; done) | skip
      rename_i c0 t T
      rw [lk_cons] at h
      by_cases e : k = j
      · rw [if_pos e] at h; injection h with h; subst e
        exact ⟨Nat.le_refl _, c0, t, T, h.symm, by simp⟩
      · rw [if_neg e] at h; exact rec_ h
  | n + 1, i, (k, s) :: r, j, c, hs, h => by
    simp only [seqSlots] at hs
    cases hb : Nat.beq k i with
    | false => rw [hb] at hs; cases hs
    | true =>
      rw [hb] at hs
      have hk := beq_of hb
      subst hk
      simp only [extra] at h
      obtain ⟨h1, c0, t, T, h2, h3⟩ := extra_lk n (k + 1) r j c hs h
      refine ⟨by omega, c0, t, T, h2, ?_⟩
      have e : j - k = (j - (k + 1)) + 1 := by omega
      rw [e, List.getElem?_cons_succ]; exact h3
theorem extraIds_mem : ∀ (n : Nat) (l : List (Nat × SSh)) (j : Nat) (c t : Nat) (T : Ty), n ≤ j → (∃ q, l[j]? = some (q, .own c t T)) → c ∈ extraIds n l
  | n, [], j, c, t, T, _, h => by obtain ⟨q, h⟩ := h; simp at h
  | 0, s :: r, j, c, t, T, _, h => by
    obtain ⟨q, h⟩ := h
    have key : ∀ (l : List (Nat × SSh)) (j : Nat), l[j]? = some (q, .own c t T) → c ∈ ownIds l := by
      intro l
      induction l with
      | nil => intro j h; simp at h
      | cons s r ih =>
        intro j h
        obtain ⟨k, s⟩ := s
        cases j with
        | zero =>
          simp only [List.getElem?_cons_zero, Option.some.injEq, Prod.mk.injEq] at h
          obtain ⟨_, h⟩ := h
          subst h
          simp [ownIds]
        | succ j =>
          rw [List.getElem?_cons_succ] at h
          have := ih j h
          cases s <;> simp only [ownIds, List.mem_cons] <;> first | exact this | exact .inr this
    exact key _ j h
  | n + 1, s :: r, j, c, t, T, hj, h => by
    obtain ⟨q, h⟩ := h
    cases j with
    | zero => omega
    | succ j => rw [List.getElem?_cons_succ] at h; exact extraIds_mem n r j c t T (by omega) ⟨q, h⟩
theorem extraIds_refs : ∀ (n : Nat) (l : List (Nat × SSh)) (p : Nat), p ∈ extraIds n l → p ∈ ownIds l
  | n, [], p, h => by cases n <;> simp [extraIds] at h
  | 0, s :: r, p, h => h
  | n + 1, s :: r, p, h => by
    have := extraIds_refs n r p h
    obtain ⟨k, s⟩ := s
    cases s <;> simp only [ownIds, List.mem_cons] <;> first | exact this | exact .inr this
theorem ownIds_refs : ∀ (l : List (Nat × SSh)) (p : Nat), p ∈ ownIds l → p ∈ refsE l
  | [], p, h => by simp [ownIds] at h
  | (k, s) :: r, p, h => by
    simp only [refsE, List.mem_append]
    cases s <;> simp only [ownIds, List.mem_cons] at h <;> first
      | exact .inr (ownIds_refs r p h)
      | (rcases h with h | h
         · exact .inl (by simp [SSh.refs, h])
         · exact .inr (ownIds_refs r p h))
theorem frz_row {k : Bool} {go : Nat → Option Ob} {o v t : Nat} {T : Ty} {l : List T.den} (h : frz k go o = some (.row v t T l)) : ∃ T' l', go o = some (.row v t T' l') := by
  cases k with
  | true => exact ⟨T, l, h⟩
  | false =>
    simp only [frz] at h
    cases hg : go o with
    | none => rw [hg] at h; cases h
    | some ob =>
      rw [hg] at h
      cases ob with
      | cells => cases h
      | row v' t' T' l' => cases T' <;> simp only [frzB] at h <;> (injection h with h; injection h with h1 h2 _ _; subst h1; subst h2; exact ⟨_, _, rfl⟩)
theorem VRL.firstN {M : Mem} : ∀ (n : Nat) {l : List CV} {vs : List Value}, VRL M l vs → VRL M (Eng.firstN n l) (vs.take n)
  | 0, _, _, _ => by simp [Eng.firstN, VRL]
  | n + 1, [], vs, h => by simp only [VRL] at h; subst h; simp [Eng.firstN, VRL]
  | n + 1, c :: r, vs, h => by
    simp only [VRL] at h
    obtain ⟨v, vr, rfl, h1, h2⟩ := h
    simp only [Eng.firstN, List.take_succ_cons, VRL]
    exact ⟨v, _, rfl, h1, VRL.firstN n h2⟩
def xval (β0 : Start) (s : Nat × SSh) : Value := match s.2 with
  | .own c _ _ => match β0.k c with | some q => q.1.slice q.2.1 | none => undef
  | _ => undef
theorem ret_ok {tt : TT} (htt : TTok P tt) {F : FnD} {β0 : Start} {e : Ex} {st : St} {a : Act} {w : World} {M : Mem} {r : F.out.den} (hr : Rel B β0 F.fn.ntmps (appN F.ps F.ks) st a w M) (hro : ∀ p, B.ro p → p ∈ F.ps) (hkp : ∀ p ∈ F.ps, β0.k p = none) (hkk : ∀ p ∈ F.ks, ∃ q, β0.k p = some q)
    (hlen : F.fn.results.size = F.nres) (hslots : seqSlots 0 F.out.slots = true) (hn : F.nres ≤ F.out.slots.length) (h : ret0 tt (appN F.ps F.ks) F.nres F.out F.fn.results.toList e st = some r) :
    (e = .normal ∨ e = .ret) ∧ ∃ v M', (results F.fn a.tmps).run P w = .ok v w ∧ w.heap = M'.h ∧ MOK B M' ∧ M'.go = lk (F.out.obj r) ∧ VR M' (asRes F.nres (valsE (F.out.env r))) v ∧
      (∀ p, M'.C p → p ∈ F.ps ∨ p ∈ F.out.refs) ∧ (∀ p, M'.U p → p ∈ F.ps ∨ p ∈ F.out.refs) ∧ (∀ p ∈ F.ps, M'.C p ∧ (M'.β p).b = β0.b p) ∧
      ∀ p ∈ F.ks, ∀ v t T l, M'.go p = some (.row v t T l) → ∃ q, β0.k p = some q ∧ l.length = q.2.1 ∧ M'.β p = q.1 ∧ T.n = q.2.2 := by
  have he : e = .normal ∨ e = .ret := by
    cases e with
    | normal => exact .inl rfl
    | ret => exact .inr rfl
    | exit i => simp [ret0] at h
  refine ⟨he, ?_⟩
  have hps : ∀ p, p ∈ appN F.ps F.ks ↔ p ∈ F.ps ∨ p ∈ F.ks := fun p => by rw [appN_eq, List.mem_append]
  cases hre : resEnv tt st.env (lk st.obj) 0 F.fn.results.toList with
  | none => rcases he with rfl | rfl <;> (simp only [ret0] at h; rw [hre] at h; cases h)
  | some env =>
  cases hver : ver0 (lk st.obj) (appN F.ps F.ks) with
  | false => rcases he with rfl | rfl <;> (simp only [ret0] at h; rw [hre] at h; simp only [] at h; rw [hver] at h; cases h)
  | true =>
    cases hg : F.out.get (frz F.out.hasMu (lk st.obj)) (appE env (extra F.nres F.out.slots)) (idRho (appN F.ps F.ks)) with
    | none => rcases he with rfl | rfl <;> (simp only [ret0] at h; rw [hre] at h; simp only [] at h; rw [hver] at h; simp only [] at h; rw [hg] at h; cases h)
    | some dρ =>
      obtain ⟨d, ρ⟩ := dρ
      have hd : d = r := by rcases he with rfl | rfl <;> (simp only [ret0] at h; rw [hre] at h; simp only [] at h; rw [hver] at h; simp only [] at h; rw [hg] at h; injection h)
      subst hd
      rw [← hr.go] at hre hg hver
      have hroC : ∀ o v t T l, M.go o = some (.row v t T l) → ¬ B.ro o := fun o v t T l hgo hb => by
        have hp := hro o hb
        have := hr.ps o ((hps o).mpr (.inl hp))
        unfold PsOk at this
        rw [hkp o hp] at this
        exact hr.ok.rc o v t T l hgo this.1
      obtain ⟨Mf, hfh, hfgo, okf, ef⟩ : ∃ Mf : Mem, Mf.h = M.h ∧ Mf.go = frz F.out.hasMu M.go ∧ MOK B Mf ∧ Ext M Mf := by
        cases F.out.hasMu with
        | true => exact ⟨M, rfl, rfl, hr.ok, Ext.refl M⟩
        | false =>
          obtain ⟨S', h1, h2⟩ := hr.ok.freeze hroC
          exact ⟨⟨S', M.h, M.β, frz false M.go, M.U, M.C⟩, rfl, rfl, h1, h2⟩
      rw [← hfgo] at hg
      have hpf : ∀ p ∈ appN F.ps F.ks, PsOk β0 Mf p := fun p hp => (hr.ps p hp).ext ef
      have hvf : ∀ p ∈ appN F.ps F.ks, ∀ v t T l, Mf.go p = some (.row v t T l) → v = 0 := fun p hp v t T l hgp => by
        rw [hfgo] at hgp
        obtain ⟨T', l', h1⟩ := frz_row hgp
        exact ver0_ok hver p hp v t T' l' h1
      obtain ⟨vs, h1, h2, h3⟩ := resEnv_ok (P := P) htt hr.ok hr.E hr.hw F.fn.results.toList 0 env hre
      have hvn : vs.length = F.nres := by rw [h1]; simpa using hlen
      have hE : RelE Mf (appE env (extra F.nres F.out.slots)) (vs ++ (F.out.slots.drop F.nres).map (xval β0)).toArray := fun i c hc => by
        rcases appE_lk _ _ _ _ hc with hc | hc
        · obtain ⟨v, _, g2, g3⟩ := h3 i c hc
          have hi : i < vs.length := (List.getElem?_eq_some_iff.mp (by simpa using g2)).1
          refine ⟨v, ?_, g3.ext ef⟩
          simp only [List.getElem?_toArray]
          rw [List.getElem?_append_left hi]; simpa using g2
        · obtain ⟨g1, c0, t, T, rfl, g3⟩ := extra_lk F.nres 0 F.out.slots i c hslots hc
          rw [Nat.sub_zero] at g3
          have hck : c0 ∈ F.ks := extraIds_mem F.nres F.out.slots i c0 t T (by omega) ⟨i, g3⟩
          obtain ⟨q, hq⟩ := hkk c0 hck
          refine ⟨q.1.slice q.2.1, ?_, ?_⟩
          · simp only [List.getElem?_toArray]
            rw [List.getElem?_append_right (by omega), List.getElem?_map, List.getElem?_drop, hvn]
            have e1 : F.nres + (i - F.nres) = i := by omega
            rw [e1, g3]
            simp [xval, hq]
          · have hp0 := hpf c0 ((hps c0).mpr (.inr hck))
            have hv0 := hvf c0 ((hps c0).mpr (.inr hck))
            unfold PsOk at hp0
            rw [hq] at hp0
            simp only [VR]
            refine ⟨hp0.1, fun v0 t0 T0 l0 hg0 => ⟨Nat.zero_le _, fun hv => ?_⟩⟩
            subst hv
            obtain ⟨k1, k2, _⟩ := hp0.2 t0 T0 l0 hg0
            rw [k1, k2]
      obtain ⟨hle, hi, hold, hE'⟩ := LSh.get_ok okf hE hg (idRho_inj (appN F.ps F.ks))
      have hid : ∀ p ∈ appN F.ps F.ks, lk ρ p = some (some p) := fun p hp => hle p _ ((idRho_lk (appN F.ps F.ks) p).1 hp)
      have hrun : (F.fn.results.mapM (fun x : ResultVar => (match x with | .tmp t => pure (a.tmps.getD t undef) | .cell ad t => do loadVar t (← asAddr (a.tmps.getD ad undef)) : Sem Value))).run P w = .ok vs.toArray w := by
        rw [Array.mapM_eq_mapM_toList]
        simp only [Sem.run_map, h2, Result.andThen_ok]
      have hvl : VRL (Mf.sub ρ (lk (F.out.obj d))) (valsE (F.out.env d)) (vs ++ (F.out.slots.drop F.nres).map (xval β0)) := vals_seq _ _ 0 _ hslots (by rw [List.length_append, List.length_map, List.length_drop]; omega) (fun j c hc => by
        obtain ⟨v, g1, g2⟩ := hE' j c hc
        exact ⟨v, by simpa using g1, g2⟩)
      have keys : ∀ p, lk ρ p ≠ none → p ∈ F.ps ∨ p ∈ F.out.refs := fun p hp => by
        rcases LSh.get_keys hg p hp with h | h
        · by_cases hm : p ∈ appN F.ps F.ks
          · rcases (hps p).mp hm with h | h
            · exact .inl h
            · exact .inr (by simp [LSh.refs, ownIds_refs _ _ (extraIds_refs _ _ _ h)])
          · exact absurd ((idRho_lk (appN F.ps F.ks) p).2 hm) h
        · exact .inr h
      have hsubp : ∀ p ∈ appN F.ps F.ks, PsOk β0 (Mf.sub ρ (lk (F.out.obj d))) p := fun p hp => (hpf p hp).sub (hid p hp) hold (hvf p hp)
      refine ⟨if h : vs.toArray.size = 1 then vs.toArray[0] else .tuple vs.toArray, Mf.sub ρ (lk (F.out.obj d)), ?_, by rw [hr.hw, ← hfh]; rfl, sub_ok okf hi hold (fun p o ho hb => hi p o o ho (hid o ((hps o).mpr (.inl (hro o hb))))), rfl, ?_, fun p ⟨o, ho, _⟩ => keys p (by rw [ho]; simp), keys, fun p hp => ?_, fun p hp v t T l hg0 => ?_⟩
      · unfold results
        rw [Sem.run_bind]
        erw [hrun]
        rfl
      · unfold asRes
        by_cases h1' : F.nres = 1
        · have hb : Nat.beq F.nres 1 = true := by rw [h1']; rfl
          rw [hb]
          have hv1 : vs.length = 1 := by rw [hvn, h1']
          obtain ⟨v, rfl⟩ := List.length_eq_one_iff.mp hv1
          cases hc1 : valsE (F.out.env d) with
          | nil => rw [hc1] at hvl; simp [VRL] at hvl
          | cons c cr =>
            rw [hc1] at hvl
            simp only [List.cons_append, List.nil_append, VRL] at hvl
            obtain ⟨u, ur, g1, g2, _⟩ := hvl
            injection g1 with g1 _; subst g1
            simpa [headV] using g2
        · have hb : Nat.beq F.nres 1 = false := beq_ne h1'
          rw [hb, dif_neg (by simp; omega)]
          simp only [VR]
          refine ⟨vs.toArray, rfl, ?_⟩
          have := hvl.firstN F.nres
          rw [List.take_append_of_le_length (by omega), List.take_of_length_le (by omega)] at this
          simpa using this
      · have := hsubp p ((hps p).mpr (.inl hp))
        unfold PsOk at this
        rw [hkp p hp] at this
        exact this
      · obtain ⟨q, hq⟩ := hkk p hp
        have h0 := hsubp p ((hps p).mpr (.inr hp))
        unfold PsOk at h0
        rw [hq] at h0
        have hv0 : v = 0 := row_ver (s := F.out) (d := d) hg0
        subst hv0
        obtain ⟨k1, k2, k3⟩ := h0.2 t T l hg0
        exact ⟨q, hq, k1, k2, k3⟩
theorem mcore_ok {sp : Spec} {M : Mem} (c : MCore M) (hlt : ∀ b x, M.S b x → b < M.h.size) : MOK (sp.base M) M := by
  refine ⟨c.obj, c.used, c.cu, c.rc, c.cc, c.inj, hlt, Nat.le_refl _, fun _ _ _ => rfl, fun _ _ h => h, fun _ _ _ => rfl, fun _ _ h => .inl h, fun p hl => ?_⟩
  by_cases hp : p ∈ sp.ro
  · exact .inl hp
  · exact .inr (.inr ⟨p, hl, hp, rfl⟩)
structure FnOk (P : Program) (tt : TT) (Γ : Nat → Gam) (f : Nat) (F : FnD) : Prop where
  fn : P.funcs[f]? = some F.fn
  body : F.fn.body = some (bodyOf F.fn)
  enters : ∀ args w, (callFunc f args).run P w = .ok (.enter f args) w
  forms : F.formsOk = true
  vc : F.vc tt Γ
theorem fn_ok {tt : TT} (hmix : P.follows .mixedOrders = true) (htt : TTok P tt) {Γ : Nat → Gam} {f : Nat} {F : FnD} (hF : FnOk P tt Γ f F) (k : Nat) (hΓ : ∀ j, j < k → GamOk P (Γ j)) : SpecOk P f (F.sp k) := by
  have hforms := hF.forms
  unfold FnD.formsOk at hforms
  simp only [Bool.and_eq_true] at hforms
  obtain ⟨⟨⟨⟨⟨⟨⟨⟨⟨⟨⟨⟨⟨⟨⟨⟨⟨⟨⟨⟨f1, f2⟩, f3⟩, f4⟩, f5⟩, f6⟩, f7⟩, f8⟩, f9⟩, f10⟩, f11⟩, f12⟩, f13⟩, f14⟩, f15⟩, f16⟩, f17⟩, fdf⟩, fmk⟩, f18⟩, f19⟩ := hforms
  have hn1 : F.fn.results.size = F.nres := by have := beq_of f12; rw [lenN_eq] at this; simpa using this
  have hn2 : F.nres ≤ F.out.slots.length := by have := Nat.le_of_ble_eq_true f13; rwa [lenN_eq] at this
  have hrops : ∀ p ∈ F.ro, p ∈ F.ps := subN_ok f4
  refine ⟨⟨nodupN_ok f1, fun p hp => List.mem_append.mp (subN_ok f2 p hp), fun p hp => disN_ok f3 p hp⟩, hF.enters, ?_⟩
  intro d r hd w args M hh hgo core hlt hE hsz hU
  cases k with
  | zero => have := hF.vc.1 d; rw [show (F.sp 0).fn d = F.f 0 d from rfl] at hd; rw [this] at hd; cases hd
  | succ k =>
    have hd' : F.f (k + 1) d = some r := hd
    rw [hF.vc.2.1 k d] at hd'
    have hcell : ∀ p ∈ F.ps, ∃ t l, lk (F.ini.obj d) p = some (.cells t l) := by
      intro p hp
      have hc := subN_ok f5 p hp
      have hk : p ∈ keysOf (F.ini.obj d) := by
        have e := LSh.keys F.ini d
        have hm : p ∈ F.ini.ids := List.mem_append.mpr (.inr (cellIds_sub _ _ hc))
        exact e ▸ hm
      have hne := mem_keys.mp hk
      cases hg : lk (F.ini.obj d) p with
      | none => exact absurd hg hne
      | some ob =>
        cases ob with
        | cells t l => exact ⟨t, l, rfl⟩
        | row v t T l => exact absurd (row_ids _ _ hg) (disN_ok f6 p hp)
    have ok := mcore_ok (sp := F.sp (k + 1)) core hlt
    have hCps : ∀ p ∈ F.ps, M.C p := fun p hp => by obtain ⟨t, l, hg⟩ := hcell p hp; exact core.cc p t l (by rw [hgo]; exact hg)
    have hCin : ∀ p, M.C p → p ∈ F.ps := fun p hc => by
      have hp := subN_ok f14 p (hU p (core.cu p hc))
      rcases List.mem_append.mp hp with h | h
      · exact h
      · exfalso
        have hk : p ∈ keysOf (F.ini.obj d) := by
          have e := LSh.keys F.ini d
          have hm : p ∈ F.ini.ids := List.mem_append.mpr (by rcases List.mem_append.mp h with h | h; exact .inl h; exact .inr (rowIds_sub _ _ h))
          exact e ▸ hm
        have hne := mem_keys.mp hk
        cases hg : lk (F.ini.obj d) p with
        | none => exact absurd hg hne
        | some ob =>
          cases ob with
          | cells t l => exact absurd (cell_ids _ _ hg) (disN_ok f16 p h)
          | row v t T l => exact core.rc p v t T l (by rw [hgo]; exact hg) hc
    have hks : ∀ p ∈ F.ks, ∃ t T l, lk (F.ini.obj d) p = some (.row 0 t T l) := by
      intro p hp
      have ho := subN_ok f19 p hp
      have hk : p ∈ keysOf (F.ini.obj d) := by
        have e := LSh.keys F.ini d
        have hm : p ∈ F.ini.ids := List.mem_append.mpr (.inl ho)
        exact e ▸ hm
      have hne := mem_keys.mp hk
      cases hg : lk (F.ini.obj d) p with
      | none => exact absurd hg hne
      | some ob =>
        cases ob with
        | cells t l => exact absurd (cell_ids _ _ hg) (disN_ok f16 p (List.mem_append.mpr (.inl ho)))
        | row v t T l =>
          have hv0 : v = 0 := row_ver (s := F.ini) (d := d) hg
          subst hv0; exact ⟨t, T, l, rfl⟩
    have hdis : ∀ p ∈ F.ps, p ∉ F.ks := fun p hp hk => disN_ok f6 p hp (List.mem_append.mpr (.inl (subN_ok f19 p hk)))
    have hpsk : ∀ p, p ∈ appN F.ps F.ks ↔ p ∈ F.ps ∨ p ∈ F.ks := fun p => by rw [appN_eq, List.mem_append]
    let dl0 : List Deferred := match F.df with | none => [] | some (f', p') => [mkDf f' (M.β p').b]
    let K0 : Nat → Option (Hd × Nat × Nat) := fun p => match memN F.ks p with
      | true => match lk (F.ini.obj d) p with | some (.row _ _ T l) => some (M.β p, l.length, T.n) | _ => none
      | false => none
    have hkp : ∀ p ∈ F.ps, K0 p = none := fun p hp => by
      have : memN F.ks p = false := by cases hm : memN F.ks p with | false => rfl | true => exact absurd ((memN_iff _ _).mp hm) (hdis p hp)
      simp only [K0, this]
    have hkk : ∀ p ∈ F.ks, ∃ t T l, lk (F.ini.obj d) p = some (.row 0 t T l) ∧ K0 p = some (M.β p, l.length, T.n) := fun p hp => by
      obtain ⟨t, T, l, hg⟩ := hks p hp
      refine ⟨t, T, l, hg, ?_⟩
      have : memN F.ks p = true := (memN_iff _ _).mpr hp
      simp only [K0, this, hg]
    have hsz' : args.size = lenN F.ini.slots := hsz
    have hns := Nat.le_of_ble_eq_true f8
    have hrel : Rel ((F.sp (k + 1)).base M) ⟨fun p => (M.β p).b, w, K0, dl0⟩ F.fn.ntmps (appN F.ps F.ks) (F.ini.st (appN F.ps F.ks) d) { tmps := args ++ Array.replicate (F.fn.ntmps - args.size) undef, defers := [] } w M := by
      refine ⟨ok, hgo, fun i c hc => ?_, hh.symm, fun i hi => ?_, by simp; omega, ?_, fun p hp => ?_, .rfl⟩
      · obtain ⟨v, h1, h2⟩ := hE i c hc
        refine ⟨v, ?_, h2⟩
        have hi : i < args.size := (Array.getElem?_eq_some_iff.mp h1).1
        rw [Array.getElem?_append_left hi]; exact h1
      · simp only [LSh.st, memN_iff, List.mem_append]
        exact .inl (hU i hi)
      · rw [Bool.not_eq_true'] at fmk
        unfold dfs LSh.st; simp only []; rw [fmk]
      · unfold PsOk
        rcases (hpsk p).mp hp with h | h
        · have hk0 : (⟨fun p => (M.β p).b, w, K0, dl0⟩ : Start).k p = none := hkp p h
          rw [hk0]; exact ⟨hCps p h, rfl⟩
        · obtain ⟨t, T, l, hg, hK⟩ := hkk p h
          have hk0 : (⟨fun p => (M.β p).b, w, K0, dl0⟩ : Start).k p = some (M.β p, l.length, T.n) := hK
          rw [hk0]
          have hgM : M.go p = some (.row 0 t T l) := by rw [hgo]; exact hg
          refine ⟨core.used p (by rw [hgM]; simp), fun t' T' l' hg' => ?_⟩
          rw [hgM] at hg'; injection hg' with hg'; injection hg' with _ _ q3 q4
          subst q3; have q4 := eq_of_heq q4; subst q4
          exact ⟨rfl, rfl, rfl⟩
    have fam : Fam P ((F.sp (k + 1)).base M) (F.cfg tt Γ) F.lab F.fn.ntmps (appN F.ps F.ks) k :=
      ⟨hmix, fun j hj => ⟨htt, hΓ j (by omega), fun p hp => hp⟩, fun _ => rfl, fun _ => rfl, fun _ => rfl, fun p hp => (hpsk p).mpr (.inl (hrops p hp))⟩
    have hβ : ∀ j, DlOk (F.cfg tt Γ j).df ⟨fun p => (M.β p).b, w, K0, dl0⟩ := by
      intro j f' p' hdf
      have hdf : F.df = some (f', p') := hdf
      have hmem : memN F.ps p' = true := by rw [hdf] at fdf; exact fdf
      exact ⟨by simp only [dl0, hdf], hkp p' ((memN_iff _ _).mp hmem)⟩
    have fin : ∀ (e : Ex) (st : St) (a : Act) (w' : World) (M' : Mem), Rel ((F.sp (k + 1)).base M) ⟨fun p => (M.β p).b, w, K0, dl0⟩ F.fn.ntmps (appN F.ps F.ks) st a w' M' → ret0 tt (appN F.ps F.ks) F.nres F.out F.fn.results.toList e st = some r →
        (exOf e = .ret ∨ exOf e = .normal) ∧ ∃ v, (results F.fn a.tmps).run P w' = .ok v w' ∧ (∃ v' M', Ending.returned v = .returned v' ∧ (w'.heap = M'.h ∧ Outer w w') ∧ MOK ((F.sp (k + 1)).base M) M' ∧ M'.go = lk ((F.sp (k + 1)).out.obj r) ∧ VR M' (asRes (F.sp (k + 1)).nres (valsE ((F.sp (k + 1)).out.env r))) v' ∧
      (∀ p, M'.U p → M'.go p ≠ none ∨ M'.C p) ∧ (∀ p, M'.C p → M'.go p ≠ none ∨ M.C p) ∧ (∀ p, M'.C p → M.U p → M.C p) ∧ (∀ p, M.C p → M'.C p ∧ (M'.β p).b = (M.β p).b) ∧ Kept (F.sp (k + 1)).ks M M') := by
      intro e st a w' M' hr hret
      obtain ⟨he, v, M1, g1, g2, g3, g4, g5, g6, g7, g8, g9⟩ := ret_ok (P := P) htt hr (fun p hp => hrops p hp) hkp (fun p hp => by obtain ⟨t, T, l, _, hK⟩ := hkk p hp; exact ⟨_, hK⟩) hn1 f11 hn2 hret
      have he : exOf e = .ret ∨ exOf e = .normal := by rcases he with rfl | rfl <;> first | exact .inl rfl | exact .inr rfl
      refine ⟨he, v, g1, v, M1, rfl, ⟨g2, hr.out⟩, g3, g4, g5, fun p hp => ?_, fun p hp => ?_, fun p hp hpu => ?_, fun p hp => g8 p (hCin p hp), fun p hp v0 t0 T0 l0 hg0 => ?_⟩
      · have hk : p ∈ F.ps ∨ p ∈ F.out.ids := by
          rcases g7 p hp with h | h
          · exact .inl h
          · simpa using subN_ok f15 p h
        rcases hk with h | h
        · exact .inr (g8 p h).1
        · left; rw [g4]; exact mem_keys.mp ((LSh.keys F.out r).symm ▸ h)
      · have hk : p ∈ F.ps ∨ p ∈ F.out.ids := by
          rcases g6 p hp with h | h
          · exact .inl h
          · simpa using subN_ok f15 p h
        rcases hk with h | h
        · exact .inr (hCps p h)
        · left; rw [g4]; exact mem_keys.mp ((LSh.keys F.out r).symm ▸ h)
      · have hp' := subN_ok f14 p (hU p hpu)
        rcases List.mem_append.mp hp' with h | h
        · exact hCps p h
        · exfalso
          have hin : p ∈ F.ini.ids := List.mem_append.mpr (by rcases List.mem_append.mp h with h | h; exact .inl h; exact .inr (rowIds_sub _ _ h))
          have hout : p ∈ F.out.ids := by
            rcases List.mem_append.mp (subN_ok f2 p hin) with h' | h'
            · exact absurd h (disN_ok f6 p (hrops p h'))
            · exact h'
          have hk : p ∈ keysOf (F.out.obj r) := (LSh.keys F.out r).symm ▸ hout
          have hne := mem_keys.mp hk
          cases hg : lk (F.out.obj r) p with
          | none => exact absurd hg hne
          | some ob =>
            cases ob with
            | cells t l => exact absurd (cell_ids _ _ hg) (disN_ok f17 p h)
            | row v t T l => exact g3.rc p v t T l (by rw [g4]; exact hg) hp
      · obtain ⟨q, hq, k1, k2, k3⟩ := g9 p hp v0 t0 T0 l0 hg0
        obtain ⟨t, T, l, hg, hK⟩ := hkk p hp
        have hq : K0 p = some q := hq
        rw [hK] at hq; injection hq with hq; subst hq
        exact ⟨0, t, T, l, by rw [hgo]; exact hg, k1, k2, k3⟩
    let PO : Ending → World → Prop := fun e w' => ∃ v M', e = Ending.returned v ∧ (w'.heap = M'.h ∧ Outer w w') ∧ MOK ((F.sp (k + 1)).base M) M' ∧ M'.go = lk ((F.sp (k + 1)).out.obj r) ∧ VR M' (asRes (F.sp (k + 1)).nres (valsE ((F.sp (k + 1)).out.env r))) v ∧
      (∀ p, M'.U p → M'.go p ≠ none ∨ M'.C p) ∧ (∀ p, M'.C p → M'.go p ≠ none ∨ M.C p) ∧ (∀ p, M'.C p → M.U p → M.C p) ∧ (∀ p, M.C p → M'.C p ∧ (M'.β p).b = (M.β p).b) ∧ Kept (F.sp (k + 1)).ks M M'
    have go : ∀ (post : Exit → Act → World → Prop), (∀ j, j ≤ k → ∀ e st a w' M', Rel ((F.sp (k + 1)).base M) ⟨fun p => (M.β p).b, w, K0, dl0⟩ F.fn.ntmps (appN F.ps F.ks) st a w' M' → retK F.out (F.cfg tt Γ j) F.nres F.fn.results.toList e st = some r → post (exOf e) a w') →
        (bodyOf F.fn).wp P post { tmps := args ++ Array.replicate (F.fn.ntmps - args.size) undef, defers := [] } w := fun post hpost =>
      exec_ok fam hβ (bodyOf F.fn) (fun k => retK F.out (F.cfg tt Γ k) F.nres F.fn.results.toList) post hF.vc.2.2 f7 k (Nat.le_refl _) hpost k (Nat.le_refl _) _ _ w M hrel hd'
    cases hdf : F.df with
    | none =>
      have hdl : dl0 = [] := by simp only [dl0, hdf]
      have hwp : (bodyOf F.fn).wp P (bodyPost P F.fn PO) { tmps := args ++ Array.replicate (F.fn.ntmps - args.size) undef, defers := [] } w := by
        refine go _ fun j hj e st a w' M' hr hret => ?_
        have hd0 : a.defers = [] := by
          rw [hr.df]; unfold dfs; split
          · exact hdl
          · rfl
        have hret0 : ret0 tt (appN F.ps F.ks) F.nres F.out F.fn.results.toList e st = some r := by
          unfold retK at hret
          split at hret
          · exact hret
          · have : (F.cfg tt Γ j).df = none := hdf
            rw [this] at hret; cases hret
        obtain ⟨he, v, h1, h2⟩ := fin e st a w' M' hr hret0
        rcases he with he | he <;> rw [he] <;> exact ⟨hd0, v, h1, h2⟩
      exact ⟨calls_of_wp hF.fn hF.body hwp, fun _ u => callsD_of_wp hF.fn hF.body hwp⟩
    | some fp =>
      obtain ⟨f', p'⟩ := fp
      refine ⟨?_, fun h => by
        have : F.nd = true := h
        unfold FnD.nd at this; rw [hdf] at this; cases this⟩
      have hdl : dl0 = [mkDf f' (M.β p').b] := by simp only [dl0, hdf]
      have hmem : p' ∈ F.ps := (memN_iff _ _).mp (by rw [hdf] at fdf; exact fdf)
      refine calls_of_wp_defers hF.fn hF.body (go _ fun j hj e st a w' M' hr hret => ?_)
      unfold retK at hret
      split at hret
      · rename_i hmk
        have hd0 : a.defers = [] := by rw [hr.df]; unfold dfs; rw [hmk]
        obtain ⟨he, v, h1, h2⟩ := fin e st a w' M' hr hret
        rcases he with he | he <;> rw [he] <;> (show Leaves P F.fn a.tmps PO a.defers .returning w'; rw [hd0]; exact ⟨v, h1, h2⟩)
      · rename_i hmk
        have hd0 : a.defers = [mkDf f' (M.β p').b] := by rw [hr.df]; unfold dfs; rw [hmk]; exact hdl
        have hcd : (F.cfg tt Γ j).df = some (f', p') := hdf
        rw [hcd] at hret; simp only [] at hret
        split at hret <;> first | (cases hret; done) | skip
        rename_i sps hl
        split at hret <;> first | (cases hret; done) | skip
        rename_i s hs
        obtain ⟨sp, hsp, hs⟩ := firstStep_some hs
        split at hs <;> first | (cases hs; done) | skip
        rename_i hnd
        have hspok := (fam.fits j (by omega)).Γ f' sps hl sp hsp
        unfold runStp at hret
        cases h0 : anyN (memN (MARK :: st.used)) s.cr with
        | true => rw [h0] at hret; cases hret
        | false =>
          obtain ⟨h1, hnm⟩ := anyN_mark h0
          rw [h0] at hret; simp only [] at hret
          cases h2 : anyN (memN (F.cfg tt Γ j).ro) s.wr with
          | true => rw [h2] at hret; cases hret
          | false =>
            rw [h2] at hret; simp only [] at hret
            cases hx : s.o with
            | none => rw [hx] at hret; cases hret
            | some x =>
              rw [hx] at hret; simp only [Option.bind_some] at hret
              have hpsp := hr.ps p' ((hpsk p').mpr (.inl hmem))
              unfold PsOk at hpsp
              have hk0 : (⟨fun p => (M.β p).b, w, K0, dl0⟩ : Start).k p' = none := hkp p' hmem
              rw [hk0] at hpsp
              have hargs : VRL M' [.ptr p' 0] (#[Value.pointer (some ⟨(M.β p').b, 0, none⟩)] : Array Value).toList := by
                simp only [VRL, VR]
                exact ⟨_, [], rfl, ⟨hpsp.1, by rw [hpsp.2]⟩, rfl⟩
              have hinv := callStep_ok hr.ok hr.go hr.hw hspok hargs hs x hx (fun d hd' hu => by
                have := hr.used d hu
                have : anyN (memN st.used) s.cr = true := (anyN_iff _ _).mpr ⟨d, hd', this⟩
                rw [h1] at this; cases this) (fun d hd' hro => by
                have : anyN (memN (F.cfg tt Γ j).ro) s.wr = true := (anyN_iff _ _).mpr ⟨d, hd', (memN_iff _ _).mpr ((fam.fits j (by omega)).ro d hro)⟩
                rw [h2] at this; cases this)
              have after : ∀ e' w2, (∃ v M2, e' = Ending.returned v ∧ Outer w' w2 ∧ w2.heap = M2.h ∧ MOK ((F.sp (k + 1)).base M) M2 ∧ Ext M' M2 ∧ VR M2 (s.f x).v v ∧ M2.go = lk (upO (s.f x).up st.obj) ∧ (∀ i, M2.U i → i ∈ s.cr ∨ M'.U i)) →
                  (∃ v, e' = Ending.returned v) ∧ (exOf e = .ret ∨ exOf e = .normal) ∧ ∃ v, (results F.fn a.tmps).run P w2 = .ok v w2 ∧ PO (.returned v) w2 := by
                rintro e' w2 ⟨v, M2, rfl, q1, q2, q3, q4, q5, q6, q7⟩
                have hr2 := hr.apply (dst := none) rfl q1 q2 q3 q4 q5 q6 q7 hnm
                obtain ⟨he, v2, k1, k2⟩ := fin e _ _ w2 M2 hr2 hret
                exact ⟨⟨v, rfl⟩, he, v2, k1, k2⟩
              rcases hinv with ⟨hent, _, hD⟩ | ⟨v, w2, hval⟩
              · have hD := hD hnd .returning
                have key : Leaves P F.fn a.tmps PO [mkDf f' (M.β p').b] .returning w' := by
                  refine leaves_cons (by intro h; cases h) (by simpa [invoke] using hent) (hD.mono fun e' u' w2 he => ?_)
                  obtain ⟨hu, he⟩ := he
                  obtain ⟨⟨v, rfl⟩, _, v2, k1, k2⟩ := after e' w2 he
                  subst hu
                  exact ⟨v2, k1, k2⟩
                have hex : exOf e = .ret ∨ exOf e = .normal := by
                  cases e with
                  | normal => exact .inr rfl
                  | ret => exact .inl rfl
                  | exit i => simp [ret0] at hret
                rcases hex with he | he <;> rw [he] <;> (show Leaves P F.fn a.tmps PO a.defers .returning w'; rw [hd0]; exact key)
              · have hf : sp.nd = false := hval.1
                rw [hnd] at hf; cases hf
end
end Go.Proofs.Ytcjiipbppkdkaaa.Eng
