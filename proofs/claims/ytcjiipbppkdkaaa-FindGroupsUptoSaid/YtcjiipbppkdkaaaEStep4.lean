/- The engine, part 7: lists and texts cut; lists that grow. -/
import Derived.Test.YtcjiipbppkdkaaaEStep3
import Derived.Laws.IdiomCopy
namespace Go.Proofs.Ytcjiipbppkdkaaa.Eng
open Go
set_option linter.unusedVariables false
set_option linter.unusedSimpArgs false
section
variable {P : Program} {B : Base} {M : Mem} {obj : List (Nat × Ob)} {a : Act} {w : World} {o : Oper} {K : Act → World → Prop} {Q : Exit → Act → World → Prop} {tt : TT} {env : List (Nat × CV)} {cr : List Nat}
theorem sliceBd_ok (hE : RelE M env a.tmps) {x : Option Operand} {d n : Int} (h : sliceBd (x.map (operand env)) d = some n) : (x = none ∧ n = d) ∨ ∃ y k, x = some y ∧ a.eval y = .int k n := by
 cases x with
 | none => simp only [Option.map_none, sliceBd] at h; injection h with h; exact .inl ⟨rfl, h.symm⟩
 | some y =>
  simp only [Option.map_some] at h
  have hy := operand_ok hE y
  cases hc : operand env y <;> rw [hc] at h <;> simp only [sliceBd] at h <;> first | (cases h; done) | skip
  injection h with h; subst h
  rw [hc] at hy
  exact .inr ⟨y, _, rfl, hy.int⟩
theorem bound_run {k : IntKind} {n : Int} {y : Nat} {code : BoundsCode} (h0 : 0 ≤ n) (h1 : n ≤ y) (w : World) : (Instr.sliceBound (.int k n) y code).run P w = .ok n.toNat w := by
 simp [Instr.sliceBound, asIntOf, h0, h1]
theorem constBd_ok {x : Option Operand} {d n : Nat} (h : constBd x d = some n) : sliceBd (x.map (operand env)) (d : Int) = some (n : Int) := by
 cases x with
 | none => simp only [constBd] at h; injection h with h; subst h; rfl
 | some y =>
  simp only [constBd, constIx] at h
  split at h <;> first | (cases h; done) | skip
  split at h <;> first | (cases h; done) | skip
  injection h with h; subst h
  rfl
theorem bounds_run (hE : RelE M env a.tmps) {lo hi : Option Operand} {l h : Int} {sl : Bool} {len cap : Nat} (hl : sliceBd (lo.map (operand env)) 0 = some l) (hh : sliceBd (hi.map (operand env)) len = some h)
  (h0 : 0 ≤ l) (h1 : l ≤ h) (h2 : h ≤ len) (hc : len ≤ cap) (w : World) : (Instr.sliceBounds sl len cap (lo.map a.eval) (hi.map a.eval) none).run P w = .ok (l.toNat, h.toNat, cap) w := by
 rcases sliceBd_ok hE hl with ⟨rfl, rfl⟩ | ⟨y, k, rfl, hy⟩ <;> rcases sliceBd_ok hE hh with ⟨rfl, rfl⟩ | ⟨y', k', rfl, hy'⟩
 ·simp [Instr.sliceBounds]
 ·simp only [Instr.sliceBounds, Option.map_none, Option.map_some, hy', Sem.run_bind, Sem.run_pure, Result.andThen_ok, bound_run (show 0 ≤ h by omega) (show h ≤ (cap : Int) by omega)]; rfl
 ·simp only [Instr.sliceBounds, Option.map_none, Option.map_some, hy, Sem.run_bind, Sem.run_pure, Result.andThen_ok, bound_run h0 (show l ≤ (len : Int) by omega)]; simp
 ·simp only [Instr.sliceBounds, Option.map_none, Option.map_some, hy, hy', Sem.run_bind, Sem.run_pure, Result.andThen_ok, bound_run (show 0 ≤ h by omega) (show h ≤ (cap : Int) by omega), bound_run h0 (show l ≤ ((h.toNat : Nat) : Int) by omega)]
theorem bounds_run3 (hE : RelE M env a.tmps) {lo hi mx : Option Operand} {l h m : Int} {len cap : Nat} {y : Operand} {k : IntKind} (hl : sliceBd (lo.map (operand env)) 0 = some l) (hh : sliceBd (hi.map (operand env)) len = some h)
  (hhi : hi ≠ none) (hm : mx = some y) (hy : a.eval y = .int k m)
  (h0 : 0 ≤ l) (h1 : l ≤ h) (h2 : h ≤ m) (hc : m ≤ cap) (w : World) : (Instr.sliceBounds true len cap (lo.map a.eval) (hi.map a.eval) (mx.map a.eval)).run P w = .ok (l.toNat, h.toNat, m.toNat) w := by
 subst hm
 rcases sliceBd_ok hE hl with ⟨rfl, rfl⟩ | ⟨y1, k1, rfl, hy1⟩ <;> rcases sliceBd_ok hE hh with ⟨rfl, rfl⟩ | ⟨y', k', rfl, hy'⟩
 ·exact absurd rfl hhi
 ·simp only [Instr.sliceBounds, Option.map_none, Option.map_some, hy, hy', Sem.run_bind, Sem.run_pure, Result.andThen_ok, bound_run (show 0 ≤ m by omega) hc, bound_run (show 0 ≤ h by omega) (show h ≤ ((m.toNat : Nat) : Int) by omega)]; rfl
 ·exact absurd rfl hhi
 ·simp only [Instr.sliceBounds, Option.map_none, Option.map_some, hy, hy1, hy', Sem.run_bind, Sem.run_pure, Result.andThen_ok, bound_run (show 0 ≤ m by omega) hc, bound_run (show 0 ≤ h by omega) (show h ≤ ((m.toNat : Nat) : Int) by omega), bound_run h0 (show l ≤ ((h.toNat : Nat) : Int) by omega)]
theorem SlR.part0 {S : Seal} {h : Array Obj} {e : Ty} {a : Addr} {lo hi m size : Nat} (h0 : hi = 0) :
  SlR S h e ((([] : List e.den).take hi).drop lo) (.slice (if m = lo then some a else (some a : Option Addr).map (·.add (lo * size))) (hi - lo) (m - lo)) :=
 .inl ⟨by simp, _, _, by rw [show hi - lo = 0 by omega], fun h => by split at h <;> cases h⟩
theorem SlR.part {S : Seal} {h : Array Obj} {e : Ty} {l : List e.den} {b o : Nat} (hel : ∀ (i : Nat) (hi : i < l.length), ElR S h e l[i] b (o + i * e.n)) {lo hi m size : Nat} (hs : size = e.n) (h1 : lo ≤ hi) (h2 : hi ≤ l.length) (h3 : hi ≤ m) :
  SlR S h e ((l.take hi).drop lo) (.slice (if m = lo then some ⟨b, o, none⟩ else (some ⟨b, o, none⟩ : Option Addr).map (·.add (lo * size))) (hi - lo) (m - lo)) := by
 subst hs
 have hlen : ((l.take hi).drop lo).length = hi - lo := by simp; omega
 by_cases he : m = lo
 ·rw [if_pos he]
  refine .inr ⟨b, o, m - lo, by rw [hlen], by omega, fun i hi' => ?_⟩
  rw [hlen] at hi'; omega
 ·rw [if_neg he]
  simp only [Option.map_some, add_none]
  refine .inr ⟨b, o + lo * e.n, m - lo, by rw [hlen], by omega, fun i hi' => ?_⟩
  rw [hlen] at hi'
  have := hel (lo + i) (by omega)
  have e2 : o + lo * e.n + i * e.n = o + (lo + i) * e.n := by rw [Nat.add_mul]; omega
  rw [e2]
  simpa [List.getElem_drop, List.getElem_take] using this
theorem op_slice (htt : TTok P tt) (ok : MOK B M) (hgo : M.go = lk obj) (hE : RelE M env a.tmps) (hw : w.heap = M.h) {t : Nat} {y : Operand} {lo hi mx : Option Operand} (hop : o.op = .slice t y lo hi mx) {s : Stp}
  {Γ : Gam} (h : step tt Γ env (lk obj) o.dst (.slice t y lo hi mx) = some s) (x : s.α) (hx : s.o = some x) (hk : Cont w B M obj s.cr (s.f x) a o.dst K) : o.wp P a w K Q := by
 have hy := operand_ok hE y
 simp only [step] at h
 cases har : arrOf tt t with
 | some q =>
  obtain ⟨d, n, e, de⟩ := q
  rw [har] at h; simp only [] at h
  obtain ⟨hd, hkd, hde, _⟩ := arrOf_some har
  split at h <;> first | (cases h; done) | skip
  rename_i ob off hc
  rw [hc] at hy
  simp only [VR] at hy
  split at h <;> first | (cases h; done) | skip
  rename_i lo' hi' hlo hhi
  split at h <;> first | (cases h; done) | skip
  rename_i hb
  simp only [Bool.and_eq_true] at hb
  have b1 := Nat.le_of_ble_eq_true hb.1.1.1
  have b2 := Nat.le_of_ble_eq_true hb.1.1.2
  have b3 : lo' < n := Nat.le_of_ble_eq_true hb.1.2
  have b4 := beq_of hb.2
  injection h with h; subst h
  have hbr := bounds_run (P := P) (sl := false) (len := n) (cap := n) hE (constBd_ok (env := env) hlo) (constBd_ok (env := env) hhi) (by omega) (by omega) (by omega) (Nat.le_refl _) w
  refine wp_same (v := .slice (some ⟨(M.β ob).b, off + lo', none⟩) (hi' - lo') (n - lo')) (w' := w) (d := ⟨.asl ob (off + lo') (hi' - lo'), []⟩) ?_ hw ok hgo (by simp only [VR]; exact ⟨hy.1, _, rfl⟩) rfl hk
  have hu := (htt t d hd).arr n e hkd
  have hne : ¬ n = lo' := by omega
  simp only [execOp, hop, hy.2, Instr.sliceAt, Instr.sureAddr, Sem.run_bind, Sem.run_pure, run_underlying hu, Result.andThen_ok, Option.map_none, hbr, (htt e de hde).size_run, b4, Int.toNat_natCast, if_neg hne, add_none, Nat.mul_one]
 | none =>
 rw [har] at h; simp only [sliceStep] at h
 split at h
 ·rename_i st hc hmx
  have hmx : mx = none := by cases mx with | none => rfl | some m => simp at hmx
  subst hmx
  cases hkd : kindOf tt t with
  | none => rw [hkd] at h; cases h
  | some kd =>
   cases hl : sliceBd (lo.map (operand env)) 0 with
   | none => rw [hkd, hl] at h; cases kd <;> cases h
   | some l =>
    cases hh : sliceBd (hi.map (operand env)) st.size with
    | none => rw [hkd, hl, hh] at h; cases kd <;> cases h
    | some hb =>
     rw [hkd, hl, hh] at h
     cases kd <;> simp only [] at h <;> first | (cases h; done) | skip
     injection h with h; subst h
     obtain ⟨d, hd, hk'⟩ := kindOf_some hkd
     have hck := ck_some hx
     simp only [Bool.and_eq_true, decide_eq_true_eq] at hck
     rw [hc] at hy
     have hbr := bounds_run (P := P) (sl := false) (cap := st.size) hE hl hh hck.1.1 hck.1.2 hck.2 (Nat.le_refl _) w
     refine wp_same (v := .string (st.extract l.toNat hb.toNat)) (w' := w) (d := ⟨_, []⟩) ?_ hw ok hgo (by simp only [VR]) rfl hk
     have hu := (htt t d hd).str hk'
     simp only [execOp, hop, hy.str, Instr.sliceAt, Sem.run_bind, run_underlying hu, Result.andThen_ok, Instr.slice, Option.map_none, Option.isSome_none, Bool.false_eq_true, if_false, hbr, Sem.run_pure, Sem.run_ite]
 ·rename_i x0 _
  cases hst : sliceOf tt t with
  | none => rw [hst] at h; cases h
  | some q =>
   obtain ⟨e, de⟩ := q
   rw [hst] at h; simp only [] at h
   obtain ⟨d, hd, hkd, hde, hsz, hby, hmu⟩ := sliceOf_some hst
   cases hl0 : asL (lk obj) de.ty (operand env y) with
   | none =>
    rw [hl0] at h; simp only [] at h
    cases hcy : operand env y <;> rw [hcy] at h <;> simp only [] at h <;> first | (cases h; done) | skip
    rename_i p ver
    cases hma : muAt (lk obj) de.ty e p ver with
    | none => rw [hma] at h; cases h
    | some l =>
     rw [hma] at h; simp only [] at h
     have hg := muAt_some hma
     rw [← hgo] at hg
     rw [hcy] at hy
     have hv := hy.own hg
     have hor := ok.obj p _ hg
     have hu := (htt t d hd).slice e hkd
     cases hl : sliceBd (lo.map (operand env)) 0 with
     | none => rw [hl] at h; cases h
     | some lb =>
      cases hh : sliceBd (hi.map (operand env)) l.length with
      | none => rw [hl, hh] at h; cases h
      | some hb =>
       rw [hl, hh] at h; try simp only [] at h
       cases hmx : mx with
       | some m => rw [hmx] at h; simp only [Option.map_some] at h; cases h
       | none =>
        rw [hmx] at h; simp only [Option.map_none] at h
        injection h with h; subst h
        have hck := ck_some hx
        simp only [Bool.and_eq_true, decide_eq_true_eq] at hck
        have hvr : ∀ v, v = (M.β p).part (lb.toNat * de.ty.n) lb.toNat (hb - lb).toNat → VR M (.part p ver lb.toNat (hb - lb).toNat) v := by
         intro v hv
         simp only [VR]
         refine ⟨ok.used p (by rw [hg]; simp), fun v0 t0 T0 l0 hg0 => ?_⟩
         rw [hg] at hg0; injection hg0 with hg0; injection hg0 with q1 q2 q3 q4
         subst q1; subst q3; have q4 := eq_of_heq q4; subst q4
         exact ⟨Nat.le_refl _, fun _ => ⟨by have := hck.2; show _ ≤ List.length (α := de.ty.den) l; omega, hv⟩⟩
        cases hn : (M.β p).nil with
        | true =>
         simp only [OR, hn] at hor
         have h0 : l = [] := hor
         subst h0
         have h2 := hck.2
         simp at h2
         have hlb : lb = 0 := by omega
         have hhb : hb = 0 := by omega
         have hbr := bounds_run (P := P) (sl := true) (len := 0) (cap := 0) hE hl hh hck.1.1 hck.1.2 hck.2 (Nat.zero_le _) w
         refine wp_same (v := .slice none 0 0) (w' := w) (d := ⟨_, []⟩) ?_ hw ok hgo (hvr _ (by simp [Hd.part, hn])) rfl hk
         have hv : a.eval y = .slice none 0 0 := by rw [hv]; simp [Hd.slice, hn]
         simp only [execOp, hop, hv, hmx, Instr.sliceAt, Sem.run_bind, run_underlying hu, Result.andThen_ok, Instr.slice, Option.map_none, hbr, (htt e de hde).size_run, Sem.run_pure, hlb, hhb]; rfl
        | false =>
         simp only [OR, hn] at hor
         have hle : List.length (α := de.ty.den) l ≤ (M.β p).cap := hor.1
         have hv : a.eval y = .slice (some ⟨(M.β p).b, (M.β p).off, none⟩) (List.length (α := de.ty.den) l) (M.β p).cap := by rw [hv]; simp only [Hd.slice, hn]; rfl
         have hbr := bounds_run (P := P) (sl := true) (cap := (M.β p).cap) hE hl hh hck.1.1 hck.1.2 hck.2 hle w
         refine wp_same (v := _) (w' := w) (d := ⟨_, []⟩) ?_ hw ok hgo (hvr _ rfl) rfl hk
         have e1 : (hb - lb).toNat = hb.toNat - lb.toNat := by omega
         simp only [execOp, hop, hv, hmx, Instr.sliceAt, Sem.run_bind, run_underlying hu, Result.andThen_ok, Instr.slice, Option.map_none, hbr, (htt e de hde).size_run, Sem.run_pure, Hd.part, hn, e1, hsz]
         split <;> simp [add_none]
   | some l =>
    rw [hl0] at h; simp only [] at h
    have hsl := asL_ok ok (by rw [hgo]; exact hl0) hy
    have hu := (htt t d hd).slice e hkd
    cases hl : sliceBd (lo.map (operand env)) 0 with
    | none => rw [hl] at h; cases h
    | some lb =>
     cases hh : sliceBd (hi.map (operand env)) l.length with
     | none => rw [hl, hh] at h; cases h
     | some hb =>
      rw [hl, hh] at h; try simp only [] at h
      cases hmx : mx with
      | none =>
       rw [hmx] at h; simp only [Option.map_none] at h
       injection h with h; subst h
       have hck := ck_some hx
       simp only [Bool.and_eq_true, decide_eq_true_eq] at hck
       rcases hsl with ⟨rfl, aa, cc, hv, hcc⟩ | ⟨b, oo, c, hv, hle, hel⟩
       ·have hlb : lb = 0 := by have := hck.2; simp at this; omega
        have hhb : hb = 0 := by have := hck.2; simp at this; omega
        have hbr := bounds_run (P := P) (sl := true) (len := 0) (cap := cc) hE hl hh hck.1.1 hck.1.2 hck.2 (Nat.zero_le _) w
        cases aa with
        | some aa =>
         refine wp_same (v := _) (w' := w) (d := ⟨_, []⟩) ?_ hw ok hgo (by simp only [VR]; exact SlR.part0 (a := aa) (m := cc) (size := de.size) (by rw [hhb]; rfl)) rfl hk
         simp only [execOp, hop, hv, hmx, Instr.sliceAt, Sem.run_bind, run_underlying hu, Result.andThen_ok, Instr.slice, Option.map_none, hbr, (htt e de hde).size_run, Sem.run_pure]
        | none =>
        obtain rfl := hcc rfl
        refine wp_same (v := .slice none 0 0) (w' := w) (d := ⟨_, []⟩) ?_ hw ok hgo (by simp only [VR]; exact .inl ⟨by simp, none, 0, rfl, fun _ => rfl⟩) rfl hk
        simp only [execOp, hop, hv, hmx, Instr.sliceAt, Sem.run_bind, run_underlying hu, Result.andThen_ok, Instr.slice, Option.map_none, hbr, (htt e de hde).size_run, Sem.run_pure, hlb, hhb]; rfl
       ·have hbr := bounds_run (P := P) (sl := true) (cap := c) hE hl hh hck.1.1 hck.1.2 hck.2 hle w
        refine wp_same (v := _) (w' := w) (d := ⟨_, []⟩) ?_ hw ok hgo (by simp only [VR]; exact SlR.part (m := c) hel hsz (show lb.toNat ≤ hb.toNat by omega) (by omega) (by omega)) rfl hk
        simp only [execOp, hop, hv, hmx, Instr.sliceAt, Sem.run_bind, run_underlying hu, Result.andThen_ok, Instr.slice, Option.map_none, hbr, (htt e de hde).size_run, Sem.run_pure]
      | some m =>
       rw [hmx] at h; simp only [Option.map_some] at h
       have hm := operand_ok hE m
       cases hcm : operand env m <;> rw [hcm] at h <;> simp only [] at h <;> first | (cases h; done) | skip
       rename_i k mn
       rw [hcm] at hm
       split at h
       ·rename_i hhi
        injection h with h; subst h
        have hck := ck_some hx
        simp only [Bool.and_eq_true, decide_eq_true_eq] at hck
        have hhi' : hi ≠ none := by intro h0; rw [h0] at hhi; cases hhi
        rcases hsl with ⟨rfl, aa, cc, hv, hcc⟩ | ⟨b, oo, c, hv, hle, hel⟩
        ·have h2 := hck.2
         simp at h2
         have hlb : lb = 0 := by omega
         have hhb : hb = 0 := by omega
         have hmb : mn = 0 := by omega
         have hbr := bounds_run3 (P := P) (len := 0) (cap := cc) hE hl hh hhi' hmx hm.int hck.1.1.1 hck.1.1.2 hck.1.2 (by omega) w
         rw [hmx] at hbr
         cases aa with
         | some aa =>
          refine wp_same (v := _) (w' := w) (d := ⟨_, []⟩) ?_ hw ok hgo (by simp only [VR]; exact SlR.part0 (a := aa) (m := mn.toNat) (size := de.size) (by rw [hhb]; rfl)) rfl hk
          simp only [execOp, hop, hv, hmx, Instr.sliceAt, Sem.run_bind, run_underlying hu, Result.andThen_ok, Instr.slice, hbr, (htt e de hde).size_run, Sem.run_pure]
         | none =>
         obtain rfl := hcc rfl
         refine wp_same (v := .slice none 0 0) (w' := w) (d := ⟨_, []⟩) ?_ hw ok hgo (by simp only [VR]; exact .inl ⟨by simp, none, 0, rfl, fun _ => rfl⟩) rfl hk
         simp only [execOp, hop, hv, hmx, Instr.sliceAt, Sem.run_bind, run_underlying hu, Result.andThen_ok, Instr.slice, hbr, (htt e de hde).size_run, Sem.run_pure, hlb, hhb, hmb]; rfl
        ·have hbr := bounds_run3 (P := P) (len := l.length) (cap := c) hE hl hh hhi' hmx hm.int hck.1.1.1 hck.1.1.2 hck.1.2 (by omega) w
         refine wp_same (v := _) (w' := w) (d := ⟨_, []⟩) ?_ hw ok hgo (by simp only [VR]; exact SlR.part (m := mn.toNat) hel hsz (show lb.toNat ≤ hb.toNat by omega) (by omega) (by omega)) rfl hk
         rw [hmx] at hbr
         simp only [execOp, hop, hv, hmx, Instr.sliceAt, Sem.run_bind, run_underlying hu, Result.andThen_ok, Instr.slice, hbr, (htt e de hde).size_run, Sem.run_pure]
       ·cases h
theorem ElR.move {S S' : Seal} {h h' : Array Obj} (hS : ∀ b x, S b x → S' b x) (hc : ∀ b x, S b x → cellAt h' b x = cellAt h b x) : ∀ (T : Ty) (x : T.den) (b o b' o' : Nat), ElR S h T x b o →
  (∀ j, j < T.n → S' b' (o' + j)) → (∀ j, j < T.n → cellAt h' b' (o' + j) = cellAt h b (o + j)) → ElR S' h' T x b' o' := by
 intro T
 induction T with
 | int k => intro x b o b' o' hx h1 h2; exact ⟨by simpa using h1 0 (by simp [Ty.n]), by have := h2 0 (by simp [Ty.n]); simp at this; rw [this]; exact hx.2⟩
 | bool => intro x b o b' o' hx h1 h2; exact ⟨by simpa using h1 0 (by simp [Ty.n]), by have := h2 0 (by simp [Ty.n]); simp at this; rw [this]; exact hx.2⟩
 | str => intro x b o b' o' hx h1 h2; exact ⟨by simpa using h1 0 (by simp [Ty.n]), by have := h2 0 (by simp [Ty.n]); simp at this; rw [this]; exact hx.2⟩
 | flt => intro x b o b' o' hx h1 h2; exact ⟨by simpa using h1 0 (by simp [Ty.n]), by have := h2 0 (by simp [Ty.n]); simp at this; rw [this]; exact hx.2⟩
 | pt => intro x b o b' o' hx h1 h2; exact ⟨by simpa using h1 0 (by simp [Ty.n]), by have := h2 0 (by simp [Ty.n]); simp at this; rw [this]; exact hx.2⟩
 | sl e ih =>
  intro x b o b' o' hx h1 h2
  obtain ⟨g1, v, g2, g3⟩ := hx
  refine ⟨by simpa using h1 0 (by simp [Ty.n]), v, by have := h2 0 (by simp [Ty.n]); simp at this; rw [this]; exact g2, ?_⟩
  exact SlR.mono (e := e) (l := x) hS hc g3
 | nil => intro x b o b' o' _ _ _; trivial
 | cons p q ihp ihq =>
  intro x b o b' o' hx h1 h2
  refine ⟨ihp _ _ _ _ _ hx.1 (fun j hj => h1 j (by simp only [Ty.n]; omega)) (fun j hj => h2 j (by simp only [Ty.n]; omega)), ?_⟩
  refine ihq _ _ _ _ _ hx.2 (fun j hj => by have := h1 (p.n + j) (by simp only [Ty.n]; omega); rwa [← Nat.add_assoc] at this) (fun j hj => by
   have := h2 (p.n + j) (by simp only [Ty.n]; omega)
   rwa [← Nat.add_assoc, ← Nat.add_assoc] at this)
 | mu e ih => intro x b o b' o' hx h1 h2; exact ih x b o b' o' hx h1 h2
theorem ElR.moveF {S S' : Seal} {h h' : Array Obj} : ∀ (T : Ty) (x : T.den) (b o b' o' : Nat), T.flat = true → ElR S h T x b o →
  (∀ j, j < T.n → S' b' (o' + j)) → (∀ j, j < T.n → cellAt h' b' (o' + j) = cellAt h b (o + j)) → ElR S' h' T x b' o' := by
 intro T
 induction T with
 | int k => intro x b o b' o' _ hx h1 h2; exact ⟨by simpa using h1 0 (by simp [Ty.n]), by have := h2 0 (by simp [Ty.n]); simp at this; rw [this]; exact hx.2⟩
 | bool => intro x b o b' o' _ hx h1 h2; exact ⟨by simpa using h1 0 (by simp [Ty.n]), by have := h2 0 (by simp [Ty.n]); simp at this; rw [this]; exact hx.2⟩
 | str => intro x b o b' o' _ hx h1 h2; exact ⟨by simpa using h1 0 (by simp [Ty.n]), by have := h2 0 (by simp [Ty.n]); simp at this; rw [this]; exact hx.2⟩
 | flt => intro x b o b' o' _ hx h1 h2; exact ⟨by simpa using h1 0 (by simp [Ty.n]), by have := h2 0 (by simp [Ty.n]); simp at this; rw [this]; exact hx.2⟩
 | pt => intro x b o b' o' _ hx h1 h2; exact ⟨by simpa using h1 0 (by simp [Ty.n]), by have := h2 0 (by simp [Ty.n]); simp at this; rw [this]; exact hx.2⟩
 | sl e ih => intro x b o b' o' hf; cases hf
 | nil => intro x b o b' o' _ _ _ _; trivial
 | cons p q ihp ihq =>
  intro x b o b' o' hf hx h1 h2
  simp only [Ty.flat] at hf
  cases hp : p.flat with
  | false => rw [hp] at hf; cases hf
  | true =>
   rw [hp] at hf
   refine ⟨ihp _ _ _ _ _ hp hx.1 (fun j hj => h1 j (by simp only [Ty.n]; omega)) (fun j hj => h2 j (by simp only [Ty.n]; omega)), ?_⟩
   refine ihq _ _ _ _ _ hf hx.2 (fun j hj => by have := h1 (p.n + j) (by simp only [Ty.n]; omega); rwa [← Nat.add_assoc] at this) (fun j hj => by
    have := h2 (p.n + j) (by simp only [Ty.n]; omega)
    rwa [← Nat.add_assoc, ← Nat.add_assoc] at this)
 | mu e ih => intro x b o b' o' hf; cases hf
structure Src (P : Program) (M : Mem) (T : Ty) (m : List T.den) (v : Value) (size : Nat) (w : World) where
 vs : List Value
 len : vs.length = m.length * T.n
 lenOf : (Builtin.lenOf v).run P w = .ok m.length w
 first : ∀ w' : World, w'.heap = M.h → (Builtin.firstCells size m.length v).run P w' = .ok vs.toArray w'
 one : ∀ u ∈ vs, u.oneCell' = true
 el : ∀ (S' : Seal) (h' : Array Obj) (b o : Nat), (∀ b x, M.S b x → S' b x) → (∀ b x, M.S b x → cellAt h' b x = cellAt M.h b x) → (∀ j, j < m.length * T.n → S' b (o + j)) →
  (∀ j v, vs[j]? = some v → cellAt h' b (o + j) = some v) → ∀ (i : Nat) (hi : i < m.length), ElR S' h' T m[i] b (o + i * T.n)
theorem ElR.seals {S : Seal} {h : Array Obj} : ∀ (T : Ty) (x : T.den) (b o : Nat), ElR S h T x b o → ∀ j, j < T.n → S b (o + j) ∧ ∃ v, cellAt h b (o + j) = some v ∧ v.oneCell' = true := by
 intro T
 have one : ∀ {b o j : Nat} {v : Value}, S b o ∧ cellAt h b o = some v → v.oneCell' = true → j < 1 → S b (o + j) ∧ ∃ v, cellAt h b (o + j) = some v ∧ v.oneCell' = true := by
  intro b o j v hh hv hj
  have : j = 0 := by omega
  subst this; exact ⟨hh.1, v, hh.2, hv⟩
 induction T with
 | int k => intro x b o hx j hj; exact one hx rfl hj
 | bool => intro x b o hx j hj; exact one hx rfl hj
 | str => intro x b o hx j hj; exact one hx rfl hj
 | flt =>
  intro x b o hx j hj
  obtain ⟨g1, v, g2, g3⟩ := hx
  refine one ⟨g1, g2⟩ ?_ hj
  obtain ⟨c, rfl, _⟩ := g3; rfl
 | pt =>
  intro x b o hx j hj
  obtain ⟨g1, v, g2, g3⟩ := hx
  refine one ⟨g1, g2⟩ ?_ hj
  obtain ⟨c, rfl, _⟩ := g3; rfl
 | sl e ih =>
  intro x b o hx j hj
  obtain ⟨g1, v, g2, g3⟩ := hx
  refine one ⟨g1, g2⟩ ?_ hj
  rcases g3 with ⟨_, _, _, rfl, _⟩ | ⟨_, _, _, rfl, _⟩ <;> rfl
 | nil => intro x b o _ j hj; simp [Ty.n] at hj
 | cons p q ihp ihq =>
  intro x b o hx j hj
  simp only [Ty.n] at hj
  by_cases h1 : j < p.n
  ·exact ihp _ _ _ hx.1 j h1
  ·have := ihq _ _ _ hx.2 (j - p.n) (by omega)
   have e : o + p.n + (j - p.n) = o + j := by omega
   rwa [e] at this
 | mu e ih => intro x b o hx j hj; exact ih x b o hx j hj
theorem src_list {T : Ty} {m : List T.den} {v : Value} (h : SlR M.S M.h T m v) (hw : w.heap = M.h) {size : Nat} (hs : size = T.n) : Nonempty (Src P M T m v size w) := by
 subst hs
 rcases h with ⟨rfl, aa, cc, rfl, hcc⟩ | ⟨b, o, c, rfl, hle, hel⟩
 ·exact ⟨⟨[], by simp, by simp [Builtin.lenOf], fun w' _ => by cases aa <;> simp [Builtin.firstCells, loadCells, loadCellsFrom], by simp, fun _ _ _ _ _ _ _ _ i hi => by simp at hi⟩⟩
 ·have hcell : ∀ j, j < m.length * T.n → M.S b (o + j) ∧ ∃ v, cellAt M.h b (o + j) = some v ∧ v.oneCell' = true := by
   intro j hj
   have hT : 0 < T.n := by rcases Nat.eq_zero_or_pos T.n with h0 | h0; rw [h0] at hj; simp at hj; exact h0
   have h1 : j / T.n < m.length := Nat.div_lt_of_lt_mul (by rw [Nat.mul_comm]; exact hj)
   have := (hel (j / T.n) h1).seals _ _ _ _ (j % T.n) (Nat.mod_lt _ hT)
   have e : o + j / T.n * T.n + j % T.n = o + j := by have := Nat.div_add_mod j T.n; rw [Nat.mul_comm] at this; omega
   rwa [e] at this
  have hvs : ∃ vs : List Value, vs.length = m.length * T.n ∧ ∀ j, j < m.length * T.n → vs[j]? = cellAt M.h b (o + j) := by
   refine ⟨(List.range (m.length * T.n)).map (fun j => (cellAt M.h b (o + j)).getD undef), by simp, fun j hj => ?_⟩
   obtain ⟨_, v, hv, _⟩ := hcell j hj
   simp [hj, hv]
  obtain ⟨vs, hl, hv⟩ := hvs
  have hv' : ∀ j v, vs[j]? = some v → cellAt M.h b (o + j) = some v := fun j v hj => by
   have : j < vs.length := (List.getElem?_eq_some_iff.mp hj).1
   rw [← hv j (by omega)]; exact hj
  refine ⟨⟨vs, hl, by simp [Builtin.lenOf], fun w' hw' => ?_, fun u hu => ?_, fun S' h' b' o' hS hc hb hcv i hi => ?_⟩⟩
  ·refine run_firstCells_some (P := P) w' T.n m.length ⟨b, o, none⟩ m.length c vs hl (fun j v hj => ?_)
   have hj2 : j < vs.length := (List.getElem?_eq_some_iff.mp hj).1
   rw [add_none, cell_eq, hw']; exact hv' j v hj
  ·obtain ⟨j, hj⟩ := List.getElem?_of_mem hu
   have hj2 : j < vs.length := (List.getElem?_eq_some_iff.mp hj).1
   obtain ⟨_, v, h1, h2⟩ := hcell j (by omega)
   have := hv' j u hj
   rw [h1] at this; injection this with this; subst this; exact h2
  ·have hin : ∀ j, j < T.n → i * T.n + j < m.length * T.n := fun j hj => by
    have : (i + 1) * T.n ≤ m.length * T.n := Nat.mul_le_mul_right _ hi
    rw [Nat.add_mul] at this; omega
   refine ElR.move hS hc T _ b (o + i * T.n) b' _ (hel i hi) (fun j hj => by rw [Nat.add_assoc]; exact hb _ (hin j hj)) (fun j hj => ?_)
   rw [Nat.add_assoc, Nat.add_assoc]
   have h0 := hv _ (hin j hj)
   obtain ⟨_, u, hu, _⟩ := hcell _ (hin j hj)
   rw [hu] at h0 ⊢
   exact hcv _ u h0
theorem src_cells {T : Ty} {m : List T.den} {b o c : Nat} (hf : T.flat = true) (hel : ∀ (i : Nat) (hi : i < m.length), ElR (fun _ _ => True) M.h T m[i] b (o + i * T.n)) {size : Nat} (hs : size = T.n) : Nonempty (Src P M T m (.slice (some ⟨b, o, none⟩) m.length c) size w) := by
 subst hs
 have hcell : ∀ j, j < m.length * T.n → ∃ v, cellAt M.h b (o + j) = some v ∧ v.oneCell' = true := by
  intro j hj
  have hT : 0 < T.n := by rcases Nat.eq_zero_or_pos T.n with h0 | h0; rw [h0] at hj; simp at hj; exact h0
  have h1 : j / T.n < m.length := Nat.div_lt_of_lt_mul (by rw [Nat.mul_comm]; exact hj)
  have := ((hel (j / T.n) h1).seals _ _ _ _ (j % T.n) (Nat.mod_lt _ hT)).2
  have e : o + j / T.n * T.n + j % T.n = o + j := by have := Nat.div_add_mod j T.n; rw [Nat.mul_comm] at this; omega
  rwa [e] at this
 have hvs : ∃ vs : List Value, vs.length = m.length * T.n ∧ ∀ j, j < m.length * T.n → vs[j]? = cellAt M.h b (o + j) := by
  refine ⟨(List.range (m.length * T.n)).map (fun j => (cellAt M.h b (o + j)).getD undef), by simp, fun j hj => ?_⟩
  obtain ⟨v, hv, _⟩ := hcell j hj
  simp [hj, hv]
 obtain ⟨vs, hl, hv⟩ := hvs
 have hv' : ∀ j v, vs[j]? = some v → cellAt M.h b (o + j) = some v := fun j v hj => by
  have : j < vs.length := (List.getElem?_eq_some_iff.mp hj).1
  rw [← hv j (by omega)]; exact hj
 refine ⟨⟨vs, hl, by simp [Builtin.lenOf], fun w' hw' => ?_, fun u hu => ?_, fun S' h' b' o' hS hc hb hcv i hi => ?_⟩⟩
 ·refine run_firstCells_some (P := P) w' T.n m.length ⟨b, o, none⟩ m.length c vs hl (fun j v hj => ?_)
  rw [add_none, cell_eq, hw']; exact hv' j v hj
 ·obtain ⟨j, hj⟩ := List.getElem?_of_mem hu
  have hj2 : j < vs.length := (List.getElem?_eq_some_iff.mp hj).1
  obtain ⟨v, h1, h2⟩ := hcell j (by omega)
  have := hv' j u hj
  rw [h1] at this; injection this with this; subst this; exact h2
 ·have hin : ∀ j, j < T.n → i * T.n + j < m.length * T.n := fun j hj => by
   have : (i + 1) * T.n ≤ m.length * T.n := Nat.mul_le_mul_right _ hi
   rw [Nat.add_mul] at this; omega
  refine ElR.moveF T _ b (o + i * T.n) b' _ hf (hel i hi) (fun j hj => by rw [Nat.add_assoc]; exact hb _ (hin j hj)) (fun j hj => ?_)
  rw [Nat.add_assoc, Nat.add_assoc]
  have h0 := hv _ (hin j hj)
  obtain ⟨u, hu, _⟩ := hcell _ (hin j hj)
  rw [hu] at h0 ⊢
  exact hcv _ u h0
theorem src_nil {T : Ty} {a : Option Addr} {c size : Nat} (hac : a = none → c = 0) : Nonempty (Src P M T ([] : List T.den) (.slice a 0 c) size w) :=
 ⟨⟨[], by simp, by simp [Builtin.lenOf], fun w' _ => by cases a <;> simp [Builtin.firstCells, loadCells, loadCellsFrom], by simp, fun _ _ _ _ _ _ _ _ i hi => by simp at hi⟩⟩
theorem src_str (s : ByteArray) (w : World) : Nonempty (Src P M (.int .u8) (bytesOf s) (.string s) 1 w) := by
 have hlen : (bytesOf s).length = s.size := by unfold bytesOf; simp
 have hlen' : List.length (α := (Ty.int .u8).den) (bytesOf s) = s.size := hlen
 refine ⟨⟨(bytesOf s).map (Value.int .u8), (List.length_map ..).trans (Nat.mul_one _).symm, ?_, fun w' _ => ?_, fun u hu => ?_, fun S' h' b o hS hc hb hcv i hi => ?_⟩⟩
 ·rw [hlen']; simp [Builtin.lenOf]
 ·have hx : (Array.map (fun b : UInt8 => Value.int IntKind.u8 (b.toNat : Int)) s.data).extract 0 s.size = Array.map (fun b : UInt8 => Value.int IntKind.u8 (b.toNat : Int)) s.data := by
   have hs : s.size = (Array.map (fun b : UInt8 => Value.int IntKind.u8 (b.toNat : Int)) s.data).size := by rw [Array.size_map]; rfl
   rw [hs, Array.extract_size]
  have e2 : ((bytesOf s).map (Value.int .u8)).toArray = Array.map (fun b : UInt8 => Value.int IntKind.u8 (b.toNat : Int)) s.data := by
   apply Array.ext'; simp [bytesOf]
  rw [hlen', e2]
  simp only [Builtin.firstCells, Sem.run_pure]
  simp
 ·obtain ⟨n, _, rfl⟩ := List.mem_map.mp hu; rfl
 ·have hi' : i < (bytesOf s).length := hi
  refine ⟨?_, ?_⟩
  ·have := hb i (by show i < (bytesOf s).length * 1; omega)
   show S' b (o + i * 1)
   rw [Nat.mul_one]; exact this
  ·have := hcv i (.int .u8 (bytesOf s)[i]) (by simp [hi'])
   show cellAt h' b (o + i * 1) = _
   rw [Nat.mul_one]; exact this
theorem setCells_heap (b : Nat) : ∀ (vs : List Value) (o : Nat) (w : World), (w.setCells b o vs).heap.size = w.heap.size ∧ (∀ b', b' ≠ b → (w.setCells b o vs).heap[b']? = w.heap[b']?) ∧
  ∀ cs e f, w.heap[b]? = some (.cells cs e f) → ∃ cs', (w.setCells b o vs).heap[b]? = some (.cells cs' e f) ∧ cs'.size = cs.size
 | [], o, w => ⟨rfl, fun _ _ => rfl, fun cs e f h => ⟨cs, h, rfl⟩⟩
 | v :: r, o, w => by
  obtain ⟨h1, h2, h3⟩ := setCells_heap b r (o + 1) (w.setCell ⟨b, o, none⟩ v)
  refine ⟨by rw [World.setCells, h1]; simp [World.setCell], fun b' hb => ?_, fun cs e f h => ?_⟩
  ·rw [World.setCells, h2 b' hb]
   simp only [World.setCell]
   exact getElem?_modify' hb
  ·have h0 : (w.setCell ⟨b, o, none⟩ v).heap[b]? = some (.cells (cs.setIfInBounds o v) e f) := by
    simp only [World.setCell, Array.getElem?_modify, if_pos, h]
    rfl
   obtain ⟨cs', h4, h5⟩ := h3 _ e f h0
   exact ⟨cs', h4, by simpa using h5⟩
theorem append_room {t t2 e : Nat} {ty : Nat} {i : TypeInfo} (hu : P.underlying t = some (.slice e)) (hi : P.info? e = some i) (h2 : P.underlying t2 = some .string ∨ ∃ e', P.underlying t2 = some (.slice e'))
  {T : Ty} {m : List T.den} {x : Value} (src : Src P M T m x i.size w) (hw : w.heap = M.h) {base : Option Addr} {n c : Nat}
  (hle : n + m.length ≤ c) {w' : World} (h1 : ∀ ad, base = some ad → (storeCells (ad.add (n * i.size)) src.vs).run P w = .ok () w') (h0 : base = none → w' = w) :
  (Builtin.append_ #[t, t2] ty #[.slice base n c, x]).run P w = .ok (.slice base (n + m.length) c) w' := by
 have hlen := src.lenOf
 have hf := src.first w hw
 rcases h2 with h2 | ⟨e', h2⟩
 all_goals
  cases base with
  | none =>
   have := h0 rfl; subst this
   simp [Builtin.append_, run_underlying hu, run_underlying h2, sizeOf, typeInfo, hi, hlen, hle, hf]
  | some ad =>
   have hs := h1 ad rfl
   simp [Builtin.append_, run_underlying hu, run_underlying h2, sizeOf, typeInfo, hi, hlen, hle, hf, hs]
theorem append_more {t t2 e : Nat} {ty : Nat} {i : TypeInfo} (hu : P.underlying t = some (.slice e)) (hi : P.info? e = some i) (h2 : P.underlying t2 = some .string ∨ ∃ e', P.underlying t2 = some (.slice e'))
  {T : Ty} {m : List T.den} {x : Value} (src : Src P M T m x i.size w) (hw : w.heap = M.h) {base : Option Addr} {n c : Nat}
  (hlt : c < n + m.length) (h63 : ((n + m.length : Nat) : Int) ≤ 9223372036854775807) (h48 : Builtin.nextslicecap (n + m.length) c * i.bytes ≤ 281474976710656) {z : Value} (hzz : i.zero = some z) {olds : List Value}
  (hol : ∀ w' : World, w'.heap = w.heap → (Builtin.firstCells i.size n (.slice base n c)).run P w' = .ok olds.toArray w') :
  ∃ cap : Nat, n + m.length ≤ cap ∧ (Builtin.append_ #[t, t2] ty #[.slice base n c, x]).run P w = .ok (.slice (some ⟨w.heap.size, 0, none⟩) (n + m.length) cap)
    (w.drew.alloc (.cells (olds.toArray ++ src.vs.toArray ++ Builtin.zeroCells z.cells (cap - (n + m.length))) e)) := by
 refine ⟨grownCap w (n + m.length) c e, grownCap_ge w _ _ _, ?_⟩
 have hlen := src.lenOf
 have hn' : ¬ (n + m.length ≤ c) := by omega
 have h63' : ¬ (9223372036854775807 < ((n : Int) + (m.length : Int))) := by omega
 have h48' : ¬ (281474976710656 < Builtin.nextslicecap (n + m.length) c * i.bytes) := by omega
 have hf := src.first w.drew hw
 have ho := hol w.drew rfl
 rcases h2 with h2 | ⟨e', h2⟩
 all_goals
  simp [Builtin.append_, run_underlying hu, run_underlying h2, sizeOf, typeInfo, zeroValue, hi, hzz, hlen, hn', h63', h48', Question.forced, hf, ho, newRow, grownCap]
  congr 2
  apply Array.ext'
  simp [List.append_assoc]
end
end Go.Proofs.Ytcjiipbppkdkaaa.Eng
