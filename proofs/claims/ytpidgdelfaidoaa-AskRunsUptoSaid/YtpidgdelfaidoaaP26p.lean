/- Plain laws of chapter 26: what a query that may be is like; queries cut. -/
import Derived.Test.YtpidgdelfaidoaaP26o
namespace Go.Proofs.Ytpidgdelfaidoaa.Pure
open Go Go.Proofs.Ytpidgdelfaidoaa.E Go.Proofs.Ytpidgdelfaidoaa.Eng
set_option linter.unusedVariables false
set_option linter.unusedSimpArgs false
theorem TP.runs {α : Type} {f : Nat → Option α} {P : α → Prop} {v : α} (h : TP f P) (h' : Runs f v) : P v := by
 obtain ⟨w, ⟨k1, h1⟩, hp⟩ := h
 obtain ⟨k2, h2⟩ := h'
 have e1 := h1 (max k1 k2) (by omega)
 have e2 := h2 (max k1 k2) (by omega)
 rw [e1] at e2
 injection e2 with e2
 exact e2 ▸ hp
structure VR (v : ValueT) : Prop where
 i1 : -9223372036854775808 ≤ v.2.2.1
 i2 : v.2.2.1 ≤ 9223372036854775807
 b1 : 0 ≤ v.2.2.2.1
 b2 : v.2.2.2.1 < 18446744073709551616
theorem clean_form (x : ValueT) (hx : VR x) (h0 : 0 ≤ x.1) (h4 : x.1 ≤ 4) : TP (fun k => value_Clean.f k x) (fun v => x = v.1.1 → VForm x) := by
 obtain ⟨k, b, i, f, t, ⟨⟩⟩ := x
 have h0 : 0 ≤ k := h0
 have h4 : k ≤ 4 := h4
 have inj : ∀ {a b c d e} {a' b' c' d' e'}, ((a, (b, (c, (d, (e, ()))))) : ValueT) = (a', (b', (c', (d', (e', ()))))) → a = a' ∧ b = b' ∧ c = c' ∧ d = d' ∧ e = e' := fun h => by
  injection h with h1 h; injection h with h2 h; injection h with h3 h; injection h with h4 h; injection h with h5 h
  exact ⟨h1, h2, h3, h4, h5⟩
 have flt : ∀ d : Int, d = f → ((k, (b, (i, (f, (t, ()))))) : ValueT) = (k, (false, (0, (d, (ByteArray.empty, ()))))) → k = 3 → VForm (k, (b, (i, (f, (t, ()))))) := fun d hd e h3 => by
  obtain ⟨_, e2, e3, _, e5⟩ := inj e
  subst e2; subst e3; subst e5; subst h3
  have hf : ((f.toNat : Nat) : Int) = f := Int.toNat_of_nonneg hx.b1
  have := VForm.flt f.toNat (by have := hx.b2; have : f < 18446744073709551616 := this; omega)
  rw [hf] at this
  exact this
 refine TP.step (fun k => rfl) (TP.eqI (fun h => TP.some fun e => ?_) fun h1 => TP.eqI (fun h => TP.some fun e => ?_) fun h2 => TP.eqI (fun h => TP.bind (nan_tot _) fun _ _ => TP.both (TP.some fun e => ?_) (TP.some fun e => ?_)) fun h3 => TP.eqI (fun h => TP.some fun e => ?_) fun h5 => TP.some fun e => ?_)
 ·have h : k = 1 := h
  obtain ⟨_, _, e3, e4, e5⟩ := inj e
  subst e3; subst e4; subst e5; subst h
  exact .bool b
 ·have h : k = 2 := h
  obtain ⟨_, e2, _, e4, e5⟩ := inj e
  subst e2; subst e4; subst e5; subst h
  exact .int i hx.i1 hx.i2
 ·exact flt _ ((inj e).2.2.2.1).symm e h
 ·exact flt _ rfl e h
 ·have h : k = 4 := h
  obtain ⟨_, e2, e3, e4, _⟩ := inj e
  subst e2; subst e3; subst e4; subst h
  exact .text t
 ·have h1 : k ≠ 1 := h1
  have h2 : k ≠ 2 := h2
  have h3 : k ≠ 3 := h3
  have h5 : k ≠ 4 := h5
  have h : k = 0 := by omega
  obtain ⟨_, e2, e3, e4, e5⟩ := inj e
  subst e2; subst e3; subst e4; subst e5; subst h
  exact .null
theorem right_form (x : ValueT) (hx : VR x) (h : rightV x = true) : VForm x := by
 have : TP (fun k => value_Right.f k x) (fun v => v.1.1 = true → VForm x) :=
  TP.step (fun k => rfl) (TP.dec (fun h0 => TP.dec (fun h4 => TP.dec (fun _ => TP.bind (clean_form x hx h0 h4) fun v hv => TP.some fun e => hv ((eqVB_iff x v.1.1).mp e)) fun _ => TP.some fun e => nomatch e) fun _ => TP.some fun e => nomatch e) fun _ => TP.some fun e => nomatch e)
 exact TP.runs this (right_ok x) h
theorem VForm.kind {v : ValueT} (h : VForm v) : 0 ≤ v.1 ∧ v.1 ≤ 4 := by
 cases h <;> refine ⟨?_, ?_⟩ <;> dsimp only <;> omega
theorem VOk.vr {v : ValueT} (h : VOk v) : VR v := ⟨h.i1, h.i2, h.b1, h.b2⟩
theorem check_forms : ∀ (l : List Trm), (∀ t ∈ l, TOk t) → checkT l = 0 → ∀ t ∈ l, TForm t
 | [], _, _, _, h => nomatch h
 | t :: r, ho, hc, x, hx => by
  have ht := ho t (List.mem_cons_self ..)
  unfold checkT at hc
  split at hc
  ·cases hc
  rename_i h1
  split at hc
  ·cases hc
  rename_i h2
  split at hc
  ·cases hc
  rename_i h3
  rcases List.mem_cons.mp hx with e | hx
  ·subst e
   refine ⟨fun h => right_form _ ht.l.vr ?_, fun h => right_form _ ht.h.vr ?_⟩
   ·cases hr : rightV x.2.1 with
    | true => rfl
    | false => exact absurd ⟨h, hr⟩ h2
   ·cases hr : rightV x.2.2.1 with
    | true => rfl
    | false => exact absurd ⟨h, hr⟩ h3
  ·exact check_forms r (fun y hy => ho y (List.mem_cons_of_mem _ hy)) hc x hx
structure QForm (q : Qry) : Prop where
 n : q.1.length ≤ 8
 m : 0 ≤ q.2.2.2.1
 t : ∀ t ∈ q.1, TForm t
theorem check_form (q : Qry) (h : QOk q) (hc : checkA q = 0) : QForm q := by
 unfold checkA at hc
 split at hc
 ·cases hc
 rename_i h1
 split at hc
 ·cases hc
 exact ⟨by omega, by omega, check_forms _ h.t hc⟩
theorem TForm.rt {t : Trm} (h : TForm t) : TRt t := ⟨fun e => (h.l e).kind, fun e => (h.h e).kind⟩
theorem valT_len (v : ValueT) : (valT v).length ≤ 4 := by
 unfold valT
 repeat' split
 all_goals simp
theorem tailT_len (t : Trm) : (tailT t).length ≤ 10 := by
 have h1 := valT_len t.2.1
 have h2 := valT_len t.2.2.1
 unfold tailT
 repeat' split
 all_goals simp
 all_goals omega
theorem termT_len (t : Trm) : (termT t).length ≤ 12 := by
 have h1 := tailT_len t
 unfold termT
 split
 all_goals simp
 all_goals omega
theorem termsT_len : ∀ (l : List Trm) (b : Bool), (termsT b l).length ≤ 13 * l.length
 | [], _ => by simp [termsT]
 | t :: r, b => by
  have h1 := termT_len t
  have h2 := termsT_len r false
  unfold termsT
  simp only [List.length_cons, List.length_append]
  omega
theorem toksQ_len (q : Qry) (h : q.1.length ≤ 8) : (toksQ q).length ≤ 100000 := by
 have h1 := termsT_len q.1 true
 have h2 : (byT q).length ≤ 3 := by
  unfold byT
  repeat' split
  all_goals simp
 unfold toksQ
 simp only [List.length_cons, List.length_append, List.length_nil]
 omega
theorem QOk.qry {q : Qry} (h : QOk q) : QryOk q := ⟨⟨by have := h.n; omega, fun t ht => by have := (h.t t ht).n; omega⟩, by have := h.b; omega⟩
theorem read_print (q : Qry) (h : QOk q) (hf : QForm q) (pre post : Tx) (hl : pre.length + post.length ≤ 1000) (h1 : ∀ post bl, BlE post bl → BlE post (pre ++ bl)) (h2 : BlE [] post) (hp : ∀ d r, post = d :: r → digitB d = false) :
  Runs (fun n => ask_Read.f n (tx (pre ++ (printL q ++ post)))) ((saidQ q, 0, 0, ()), ()) := by
 have hlen := printL_len q h
 refine read_ok q hf.m h.m2 (by have := hf.n; omega) hf.t _ (by simp only [List.length_append]; omega) ?_ (toksQ_len q hf.n)
 exact Lx.pre h1 (Lx.query q (fun t ht => (hf.t t ht).rt) post hp (Lx.done _ h2))
-- cut
theorem wfr_i64 {n : Int} (h : (Lit.int .i64 n).wf = true) : -9223372036854775808 ≤ n ∧ n ≤ 9223372036854775807 := by
 unfold Lit.wf at h
 simp only [Bool.and_eq_true, decide_eq_true_eq] at h
 exact h
theorem wfr_u64 {n : Int} (h : (Lit.int .u64 n).wf = true) : 0 ≤ n ∧ n < 18446744073709551616 := by
 unfold Lit.wf at h
 simp only [Bool.and_eq_true, decide_eq_true_eq] at h
 exact ⟨h.1, Int.lt_of_le_of_lt h.2 (by decide)⟩
abbrev ValTy : Ty := .cons (.int .i64) (.cons .bool (.cons (.int .i64) (.cons (.int .u64) (.cons .str .nil))))
abbrev TrmTy : Ty := .cons .str (.cons ValTy (.cons ValTy (.cons .bool (.cons .bool (.cons .bool .nil)))))
abbrev QryTy : Ty := .cons (.sl TrmTy) (.cons .str (.cons .bool (.cons (.int .i64) .nil)))
theorem val_vr {v : ValueT} (h : wfT ValTy v) : VR v := ⟨(wfr_i64 h.2.2.1).1, (wfr_i64 h.2.2.1).2, (wfr_u64 h.2.2.2.1).1, (wfr_u64 h.2.2.2.1).2⟩
structure QR (q : Qry) : Prop where
 t : ∀ t ∈ q.1, VR t.2.1 ∧ VR t.2.2.1
 m1 : -9223372036854775808 ≤ q.2.2.2.1
 m2 : q.2.2.2.1 ≤ 9223372036854775807
theorem qry_qr {q : Qry} (h : wfT QryTy q) : QR q := ⟨fun t ht => ⟨val_vr (h.1 t ht).2.1, val_vr (h.1 t ht).2.2.1⟩, (wfr_i64 h.2.2.2.1).1, (wfr_i64 h.2.2.2.1).2⟩
theorem cut26 (s : ByteArray) : TP (fun k => chartularylaw26_cut.f k s) (fun v => v.1.1.size ≤ 300) :=
 TP.step (fun k => rfl) (TP.dec (fun h => TP.ck (by simp only [Bool.and_eq_true, decide_eq_true_eq]; omega) (TP.some (by dsimp only; rw [ByteArray.size_extract]; omega))) fun h => TP.some (by dsimp only; omega))
theorem few26_loop (o : Qry) (hr : QR o) (z : Qry) (b : ByteArray) (hb : b.size ≤ 300) (dn : Bool) : ∀ (m i : Nat), 12 - i = m → i ≤ 12 → i ≤ o.1.length → ∀ (out : List Trm), out.length = i → (∀ t ∈ out, TOk t) →
  TP (fun k => chartularylaw26_few.l0 k (i : Int) o.1 o.2.1 o.2.2.1 o.2.2.2.1 z.1 z.2.1 z.2.2.1 z.2.2.2.1 out b dn o.2.2.2.1) (fun v => QOk v.1.1)
 | m, i, h, h12, hx, out, ho, hz => by
  have hend : QOk ((((out, (b, (dn, (o.2.2.2.1, ())))), ()), ()) : chartularylaw26_few.R).1.1 := ⟨by dsimp only; omega, hz, hb, hr.m1, hr.m2⟩
  refine TP.step (fun k => rfl) (TP.dec (fun h1 => TP.dec (fun h2 => ?_) fun h2 => TP.some hend) fun h1 => TP.some hend)
  have hi : i < o.1.length := by omega
  cases m with
  | zero => omega
  | succ m =>
  refine TP.optE (rdo_at hi) (TP.bind (cut26 _) fun v1 h1 => TP.bind (cut26 _) fun v2 h2 => TP.bind (cut26 _) fun v3 h3 => TP.ck (by apply decide_eq_true; simp only [List.length_cons, List.length_nil]; omega) ?_)
  rw [show IntKind.wrap .i64 ((i : Int) + 1) = ((i + 1 : Nat) : Int) by rw [wrap_i64 (by omega) (by omega)]; rfl]
  refine few26_loop o hr z b hb dn m (i + 1) (by omega) (by omega) (by omega) _ (by simp only [List.length_append, List.length_cons, List.length_nil]; omega) fun t ht => ?_
  rcases List.mem_append.1 ht with ht | ht
  ·exact hz t ht
  ·rw [List.mem_singleton.1 ht]
   have r := hr.t o.1[i] (List.getElem_mem hi)
   exact ⟨h1, ⟨r.1.i1, r.1.i2, r.1.b1, r.1.b2, h2⟩, ⟨r.2.i1, r.2.i2, r.2.b1, r.2.b2, h3⟩⟩
theorem few26_ok (q : Qry) (hr : QR q) : TP (fun k => chartularylaw26_few.f k q) (fun v => QOk v.1.1) :=
 TP.step (fun k => rfl) (TP.bind (cut26 _) fun v hv => few26_loop q hr ([], ByteArray.empty, false, 0, ()) v.1.1 hv _ 12 0 rfl (by omega) (Nat.zero_le _) [] rfl fun t ht => nomatch ht)
theorem printL_ne (q : Qry) : tx (printL q) ≠ (⟨#[]⟩ : ByteArray) := by
 intro h
 have h : tx (printL q) = tx [] := h
 have := congrArg List.length (tx_inj h)
 unfold printL at this
 simp at this
end Go.Proofs.Ytpidgdelfaidoaa.Pure
