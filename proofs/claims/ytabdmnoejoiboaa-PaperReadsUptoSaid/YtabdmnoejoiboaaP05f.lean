/- Plain laws of chapter 5: papers read. -/
import Derived.Test.YtabdmnoejoiboaaP05e
namespace Go.Proofs.Ytabdmnoejoiboaa.Pure
open Go Go.Proofs.Ytabdmnoejoiboaa.E Go.Proofs.Ytabdmnoejoiboaa.Eng
set_option linter.unusedVariables false
set_option linter.unusedSimpArgs false

theorem numB_small {n : Nat} (h : n < 256) : (numB n).size ≤ 2 := by
  have := digs_len 1 n h
  unfold numB; rw [ofL_size]; simp; omega
theorem valB_size' {v : Vlu} (hr : rightV v = true) : (valB v).size ≤ 208 := by
  obtain ⟨hk0, hk4, ht, hc⟩ := right_facts hr
  have h1 : (numI v.1).size ≤ 2 := numB_small (by omega)
  have h2 : (bodyB v).size ≤ 202 := by
    have h3 := numB_small (n := v.2.2.2.2.1.size) (by omega)
    have h4 : (textB v.2.2.2.2.1).size ≤ 202 := by unfold textB; rw [ByteArray.size_append]; omega
    unfold bodyB
    split
    · rw [flagB_size]; omega
    · split
      · rw [eightB_size]; omega
      · split
        · rw [eightB_size]; omega
        · split
          · omega
          · show 0 ≤ 202; omega
  unfold valB; rw [ByteArray.size_append]; omega

/-! ## What was laid -/
theorem pread_loop {s : ByteArray} (hs : s.size ≤ 30000000) (x0 : ByteArray) (z1 : ByteArray) (z2 : Int) (z3 : List Elm) (l : List Elm) (hl : l.length ≤ 12) (hf : ∀ f ∈ l, FRight f) (id : ByteArray) (cls : Int) {Q : paper_Read.R → Prop}
    (hend : ∀ a, a = s.size → TP (fun k => paper_Read.j0 k x0 z1 z2 z3 s ((a : Nat) : Int) 0 id cls l) Q) : ∀ (m i : Nat), i + m = l.length → ∀ a : Nat, At s a (fldsB (l.drop i)) → a + (fldsB (l.drop i)).size = s.size → ∀ out, out = l.take i →
    TP (fun k => paper_Read.l0 k x0 (l.length : Int) (i : Int) z1 z2 z3 s (a : Int) 0 id cls out) Q
  | 0, i, hi, a, hat, hsz, out, ho => by
    rw [List.drop_of_length_le (by omega)] at hsz
    rw [List.take_of_length_le (by omega)] at ho
    subst ho
    refine TP.step (fun k => rfl) (TP.no (by apply decide_eq_false; omega) (hend a ?_))
    have : (fldsB []).size = 0 := rfl
    omega
  | m + 1, i, hi, a, hat, hsz, out, ho => by
    have hlt : i < l.length := by omega
    have hfo := hf _ (List.getElem_mem hlt)
    have hv := valB_size' hfo.r
    have hn := hfo.n
    rw [List.drop_eq_getElem_cons hlt] at hat hsz
    have hat0 : At s a (fldB l[i]) := At.left (b := fldB l[i]) hat
    have hat1 : At s a (textB l[i].1) := At.left (b := textB l[i].1) hat0
    have hat2 : At s (a + (textB l[i].1).size) (textB (valB l[i].2.1)) := At.right (b := textB l[i].1) hat0
    have hat3 : At s (a + (fldB l[i]).size) (fldsB (l.drop (i + 1))) := At.right (b := fldB l[i]) hat
    have s1 := At.size hat1
    have s2 := At.size hat2
    have r1 := reader_text hs (a := a) (by omega) 0 16
    rw [At.text (t := l[i].1) (by omega) (lim := 16) (by omega) hat1] at r1
    have r2 := reader_text hs (a := a + (textB l[i].1).size) (by omega) 0 208
    rw [At.text (t := valB l[i].2.1) (by omega) (lim := 208) (by omega) hat2] at r2
    refine TP.step (fun k => rfl) (TP.yes (by apply decide_eq_true; omega) (TP.bindR r1 (TP.bindR r2 (TP.bindR (err_ok _ _ _) (TP.no (by rfl) (TP.bindR (value_read_ok hfo.r hfo.v) (TP.bindR (fail_ok _ _ _ _) (TP.ck ?_ ?_))))))))
    · apply decide_eq_true
      rw [ho]
      simp only [List.length_take, List.length_cons, List.length_nil]; omega
    · rw [wnat (by omega)]
      have e : a + (textB l[i].1).size + (textB (valB l[i].2.1)).size = a + (fldB l[i]).size := by unfold fldB; rw [ByteArray.size_append]; omega
      have := pread_loop hs x0 z1 z2 z3 l hl hf id cls hend m (i + 1) (by omega) (a + (fldB l[i]).size) hat3 (by have hs' : (fldB l[i] ++ fldsB (l.drop (i + 1))).size = _ := ByteArray.size_append; have hsz' : a + (fldB l[i] ++ fldsB (l.drop (i + 1))).size = s.size := hsz; omega) (out ++ ([l[i]] : List Elm)) (by rw [ho, List.take_succ_eq_append_getElem hlt])
      rw [← e] at this
      exact this
theorem pread_ok (q : Pap) (hm : May q) (hr : PRight q) (ht : tidyV q = q) (hq : POk q) : TP (fun k => paper_Read.f k (papB q)) (fun v => v.1 = (q, 0, ())) := by
  have hid := hr.id
  have hc0 := hr.c0
  have hc8 := hr.c8
  have hl := hr.l12
  have hat := at_all (papB q)
  have h1 := textB_size (t := q.1) (by omega)
  have hfs : ∀ l : List Elm, (∀ f ∈ l, FRight f) → (fldsB l).size ≤ 300 * l.length := by
    intro l
    induction l with
    | nil => intro _; show 0 ≤ _; omega
    | cons f l ih =>
      intro h
      have a1 := fldB_size (h f (by simp))
      have a2 := ih fun g hg => h g (List.mem_cons_of_mem _ hg)
      unfold fldsB
      rw [ByteArray.size_append, List.length_cons]; omega
  have hsz : (papB q).size = (textB q.1).size + ((numI q.2.1).size + ((numI (q.2.2.1.length : Int)).size + (fldsB q.2.2.1).size)) := by unfold papB; simp only [ByteArray.size_append]
  have a0 : At (papB q) 0 (textB q.1) := At.left (b := textB q.1) hat
  have b0 := At.right (b := textB q.1) hat
  have a1 : At (papB q) (0 + (textB q.1).size) (numI q.2.1) := At.left (b := numI q.2.1) b0
  have b1 := At.right (b := numI q.2.1) b0
  have a2 : At (papB q) (0 + (textB q.1).size + (numI q.2.1).size) (numI (q.2.2.1.length : Int)) := At.left (b := numI (q.2.2.1.length : Int)) b1
  have a3 : At (papB q) (0 + (textB q.1).size + (numI q.2.1).size + (numI (q.2.2.1.length : Int)).size) (fldsB q.2.2.1) := At.right (b := numI (q.2.2.1.length : Int)) b1
  have hn1 := numI_ok hc0 (by omega)
  have hn2 := numI_ok (x := (q.2.2.1.length : Int)) (by omega) (by omega)
  have hff := hfs _ hr.f
  have hs : (papB q).size ≤ 30000000 := by omega
  have r1 := reader_text hs (a := 0) (by omega) 0 24
  rw [At.text (t := q.1) (by omega) (lim := 24) (by omega) a0] at r1
  have r2 := reader_num hs (a := 0 + (textB q.1).size) (by omega) 0 7
  rw [At.num (n := q.2.1.toNat) (by omega) (lim := 7) (by omega) a1] at r2
  have r3 := reader_num hs (a := 0 + (textB q.1).size + (numI q.2.1).size) (by omega) 0 12
  rw [At.num (n := (q.2.2.1.length : Int).toNat) (by omega) (lim := 12) (by omega) a2] at r3
  refine TP.step (fun k => rfl) (TP.bindR (read_ok _) (TP.bindR r1 (TP.bindR r2 (TP.bindR r3 ?_))))
  dsimp only
  rw [show ((q.2.1.toNat : Nat) : Int) = q.2.1 by omega, show (((q.2.2.1.length : Int).toNat : Nat) : Int) = (q.2.2.1.length : Int) by omega]
  refine pread_loop hs _ _ _ _ q.2.2.1 hl hr.f q.1 q.2.1 (fun a ha => ?_) _ 0 (Nat.zero_add _) _ (by rw [List.drop_zero]; exact a3) (by rw [List.drop_zero]; show 0 + (textB q.1).size + (numI q.2.1).size + (numI (q.2.2.1.length : Int)).size + (fldsB q.2.2.1).size = (papB q).size; omega) [] rfl
  have he := end_ok hs (a := a) (by omega) 0
  rw [if_neg (by omega)] at he
  refine TP.step (fun k => rfl) (TP.bindR he (TP.no (by rfl) (TP.bind (pbytes_ok q hq (fun f hf => (hr.f f hf).v)) fun v hv => ?_)))
  obtain ⟨v, ⟨⟩⟩ := v
  rcases hv with ⟨h, _⟩ | ⟨_, h⟩
  · exact absurd ((check_iff q).2 hm) h
  · have h : v = (papB (tidyV q), 0, ()) := h
    subst h
    refine TP.neI (fun h => absurd rfl h) fun _ => ?_
    rw [ht]
    exact TP.neT (fun h => absurd rfl h) fun _ => TP.some rfl

/-! ## Any bytes -/
theorem numV_range {s : ByteArray} {a : Nat} (ha : a ≤ s.size) (e : Int) {lim : Int} (hl : 0 ≤ lim) : 0 ≤ (numV s a e lim).1 ∧ (numV s a e lim).1 ≤ lim := by
  by_cases h : (numV s a e lim).2.2 = 0
  · obtain ⟨_, n, _, h2, h3, _⟩ := numV_one ha h
    rw [h3]; dsimp only; omega
  · rw [numV_zero h]; omega
theorem textV_size {s : ByteArray} {a : Nat} (ha : a ≤ s.size) (e : Int) {lim : Int} (hl : 0 ≤ lim) : ((textV s a e lim).1.size : Int) ≤ lim := by
  obtain ⟨h1, h2⟩ := numV_range ha e hl
  unfold textV
  generalize hn : (numV s a e lim).1 = n at h1 h2 ⊢
  obtain ⟨n, rfl⟩ := Int.eq_ofNat_of_zero_le h1
  have := @rawV_len s (numV s a e lim).2.1 (numV s a e lim).2.2 n
  rw [size_list]; omega
theorem vok_of {k : Int} {b : Bool} {n m : Int} {t : ByteArray} (h1 : -9223372036854775808 ≤ n) (h2 : n ≤ 9223372036854775807) (h3 : 0 ≤ m) (h4 : m < 18446744073709551616) : VOk (k, b, n, m, t, ()) := ⟨h1, h2, h3, h4⟩
theorem vread_any {s : ByteArray} (hs : s.size ≤ 30000000) (z1 : Int) (z2 : Bool) (z3 z4 : Int) (z5 : ByteArray) (v : Vlu) (hv : VOk v) {a : Nat} (ha : a ≤ s.size) (e : Int) :
    TP (fun k => value_Read.j0 k z1 z2 z3 z4 z5 s (a : Int) e v.1 v.2.1 v.2.2.1 v.2.2.2.1 v.2.2.2.2.1) (fun v => VOk v.1.1 ∧ v.1.1.2.2.2.2.1.size ≤ 200) := by
  have z : VOk ((0, false, 0, 0, ByteArray.empty, ()) : Vlu) ∧ (ByteArray.empty).size ≤ 200 := ⟨vok_of (by decide) (by decide) (by decide) (by decide), by decide⟩
  refine TP.step (fun k => rfl) (TP.bindR (end_ok hs ha e) (TP.neI (fun _ => TP.some z) fun _ => TP.bindR (right_ok _) (TP.not (fun _ => TP.some z) fun h => TP.some ?_)))
  have h : rightV v = true := h
  exact ⟨hv, (right_facts h).2.2.1⟩
theorem of_range {t : ByteArray} (h : t.size ≤ 8) : 0 ≤ accum 0 t.data.toList ∧ accum 0 t.data.toList < 18446744073709551616 := by
  refine ⟨accum_ge _ _ (by decide), ?_⟩
  have := accum_lt t.data.toList 0 0 (by decide) (by decide)
  rw [size_list] at h
  have hp : 256 ^ (0 + t.data.toList.length) ≤ 256 ^ 8 := Nat.pow_le_pow_right (by decide) (by omega)
  have e8 : 256 ^ 8 = 18446744073709551616 := rfl
  omega
theorem value_read_any (s : ByteArray) (hs : s.size ≤ 30000000) : TP (fun k => value_Read.f k s) (fun v => VOk v.1.1 ∧ v.1.1.2.2.2.2.1.size ≤ 200) := by
  have hle := numV_le (s := s) (a := 0) (Nat.zero_le _) 0 4
  have raw8 : (rawV s (numV s 0 0 4).2.1 (numV s 0 0 4).2.2 8).1.size ≤ 8 := by rw [size_list]; exact @rawV_len s _ _ 8
  have o8 := of_range raw8
  refine TP.step (fun k => rfl) (TP.bindR (read_ok s) (TP.bindR (reader_num hs (Nat.zero_le _) 0 4) (TP.eqI (fun h1 => ?_) fun h1 => TP.eqI (fun h2 => ?_) fun h2 => TP.eqI (fun h3 => ?_) fun h3 => TP.eqI (fun h4 => ?_) fun h4 => ?_)))
  · exact TP.bindR (flag_ok hs hle _) (vread_any hs _ _ _ _ _ (_, _, 0, 0, ByteArray.empty, ()) (vok_of (by decide) (by decide) (by decide) (by decide)) (flagV_le hle _) _)
  · refine TP.bindR (reader_raw hs hle _ 8) (TP.bindR (of_ok _ raw8) ?_)
    exact vread_any hs _ _ _ _ _ (_, false, IntKind.wrap .i64 _, 0, ByteArray.empty, ()) (vok_of (wrap_range _).1 (wrap_range _).2 (by decide) (by decide)) (rawV_le hle _ _) _
  · refine TP.bindR (reader_raw hs hle _ 8) (TP.bindR (of_ok _ raw8) ?_)
    exact vread_any hs _ _ _ _ _ (_, false, 0, accum 0 _, ByteArray.empty, ()) (vok_of (by decide) (by decide) o8.1 o8.2) (rawV_le hle _ _) _
  · exact TP.bindR (reader_text hs hle _ 200) (vread_any hs _ _ _ _ _ (_, false, 0, 0, _, ()) (vok_of (by decide) (by decide) (by decide) (by decide)) (textV_le hle _ _) _)
  · exact vread_any hs _ _ _ _ _ (_, false, 0, 0, ByteArray.empty, ()) (vok_of (by decide) (by decide) (by decide) (by decide)) hle _
theorem pread_any {s : ByteArray} (hs : s.size ≤ 30000000) (x0 : ByteArray) (z1 : ByteArray) (z2 : Int) (z3 : List Elm) (n : Nat) (hn : n ≤ 12) (id : ByteArray) (cls : Int) {Q : paper_Read.R → Prop}
    (hend : ∀ (a : Nat) e out, a ≤ s.size → out.length ≤ 12 → (∀ f ∈ out, FOk f ∧ VOk f.2.1) → TP (fun k => paper_Read.j0 k x0 z1 z2 z3 s (a : Int) e id cls out) Q) : ∀ (m i : Nat), i + m = n → ∀ (a : Nat) (e : Int), a ≤ s.size → ∀ out, out.length = i → (∀ f ∈ out, FOk f ∧ VOk f.2.1) →
    TP (fun k => paper_Read.l0 k x0 (n : Int) (i : Int) z1 z2 z3 s (a : Int) e id cls out) Q
  | 0, i, hi, a, e, ha, out, ho, hf => TP.step (fun k => rfl) (TP.no (by apply decide_eq_false; omega) (hend a e out ha (by omega) hf))
  | m + 1, i, hi, a, e, ha, out, ho, hf => by
    have hle := textV_le ha e 16
    have s1 := textV_size ha e (lim := 16) (by decide)
    have s2 := textV_size hle (textV s a e 16).2.2 (lim := 208) (by decide)
    have hle2 := textV_le hle (textV s a e 16).2.2 208
    refine TP.step (fun k => rfl) (TP.yes (by apply decide_eq_true; omega) (TP.bindR (reader_text hs ha e 16) (TP.bindR (reader_text hs hle _ 208) (TP.bindR (err_ok _ _ _) (TP.neI (fun _ => hend _ _ _ hle2 (by omega) hf) fun _ => TP.bind (value_read_any _ (by dsimp only; omega)) fun v hv => TP.bindR (fail_ok _ _ _ _) (TP.ck ?_ ?_))))))
    · apply decide_eq_true
      simp only [List.length_cons, List.length_nil]; omega
    · rw [wnat (by omega)]
      refine pread_any hs x0 z1 z2 z3 n hn id cls hend m (i + 1) (by omega) _ _ hle2 _ (by simp [ho]) fun f hf' => ?_
      rcases List.mem_append.1 hf' with h | h
      · exact hf f h
      · rw [List.mem_singleton.1 h]
        exact ⟨⟨by dsimp only; omega, by have := hv.2; dsimp only; omega⟩, hv.1⟩
/-- What any bytes are read as. -/
theorem pread_ok2 (s : ByteArray) (hs : s.size ≤ 30000000) : TP (fun k => paper_Read.f k s) (fun v => (v.1.2.1 ≠ 0 ∧ v.1.1 = ((ByteArray.empty, 0, [], ()) : Pap)) ∨
    (v.1.2.1 = 0 ∧ POk v.1.1 ∧ (∀ f ∈ v.1.1.2.2.1, VOk f.2.1) ∧ checkV v.1.1 = 0 ∧ papB (tidyV v.1.1) = s)) := by
  have hle := textV_le (s := s) (a := 0) (Nat.zero_le _) 0 24
  have s1 := textV_size (s := s) (a := 0) (Nat.zero_le _) 0 (lim := 24) (by decide)
  have hle2 := numV_le hle (textV s 0 0 24).2.2 7
  have hle3 := numV_le hle2 (numV s (textV s 0 0 24).2.1 (textV s 0 0 24).2.2 7).2.2 12
  obtain ⟨n0, n12⟩ := numV_range hle2 (numV s (textV s 0 0 24).2.1 (textV s 0 0 24).2.2 7).2.2 (lim := 12) (by decide)
  refine TP.step (fun k => rfl) (TP.bindR (read_ok s) (TP.bindR (reader_text hs (Nat.zero_le _) 0 24) (TP.bindR (reader_num hs hle _ 7) (TP.bindR (reader_num hs hle2 _ 12) ?_))))
  dsimp only
  generalize (numV s (numV s (textV s 0 0 24).2.1 (textV s 0 0 24).2.2 7).2.1 (numV s (textV s 0 0 24).2.1 (textV s 0 0 24).2.2 7).2.2 12).1 = n at n0 n12 ⊢
  obtain ⟨n, rfl⟩ := Int.eq_ofNat_of_zero_le n0
  refine pread_any hs s _ _ _ n (by omega) _ _ (fun a e out ha ho hf => ?_) n 0 (Nat.zero_add _) _ _ hle3 [] rfl (fun f hf => by cases hf)
  refine TP.step (fun k => rfl) (TP.bindR (end_ok hs ha e) (TP.neI (fun h => TP.some (.inl ⟨h, rfl⟩)) fun _ => TP.bind (pbytes_ok _ ⟨by dsimp only; omega, by dsimp only; omega, fun f hf' => (hf f hf').1⟩ (fun f hf' => (hf f hf').2)) fun v hv => ?_))
  obtain ⟨v, ⟨⟩⟩ := v
  rcases hv with ⟨h1, h2⟩ | ⟨h1, h2⟩
  · have h2 : v = _ := h2
    subst h2
    exact TP.neI (fun _ => TP.some (.inl ⟨by decide, rfl⟩)) fun h => absurd h h1
  · have h2 : v = _ := h2
    subst h2
    refine TP.neI (fun h => absurd rfl h) fun _ => TP.neT (fun _ => TP.some (.inl ⟨by decide, rfl⟩)) fun h => TP.some (.inr ⟨rfl, ⟨by dsimp only; omega, by dsimp only; omega, fun f hf' => (hf f hf').1⟩, fun f hf' => (hf f hf').2, h1, h⟩)
theorem pok_tidy {p : Pap} (h : POk p) : POk (tidyV p) := by
  obtain ⟨h1, h2, h3⟩ := h
  refine ⟨h1, by show (tidyF p.2.2.1).length ≤ 30; rw [tidyF_len]; exact h2, fun f hf => ?_⟩
  obtain ⟨g, hg, rfl⟩ := tidy_mem hf
  exact ⟨(h3 g hg).1, Nat.le_trans (clean_text _) (h3 g hg).2⟩
/-- What was laid is read again. -/
theorem pread_again (p : Pap) (hp : POk p) (hv : ∀ f ∈ p.2.2.1, VOk f.2.1) (hc : checkV p = 0) : TP (fun k => paper_Read.f k (papB (tidyV p))) (fun v => v.1 = (tidyV p, 0, ())) :=
  pread_ok _ (may_tidy ((check_iff p).1 hc)) (may_right ((check_iff p).1 hc) hv) (tidyV_idem p) (pok_tidy hp)
/-- One paper of some bytes. -/
theorem papB_inj {p q : Pap} (hp : POk p) (hvp : ∀ f ∈ p.2.2.1, VOk f.2.1) (hcp : checkV p = 0) (hq : POk q) (hvq : ∀ f ∈ q.2.2.1, VOk f.2.1) (hcq : checkV q = 0) (h : papB (tidyV p) = papB (tidyV q)) : tidyV p = tidyV q := by
  obtain ⟨v, hv, hv'⟩ := pread_again p hp hvp hcp
  obtain ⟨w, hw, hw'⟩ := pread_again q hq hvq hcq
  rw [h] at hv
  have := Runs.uniq hv hw
  subst this
  rw [hv'] at hw'
  injection hw'
end Go.Proofs.Ytabdmnoejoiboaa.Pure
