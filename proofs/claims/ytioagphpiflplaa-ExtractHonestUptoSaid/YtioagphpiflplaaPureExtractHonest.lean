/- Plain law: ExtractHonest. -/
import Derived.Test.YtioagphpiflplaaPTw21
import Derived.Test.YtioagphpiflplaaP21h
import Derived.Test.YtioagphpiflplaaP21g
import Derived.Test.YtioagphpiflplaaESExtractHonest
namespace Go.Proofs.Ytioagphpiflplaa.Pure
open Go Go.Proofs.Ytioagphpiflplaa.E Go.Proofs.Ytioagphpiflplaa.Eng
set_option linter.unusedVariables false
set_option linter.unusedSimpArgs false

abbrev NoneH : extract_Honest.R := (((ByteArray.empty, (ByteArray.empty, ())), false, ()), ())
abbrev PairH (a b : ByteArray) (o : Bool) : extract_Honest.R := (((a, (b, ())), o, ()), ())
theorem facts_len {s : Show} (g : ShowSm s) : (factsV s).length ≤ 12 := by unfold factsV; rw [List.length_map]; exact g.l.2
theorem read_none : ∃ v, proof_Read.f 100 ⟨#[]⟩ = some v ∧ v.1.2.1 ≠ 0 := by
  have h : (match proof_Read.f 100 ⟨#[]⟩ with | some v => !(v.1.2.1 == 0) | none => false) = true := by kernel_rfl
  cases hv : proof_Read.f 100 ⟨#[]⟩ with
  | none => rw [hv] at h; cases h
  | some v => rw [hv] at h; exact ⟨v, rfl, by simpa using h⟩
theorem readV_none : (readV ⟨#[]⟩).1.2.1 ≠ 0 := by
  obtain ⟨v, h1, h2⟩ := read_none
  have hr := Le.runs (fun k => proof_Read.le k _) h1
  rw [Runs.uniq (readV_run ⟨#[]⟩ (Nat.zero_le _)) hr]
  exact h2
section
variable {T : Tab}
theorem ehon_loop {Q} (facts : List Fact) (x : ByteArray) (l : List Kept) (hb : l.length ≤ 1000) (z1 z2 : ByteArray) : ∀ (m i : Nat), i + m = l.length → ∀ (st : MStN) (xs : List ByteArray) (st' : MStN) (out : List ByteArray), out.length = i → Chain T (l.drop i) st xs st' →
    TP (fun k => extract_Honest.l0 k facts x (out ++ xs) l (l.length : Int) (l.length : Int) z1 z2 st'.1.2.2.1 st'.1.2.2.2.1 st'.1.2.2.2.2.1 st'.1.2.2.2.2.2.1 T st'.2.1.1) Q →
    TP (fun k => extract_Honest.l0 k facts x out l (l.length : Int) (i : Int) z1 z2 st.1.2.2.1 st.1.2.2.2.1 st.1.2.2.2.2.1 st.1.2.2.2.2.2.1 T st.2.1.1) Q
  | 0, i, h, st, xs, st', out, ho, hc, hQ => by
    have : i = l.length := by omega
    subst this
    rw [List.drop_length] at hc
    cases hc
    rw [List.append_nil] at hQ
    exact hQ
  | m + 1, i, h, st, xs, st', out, ho, hc, hQ => by
    have hi : i < l.length := by omega
    rw [List.drop_eq_getElem_cons hi] at hc
    cases hc with
    | cons hr hc' =>
    refine TP.step (fun k => rfl) (TP.dec (fun h' => TP.optE (rdo_at hi) (TP.bindR hr (TP.ck (by apply decide_eq_true; simp only [List.length_cons, List.length_nil]; omega) ?_))) fun h' => absurd (by omega : (i : Int) < l.length) h')
    rw [show IntKind.wrap .i64 ((i : Int) + 1) = ((i + 1 : Nat) : Int) by rw [wrap_i64 (by omega) (by omega)]; rfl]
    refine ehon_loop facts x l hb z1 z2 m (i + 1) (by omega) _ _ st' _ (by simp only [List.length_append, List.length_cons, List.length_nil]; omega) hc' ?_
    rw [List.append_assoc]
    exact hQ
theorem lhon_loop {Q} (facts : List Fact) (x : ByteArray) (ok : Bool) (l : List Kept) (hb : l.length ≤ 1000) (z1 z2 : ByteArray) : ∀ (m i : Nat), i + m = l.length → ∀ (st : MStN) (xs : List ByteArray) (st' : MStN) (out : List ByteArray), out.length = i → Chain T (l.drop i) st xs st' →
    TP (fun k => chartularylaw21_ExtractHonest.l1 k facts l x ok (out ++ xs) (l.length : Int) z1 z2 st'.1.2.2.1 st'.1.2.2.2.1 st'.1.2.2.2.2.1 st'.1.2.2.2.2.2.1 T st'.2.1.1) Q →
    TP (fun k => chartularylaw21_ExtractHonest.l1 k facts l x ok out (i : Int) z1 z2 st.1.2.2.1 st.1.2.2.2.1 st.1.2.2.2.2.1 st.1.2.2.2.2.2.1 T st.2.1.1) Q
  | 0, i, h, st, xs, st', out, ho, hc, hQ => by
    have : i = l.length := by omega
    subst this
    rw [List.drop_length] at hc
    cases hc
    rw [List.append_nil] at hQ
    exact hQ
  | m + 1, i, h, st, xs, st', out, ho, hc, hQ => by
    have hi : i < l.length := by omega
    rw [List.drop_eq_getElem_cons hi] at hc
    cases hc with
    | cons hr hc' =>
    refine TP.step (fun k => rfl) (TP.dec (fun h' => TP.optE (rdo_at hi) (TP.bindR hr (TP.ck (by apply decide_eq_true; simp only [List.length_cons, List.length_nil]; omega) ?_))) fun h' => absurd (by omega : (i : Int) < l.length) h')
    rw [show IntKind.wrap .i64 ((i : Int) + 1) = ((i + 1 : Nat) : Int) by rw [wrap_i64 (by omega) (by omega)]; rfl]
    refine lhon_loop facts x ok l hb z1 z2 m (i + 1) (by omega) _ _ st' _ (by simp only [List.length_append, List.length_cons, List.length_nil]; omega) hc' ?_
    rw [List.append_assoc]
    exact hQ
abbrev st0 : MStN := (((), (), (ByteArray.empty, (ByteArray.empty, ())), false, false, 0, ()), ([], ()), ())
/-- What Honest answers, and how the law goes on. -/
theorem hon_both (hT : Tok T) {q : List Row} (hv : Runs (fun k => mill_With_has.f k q) (WithR T)) (l : List Kept) (hl : l.length ≤ 8) (he : ∀ e ∈ l, EntOk e) (facts : List Fact) (hf : facts.length ≤ 10) (x : ByteArray) (hx : x.size ≤ 100000) :
    ∃ a b o, TP (fun k => extract_Honest.f k q l facts x) (fun v => v = PairH a b o) ∧ (o = true → a ≠ b ∧ hashV T a = hashV T b ∧ a.size ≤ 100000000 ∧ b.size ≤ 100000000) ∧ (o = false → a = ByteArray.empty ∧ b = ByteArray.empty) ∧
      TP (fun k => chartularylaw21_ExtractHonest.j1 k q facts l x o a b) (fun v => v.1.1 = true) := by
  have rx := readV_run x (by omega)
  have hN0 : NV T 0 st0 := ⟨[], noted_nil T _, Nat.le_refl _⟩
  obtain ⟨xs, st1, hc, hN1, lxs, sxs⟩ := chain_ex hT l he hN0 (by omega)
  obtain ⟨w, hw, hw1, hwN⟩ := root_any hT xs (by omega) sxs hN1 (by omega)
  have none (hG : TP (fun k => extract_Honest.f k q l facts x) (fun v => v = NoneH)) (hL : TP (fun k => chartularylaw21_ExtractHonest.j1 k q facts l x false ByteArray.empty ByteArray.empty) (fun v => v.1.1 = true)) : ∃ a b o, TP (fun k => extract_Honest.f k q l facts x) (fun v => v = PairH a b o) ∧ (o = true → a ≠ b ∧ hashV T a = hashV T b ∧ a.size ≤ 100000000 ∧ b.size ≤ 100000000) ∧ (o = false → a = ByteArray.empty ∧ b = ByteArray.empty) ∧
      TP (fun k => chartularylaw21_ExtractHonest.j1 k q facts l x o a b) (fun v => v.1.1 = true) := ⟨_, _, false, hG, (fun h => nomatch h), (fun _ => ⟨rfl, rfl⟩), hL⟩
  have go1 {Q} (h : TP (fun k => extract_Honest.l0 k facts x xs l (l.length : Int) (l.length : Int) ByteArray.empty ByteArray.empty st1.1.2.2.1 st1.1.2.2.2.1 st1.1.2.2.2.2.1 st1.1.2.2.2.2.2.1 T st1.2.1.1) Q) : TP (fun k => extract_Honest.f k q l facts x) Q :=
    TP.step (fun k => rfl) (TP.or1 (TP.bindR hv (TP.neI (fun h => absurd rfl h) fun _ => ehon_loop facts x l (by omega) _ _ l.length 0 (Nat.zero_add _) st0 xs st1 [] rfl hc h)))
  have go2 (hne : x ≠ ⟨#[]⟩) (a b : ByteArray) (o : Bool) {Q} (h : TP (fun k => chartularylaw21_ExtractHonest.l1 k facts l x o xs (l.length : Int) a b st1.1.2.2.1 st1.1.2.2.2.1 st1.1.2.2.2.2.1 st1.1.2.2.2.2.2.1 T st1.2.1.1) Q) : TP (fun k => chartularylaw21_ExtractHonest.j1 k q facts l x o a b) Q :=
    TP.step (fun k => rfl) (TP.or1 (TP.bindR hv (TP.neI (fun h => absurd rfl h) fun _ => TP.eqT (fun h => absurd h hne) fun _ => lhon_loop facts x o l (by omega) _ _ l.length 0 (Nat.zero_add _) st0 xs st1 [] rfl hc h)))
  by_cases hne : x = ⟨#[]⟩
  · refine none ?_ (TP.step (fun k => rfl) (TP.or1 (TP.bindR hv (TP.neI (fun h => absurd rfl h) fun _ => TP.eqT (fun _ => TP.yes rfl (awake_end fun _ => rfl)) fun h => absurd hne h))))
    refine go1 (TP.step (fun k => rfl) (TP.dec (fun h => absurd h (by omega)) fun _ => TP.bindR rx (TP.neI (fun _ => TP.some rfl) fun h => ?_)))
    subst hne
    exact absurd h readV_none
  have cx := check_ok hT (readV x).1.1 (readV_ok x) ((l.length : Int), (w.1.1, ()))
  rw [← lxs] at cx
  by_cases gx : (CheckA T ((xs.length : Int), (w.1.1, ())) (readV x).1.1).2.1 = 0
  case neg =>
    refine none ?_ (go2 hne _ _ _ (TP.step (fun k => rfl) (TP.dec (fun h => absurd h (by omega)) fun _ => TP.bindR rx (TP.bindR hw ?_))))
    · refine go1 (TP.step (fun k => rfl) (TP.dec (fun h => absurd h (by omega)) fun _ => TP.bindR rx (TP.neI (fun _ => TP.some rfl) fun _ => TP.bindR hw (TP.bindM (cx _ _ _ _ _) fun _ => TP.neI (fun _ => TP.some rfl) fun h => absurd h gx))))
    · rw [← lxs]
      exact TP.bindM (cx _ _ _ _ _) fun _ => TP.neI (fun _ => TP.yes rfl (awake_end fun _ => rfl)) fun h => absurd h gx
  have bx : (readV x).1.2.1 = 0 := Classical.byContradiction fun h => by
    have h1 := (readV_rd x).2 h
    have h2 := (CheckA_yes gx).1
    rw [h1] at h2; cases h2
  obtain ⟨sx, _, _, _, ex⟩ := CheckA_yes gx
  have fx := facts_len (showB_sm sx)
  obtain ⟨V, hV, lV⟩ := hwN
  obtain ⟨⟨u1, z⟩, hu, rfl, V2, hV2, _, _, _⟩ := check_noted hT (readV x).1.1 (readV_ok x) ((xs.length : Int), (w.1.1, ())) gx (by omega) hV w.2.1.2.2.2.2.1 w.2.1.2.2.2.2.2.1
  by_cases ag : AgL (factsV (readV x).1.1) facts
  case neg =>
    refine none ?_ (go2 hne _ _ _ (TP.step (fun k => rfl) (TP.dec (fun h => absurd h (by omega)) fun _ => TP.bindR rx (TP.bindR hw ?_))))
    · exact go1 (TP.step (fun k => rfl) (TP.dec (fun h => absurd h (by omega)) fun _ => TP.bindR rx (TP.neI (fun _ => TP.some rfl) fun _ => TP.bindR hw (TP.bindR hu (TP.neI (fun h => absurd rfl h) fun _ => TP.bind (eag_ok _ _ (by dsimp only; omega) (by omega)) fun v hv => TP.not (fun _ => TP.some rfl) fun h => absurd (hv.1 h) ag)))))
    · rw [← lxs]
      exact TP.bindR hu (TP.neI (fun h => absurd rfl h) fun _ => TP.bind (lag_ok _ _ (by dsimp only; omega) (by omega)) fun v hv => TP.not (fun _ => TP.yes rfl (awake_end fun _ => rfl)) fun h => absurd (hv.1 h) ag)
  have hF := found_ok (T := T) z.1.2.2.1 z.1.2.2.2.1 z.1.2.2.2.2.1 z.1.2.2.2.2.2.1 z.2.1.1
  have hG {p o} (hp : (if z.1.2.2.2.1 = true then (z.1.2.2.1.1, z.1.2.2.1.2.1, ()) else (ByteArray.empty, ByteArray.empty, ()), z.1.2.2.2.1, ()) = ((p, o, ()) : (ByteArray × ByteArray × Unit) × Bool × Unit)) : TP (fun k => extract_Honest.f k q l facts x) (fun v => v = PairH p.1 p.2.1 o) := by
    rw [hp] at hF
    refine go1 (TP.step (fun k => rfl) (TP.dec (fun h => absurd h (by omega)) fun _ => TP.bindR rx (TP.neI (fun h => absurd bx h) fun _ => TP.bindR hw (TP.bindR hu (TP.neI (fun h => absurd rfl h) fun _ => TP.bind (eag_ok _ _ (by dsimp only; omega) (by omega)) fun v hv => TP.not (fun h => ?_) fun _ => TP.bindM hF fun _ => TP.some rfl)))))
    have := hv.2 ag
    rw [this] at h; cases h
  have hL (a b : ByteArray) (o : Bool) (h1 : o = z.1.2.2.2.1) (h2 : a = z.1.2.2.1.1) (h3 : b = z.1.2.2.1.2.1) : TP (fun k => chartularylaw21_ExtractHonest.j1 k q facts l x o a b) (fun v => v.1.1 = true) := by
    refine go2 hne _ _ _ (TP.step (fun k => rfl) (TP.dec (fun h => absurd h (by omega)) fun _ => TP.bindR rx (TP.bindR hw ?_)))
    rw [← lxs]
    refine TP.bindR hu (TP.neI (fun h => absurd rfl h) fun _ => TP.bind (lag_ok _ _ (by dsimp only; omega) (by omega)) fun v hv => TP.not (fun h => ?_) fun _ => ?_)
    · have := hv.2 ag
      rw [this] at h; cases h
    · refine TP.step (fun k => rfl) (TP.bindM (twins_ok _ _ _ _ _) fun _ => TP.yes ?_ (TP.eqT (fun _ => TP.eqT (fun _ => awake_end fun _ => rfl) fun h => absurd h3 h) fun h => absurd h2 h))
      rw [h1]; exact beq_self_eq_true _
  cases hfd : z.1.2.2.2.1 with
  | true =>
    refine ⟨z.1.2.2.1.1, z.1.2.2.1.2.1, true, hG (p := z.1.2.2.1) (by rw [hfd, if_pos rfl]), fun _ => ⟨Noted.tw hV2 hfd, Noted.tws hV2 hfd⟩, (fun h => nomatch h), hL _ _ _ hfd.symm rfl rfl⟩
  | false =>
    have := Noted.fr hV2 hfd
    exact ⟨_, _, false, hG (p := (ByteArray.empty, ByteArray.empty, ())) (by rw [hfd, if_neg (by decide)]), (fun h => nomatch h), (fun _ => ⟨rfl, rfl⟩), hL _ _ _ hfd.symm this.1.symm this.2.symm⟩
end
theorem hon_j0 (q : List Row) (hb : q.length ≤ 1000000000) (hq : ∀ x ∈ q, RowOk x) (l : List Kept) (hl : l.length ≤ 8) (he : ∀ e ∈ l, EntOk e) (facts : List Fact) (hf : facts.length ≤ 10) (s : Show) :
    TP (fun k => chartularylaw21_ExtractHonest.j0 k q facts l s.1 s.2.1 s.2.2.1 s.2.2.2.1 s.2.2.2.2.1 s.2.2.2.2.2.1 s.2.2.2.2.2.2.1 s.2.2.2.2.2.2.2.1 s.2.2.2.2.2.2.2.2.1) (fun v => v.1.1 = true) := by
  have hby : ∃ x, Runs (fun k => proof_Bytes.f k (fewS s)) ((x, ()), ()) ∧ x.size ≤ 100000 := by
    cases hs : showB (fewS s) with
    | true => exact ⟨_, bytes_ok _ (few_good s) hs, showL_size hs⟩
    | false => exact ⟨_, bytes_no _ (few_good s) hs, Nat.zero_le _⟩
  obtain ⟨x, hx, zx⟩ := hby
  refine TP.step (fun k => rfl) (TP.bindR (few_ok s) (TP.bindR hx ?_))
  rcases rows_case q with ho | ⟨j, hj, ho⟩
  · obtain ⟨v, hv, T, hT, rfl⟩ := with_ok q hb hq ho
    have hv : Runs (fun k => mill_With_has.f k q) (WithR T) := hv
    obtain ⟨a, b, o, hG, h1, h2, hL⟩ := hon_both hT hv l hl he facts hf x zx
    refine TP.bind hG fun v hq => ?_
    subst hq
    cases o with
    | true =>
      obtain ⟨hab, hhe, za, zb⟩ := h1 rfl
      exact TP.yes rfl (TP.bind (twins_table hT hv a b za zb hab hhe) fun v hq => TP.not (fun h => by rw [show v.1.1 = true from hq] at h; cases h) fun _ => TP.no rfl hL)
    | false =>
      obtain ⟨rfl, rfl⟩ := h2 rfl
      exact TP.no rfl (TP.yes rfl (TP.no (by rw [(seqB_iff ByteArray.empty ByteArray.empty).2 rfl]; rfl) hL))
  · have hG : TP (fun k => extract_Honest.f k q l facts x) (fun v => v = NoneH) := by
      refine TP.step (fun k => rfl) (TP.or2 (fun k => bind_none (with_bad q hb j hj ho k)) (TP.bind (with_nil q hb hq j hj ho) fun v hq => ?_))
      subst hq
      exact TP.neI (fun _ => TP.some rfl) fun h => by cases h
    refine TP.bind hG fun v hq => ?_
    subst hq
    refine TP.no rfl (TP.yes rfl (TP.no (by rw [(seqB_iff ByteArray.empty ByteArray.empty).2 rfl]; rfl) (TP.step (fun k => rfl) (TP.or2 (fun k => bind_none (with_bad q hb j hj ho k)) (TP.bind (with_nil q hb hq j hj ho) fun v hq => ?_)))))
    subst hq
    exact TP.neI (fun _ => TP.yes rfl (awake_end fun _ => rfl)) fun h => by cases h
theorem cut14 (s : ByteArray) : TP (fun k => chartularylaw14_cut.f k s) (fun v => v.1.1.size ≤ 300) :=
  TP.step (fun k => rfl) (TP.dec (fun h => TP.ck (by simp only [Bool.and_eq_true, decide_eq_true_eq]; omega) (TP.some (by dsimp only; rw [ByteArray.size_extract]; omega))) fun h => TP.some (by dsimp only; omega))
theorem fewE_l1 (x z : Kept) (id : ByteArray) (c b g : Int) (sl : List Slip) (e : Bool) (hid : id.size ≤ 100000) (hsl : sl.length ≤ 100) (hok : SlipsOk sl) : ∀ (m i : Nat), 20 - i = m → i ≤ 20 → i ≤ x.2.2.2.2.2.2.1.length → ∀ (out : List ByteArray), out.length = i → TP (fun k => chartularylaw14_FewEntry.l1 k (i : Int) x.1 x.2.1 x.2.2.1 x.2.2.2.1 x.2.2.2.2.1 x.2.2.2.2.2.1 x.2.2.2.2.2.2.1 z.1 z.2.1 z.2.2.1 z.2.2.2.1 z.2.2.2.2.1 z.2.2.2.2.2.1 z.2.2.2.2.2.2.1 id c b g sl e out) (fun v => EntOk v.1.1)
  | m, i, h, h20, hx, out, ho => by
    refine TP.step (fun k => rfl) (TP.dec (fun h1 => TP.dec (fun h2 => ?_) fun h2 => TP.some ⟨hid, hsl, hok⟩) fun h1 => TP.some ⟨hid, hsl, hok⟩)
    have hi : i < x.2.2.2.2.2.2.1.length := by omega
    cases m with
    | zero => omega
    | succ m =>
    refine TP.optE (rdo_at hi) (TP.bind (cut14 _) fun v hv => TP.ck (by apply decide_eq_true; simp only [List.length_cons, List.length_nil]; omega) ?_)
    rw [show IntKind.wrap .i64 ((i : Int) + 1) = ((i + 1 : Nat) : Int) by rw [wrap_i64 (by omega) (by omega)]; rfl]
    exact fewE_l1 x z id c b g sl e hid hsl hok m (i + 1) (by omega) (by omega) (by omega) _ (by simp only [List.length_append, List.length_cons, List.length_nil]; omega)
theorem fewE_l0 (x z : Kept) (id : ByteArray) (c b g : Int) (e : Bool) (hid : id.size ≤ 100000) : ∀ (m i : Nat), 20 - i = m → i ≤ 20 → i ≤ x.2.2.2.2.1.length → ∀ (sl : List Slip), sl.length = i → SlipsOk sl → TP (fun k => chartularylaw14_FewEntry.l0 k (i : Int) x.1 x.2.1 x.2.2.1 x.2.2.2.1 x.2.2.2.2.1 x.2.2.2.2.2.1 x.2.2.2.2.2.2.1 z.1 z.2.1 z.2.2.1 z.2.2.2.1 z.2.2.2.2.1 z.2.2.2.2.2.1 z.2.2.2.2.2.2.1 id c b g sl e []) (fun v => EntOk v.1.1)
  | m, i, h, h20, hx, sl, hsl, hok => by
    have hend := fewE_l1 x z id c b g sl e hid (by omega) hok 20 0 rfl (by omega) (Nat.zero_le _) [] rfl
    refine TP.step (fun k => rfl) (TP.dec (fun h1 => TP.dec (fun h2 => ?_) fun h2 => hend) fun h1 => hend)
    have hi : i < x.2.2.2.2.1.length := by omega
    cases m with
    | zero => omega
    | succ m =>
    refine TP.optE (rdo_at hi) (TP.bind (cut14 _) fun v1 h1 => TP.bind (cut14 _) fun v2 h2 => TP.bind (cut14 _) fun v3 h3 => TP.ck (by apply decide_eq_true; simp only [List.length_cons, List.length_nil]; omega) ?_)
    rw [show IntKind.wrap .i64 ((i : Int) + 1) = ((i + 1 : Nat) : Int) by rw [wrap_i64 (by omega) (by omega)]; rfl]
    refine fewE_l0 x z id c b g e hid m (i + 1) (by omega) (by omega) (by omega) _ (by simp only [List.length_append, List.length_cons, List.length_nil]; omega) fun s hs => ?_
    rcases List.mem_append.1 hs with hs | hs
    · exact hok s hs
    · rw [List.mem_singleton.1 hs]; exact ⟨by dsimp only; omega, by dsimp only; omega⟩
theorem fewE_ok (x : Kept) : TP (fun k => chartularylaw14_FewEntry.f k x) (fun v => EntOk v.1.1) :=
  TP.step (fun k => rfl) (TP.bind (cut14 _) fun v hv => fewE_l0 x (ByteArray.empty, 0, 0, 0, [], false, [], ()) v.1.1 _ _ _ _ (by omega) 20 0 rfl (by omega) (Nat.zero_le _) [] rfl (fun s hs => nomatch hs))
theorem hon_l0 (q : List Row) (hb : q.length ≤ 1000000000) (hq : ∀ x ∈ q, RowOk x) (kept : List Kept) (facts : List Fact) (s : Show) : ∀ (m i : Nat), 8 - i = m → i ≤ 8 → i ≤ kept.length → ∀ (l : List Kept), l.length = i → (∀ e ∈ l, EntOk e) →
    TP (fun k => chartularylaw21_ExtractHonest.l0 k q kept facts l (i : Int) s.1 s.2.1 s.2.2.1 s.2.2.2.1 s.2.2.2.2.1 s.2.2.2.2.2.1 s.2.2.2.2.2.2.1 s.2.2.2.2.2.2.2.1 s.2.2.2.2.2.2.2.2.1) (fun v => v.1.1 = true)
  | m, i, h, h8, hk, l, hl, he => by
    have hend : ∀ (fs : List Fact), fs.length ≤ 10 → TP (fun k => chartularylaw21_ExtractHonest.j0 k q fs l s.1 s.2.1 s.2.2.1 s.2.2.2.1 s.2.2.2.2.1 s.2.2.2.2.2.1 s.2.2.2.2.2.2.1 s.2.2.2.2.2.2.2.1 s.2.2.2.2.2.2.2.2.1) (fun v => v.1.1 = true) := fun fs hfs => hon_j0 q hb hq l (by omega) he fs hfs s
    have hcut : (List.drop (0 : Int).toNat (List.take (10 : Int).toNat facts)).length ≤ 10 := by
      rw [List.length_drop, List.length_take]; show min 10 _ - 0 ≤ 10; omega
    refine TP.step (fun k => rfl) (TP.dec (fun h1 => TP.dec (fun h2 => ?_) fun h2 => TP.dec (fun h3 => TP.ck (by simp only [Bool.and_eq_true, decide_eq_true_eq]; omega) (hend _ hcut)) fun h3 => hend _ (by omega)) fun h1 => TP.dec (fun h3 => TP.ck (by simp only [Bool.and_eq_true, decide_eq_true_eq]; omega) (hend _ hcut)) fun h3 => hend _ (by omega))
    have hi : i < kept.length := by omega
    cases m with
    | zero => omega
    | succ m =>
    refine TP.optE (rdo_at hi) (TP.bind (fewE_ok _) fun v hv => TP.ck (by apply decide_eq_true; simp only [List.length_cons, List.length_nil]; omega) ?_)
    rw [show IntKind.wrap .i64 ((i : Int) + 1) = ((i + 1 : Nat) : Int) by rw [wrap_i64 (by omega) (by omega)]; rfl]
    refine hon_l0 q hb hq kept facts s m (i + 1) (by omega) (by omega) (by omega) _ (by simp only [List.length_append, List.length_cons, List.length_nil]; omega) fun e hE => ?_
    rcases List.mem_append.1 hE with hE | hE
    · exact he e hE
    · rw [List.mem_singleton.1 hE]; exact hv
/-- The law. -/
theorem ExtractHonest : chartularylaw21_ExtractHonest.Pure := by
  intro l kept facts s w0 w1 w2 w3 hb
  have hrow (y : Row) : bulkT (.cons .bool (.cons .str (.cons .str (.cons .str .nil)))) y = 1 + ((y.2.1.size + 1) + ((y.2.2.1.size + 1) + ((y.2.2.2.1.size + 1) + 0))) := rfl
  have hsum : sumB (bulkT (.cons .bool (.cons .str (.cons .str (.cons .str .nil))))) l ≤ 1048576 := by
    refine Nat.le_trans ?_ hb
    show bulkT (.sl (.cons .bool (.cons .str (.cons .str (.cons .str .nil))))) l ≤ _
    omega
  have hl : l.length ≤ 1048576 := Nat.le_trans (sumB_len (bulkT (.cons .bool (.cons .str (.cons .str (.cons .str .nil))))) (fun y => by have h := hrow y; have h' : bulkT (.cons .bool (.cons .str (.cons .str (.cons .str .nil)))) y = _ := h; omega) l) hsum
  have hr : ∀ x ∈ l, RowOk x := fun x hx => by
    have h1 := sumB_ge (bulkT (.cons .bool (.cons .str (.cons .str (.cons .str .nil))))) l x hx
    have h2 : bulkT (.cons .bool (.cons .str (.cons .str (.cons .str .nil)))) x = _ := hrow x
    exact ⟨by omega, by omega⟩
  have hf : TP (fun k => chartularylaw21_few.f k l) (fun v => ∃ q, v = ((q, ()), ()) ∧ q.length ≤ 1000000000 ∧ ∀ x ∈ q, RowOk x) := by
    refine TP.step (fun k => rfl) (TP.dec (fun h => TP.ck (by simp only [Bool.and_eq_true, decide_eq_true_eq]; omega) (TP.some ⟨_, rfl, ?_, fun x hx => hr x (List.mem_of_mem_take (List.mem_of_mem_drop hx))⟩)) fun h => TP.some ⟨l, rfl, by omega, hr⟩)
    rw [List.length_drop, List.length_take]; omega
  refine TP.one (TP.step (fun k => rfl) (TP.bind hf fun v hq => ?_))
  obtain ⟨q, rfl, hql, hqr⟩ := hq
  exact hon_l0 q hql hqr kept facts s 8 0 rfl (by omega) (Nat.zero_le _) [] rfl (fun e h => nomatch h)
end Go.Proofs.Ytioagphpiflplaa.Pure
