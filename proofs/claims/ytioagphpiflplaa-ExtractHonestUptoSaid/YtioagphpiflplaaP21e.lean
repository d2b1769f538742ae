/- Plain laws of chapter 21: what a mill notes of a proof that is believed; what two tell, of one place. -/
import Derived.Test.YtioagphpiflplaaP21d
namespace Go.Proofs.Ytioagphpiflplaa.Pure
open Go Go.Proofs.Ytioagphpiflplaa.E Go.Proofs.Ytioagphpiflplaa.Eng
set_option linter.unusedVariables false
set_option linter.unusedSimpArgs false

section
variable {T : Tab}
theorem of_noted (id a b c : ByteArray) (hi : id.size ≤ 100000) (ha : a.size ≤ 100000) (hb : b.size ≤ 100000) (hc : c.size ≤ 100000) {W : List ByteArray} (hW : W.length < 20000) {t f1 N} (hN : Noted T W t f1 N) (f2 n) : TP (fun k => pledge_Of.f k id a b c t f1 f2 n T N) (fun v => v.1 = (hashV T (fieldT id a b c), ()) ∧ NS T (fieldT id a b c :: W) v.2) :=
  pof (Q := fun x y => x = (hashV T (fieldT id a b c), ()) ∧ NS T (fieldT id a b c :: W) y) id a b c hi ha hb hc _ _ _ _ _ (sum_noted _ (by have := fieldT_size hi ha hb hc; omega) hW hN _ _)
theorem leaf_noted (s : ByteArray) (hs : s.size ≤ 1000000) {W : List ByteArray} (hW : W.length < 20000) {t f1 N} (hN : Noted T W t f1 N) (f2 n) : TP (fun k => pledge_Leaf.f k s t f1 f2 n T N) (fun v => v.1 = (leafV T s, ()) ∧ NS T (leafT s :: W) v.2) :=
  TP.step (fun k => rfl) (TP.ck (by apply decide_eq_true; show 1 + s.size ≤ _; omega) (TP.bindN (v := (leafV T s, ())) (R := NS T (leafT s :: W)) (sum_noted (leafT s) (by unfold leafT; rw [ByteArray.size_append]; show 1 + s.size ≤ _; omega) hW hN _ _) fun z hz => TP.some ⟨rfl, hz⟩))
theorem sleaf_noted (a b : ByteArray) (ha : a.size ≤ 100000) (hb : b.size ≤ 100000) {W : List ByteArray} (hW : W.length < 20000) {t f1 N} (hN : Noted T W t f1 N) (f2 n) : TP (fun k => sheet_Leaf.f k a b t f1 f2 n T N) (fun v => v.1 = (sleafV T a b, ()) ∧ NS T (leafT (textO a ++ textO b) :: W) v.2) := by
  have h1 := textO_size (t := a) (by omega)
  have h2 := textO_size (t := b) (by omega)
  have hln := leaf_noted (T := T) (textO a ++ textO b) (by rw [ByteArray.size_append]; omega) hW hN f2 n
  unfold textO at h1 h2
  refine TP.step (fun k => rfl) (TP.bindR (octet_text (t := a) (by omega)) (TP.bindR (octet_text (t := b) (by omega)) (TP.ck (by apply decide_eq_true; dsimp only; omega) ?_)))
  exact TP.bindN (v := (sleafV T a b, ())) (R := NS T (leafT (textO a ++ textO b) :: W)) hln fun z hz => TP.some ⟨rfl, hz⟩
theorem spaper_noted (id : ByteArray) (hi : id.size ≤ 100000) (c b k : Int) (r : ByteArray) (hr : r.size ≤ 100000) (hc : numO c ≠ ⟨#[]⟩) (hb : numO b ≠ ⟨#[]⟩) (hk : numO k ≠ ⟨#[]⟩) {W : List ByteArray} (hW : W.length < 20000) {t f1 N} (hN : Noted T W t f1 N) (f2 n) :
    TP (fun q => sheet_Paper.f q id c b k r t f1 f2 n T N) (fun v => v.1 = (paperV T id c b k r, ()) ∧ NS T (leafT (paperT id c b k r) :: W) v.2) := by
  have s0 := textO_size (t := id) (by omega)
  have s1 := numO_size c
  have s2 := numO_size b
  have s3 := numO_size k
  have s4 := textO_size (t := r) (by omega)
  have e0 : ByteArray.empty.size = 0 := rfl
  have e1 : ByteArray.empty ++ textO id = textO id := by
    have : (ByteArray.empty ++ textO id).data = (textO id).data := by rw [ByteArray.data_append]; simp
    cases h : textO id; cases h2 : ByteArray.empty ++ _; rw [h, h2] at this; simp only at this; rw [this]
  have z1 : (textO id ++ numO c).size ≤ 200000 := by rw [ByteArray.size_append]; omega
  have z2 : (textO id ++ numO c ++ numO b).size ≤ 200008 := by rw [ByteArray.size_append]; omega
  have z3 : (textO id ++ numO c ++ numO b ++ numO k).size ≤ 200016 := by rw [ByteArray.size_append]; omega
  have z4 : (paperT id c b k r).size ≤ 400000 := by unfold paperT; rw [ByteArray.size_append]; omega
  have hno : ¬ (numO c = ⟨#[]⟩ ∨ numO b = ⟨#[]⟩ ∨ numO k = ⟨#[]⟩) := by
    rintro (h | h | h)
    · exact hc h
    · exact hb h
    · exact hk h
  refine TP.step (fun k => rfl) (TP.bindR (wtext_ok (by omega) (by omega) false) ?_)
  rw [e1]
  refine TP.bindR (wnum_ok c (by dsimp only; omega) _) (TP.bindR (wnum_ok b (by dsimp only; omega) _) (TP.bindR (wnum_ok k (by dsimp only; omega) _) (TP.bindR (wtext_ok (by omega) (by dsimp only; omega) _) ?_)))
  refine TP.bindR (v := ((paperT id c b k r, true, ()), ())) ?_ ?_
  · refine Runs.step (fun k => rfl) (Runs.cond (fun h => ?_) fun h => Runs.some' rfl)
    have h : (((false || decide (numO c = ⟨#[]⟩)) || decide (numO b = ⟨#[]⟩)) || decide (numO k = ⟨#[]⟩)) = true := h
    have : numO c = ⟨#[]⟩ ∨ numO b = ⟨#[]⟩ ∨ numO k = ⟨#[]⟩ := by simpa [or_assoc] using h
    exact absurd this hno
  · refine TP.no rfl (TP.bindN (v := (leafV T (paperT id c b k r), ())) (R := NS T (leafT (paperT id c b k r) :: W)) (leaf_noted _ (by dsimp only; omega) hW hN _ _) fun z hz => TP.some ⟨?_, hz⟩)
    unfold paperV; rw [if_neg hno]; rfl
/-- All that a believed proof's field has summed is among these texts. -/
def ItemIn (T : Tab) (V : List ByteArray) (id : ByteArray) (t : Item) : Prop := leafT (textO t.2.1 ++ textO (promV T id t)) ∈ V ∧ (t.2.2.1 = false → fieldT id t.2.1 t.2.2.2.1 t.2.2.2.2.1 ∈ V)
theorem ItemIn.up {V V' : List ByteArray} {id t} (h : ItemIn T V id t) (hv : ∀ x ∈ V, x ∈ V') : ItemIn T V' id t := ⟨hv _ h.1, fun e => hv _ (h.2 e)⟩
structure ShowIn (T : Tab) (V : List ByteArray) (s : Show) : Prop where
  i : ∀ t ∈ s.2.2.2.2.1, ItemIn T V s.1 t
  w : ∀ x ∈ walkW T (picksV s) 0 s.2.2.2.1.toNat (ileavesV T s) s.2.2.2.2.2.1, x ∈ V
  p : leafT (paperT s.1 s.2.1 s.2.2.1 s.2.2.2.1 (rebV T s).1) ∈ V
  c : ∀ x ∈ climbW T (paperV T s.1 s.2.1 s.2.2.1 s.2.2.2.1 (rebV T s).1) s.2.2.2.2.2.2.1.toNat s.2.2.2.2.2.2.2.1.toNat s.2.2.2.2.2.2.2.2.1, x ∈ V
theorem ShowIn.up {V V' : List ByteArray} {s : Show} (h : ShowIn T V s) (hv : ∀ x ∈ V, x ∈ V') : ShowIn T V' s := ⟨fun t ht => (h.i t ht).up hv, fun x hx => hv x (h.w x hx), hv _ h.p, fun x hx => hv x (h.c x hx)⟩
theorem climb_yes {x : ByteArray} {i n : Int} {p : List ByteArray} (h : (ClimbA T x i n p).2.1 = 0) : (1 ≤ n ∧ n ≤ 65536 ∧ 0 ≤ i ∧ i < n) ∧ p.length ≤ 16 ∧ x.size = 32 ∧ S32 p ∧ p.length = depthV i.toNat n.toNat ∧ ClimbA T x i n p = (climbV T x i.toNat n.toNat p, 0, ()) := by
  unfold ClimbA at h ⊢
  split at h
  · cases h
  · next h1 =>
    split at h
    · cases h
    · next h2 =>
      split at h
      · cases h
      · next h3 =>
        rw [if_neg h1, if_neg h2, if_neg h3]
        refine ⟨by omega, by omega, ?_, ?_, Classical.byContradiction h3, rfl⟩
        · exact Classical.byContradiction fun e => h2 (Or.inr (Or.inl e))
        · refine (sumsB_iff p).1 ?_
          cases hs : sumsB p with
          | true => rfl
          | false => exact absurd (Or.inr (Or.inr hs)) h2
theorem endA_yes {p : Int × ByteArray × Unit} {s : Show} (h : (endA T p s).2.1 = 0) : (rebV T s).2.1 = 0 ∧ (cliV T s).2.1 = 0 ∧ (cliV T s).1 = p.2.1 ∧ endA T p s = (factsV s, 0, ()) := by
  unfold endA at h ⊢
  split at h
  · cases h
  · next h1 =>
    split at h
    · cases h
    · next h2 =>
      split at h
      · cases h
      · next h3 =>
        rw [if_neg h1, if_neg h2, if_neg h3]
        exact ⟨Classical.byContradiction h1, Classical.byContradiction h2, Classical.byContradiction h3, rfl⟩
theorem CheckA_yes {p : Int × ByteArray × Unit} {s : Show} (h : (CheckA T p s).2.1 = 0) : showB s = true ∧ s.2.2.2.2.2.2.2.1 = p.1 ∧ s.2.2.2.2.1.all okV = true ∧ (endA T p s).2.1 = 0 ∧ CheckA T p s = (factsV s, 0, ()) := by
  unfold CheckA at h ⊢
  split at h
  · cases h
  · next h1 =>
    split at h
    · cases h
    · next h2 =>
      split at h
      · cases h
      · next h3 =>
        rw [if_neg h1, if_neg h2, if_neg h3]
        refine ⟨by simpa using h1, Classical.byContradiction h2, by simpa using h3, h, (endA_yes h).2.2.2⟩
/-- What is noted of a believed proof. -/
def CheckP (T : Tab) (W : List ByteArray) (s : Show) (v : auditor_Check.R) : Prop := v.1 = (factsV s, 0, ()) ∧ ∃ V, NS T V v.2 ∧ V.length ≤ W.length + 100 ∧ (∀ x ∈ W, x ∈ V) ∧ ShowIn T V s
theorem check_nend (hT : Tok T) (s : Show) (g : ShowSm s) (p : Int × ByteArray × Unit) (h0 : (endA T p s).2.1 = 0) {W0 W : List ByteArray} (hw : ∀ x ∈ W0, x ∈ W) (hW : W.length ≤ W0.length + 24) (hW0 : W0.length ≤ 19000) (hit : ∀ t ∈ s.2.2.2.2.1, ItemIn T W s.1 t) {t f1 N} (hN : Noted T W t f1 N) (f2 c) :
    TP (fun k => checkL k (s.2.2.2.2.1.length : Nat) s.2.2.2.2.1.length s p T t f1 f2 c N) (CheckP T W0 s) := by
  obtain ⟨r0, c0, p0, _⟩ := endA_yes h0
  have hl := g.l
  have hid := g.id
  refine TP.step (fun k => rfl) (TP.dec (fun h' => absurd h' (by omega)) fun _ => ?_)
  have e1 : (factsV s).take s.2.2.2.2.1.length = factsV s := List.take_of_length_le (by unfold factsV; rw [List.length_map]; exact Nat.le_refl _)
  have e2 : (picksV s).take s.2.2.2.2.1.length = picksV s := List.take_of_length_le (by unfold picksV; rw [List.length_map]; exact Nat.le_refl _)
  have e3 : (ileavesV T s).take s.2.2.2.2.1.length = ileavesV T s := List.take_of_length_le (by unfold ileavesV; rw [List.length_map]; exact Nat.le_refl _)
  rw [e1, e2, e3]
  have l1 : (picksV s).length = s.2.2.2.2.1.length := List.length_map ..
  have l2 : (ileavesV T s).length = s.2.2.2.2.1.length := List.length_map ..
  have hn := g.n
  have hp := g.p
  obtain ⟨x, A, er, hc, sn, wk⟩ := rebuild_yes r0
  have er : rebV T s = (x, 0, ()) := er
  have xs := reb_size hT s r0
  rw [er] at xs
  obtain ⟨q, hcn⟩ := Int.eq_ofNat_of_zero_le (by have := g.c; omega : 0 ≤ s.2.2.2.1)
  have lw := walkW_len (T := T) (picksV s) _ 0 s.2.2.2.1.toNat (ileavesV T s) s.2.2.2.2.2.1 (Nat.le_refl _) (by have := g.c; omega)
  have cle := g.c
  obtain ⟨cb, cl, cs, cp, cd, ce⟩ := climb_yes c0
  have hreb := rebuild_noted hT s.2.2.2.1.toNat (picksV s) (ileavesV T s) s.2.2.2.2.2.1 x A (by rw [Int.toNat_of_nonneg (by omega)]; exact hc) (ileavesV_s32 hT s) sn (by omega) (by omega) wk (by omega) hN f2 c
  rw [Int.toNat_of_nonneg (by omega)] at hreb
  refine TP.bindN (v := (x, 0, ())) (R := NS T (walkW T (picksV s) 0 s.2.2.2.1.toNat (ileavesV T s) s.2.2.2.2.2.1 ++ W)) hreb fun z1 hz1 => TP.neI (fun h => absurd rfl h) fun _ => ?_
  have hpn := spaper_noted (T := T) s.1 (by omega) s.2.1 s.2.2.1 s.2.2.2.1 x (by have : x.size = 32 := xs; omega) (numO_ne (by have := g.a; omega) (by have := g.a; omega)) (numO_ne (by have := g.b; omega) (by have := g.b; omega)) (numO_ne (by omega) (by omega)) (W := walkW T (picksV s) 0 s.2.2.2.1.toNat (ileavesV T s) s.2.2.2.2.2.1 ++ W) (by rw [List.length_append]; omega) hz1
  refine TP.bindN (v := (paperV T s.1 s.2.1 s.2.2.1 s.2.2.2.1 x, ())) (R := NS T (leafT (paperT s.1 s.2.1 s.2.2.1 s.2.2.2.1 x) :: (walkW T (picksV s) 0 s.2.2.2.1.toNat (ileavesV T s) s.2.2.2.2.2.1 ++ W))) (hpn _ _) fun z2 hz2 => ?_
  have er1 : (rebV T s).1 = x := by rw [er]
  have ec : cliV T s = ClimbA T (paperV T s.1 s.2.1 s.2.2.1 s.2.2.2.1 x) s.2.2.2.2.2.2.1 s.2.2.2.2.2.2.2.1 s.2.2.2.2.2.2.2.2.1 := by unfold cliV; rw [er1]
  rw [er1] at cs ce
  have hcl := Climb_noted hT (paperV T s.1 s.2.1 s.2.2.1 s.2.2.2.1 x) cs s.2.2.2.2.2.2.1.toNat s.2.2.2.2.2.2.2.1.toNat s.2.2.2.2.2.2.2.2.1 (by omega) (by omega) cp cd (W := leafT (paperT s.1 s.2.1 s.2.2.1 s.2.2.2.1 x) :: (walkW T (picksV s) 0 s.2.2.2.1.toNat (ileavesV T s) s.2.2.2.2.2.1 ++ W)) (by rw [List.length_cons, List.length_append]; omega) hz2
  rw [Int.toNat_of_nonneg (by omega), Int.toNat_of_nonneg (by omega)] at hcl
  refine TP.bindN (v := (climbV T (paperV T s.1 s.2.1 s.2.2.1 s.2.2.2.1 x) s.2.2.2.2.2.2.1.toNat s.2.2.2.2.2.2.2.1.toNat s.2.2.2.2.2.2.2.2.1, 0, ())) (R := fun z => NS T (climbW T (paperV T s.1 s.2.1 s.2.2.1 s.2.2.2.1 x) s.2.2.2.2.2.2.1.toNat s.2.2.2.2.2.2.2.1.toNat s.2.2.2.2.2.2.2.2.1 ++ leafT (paperT s.1 s.2.1 s.2.2.1 s.2.2.2.1 x) :: (walkW T (picksV s) 0 s.2.2.2.1.toNat (ileavesV T s) s.2.2.2.2.2.1 ++ W)) z ∧ _) (hcl _ _) fun z3 hz3 => TP.neI (fun h => absurd rfl h) fun _ => TP.neT (fun h => ?_) fun h => TP.some ⟨rfl, _, hz3.1, ?_, fun y hy => List.mem_append_right _ (List.mem_cons_of_mem _ (List.mem_append_right _ (hw y hy))), ⟨fun t ht => (hit t ht).up fun y hy => List.mem_append_right _ (List.mem_cons_of_mem _ (List.mem_append_right _ hy)), fun y hy => List.mem_append_right _ (List.mem_cons_of_mem _ (List.mem_append_left _ hy)), ?_, ?_⟩⟩
  · rw [ec, ce] at p0
    exact absurd p0 h
  · have := hz3.2
    simp only [List.length_append, List.length_cons]; omega
  · rw [er1]; exact List.mem_append_right _ (List.mem_cons_self ..)
  · rw [er1]; exact fun y hy => List.mem_append_left _ hy
theorem check_nloop (hT : Tok T) (s : Show) (g : ShowSm s) (p : Int × ByteArray × Unit) (h0 : (endA T p s).2.1 = 0) (hok : ∀ t ∈ s.2.2.2.2.1, okV t = true) {W0 : List ByteArray} (hW0 : W0.length ≤ 19000) : ∀ (m i : Nat), i + m = s.2.2.2.2.1.length → ∀ {W : List ByteArray}, (∀ x ∈ W0, x ∈ W) → W.length ≤ W0.length + 2 * i → (∀ t ∈ s.2.2.2.2.1.take i, ItemIn T W s.1 t) → ∀ {t f1 N}, Noted T W t f1 N → ∀ f2 c,
    TP (fun k => checkL k (i : Int) i s p T t f1 f2 c N) (CheckP T W0 s)
  | 0, i, h, W, hw, hW, hit, t, f1, N, hN, f2, c => by
    have hi : i = s.2.2.2.2.1.length := by omega
    subst hi
    rw [List.take_length] at hit
    exact check_nend hT s g p h0 hw (by have := g.l; omega) hW0 hit hN f2 c
  | m + 1, i, h, W, hw, hW, hit, t, f1, N, hN, f2, c => by
    have hi : i < s.2.2.2.2.1.length := by omega
    have hl := g.l
    have hid := g.id
    have hm := g.i _ (List.getElem_mem hi)
    have ha := hm.a
    have hs := hm.s
    have hv := hm.v
    have hp := hm.p
    have hq := promV_size hT s.1 hm
    have hoki := hok _ (List.getElem_mem hi)
    have e : IntKind.wrap .i64 ((i : Int) + 1) = ((i + 1 : Nat) : Int) := by rw [wrap_i64 (by omega) (by omega)]; rfl
    have l0 : ((factsV s).take i).length = i := mtake_len _ (by omega)
    have l1 : ((picksV s).take i).length = i := mtake_len _ (by omega)
    have l2 : ((ileavesV T s).take i).length = i := mtake_len _ (by omega)
    have nx {W' : List ByteArray} := check_nloop hT s g p h0 hok hW0 m (i + 1) (by omega) (W := W')
    unfold checkL at nx
    rw [show (factsV s).take (i + 1) = (factsV s).take i ++ [factV s.1 s.2.2.2.2.2.2.1 s.2.2.2.2.1[i]] from mtake _ hi, show (picksV s).take (i + 1) = (picksV s).take i ++ [(s.2.2.2.2.1[i]).1] from mtake _ hi, show (ileavesV T s).take (i + 1) = (ileavesV T s).take i ++ [ileafV T s.1 s.2.2.2.2.1[i]] from mtake _ hi, List.take_succ_eq_append_getElem hi] at nx
    refine TP.step (fun k => rfl) (TP.dec (fun h' => ?_) fun h' => absurd (by omega : (i : Int) < s.2.2.2.2.1.length) h')
    refine TP.optE (rdo_at hi) (TP.not (fun hf => ?_) fun hf => ?_)
    · have ef : factV s.1 s.2.2.2.2.2.2.1 s.2.2.2.2.1[i] = (s.1, s.2.2.2.2.2.2.1, (s.2.2.2.2.1[i]).1, (s.2.2.2.2.1[i]).2.1, (s.2.2.2.2.1[i]).2.2.1, (valV (s.2.2.2.2.1[i]).2.2.2.2.1).1.1, ()) := by unfold factV; rw [if_neg (by rw [hf]; decide)]
      have ep : promV T s.1 s.2.2.2.2.1[i] = hashV T (fieldT s.1 (s.2.2.2.2.1[i]).2.1 (s.2.2.2.2.1[i]).2.2.2.1 (s.2.2.2.2.1[i]).2.2.2.2.1) := by unfold promV; rw [if_neg (by rw [hf]; decide)]
      have eo : okV s.2.2.2.2.1[i] = decide ((valV (s.2.2.2.2.1[i]).2.2.2.2.1).1.2.1 = 0) := by unfold okV; rw [hf, Bool.false_or]
      rw [eo] at hoki
      refine TP.bindR (val_ok _ (by omega)) (TP.neI (fun hb => absurd (of_decide_eq_true hoki) hb) fun hb => ?_)
      rw [ep] at hq
      refine TP.bindN (v := (hashV T (fieldT s.1 (s.2.2.2.2.1[i]).2.1 (s.2.2.2.2.1[i]).2.2.2.1 (s.2.2.2.2.1[i]).2.2.2.2.1), ())) (R := NS T (fieldT s.1 (s.2.2.2.2.1[i]).2.1 (s.2.2.2.2.1[i]).2.2.2.1 (s.2.2.2.2.1[i]).2.2.2.2.1 :: W)) (of_noted _ _ _ _ (by omega) (by omega) (by omega) (by omega) (by omega) hN _ _) fun z1 hz1 => TP.ck (by apply decide_eq_true; rw [l0]; simp only [List.length_cons, List.length_nil]; omega) (TP.ck (by apply decide_eq_true; rw [l1]; simp only [List.length_cons, List.length_nil]; omega) ?_)
      have hsl := sleaf_noted (T := T) (s.2.2.2.2.1[i]).2.1 (hashV T (fieldT s.1 (s.2.2.2.2.1[i]).2.1 (s.2.2.2.2.1[i]).2.2.2.1 (s.2.2.2.2.1[i]).2.2.2.2.1)) (by omega) (by omega) (W := fieldT s.1 (s.2.2.2.2.1[i]).2.1 (s.2.2.2.2.1[i]).2.2.2.1 (s.2.2.2.2.1[i]).2.2.2.2.1 :: W) (by rw [List.length_cons]; omega) hz1
      refine TP.bindN (v := (sleafV T (s.2.2.2.2.1[i]).2.1 (hashV T (fieldT s.1 (s.2.2.2.2.1[i]).2.1 (s.2.2.2.2.1[i]).2.2.2.1 (s.2.2.2.2.1[i]).2.2.2.2.1)), ())) (hsl _ _) fun z2 hz2 => TP.ck (by apply decide_eq_true; rw [l2]; simp only [List.length_cons, List.length_nil]; omega) ?_
      rw [ef, show ileafV T s.1 s.2.2.2.2.1[i] = sleafV T (s.2.2.2.2.1[i]).2.1 (hashV T (fieldT s.1 (s.2.2.2.2.1[i]).2.1 (s.2.2.2.2.1[i]).2.2.2.1 (s.2.2.2.2.1[i]).2.2.2.2.1)) by unfold ileafV; rw [ep]] at nx
      rw [e]
      refine nx (fun y hy => List.mem_cons_of_mem _ (List.mem_cons_of_mem _ (hw y hy))) (by simp only [List.length_cons]; omega) (fun t ht => ?_) hz2 _ _
      rcases List.mem_append.1 ht with ht | ht
      · exact (hit t ht).up fun y hy => List.mem_cons_of_mem _ (List.mem_cons_of_mem _ hy)
      · rw [List.mem_singleton.1 ht]
        exact ⟨by rw [ep]; exact List.mem_cons_self .., fun _ => List.mem_cons_of_mem _ (List.mem_cons_self ..)⟩
    · have ef : factV s.1 s.2.2.2.2.2.2.1 s.2.2.2.2.1[i] = (s.1, s.2.2.2.2.2.2.1, (s.2.2.2.2.1[i]).1, (s.2.2.2.2.1[i]).2.1, (s.2.2.2.2.1[i]).2.2.1, (0, false, 0, 0, ByteArray.empty, ()), ()) := by unfold factV; rw [if_pos hf]
      have ep : promV T s.1 s.2.2.2.2.1[i] = (s.2.2.2.2.1[i]).2.2.2.2.2.1 := by unfold promV; rw [if_pos hf]
      refine TP.ck (by apply decide_eq_true; rw [l0]; simp only [List.length_cons, List.length_nil]; omega) (TP.ck (by apply decide_eq_true; rw [l1]; simp only [List.length_cons, List.length_nil]; omega) ?_)
      have hsl := sleaf_noted (T := T) (s.2.2.2.2.1[i]).2.1 (s.2.2.2.2.1[i]).2.2.2.2.2.1 (by omega) (by omega) (W := W) (by omega) hN
      refine TP.bindN (v := (sleafV T (s.2.2.2.2.1[i]).2.1 (s.2.2.2.2.1[i]).2.2.2.2.2.1, ())) (hsl _ _) fun z2 hz2 => TP.ck (by apply decide_eq_true; rw [l2]; simp only [List.length_cons, List.length_nil]; omega) ?_
      rw [ef, show ileafV T s.1 s.2.2.2.2.1[i] = sleafV T (s.2.2.2.2.1[i]).2.1 (s.2.2.2.2.1[i]).2.2.2.2.2.1 by unfold ileafV; rw [ep]] at nx
      rw [e]
      refine nx (fun y hy => List.mem_cons_of_mem _ (hw y hy)) (by simp only [List.length_cons]; omega) (fun t ht => ?_) hz2 _ _
      rcases List.mem_append.1 ht with ht | ht
      · exact (hit t ht).up fun y hy => List.mem_cons_of_mem _ hy
      · rw [List.mem_singleton.1 ht]
        exact ⟨by rw [ep]; exact List.mem_cons_self .., fun h => by rw [show (s.2.2.2.2.1[i]).2.2.1 = true from hf] at h; cases h⟩
theorem check_noted (hT : Tok T) (s : Show) (hs : ShowOk s) (p : Int × ByteArray × Unit) (h0 : (CheckA T p s).2.1 = 0) {W : List ByteArray} (hW : W.length ≤ 19000) {t f1 N} (hN : Noted T W t f1 N) (f2 c) : TP (fun k => auditor_Check.f k p s t f1 f2 c T N) (CheckP T W s) := by
  obtain ⟨h1, h2, h3, h4, _⟩ := CheckA_yes h0
  have hr := right_ok s hs
  rw [h1] at hr
  refine TP.step (fun k => rfl) (TP.bindR hr (TP.no rfl (TP.neI (fun h => absurd h2 h) fun _ => ?_)))
  exact check_nloop hT s (showB_sm h1) p h4 (fun t ht => List.all_eq_true.1 h3 t ht) hW _ 0 (Nat.zero_add _) (fun x hx => hx) (by omega) (fun t ht => by rw [List.take_zero] at ht; cases ht) hN f2 c
end
end Go.Proofs.Ytioagphpiflplaa.Pure
