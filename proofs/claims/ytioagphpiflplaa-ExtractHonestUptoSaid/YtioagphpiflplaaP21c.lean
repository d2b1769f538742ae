/- Plain laws of chapter 21: what Check answers. -/
import Derived.Test.YtioagphpiflplaaP21b
import Derived.Test.YtioagphpiflplaaPWalkN
import Derived.Test.YtioagphpiflplaaPNoteC
namespace Go.Proofs.Ytioagphpiflplaa.Pure
open Go Go.Proofs.Ytioagphpiflplaa.E Go.Proofs.Ytioagphpiflplaa.Eng
set_option linter.unusedVariables false
set_option linter.unusedSimpArgs false

abbrev ValueT := Int × Bool × Int × Int × ByteArray × Unit
abbrev Fact := ByteArray × Int × Int × ByteArray × Bool × ValueT × Unit
theorem of_loop (l : List Int) (hl : l.length ≤ 30000000) : ∀ (m i : Nat) (x : Int), i + m = l.length → TP (fun k => value_of.l0 k x l (l.length : Int) (i : Int)) (fun _ => True)
  | 0, i, x, h => TP.step (fun k => rfl) (TP.dec (fun h' => absurd h' (by omega)) fun _ => TP.some trivial)
  | m + 1, i, x, h => by
    have hi : i < l.length := by omega
    refine TP.step (fun k => rfl) (TP.dec (fun h' => TP.optE (rdo_at hi) (TP.ck rfl ?_)) fun h' => absurd (by omega : (i : Int) < l.length) h')
    rw [show IntKind.wrap .i64 ((i : Int) + 1) = ((i + 1 : Nat) : Int) by rw [wrap_i64 (by omega) (by omega)]; rfl]
    exact of_loop l hl m (i + 1) _ (by omega)
theorem bytesOf_len (s : ByteArray) : (bytesOf s).length = s.size := by rw [bytesOf_eq, List.length_map]; exact (size_list s).symm
theorem of_tot (s : ByteArray) (hs : s.size ≤ 30000000) : TP (fun k => value_of.f k s) (fun _ => True) := TP.step (fun k => rfl) (of_loop _ (by rw [bytesOf_len]; exact hs) _ 0 _ (Nat.zero_add _))
theorem nan_tot (x : Int) : TP (fun k => value_nan.f k x) (fun _ => True) := TP.step (fun k => rfl) (by first | exact TP.some trivial | exact TP.both (TP.some trivial) (TP.some trivial))
theorem clean_tot (x : ValueT) : TP (fun k => value_Clean.f k x) (fun _ => True) :=
  TP.step (fun k => rfl) (TP.both (TP.some trivial) (TP.both (TP.some trivial) (TP.both (TP.bind (nan_tot _) fun _ _ => TP.both (TP.some trivial) (TP.some trivial)) (TP.both (TP.some trivial) (TP.some trivial)))))
theorem vright_tot (x : ValueT) : TP (fun k => value_Right.f k x) (fun _ => True) :=
  TP.step (fun k => rfl) (TP.both (TP.both (TP.both (TP.bind (clean_tot _) fun _ _ => TP.some trivial) (TP.some trivial)) (TP.some trivial)) (TP.some trivial))
theorem vread_j0 {s : ByteArray} (hs : s.size ≤ 30000000) (z x : ValueT) {st} (h : RdP s st) : TP (fun k => value_Read.j0 k z.1 z.2.1 z.2.2.1 z.2.2.2.1 z.2.2.2.2.1 st.1 st.2.1 st.2.2.1 x.1 x.2.1 x.2.2.1 x.2.2.2.1 x.2.2.2.2.1) (fun _ => True) :=
  TP.step (fun k => rfl) (TP.bind (rdend hs h) fun _ _ => TP.both (TP.some trivial) (TP.bind (vright_tot _) fun _ _ => TP.both (TP.some trivial) (TP.some trivial)))
theorem vread_tot (s : ByteArray) (hs : s.size ≤ 30000000) : TP (fun k => value_Read.f k s) (fun _ => True) := by
  have h0 : RdP s (s, 0, 0, ()) := ⟨0, 0, Nat.zero_le _, rfl⟩
  refine TP.step (fun k => rfl) (TP.bindR (v := (((), ()), ((s, 0, 0, ()), ()))) (Runs.step (fun k => rfl) Runs.some) (TP.bind (rdn hs h0 4 (by omega)) fun v1 h1 => TP.both ?_ (TP.both ?_ (TP.both ?_ (TP.both ?_ ?_)))))
  · exact TP.bind (rdf hs h1.2) fun v2 h2 => vread_j0 hs (0, false, 0, 0, ByteArray.empty, ()) (v1.1.1, v2.1.1, 0, 0, ByteArray.empty, ()) h2
  · exact TP.bind (rdr hs h1.2 8) fun v2 h2 => TP.bind (of_tot _ h2.1) fun v3 _ => vread_j0 hs (0, false, 0, 0, ByteArray.empty, ()) (v1.1.1, false, _, 0, ByteArray.empty, ()) h2.2
  · exact TP.bind (rdr hs h1.2 8) fun v2 h2 => TP.bind (of_tot _ h2.1) fun v3 _ => vread_j0 hs (0, false, 0, 0, ByteArray.empty, ()) (v1.1.1, false, 0, _, ByteArray.empty, ()) h2.2
  · exact TP.bind (rdt hs h1.2 200) fun v2 h2 => vread_j0 hs (0, false, 0, 0, ByteArray.empty, ()) (v1.1.1, false, 0, 0, _, ()) h2.2
  · exact vread_j0 hs (0, false, 0, 0, ByteArray.empty, ()) (v1.1.1, false, 0, 0, ByteArray.empty, ()) h1.2
/-- What bytes are read as: a value, and why not. -/
noncomputable def valV (s : ByteArray) : value_Read.R := if h : s.size ≤ 30000000 then Classical.choose (vread_tot s h) else (((0, false, 0, 0, ByteArray.empty, ()), 0, ()), ())
theorem val_ok (s : ByteArray) (h : s.size ≤ 30000000) : Runs (fun k => value_Read.f k s) (valV s) := by
  have := (Classical.choose_spec (vread_tot s h)).1
  unfold valV; rw [dif_pos h]; exact this
/-- What bytes are read as: a proof, and why not. -/
noncomputable def readV (s : ByteArray) : proof_Read.R := if h : s.size ≤ 30000000 then Classical.choose (read_tot h) else (((⟨#[]⟩, 0, 0, 0, [], [], 0, 0, [], ()), 0, ()), ())
theorem readV_run (s : ByteArray) (h : s.size ≤ 30000000) : Runs (fun k => proof_Read.f k s) (readV s) := by
  have := (Classical.choose_spec (read_tot h)).1
  unfold readV; rw [dif_pos h]; exact this
theorem readV_rd (s : ByteArray) : RdO (readV s) := by
  unfold readV
  split
  · next h => exact (Classical.choose_spec (read_tot h)).2
  · exact ⟨noShow_ok, fun e => absurd rfl e⟩
theorem readV_ok (s : ByteArray) : ShowOk (readV s).1.1 := (readV_rd s).1

/-- The texts that are summed. -/
def leafT (s : ByteArray) : ByteArray := (⟨#[0]⟩ : ByteArray) ++ s
def fieldT (id a b c : ByteArray) : ByteArray := ((((⟨#[2]⟩ : ByteArray) ++ textO id) ++ textO a) ++ textO b) ++ textO c
def paperT (id : ByteArray) (c b k : Int) (r : ByteArray) : ByteArray := (((textO id ++ numO c) ++ numO b) ++ numO k) ++ textO r
theorem fieldT_size {id a b c : ByteArray} (hi : id.size ≤ 100000) (ha : a.size ≤ 100000) (hb : b.size ≤ 100000) (hc : c.size ≤ 100000) : (fieldT id a b c).size ≤ 500000 := by
  have s0 := textO_size (t := id) (by omega)
  have s1 := textO_size (t := a) (by omega)
  have s2 := textO_size (t := b) (by omega)
  have s3 := textO_size (t := c) (by omega)
  have e : (⟨#[2]⟩ : ByteArray).size = 1 := rfl
  unfold fieldT
  simp only [ByteArray.size_append]; omega
section
variable {T : Tab}
theorem pof {Q : ByteArray × Unit → MStN → Prop} (id a b c : ByteArray) (hi : id.size ≤ 100000) (ha : a.size ≤ 100000) (hb : b.size ≤ 100000) (hc : c.size ≤ 100000) (t f1 f2 n N) (h : TP (fun k => mill_Mill_Sum.f k (fieldT id a b c) t f1 f2 n T N) (fun v => Q v.1 v.2)) :
    TP (fun k => pledge_Of.f k id a b c t f1 f2 n T N) (fun v => Q v.1 v.2) := by
  have s0 := textO_size (t := id) (by omega)
  have s1 := textO_size (t := a) (by omega)
  have s2 := textO_size (t := b) (by omega)
  have s3 := textO_size (t := c) (by omega)
  have e : (⟨#[2]⟩ : ByteArray).size = 1 := rfl
  unfold textO at s0 s1 s2 s3
  refine TP.step (fun k => rfl) (TP.bindR (octet_text (t := id) (by omega)) (TP.ck (by apply decide_eq_true; dsimp only; omega) (TP.bindR (octet_text (t := a) (by omega)) (TP.ck (by apply decide_eq_true; dsimp only; rw [ByteArray.size_append]; omega) (TP.bindR (octet_text (t := b) (by omega)) (TP.ck (by apply decide_eq_true; dsimp only; simp only [ByteArray.size_append] at s0 s1 s2 s3 ⊢; omega) (TP.bindR (octet_text (t := c) (by omega)) (TP.ck (by apply decide_eq_true; dsimp only; simp only [ByteArray.size_append] at s0 s1 s2 s3 ⊢; omega) ?_))))))))
  exact TP.bind h fun v hv => TP.some hv
theorem of_ok (id a b c : ByteArray) (hi : id.size ≤ 100000) (ha : a.size ≤ 100000) (hb : b.size ≤ 100000) (hc : c.size ≤ 100000) (t f1 f2 n N) : TP (fun k => pledge_Of.f k id a b c t f1 f2 n T N) (fun v => v.1 = (hashV T (fieldT id a b c), ())) :=
  pof (Q := fun x _ => x = (hashV T (fieldT id a b c), ())) id a b c hi ha hb hc _ _ _ _ _ (sum_ok _ (by have := fieldT_size hi ha hb hc; omega) _ _ _ _ _)
/-- A field's pledge, its fact, its leaf. -/
noncomputable def promV (T : Tab) (id : ByteArray) (t : Item) : ByteArray := if t.2.2.1 = true then t.2.2.2.2.2.1 else hashV T (fieldT id t.2.1 t.2.2.2.1 t.2.2.2.2.1)
noncomputable def factV (id : ByteArray) (q : Int) (t : Item) : Fact := (id, q, t.1, t.2.1, t.2.2.1, (if t.2.2.1 = true then (0, false, 0, 0, ByteArray.empty, ()) else (valV t.2.2.2.2.1).1.1), ())
noncomputable def okV (t : Item) : Bool := t.2.2.1 || decide ((valV t.2.2.2.2.1).1.2.1 = 0)
noncomputable def factsV (s : Show) : List Fact := s.2.2.2.2.1.map (factV s.1 s.2.2.2.2.2.2.1)
def picksV (s : Show) : List Int := s.2.2.2.2.1.map fun t => t.1
noncomputable def ileafV (T : Tab) (id : ByteArray) (t : Item) : ByteArray := sleafV T t.2.1 (promV T id t)
noncomputable def ileavesV (T : Tab) (s : Show) : List ByteArray := s.2.2.2.2.1.map (ileafV T s.1)
noncomputable def rebV (T : Tab) (s : Show) : ByteArray × Int × Unit := RebuildA T s.2.2.2.1 (picksV s) (ileavesV T s) s.2.2.2.2.2.1
noncomputable def cliV (T : Tab) (s : Show) : ByteArray × Int × Unit := ClimbA T (paperV T s.1 s.2.1 s.2.2.1 s.2.2.2.1 (rebV T s).1) s.2.2.2.2.2.2.1 s.2.2.2.2.2.2.2.1 s.2.2.2.2.2.2.2.2.1
noncomputable def endA (T : Tab) (p : Int × ByteArray × Unit) (s : Show) : List Fact × Int × Unit :=
  if (rebV T s).2.1 ≠ 0 then ([], 22, ()) else if (cliV T s).2.1 ≠ 0 then ([], 20, ()) else if (cliV T s).1 ≠ p.2.1 then ([], 19, ()) else (factsV s, 0, ())
noncomputable def CheckA (T : Tab) (p : Int × ByteArray × Unit) (s : Show) : List Fact × Int × Unit :=
  if showB s = false then ([], 4, ()) else if s.2.2.2.2.2.2.2.1 ≠ p.1 then ([], 21, ()) else if s.2.2.2.2.1.all okV = false then ([], 15, ()) else endA T p s
theorem ileavesV_s32 (hT : Tok T) (s : Show) : S32 (ileavesV T s) := fun x hx => by
  obtain ⟨y, _, rfl⟩ := List.mem_map.1 hx
  exact hashV_size hT _
theorem mtake {α β : Type} (f : α → β) {l : List α} {i : Nat} (hi : i < l.length) : (l.map f).take (i + 1) = (l.map f).take i ++ [f l[i]] := by
  rw [List.take_succ_eq_append_getElem (by rw [List.length_map]; exact hi), List.getElem_map]
theorem mtake_len {α β : Type} (f : α → β) {l : List α} {i : Nat} (hi : i ≤ l.length) : ((l.map f).take i).length = i := by rw [List.length_take, List.length_map]; omega
theorem promV_size (hT : Tok T) (id : ByteArray) {t : Item} (h : ItemSm t) : (promV T id t).size ≤ 32 := by
  unfold promV; split
  · have := h.p; omega
  · rw [hashV_size hT]; exact Nat.le_refl _
theorem reb_size (hT : Tok T) (s : Show) (h : (rebV T s).2.1 = 0) : (rebV T s).1.size = 32 := by
  obtain ⟨x, A, e, _, sn, w⟩ := rebuild_yes h
  show (RebuildA T s.2.2.2.1 (picksV s) (ileavesV T s) s.2.2.2.2.2.1).1.size = 32
  rw [e]
  exact (walk_good hT _ _ _ _ _ _ _ _ _ (Nat.le_refl _) (ileavesV_s32 hT s) sn w).1
noncomputable abbrev checkL (k : Nat) (i : Int) (n : Nat) (s : Show) (p : Int × ByteArray × Unit) (T : Tab) (t : ByteArray × ByteArray × Unit) (f1 f2 : Bool) (c : Int) (N : Tab) : Option auditor_Check.R :=
  auditor_Check.l0 k ((factsV s).take n) ((picksV s).take n) ((ileavesV T s).take n) s.2.2.2.2.1 (s.2.2.2.2.1.length : Int) i t f1 f2 c T N p.1 p.2.1 s.1 s.2.1 s.2.2.1 s.2.2.2.1 s.2.2.2.2.1 s.2.2.2.2.2.1 s.2.2.2.2.2.2.1 s.2.2.2.2.2.2.2.1 s.2.2.2.2.2.2.2.2.1
theorem check_loop (hT : Tok T) (s : Show) (g : ShowSm s) (p : Int × ByteArray × Unit) : ∀ (m i : Nat), i + m = s.2.2.2.2.1.length → ∀ t f1 f2 c N, TP (fun k => checkL k (i : Int) i s p T t f1 f2 c N)
    (fun v => v.1 = if (s.2.2.2.2.1.drop i).all okV = false then ([], 15, ()) else endA T p s)
  | 0, i, h, t, f1, f2, c, N => by
    have hi : i = s.2.2.2.2.1.length := by omega
    have hl := g.l
    have hid := g.id
    rw [List.drop_of_length_le (by omega), List.all_nil, if_neg (by decide)]
    refine TP.step (fun k => rfl) (TP.dec (fun h' => absurd h' (by omega)) fun _ => ?_)
    have e1 : (factsV s).take i = factsV s := List.take_of_length_le (by unfold factsV; rw [List.length_map]; omega)
    have e2 : (picksV s).take i = picksV s := List.take_of_length_le (by unfold picksV; rw [List.length_map]; omega)
    have e3 : (ileavesV T s).take i = ileavesV T s := List.take_of_length_le (by unfold ileavesV; rw [List.length_map]; omega)
    rw [e1, e2, e3]
    have l1 : (picksV s).length = s.2.2.2.2.1.length := List.length_map ..
    have l2 : (ileavesV T s).length = s.2.2.2.2.1.length := List.length_map ..
    have hn := g.n
    have hp := g.p
    refine TP.bindM (v := rebV T s) (rebuild_ok hT _ _ (by omega) _ _ (fun x hx => by have := ileavesV_s32 hT s x hx; omega) (fun x hx => by have := g.nt x hx; omega) (by omega) (by omega) _ _ _ _ _) fun _ => TP.neI (fun h => TP.some ?_) fun h => ?_
    · unfold endA; rw [if_pos h]
    · have h : (rebV T s).2.1 = 0 := h
      have hr := reb_size hT s h
      refine TP.bindM (v := (paperV T s.1 s.2.1 s.2.2.1 s.2.2.2.1 (rebV T s).1, ())) (spaper_ok _ (by omega) _ _ _ _ (by dsimp only; omega) _ _ _ _ _) fun _ => TP.bindM (v := cliV T s) (Climb_ok hT _ _ _ _ (by omega) _ _ _ _ _) fun _ => TP.neI (fun h2 => TP.some ?_) fun h2 => TP.neT (fun h3 => TP.some ?_) fun h3 => TP.some ?_
      · unfold endA; rw [if_neg (fun e => e h), if_pos h2]
      · unfold endA; rw [if_neg (fun e => e h), if_neg (fun e => e h2), if_pos h3]
      · unfold endA; rw [if_neg (fun e => e h), if_neg (fun e => e h2), if_neg (fun e => e h3)]
  | m + 1, i, h, t, f1, f2, c, N => by
    have hi : i < s.2.2.2.2.1.length := by omega
    have hl := g.l
    have hid := g.id
    have hm := g.i _ (List.getElem_mem hi)
    have ha := hm.a
    have hs := hm.s
    have hv := hm.v
    have hp := hm.p
    have hq := promV_size hT s.1 hm
    have e : IntKind.wrap .i64 ((i : Int) + 1) = ((i + 1 : Nat) : Int) := by rw [wrap_i64 (by omega) (by omega)]; rfl
    have l0 : ((factsV s).take i).length = i := mtake_len _ (by omega)
    have l1 : ((picksV s).take i).length = i := mtake_len _ (by omega)
    have l2 : ((ileavesV T s).take i).length = i := mtake_len _ (by omega)
    have nx := check_loop hT s g p m (i + 1) (by omega)
    unfold checkL at nx
    rw [show (factsV s).take (i + 1) = (factsV s).take i ++ [factV s.1 s.2.2.2.2.2.2.1 s.2.2.2.2.1[i]] from mtake _ hi, show (picksV s).take (i + 1) = (picksV s).take i ++ [(s.2.2.2.2.1[i]).1] from mtake _ hi, show (ileavesV T s).take (i + 1) = (ileavesV T s).take i ++ [ileafV T s.1 s.2.2.2.2.1[i]] from mtake _ hi] at nx
    rw [List.drop_eq_getElem_cons hi, List.all_cons]
    refine TP.step (fun k => rfl) (TP.dec (fun h' => ?_) fun h' => absurd (by omega : (i : Int) < s.2.2.2.2.1.length) h')
    refine TP.optE (rdo_at hi) (TP.not (fun hf => ?_) fun hf => ?_)
    · have ef : factV s.1 s.2.2.2.2.2.2.1 s.2.2.2.2.1[i] = (s.1, s.2.2.2.2.2.2.1, (s.2.2.2.2.1[i]).1, (s.2.2.2.2.1[i]).2.1, (s.2.2.2.2.1[i]).2.2.1, (valV (s.2.2.2.2.1[i]).2.2.2.2.1).1.1, ()) := by unfold factV; rw [if_neg (by rw [hf]; decide)]
      have ep : promV T s.1 s.2.2.2.2.1[i] = hashV T (fieldT s.1 (s.2.2.2.2.1[i]).2.1 (s.2.2.2.2.1[i]).2.2.2.1 (s.2.2.2.2.1[i]).2.2.2.2.1) := by unfold promV; rw [if_neg (by rw [hf]; decide)]
      have eo : okV s.2.2.2.2.1[i] = decide ((valV (s.2.2.2.2.1[i]).2.2.2.2.1).1.2.1 = 0) := by unfold okV; rw [hf, Bool.false_or]
      rw [eo]
      refine TP.bindR (val_ok _ (by omega)) (TP.neI (fun hb => TP.some ?_) fun hb => ?_)
      · rw [decide_eq_false hb, Bool.false_and, if_pos rfl]
      · rw [decide_eq_true hb, Bool.true_and]
        rw [ep] at hq
        refine TP.bindM (of_ok _ _ _ _ (by omega) (by omega) (by omega) (by omega) _ _ _ _ _) fun _ => TP.ck (by apply decide_eq_true; rw [l0]; simp only [List.length_cons, List.length_nil]; omega) (TP.ck (by apply decide_eq_true; rw [l1]; simp only [List.length_cons, List.length_nil]; omega) ?_)
        refine TP.bindM (sleaf_ok _ _ (by omega) (by dsimp only; omega) _ _ _ _ _) fun _ => TP.ck (by apply decide_eq_true; rw [l2]; simp only [List.length_cons, List.length_nil]; omega) ?_
        rw [ef, show ileafV T s.1 s.2.2.2.2.1[i] = sleafV T (s.2.2.2.2.1[i]).2.1 (hashV T (fieldT s.1 (s.2.2.2.2.1[i]).2.1 (s.2.2.2.2.1[i]).2.2.2.1 (s.2.2.2.2.1[i]).2.2.2.2.1)) by unfold ileafV; rw [ep]] at nx
        rw [e]
        exact nx _ _ _ _ _
    · have ef : factV s.1 s.2.2.2.2.2.2.1 s.2.2.2.2.1[i] = (s.1, s.2.2.2.2.2.2.1, (s.2.2.2.2.1[i]).1, (s.2.2.2.2.1[i]).2.1, (s.2.2.2.2.1[i]).2.2.1, (0, false, 0, 0, ByteArray.empty, ()), ()) := by unfold factV; rw [if_pos hf]
      have ep : promV T s.1 s.2.2.2.2.1[i] = (s.2.2.2.2.1[i]).2.2.2.2.2.1 := by unfold promV; rw [if_pos hf]
      have eo : okV s.2.2.2.2.1[i] = true := by unfold okV; rw [hf, Bool.true_or]
      rw [eo, Bool.true_and]
      refine TP.ck (by apply decide_eq_true; rw [l0]; simp only [List.length_cons, List.length_nil]; omega) (TP.ck (by apply decide_eq_true; rw [l1]; simp only [List.length_cons, List.length_nil]; omega) ?_)
      refine TP.bindM (sleaf_ok _ _ (by omega) (by omega) _ _ _ _ _) fun _ => TP.ck (by apply decide_eq_true; rw [l2]; simp only [List.length_cons, List.length_nil]; omega) ?_
      rw [ef, show ileafV T s.1 s.2.2.2.2.1[i] = sleafV T (s.2.2.2.2.1[i]).2.1 (s.2.2.2.2.1[i]).2.2.2.2.2.1 by unfold ileafV; rw [ep]] at nx
      rw [e]
      exact nx _ _ _ _ _
theorem check_ok (hT : Tok T) (s : Show) (hs : ShowOk s) (p : Int × ByteArray × Unit) (t f1 f2 c N) : TP (fun k => auditor_Check.f k p s t f1 f2 c T N) (fun v => v.1 = CheckA T p s) := by
  refine TP.step (fun k => rfl) (TP.bindR (right_ok s hs) (TP.not (fun h => TP.some ?_) fun h => TP.neI (fun h2 => TP.some ?_) fun h2 => ?_))
  · have h : showB s = false := h
    unfold CheckA; rw [if_pos h]
  · have h : showB s = true := h
    unfold CheckA; rw [if_neg (by rw [h]; decide), if_pos h2]
  · have h : showB s = true := h
    have := check_loop hT s (showB_sm h) p _ 0 (Nat.zero_add _) t f1 f2 c N
    unfold CheckA; rw [if_neg (by rw [h]; decide), if_neg (by omega)]
    exact this
end
end Go.Proofs.Ytioagphpiflplaa.Pure
