/- Plain laws of chapter 21: papers as they are kept: a mill goes on being right about its twins. -/
import Derived.Test.YtioagphpiflplaaP21f
import Derived.Test.YtioagphpiflplaaPWith
namespace Go.Proofs.Ytioagphpiflplaa.Pure
open Go Go.Proofs.Ytioagphpiflplaa.E Go.Proofs.Ytioagphpiflplaa.Eng
set_option linter.unusedVariables false
set_option linter.unusedSimpArgs false

abbrev Kept := ByteArray × Int × Int × Int × List Slip × Bool × List ByteArray × Unit
/-- So many texts are noted at most. -/
def NV (T : Tab) (n : Nat) (st : MStN) : Prop := ∃ V, NS T V st ∧ V.length ≤ n
section
variable {T : Tab}
theorem NV.up {n m : Nat} {st : MStN} (h : NV T n st) (hm : n ≤ m) : NV T m st := let ⟨V, a, b⟩ := h; ⟨V, a, Nat.le_trans b hm⟩
theorem root_nv (hT : Tok T) : ∀ (m : Nat) (l : List ByteArray), l.length ≤ m → m ≤ 1000000000 → 1 ≤ l.length → (∀ x ∈ l, x.size ≤ 1000000) → ∀ {n : Nat} {st : MStN}, NV T n st → n + l.length ≤ 20000 →
    TP (fun k => merkle_Root.f k l st.1.2.2.1 st.1.2.2.2.1 st.1.2.2.2.2.1 st.1.2.2.2.2.2.1 T st.2.1.1) (fun v => v.1.1.size ≤ 1000000 ∧ NV T (n + (l.length - 1)) v.2)
  | m, l, hm, hb, hl1, hl, n, st, hN, hn => by
    by_cases h1 : l.length = 1
    · obtain ⟨x, rfl⟩ := List.length_eq_one_iff.1 h1
      refine TP.step (fun k => rfl) (TP.eqI (fun h => by simp at h) fun _ => TP.eqI (fun _ => ?_) fun h => absurd rfl h)
      exact TP.optE (v := x) rfl (TP.some ⟨hl x (List.mem_cons_self ..), hN⟩)
    have h2 : 2 ≤ l.length := by omega
    have hlt := below_lt h2
    have hp := below_pos l.length
    have tl := take_len h2
    have dl : (l.drop (belowN l.length)).length = l.length - belowN l.length := List.length_drop
    cases m with
    | zero => omega
    | succ m =>
    refine TP.step (fun k => rfl) (TP.eqI (fun h => absurd h (by omega)) fun _ => TP.eqI (fun h => absurd h (by omega)) fun _ => ?_)
    refine TP.bindM (split_ok h2 (by omega)) fun _ => ?_
    refine TP.ck (by dsimp only; simp only [Bool.and_eq_true, decide_eq_true_eq]; omega) ?_
    refine TP.bind (P := fun v => v.1.1.size ≤ 1000000 ∧ NV T (n + (belowN l.length - 1)) v.2) ?_ fun v hv => ?_
    · dsimp only; rw [tkI]
      have := root_nv hT m (l.take (belowN l.length)) (by omega) (by omega) (by omega) (fun x hx => hl x (List.mem_of_mem_take hx)) hN (by omega)
      rw [tl] at this
      exact this
    refine TP.ck (by dsimp only; simp only [Bool.and_eq_true, decide_eq_true_eq]; omega) ?_
    refine TP.bind (P := fun w => w.1.1.size ≤ 1000000 ∧ NV T (n + (belowN l.length - 1) + (l.length - belowN l.length - 1)) w.2) ?_ fun w hw => ?_
    · dsimp only; rw [dkI]
      have := root_nv hT m (l.drop (belowN l.length)) (by omega) (by omega) (by omega) (fun x hx => hl x (List.mem_of_mem_drop hx)) hv.2 (by omega)
      rw [dl] at this
      exact this
    obtain ⟨V, hV, lV⟩ := hw.2
    refine TP.bindN (node_noted _ _ (by omega) (by omega) (by omega) hV _ _) fun s3 hs3 => TP.some ⟨?_, _, hs3, ?_⟩
    · rw [show (nodeV T v.1.1 w.1.1).size = 32 from hashV_size hT _]; omega
    · rw [List.length_cons]; omega
theorem root_any (hT : Tok T) (l : List ByteArray) (hb : l.length ≤ 1000) (hl : ∀ x ∈ l, x.size ≤ 1000000) {n : Nat} {st : MStN} (hN : NV T n st) (hn : n + l.length + 1 ≤ 20000) :
    TP (fun k => merkle_Root.f k l st.1.2.2.1 st.1.2.2.2.1 st.1.2.2.2.2.1 st.1.2.2.2.2.2.1 T st.2.1.1) (fun v => v.1.1.size ≤ 1000000 ∧ NV T (n + l.length + 1) v.2) := by
  by_cases h0 : l.length = 0
  · obtain ⟨V, hV, lV⟩ := hN
    refine TP.step (fun k => rfl) (TP.eqI (fun h => ?_) fun h => absurd (by omega) h)
    refine TP.bindN (pnone_noted (by omega) hV _ _) fun s hs => TP.some ⟨?_, _, hs, by rw [List.length_cons]; omega⟩
    rw [show (noneV T).size = 32 from hashV_size hT _]; omega
  · exact TP.mono (root_nv hT l.length l (Nat.le_refl _) (by omega) (by omega) hl hN (by omega)) fun v hv => ⟨hv.1, hv.2.up (by omega)⟩
theorem sleaves_nv (hT : Tok T) (l : List Slip) (hb : l.length ≤ 1000) (hl : SlipsOk l) : ∀ (m i : Nat) (out : List ByteArray), i + m = l.length → out.length = i → (∀ x ∈ out, x.size = 32) → ∀ {n : Nat} {st : MStN}, NV T n st → n + m ≤ 19999 →
    TP (fun k => sheet_leaves.l0 k out l (l.length : Int) (i : Int) st.1.2.2.1 st.1.2.2.2.1 st.1.2.2.2.2.1 st.1.2.2.2.2.2.1 T st.2.1.1) (fun v => v.1.1.length = l.length ∧ (∀ x ∈ v.1.1, x.size = 32) ∧ NV T (n + m) v.2)
  | 0, i, out, h, ho, hz, n, st, hN, hn => TP.step (fun k => rfl) (TP.dec (fun h' => absurd h' (by omega)) fun _ => TP.some ⟨by dsimp only; omega, hz, hN⟩)
  | m + 1, i, out, h, ho, hz, n, st, hN, hn => by
    have hi : i < l.length := by omega
    have e : IntKind.wrap .i64 ((i : Int) + 1) = ((i + 1 : Nat) : Int) := by rw [wrap_i64 (by omega) (by omega)]; rfl
    have hs := hl _ (List.getElem_mem hi)
    obtain ⟨V, hV, lV⟩ := hN
    refine TP.step (fun k => rfl) (TP.dec (fun h' => ?_) fun h' => absurd (by omega : (i : Int) < l.length) h')
    refine TP.optE (rdo_at hi) (TP.bindN (sleaf_noted _ _ hs.1 hs.2 (by omega) hV _ _) fun z hz' => TP.ck (by apply decide_eq_true; simp only [List.length_cons, List.length_nil]; omega) ?_)
    rw [e]
    refine TP.mono (sleaves_nv hT l hb hl m (i + 1) _ (by omega) (by simp only [List.length_append, List.length_cons, List.length_nil]; omega) (fun x hx => ?_) (n := n + 1) (st := z) ⟨_, hz', by rw [List.length_cons]; omega⟩ (by omega)) fun v hv => ⟨hv.1, hv.2.1, hv.2.2.up (by omega)⟩
    rcases List.mem_append.1 hx with hx | hx
    · exact hz x hx
    · rw [List.mem_singleton.1 hx]; exact hashV_size hT _
theorem sroot_nv (hT : Tok T) (l : List Slip) (hb : l.length ≤ 1000) (hl : SlipsOk l) {n : Nat} {st : MStN} (hN : NV T n st) (hn : n + 2 * l.length + 1 ≤ 19999) :
    TP (fun k => sheet_Root.f k l st.1.2.2.1 st.1.2.2.2.1 st.1.2.2.2.2.1 st.1.2.2.2.2.2.1 T st.2.1.1) (fun v => v.1.1.size ≤ 1000000 ∧ NV T (n + 2 * l.length + 1) v.2) := by
  refine TP.step (fun k => rfl) (TP.bind (TP.step (fun k => rfl) (sleaves_nv hT l hb hl l.length 0 [] (Nat.zero_add _) rfl (fun x hx => nomatch hx) hN (by omega))) fun v hv => ?_)
  refine TP.bind (root_any hT v.1.1 (by omega) (fun x hx => by rw [hv.2.1 x hx]; omega) hv.2.2 (by omega)) fun w hw => TP.some ⟨hw.1, hw.2.up (by omega)⟩
theorem spaper_nv (hT : Tok T) (id : ByteArray) (hi : id.size ≤ 100000) (c b k : Int) (r : ByteArray) (hr : r.size ≤ 100000) {n : Nat} {st : MStN} (hN : NV T n st) (hn : n ≤ 19999) :
    TP (fun q => sheet_Paper.f q id c b k r st.1.2.2.1 st.1.2.2.2.1 st.1.2.2.2.2.1 st.1.2.2.2.2.2.1 T st.2.1.1) (fun v => v.1.1.size ≤ 1000000 ∧ NV T (n + 1) v.2) := by
  by_cases hno : ¬ (numO c = ⟨#[]⟩ ∨ numO b = ⟨#[]⟩ ∨ numO k = ⟨#[]⟩)
  · obtain ⟨V, hV, lV⟩ := hN
    have hno' := hno
    simp only [not_or] at hno
    refine TP.mono (spaper_noted id hi c b k r hr hno.1 hno.2.1 hno.2.2 (by omega) hV _ _) fun v hv => ⟨?_, _, hv.2, by rw [List.length_cons]; omega⟩
    rw [hv.1]
    dsimp only
    unfold paperV
    rw [if_neg hno', show (leafV T (textO id ++ numO c ++ numO b ++ numO k ++ textO r)).size = 32 from hashV_size hT _]; omega
  · have hno : numO c = ⟨#[]⟩ ∨ numO b = ⟨#[]⟩ ∨ numO k = ⟨#[]⟩ := Classical.not_not.1 hno
    have s0 := textO_size (t := id) (by omega)
    have s1 := numO_size c
    have s2 := numO_size b
    have s3 := numO_size k
    have s4 := textO_size (t := r) (by omega)
    have e0 : ByteArray.empty.size = 0 := rfl
    have z0 : (ByteArray.empty ++ textO id).size ≤ 100008 := by rw [ByteArray.size_append]; omega
    have z1 : (ByteArray.empty ++ textO id ++ numO c).size ≤ 200000 := by rw [ByteArray.size_append]; omega
    have z2 : (ByteArray.empty ++ textO id ++ numO c ++ numO b).size ≤ 200008 := by rw [ByteArray.size_append]; omega
    have z3 : (ByteArray.empty ++ textO id ++ numO c ++ numO b ++ numO k).size ≤ 200016 := by rw [ByteArray.size_append]; omega
    refine TP.step (fun k => rfl) (TP.bindR (wtext_ok (by omega) (by omega) false) ?_)
    refine TP.bindR (wnum_ok c (by dsimp only; omega) _) (TP.bindR (wnum_ok b (by dsimp only; omega) _) (TP.bindR (wnum_ok k (by dsimp only; omega) _) (TP.bindR (wtext_ok (by omega) (by dsimp only; omega) _) ?_)))
    refine TP.bindR (v := (((⟨#[]⟩ : ByteArray), false, ()), ())) ?_ (TP.yes rfl (TP.some ⟨Nat.zero_le _, hN.up (Nat.le_succ _)⟩))
    refine Runs.step (fun k => rfl) (Runs.cond (fun h => Runs.some' rfl) fun h => ?_)
    have h : (((false || decide (numO c = ⟨#[]⟩)) || decide (numO b = ⟨#[]⟩)) || decide (numO k = ⟨#[]⟩)) = false := h
    have : ¬ (numO c = ⟨#[]⟩ ∨ numO b = ⟨#[]⟩ ∨ numO k = ⟨#[]⟩) := by simpa [not_or, and_assoc] using h
    exact absurd hno this
/-- A kept paper of bounded size. -/
def EntOk (e : Kept) : Prop := e.1.size ≤ 100000 ∧ e.2.2.2.2.1.length ≤ 100 ∧ SlipsOk e.2.2.2.2.1
theorem root_small (hT : Tok T) (l : List Slip) (hb : l.length ≤ 1000) (hl : SlipsOk l) (t f1 f2 c N) : TP (fun k => sheet_Root.f k l t f1 f2 c T N) (fun v => v.1.1.size = 32) :=
  TP.mono (sroot_ok hT l (by omega) hl t f1 f2 c N) fun v hv => by rw [hv]; exact rootV_size hT (sleavesV_s32 hT l)
theorem entry_nv (hT : Tok T) (e : Kept) (he : EntOk e) {n : Nat} {st : MStN} (hN : NV T n st) (hn : n + 300 ≤ 19999) :
    TP (fun k => sheet_Entry.f k e st.1.2.2.1 st.1.2.2.2.1 st.1.2.2.2.2.1 st.1.2.2.2.2.2.1 T st.2.1.1) (fun v => v.1.1.size ≤ 1000000 ∧ NV T (n + 300) v.2) := by
  have hl := he.2.1
  obtain ⟨w, hw, hw2, hwN⟩ := sroot_nv hT e.2.2.2.2.1 (by omega) he.2.2 hN (by omega)
  obtain ⟨w', hw', hz⟩ := root_small hT e.2.2.2.2.1 (by omega) he.2.2 st.1.2.2.1 st.1.2.2.2.1 st.1.2.2.2.2.1 st.1.2.2.2.2.2.1 st.2.1.1
  have := Runs.uniq hw hw'
  subst this
  refine TP.step (fun k => rfl) (TP.bindR hw (TP.bind (spaper_nv hT e.1 he.1 _ _ _ _ (by omega) hwN (by omega)) fun v hv => TP.some ⟨hv.1, hv.2.up (by omega)⟩))
/-- Papers' leaves, one after the other. -/
inductive Chain (T : Tab) : List Kept → MStN → List ByteArray → MStN → Prop
  | nil (st : MStN) : Chain T [] st [] st
  | cons {e : Kept} {l : List Kept} {st z st' : MStN} {x : ByteArray} {xs : List ByteArray} (h : Runs (fun k => sheet_Entry.f k e st.1.2.2.1 st.1.2.2.2.1 st.1.2.2.2.2.1 st.1.2.2.2.2.2.1 T st.2.1.1) ((x, ()), z)) (h' : Chain T l z xs st') : Chain T (e :: l) st (x :: xs) st'
theorem q300 (n l : Nat) : n + 300 + 300 * l = n + 300 * (l + 1) := by rw [Nat.mul_succ, Nat.add_assoc, Nat.add_comm 300 (300 * l)]
theorem chain_ex (hT : Tok T) : ∀ (l : List Kept), (∀ e ∈ l, EntOk e) → ∀ {n : Nat} {st : MStN}, NV T n st → n + 300 * l.length + 300 ≤ 19999 → ∃ xs st', Chain T l st xs st' ∧ NV T (n + 300 * l.length) st' ∧ xs.length = l.length ∧ ∀ x ∈ xs, x.size ≤ 1000000
  | [], _, n, st, hN, _ => ⟨[], st, .nil st, hN, rfl, fun x hx => nomatch hx⟩
  | e :: l, hl, n, st, hN, hn => by
    rw [List.length_cons] at hn
    obtain ⟨⟨⟨x, ⟨⟩⟩, z⟩, hv, hx, hz⟩ := entry_nv hT e (hl e (List.mem_cons_self ..)) hN (by omega)
    obtain ⟨xs, st', h1, h2, h3, h4⟩ := chain_ex hT l (fun e he => hl e (List.mem_cons_of_mem _ he)) hz (by omega)
    refine ⟨x :: xs, st', .cons hv h1, (by rw [List.length_cons, ← q300]; exact h2), by rw [List.length_cons, List.length_cons, h3], fun y hy => ?_⟩
    rcases List.mem_cons.1 hy with rfl | hy
    · exact hx
    · exact h4 y hy
end
end Go.Proofs.Ytioagphpiflplaa.Pure
