/- Plain law: SheetPapers. -/
import Derived.Test.YtdeboaknhkffpaaP08a
import Derived.Test.YtdeboaknhkffpaaESSheetPapers
namespace Go.Proofs.Ytdeboaknhkffpaa.Pure
open Go Go.Proofs.Ytdeboaknhkffpaa.E Go.Proofs.Ytdeboaknhkffpaa.Eng
set_option linter.unusedVariables false
set_option linter.unusedSimpArgs false

theorem sentry_ok (id : ByteArray) (hi : id.size ≤ 100000) (c b x : Int) (l : List Slip) (hb : l.length ≤ 12) (hl : SlipsOk l) (y : Bool) (z : List ByteArray) (t f1 f2 n N) : TP (fun k => sheet_Entry.f k (id, (c, (b, (x, (l, (y, (z, ()))))))) t f1 f2 n [] N) (fun v => v.1 = (paperV [] id c b l.length (srootV [] l), ())) := by
  have hr := rootV_size (T := []) tok_nil (sleavesV_s32 (T := []) tok_nil l)
  exact TP.step (fun k => rfl) (TP.bindM (sroot_ok tok_nil l (by omega) hl _ _ _ _ _) fun _ => TP.bindM (spaper_ok id hi c b _ _ (by show (rootV [] _).size ≤ _; omega) _ _ _ _ _) fun _ => TP.some rfl)
theorem papers_j1 (id : ByteArray) (hi : id.size ≤ 100000) (c b x : Int) (l : List Slip) (hb : l.length ≤ 12) (hl : SlipsOk l) (y : Bool) (z : List ByteArray) (t f1 f2 n N) :
    TP (fun k => chartularylaw08_SheetPapers.j1 k (srootV [] l) (paperV [] id c b l.length (srootV [] l)) (decide (numO c = ⟨#[]⟩ ∨ numO b = ⟨#[]⟩)) id c b x l y z t f1 f2 n [] N) (fun v => v.1.1 = true) := by
  have hr : (srootV [] l).size = 32 := rootV_size (T := []) tok_nil (sleavesV_s32 (T := []) tok_nil l)
  have hE := sentry_ok id hi c b x l hb hl y z
  have hk : numO (l.length : Int) ≠ ⟨#[]⟩ := by unfold numO; rw [if_neg (by omega)]; exact numB_ne
  have hiff : (numO c = ⟨#[]⟩ ∨ numO b = ⟨#[]⟩ ∨ numO (l.length : Int) = ⟨#[]⟩) ↔ (numO c = ⟨#[]⟩ ∨ numO b = ⟨#[]⟩) := by
    constructor
    · rintro (h | h | h)
      · exact Or.inl h
      · exact Or.inr h
      · exact absurd h hk
    · rintro (h | h)
      · exact Or.inl h
      · exact Or.inr (Or.inl h)
  by_cases hc : numO c = ⟨#[]⟩ ∨ numO b = ⟨#[]⟩
  · have e : paperV [] id c b l.length (srootV [] l) = ⟨#[]⟩ := by unfold paperV; rw [if_pos (hiff.2 hc)]
    rw [e] at hE ⊢
    refine TP.step (fun k => rfl) (TP.yes (decide_eq_true hc) (TP.eqT (fun _ => TP.bindM (hE _ _ _ _ _) fun _ => TP.eqT (fun _ => awake_end fun _ => rfl) fun h => absurd rfl h) fun h => absurd rfl h))
  · have e : paperV [] id c b l.length (srootV [] l) = leafV [] ((((textO id ++ numO c) ++ numO b) ++ numO l.length) ++ textO (srootV [] l)) := by unfold paperV; rw [if_neg (fun h => hc (hiff.1 h))]
    have s0 := textO_size (t := id) (by omega)
    have s1 := numO_size c
    have s2 := numO_size b
    have s3 := numO_size (l.length : Int)
    have s4 := textO_size (t := srootV [] l) (by omega)
    have z1 : (textO id ++ numO c).size ≤ 200000 := by rw [ByteArray.size_append]; omega
    have z2 : (textO id ++ numO c ++ numO b).size ≤ 200008 := by rw [ByteArray.size_append]; omega
    have z3 : (textO id ++ numO c ++ numO b ++ numO l.length).size ≤ 200016 := by rw [ByteArray.size_append]; omega
    have z4 : (textO id ++ numO c ++ numO b ++ numO l.length ++ textO (srootV [] l)).size ≤ 400000 := by rw [ByteArray.size_append]; omega
    have ot (t : ByteArray) (h : t.size ≤ 1048576) : Runs (fun k => octet_Text.f k t) ((textO t, ()), ()) := octet_text h
    rw [e] at hE ⊢
    refine TP.step (fun k => rfl) (TP.no (decide_eq_false hc) (TP.bindR (ot id (by omega)) (TP.bindR (numO_ok c) (TP.ck (by apply decide_eq_true; dsimp only; omega) (TP.bindR (numO_ok b) (TP.ck (by apply decide_eq_true; dsimp only; omega) (TP.bindR (numO_ok _) (TP.ck (by apply decide_eq_true; dsimp only; omega) (TP.bindR (ot (srootV [] l) (by omega)) (TP.ck (by apply decide_eq_true; dsimp only; omega) ?_))))))))))
    refine TP.bindM (leaf_ok _ (by dsimp only; omega) _ _ _ _ _) fun _ => TP.eqT (fun _ => TP.bindM (hE _ _ _ _ _) fun _ => TP.eqT (fun _ => awake_end fun _ => rfl) fun h => absurd rfl h) fun h => absurd rfl h
theorem papers_j0 (id : ByteArray) (hi : id.size ≤ 100000) (c b x : Int) (l : List Slip) (hb : l.length ≤ 1000000000) (y : Bool) (z : List ByteArray) (t f1 f2 n N) :
    TP (fun k => chartularylaw08_SheetPapers.j0 k id c b x l y z t f1 f2 n [] N) (fun v => v.1.1 = true) := by
  have hf := fewV_len l
  have hl := fewV_ok l
  have hr : (srootV [] (fewV l)).size = 32 := rootV_size (T := []) tok_nil (sleavesV_s32 (T := []) tok_nil (fewV l))
  refine TP.step (fun k => rfl) (TP.bindM (few_ok l hb) fun _ => TP.bindM (sroot_ok tok_nil _ (by omega) hl _ _ _ _ _) fun _ => TP.bindM (spaper_ok id hi c b _ _ (by dsimp only; omega) _ _ _ _ _) fun _ => TP.bindR (numO_ok c) (TP.eqT (fun h => ?_) fun h => TP.bindR (numO_ok b) ?_))
  · have := papers_j1 id hi c b x _ hf hl y z
    rw [decide_eq_true (Or.inl h)] at this
    exact this _ _ _ _ _
  · have := papers_j1 id hi c b x _ hf hl y z
    have e : decide (numO c = ⟨#[]⟩ ∨ numO b = ⟨#[]⟩) = decide (numO b = ⟨#[]⟩) := decide_eq_decide.2 ⟨fun e => e.resolve_left h, Or.inr⟩
    rw [e, ← beq_text] at this
    exact this _ _ _ _ _
/-- The law. -/
theorem SheetPapers : chartularylaw08_SheetPapers.Pure := by
  intro e w0 hb
  have hl : e.2.2.2.2.1.length ≤ 1048576 := by
    refine Nat.le_trans (sumB_len (bulkT (.cons .str (.cons .str (.cons .str (.cons .bool .nil))))) (fun y => by simp [bulkT]; omega) e.2.2.2.2.1) (Nat.le_trans ?_ hb)
    simp only [bulkT]; omega
  refine TP.one (TP.step (fun k => rfl) (TP.bindR new_ok (TP.dec (fun h => TP.ck (by simp only [Bool.and_eq_true, decide_eq_true_eq]; omega) ?_) fun h => ?_)))
  · exact papers_j0 _ (by rw [ByteArray.size_extract]; show min 100 _ - 0 ≤ _; omega) _ _ _ _ (by omega) _ _ _ _ _ _ _
  · exact papers_j0 _ (by omega) _ _ _ _ (by omega) _ _ _ _ _ _ _
end Go.Proofs.Ytdeboaknhkffpaa.Pure
