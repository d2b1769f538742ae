/- Plain law: SheetRoots. -/
import Derived.Test.YtdeboaknhkffpaaP08a
import Derived.Test.YtdeboaknhkffpaaESSheetRoots
namespace Go.Proofs.Ytdeboaknhkffpaa.Pure
open Go Go.Proofs.Ytdeboaknhkffpaa.E Go.Proofs.Ytdeboaknhkffpaa.Eng
set_option linter.unusedVariables false
set_option linter.unusedSimpArgs false

def eraseS (s : Slip) : Slip := (s.1, (s.2.1, (ByteArray.empty, (true, ()))))
theorem erase_leaves (l : List Slip) : sleavesV [] (l.map eraseS) = sleavesV [] l := by unfold sleavesV; rw [List.map_map]; rfl
theorem erase_ok (l : List Slip) (hl : SlipsOk l) : SlipsOk (l.map eraseS) := fun s hs => by
  obtain ⟨y, hy, rfl⟩ := List.mem_map.1 hs
  exact hl y hy
theorem roots_loop (l : List Slip) (hb : l.length ≤ 12) (hl : SlipsOk l) : ∀ (m i : Nat) (out : List Slip), i + m = l.length → out = (l.take i).map eraseS → ∀ t f1 f2 n N, TP (fun k => chartularylaw08_SheetRoots.l0 k l out (i : Int) t f1 f2 n [] N) (fun v => v.1.1 = true)
  | 0, i, out, h, ho, t, f1, f2, n, N => by
    refine TP.step (fun k => rfl) (TP.dec (fun h' => absurd h' (by omega)) fun _ => ?_)
    have ho' : out = l.map eraseS := by rw [ho, List.take_of_length_le (by omega)]
    have hs := sleavesV_s32 (T := []) tok_nil l
    refine TP.bindM (lleaves_ok l (by omega) hl _ _ _ _ _) fun _ => TP.bindM (lroot_is tok_nil _ (by rw [sleavesV_len]; omega) hs _ _ _ _ _) fun _ => TP.bindM (sroot_ok tok_nil l (by omega) hl _ _ _ _ _) fun _ => TP.eqT (fun _ => ?_) fun h => absurd rfl h
    subst ho'
    have hr := sroot_ok (T := []) tok_nil (l.map eraseS) (by rw [List.length_map]; omega) (erase_ok l hl)
    have e : srootV [] (l.map eraseS) = rootV [] (sleavesV [] l) := by unfold srootV; rw [erase_leaves]
    rw [e] at hr
    exact TP.bindM (hr _ _ _ _ _) fun _ => TP.eqT (fun _ => awake_end fun _ => rfl) fun h => absurd rfl h
  | m + 1, i, out, h, ho, t, f1, f2, n, N => by
    have hi : i < l.length := by omega
    have hlen : out.length = i := by rw [ho, List.length_map, List.length_take]; omega
    have e : IntKind.wrap .i64 ((i : Int) + 1) = ((i + 1 : Nat) : Int) := by rw [wrap_i64 (by omega) (by omega)]; rfl
    have hs := hl _ (List.getElem_mem hi)
    refine TP.step (fun k => rfl) (TP.dec (fun h' => ?_) fun h' => absurd (by omega : (i : Int) < l.length) h')
    refine TP.optE (rdo_at hi) (TP.optE (rdo_at hi) (TP.ck (by apply decide_eq_true; simp only [List.length_cons, List.length_nil]; omega) (TP.optE (rdo_at hi) (TP.optE (rdo_at hi) ?_))))
    refine TP.bindM (sleaf_ok _ _ hs.1 hs.2 _ _ _ _ _) fun _ => TP.optE (rdo_at hi) (TP.bindM (lleaf_ok _ hs.1 hs.2 _ _ _ _ _) fun _ => TP.neT (fun h => absurd rfl h) fun _ => ?_)
    rw [e]
    refine roots_loop l hb hl m (i + 1) _ (by omega) ?_ _ _ _ _ _
    rw [List.take_succ_eq_append_getElem hi, List.map_append, ho]; rfl
/-- The law. -/
theorem SheetRoots : chartularylaw08_SheetRoots.Pure := by
  intro l w0 hb
  have hl : l.length ≤ 1048576 := Nat.le_trans (sumB_len (bulkT (.cons .str (.cons .str (.cons .str (.cons .bool .nil))))) (fun y => by simp [bulkT]; omega) l) hb
  refine TP.one (TP.step (fun k => rfl) (TP.bindR new_ok (TP.bindM (few_ok l (by omega)) fun _ => ?_)))
  exact roots_loop _ (fewV_len l) (fewV_ok l) _ 0 [] (Nat.zero_add _) rfl _ _ _ _ _
end Go.Proofs.Ytdeboaknhkffpaa.Pure
