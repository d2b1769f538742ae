/- Plain law: FindMeans. -/
import Derived.Test.YtcjiipbppkdkaaaP17m
import Derived.Test.YtcjiipbppkdkaaaPAw17
import Derived.Test.YtcjiipbppkdkaaaESFindMeans
namespace Go.Proofs.Ytcjiipbppkdkaaa.Pure
open Go Go.Proofs.Ytcjiipbppkdkaaa.E Go.Proofs.Ytcjiipbppkdkaaa.Eng
set_option linter.unusedVariables false
set_option linter.unusedSimpArgs false

def B64 (l : List Nat) : Prop := ∀ t ∈ l, t < 18446744073709551616
def castL (l : List Nat) : List Int := l.map fun (n : Nat) => (n : Int)
theorem castL_at {l : List Nat} {i : Nat} (h : i < l.length) : rdo (castL l) (i : Int) = some ((l[i] : Nat) : Int) := by
  rw [rdo_at (by unfold castL; simpa using h)]; simp [castL]
theorem castL_len (l : List Nat) : (castL l).length = l.length := by unfold castL; simp
/-- Far from the greatest, or infinite, or no number. -/
def smallT (t : Nat) : Prop := ¬ (2000 < eB t ∧ eB t < 2047)
theorem small_l0 (l : List Nat) (hb : B64 l) : ∀ (m i : Nat), i + m = min l.length 30 → (∀ t ∈ (l.take 30).take i, smallT t) → TP (fun k => chartularylaw17_small.l0 k (castL l) (i : Int)) (fun v => v.1.1 = true → ∀ t ∈ l.take 30, smallT t)
  | 0, i, hi, hs => by
    have hfull : (l.take 30).take i = l.take 30 := List.take_of_length_le (by rw [List.length_take]; omega)
    rw [hfull] at hs
    refine TP.step (fun k => rfl) (TP.dec (fun h => TP.dec (fun h2 => ?_) fun _ => TP.some fun _ => hs) fun _ => TP.some fun _ => hs)
    rw [castL_len] at h; omega
  | m + 1, i, hi, hs => by
    have hlt : i < l.length := by omega
    have h64 := hb _ (List.getElem_mem hlt)
    have hE : IntKind.wrap .u64 ((BitVec.ofInt (IntKind.bits .u64) (Int.fdiv ((l[i] : Nat) : Int) (2 ^ (min (52 : Int).toNat (IntKind.bits .u64)))) &&& BitVec.ofInt (IntKind.bits .u64) 2047).toNat : Int) = (eB l[i] : Int) := by
      have h1 : Int.fdiv ((l[i] : Nat) : Int) (2 ^ (min (52 : Int).toNat (IntKind.bits .u64))) = ((l[i] / 4503599627370496 : Nat) : Int) := by
        rw [show min (52 : Int).toNat (IntKind.bits .u64) = 52 from rfl, fdiv_pow, ← p52]
      have h2 : (l[i] / 4503599627370496 &&& 2047) = eB l[i] := Nat.and_two_pow_sub_one_eq_mod _ 11
      have h3 : eB l[i] < 2048 := Nat.mod_lt _ (by decide)
      rw [h1, show (2047 : Int) = ((2047 : Nat) : Int) from rfl, and_nat _ _ (by omega) (by decide), h2, wrap_u64 (by omega)]
    have hmem : smallT l[i] → ∀ t ∈ (l.take 30).take (i + 1), smallT t := by
      intro hh t ht
      rw [List.take_succ_eq_append_getElem (by rw [List.length_take]; omega), List.mem_append, List.mem_singleton] at ht
      rcases ht with ht | ht
      · exact hs t ht
      · rw [ht, List.getElem_take]; exact hh
    have next : smallT l[i] → TP (fun k => chartularylaw17_small.l0 k (castL l) (IntKind.wrap .i64 ((i : Int) + 1))) (fun v => v.1.1 = true → ∀ t ∈ l.take 30, smallT t) := by
      intro hh
      rw [show IntKind.wrap .i64 ((i : Int) + 1) = ((i + 1 : Nat) : Int) by rw [wrap_i64 (by omega) (by omega)]; rfl]
      exact small_l0 l hb m (i + 1) (by omega) (hmem hh)
    refine TP.step (fun k => rfl) (TP.yes (by apply decide_eq_true; rw [castL_len]; omega) (TP.yes (by apply decide_eq_true; omega) (TP.optE (castL_at hlt) (TP.ck (by rfl) ?_))))
    rw [hE]
    refine TP.dec (fun h => TP.dec (fun h2 => TP.some fun h3 => by cases h3) fun h2 => next ?_) fun h => next ?_
    · unfold smallT; omega
    · unfold smallT; omega
theorem small_ok (l : List Nat) (hb : B64 l) : TP (fun k => chartularylaw17_small.f k (castL l)) (fun v => v.1.1 = true → ∀ t ∈ l.take 30, smallT t) :=
  TP.step (body := fun k => chartularylaw17_small.l0 k (castL l) ((0 : Nat) : Int)) (fun k => rfl) (small_l0 l hb _ 0 (Nat.zero_add _) (by intro t ht; rw [List.take_zero] at ht; cases ht))
def aNan (l : List Nat) : Bool := l.any fnan
def aUp (l : List Nat) : Bool := l.any fun t => t == pinf
def aDn (l : List Nat) : Bool := l.any fun t => t == ninf
def aZero (l : List Nat) : Bool := l.all fun t => decide (rung t = 0)
theorem aUp_iff (l : List Nat) : aUp l = true ↔ pinf ∈ l := by
  unfold aUp; rw [List.any_eq_true]
  exact ⟨fun ⟨t, h1, h2⟩ => by rw [← eq_of_beq h2]; exact h1, fun h => ⟨_, h, beq_self_eq_true _⟩⟩
theorem aDn_iff (l : List Nat) : aDn l = true ↔ ninf ∈ l := by
  unfold aDn; rw [List.any_eq_true]
  exact ⟨fun ⟨t, h1, h2⟩ => by rw [← eq_of_beq h2]; exact h1, fun h => ⟨_, h, beq_self_eq_true _⟩⟩
theorem aNan_iff (l : List Nat) : aNan l = true ↔ ∃ t ∈ l, fnan t = true := by unfold aNan; rw [List.any_eq_true]
theorem aZero_iff (l : List Nat) : aZero l = true ↔ ∀ t ∈ l, rung t = 0 := by
  unfold aZero; rw [List.all_eq_true]
  exact ⟨fun h t ht => of_decide_eq_true (h t ht), fun h t ht => decide_eq_true (h t ht)⟩
theorem small_V {t : Nat} (h : smallT t) (h2 : rung t < 9218868437227405312) : Vr (rung t) ≤ 2 ^ (52 + eS) := by
  have hS := eS_eq
  obtain ⟨e1, e2⟩ := rung_em t
  have hE : eB t ≤ 2000 := by unfold smallT at h; omega
  have hm := mB_lt t
  by_cases h0 : eB t = 0
  · unfold Vr; rw [if_pos (by omega)]
    calc rung t ≤ 2 ^ 52 := by rw [← p52]; omega
      _ ≤ _ := Nat.pow_le_pow_right (by decide) (by omega)
  · rw [V_em (by omega)]
    calc mB t * 2 ^ (eB t - 1) ≤ 2 ^ 53 * 2 ^ (eB t - 1) := Nat.mul_le_mul_right _ (by rw [show (2 ^ 53 : Nat) = 9007199254740992 by decide]; omega)
      _ = 2 ^ (53 + (eB t - 1)) := by rw [Nat.pow_add]
      _ ≤ _ := Nat.pow_le_pow_right (by decide) (by omega)
theorem mj1_ok (b : Bool) (x0 : Int) (x1 : Bool) (x2 x3 : Int) (x4 : ByteArray) (h : b = true → x3 = 9218868437227405312) : TP (fun k => chartularylaw17_FindMeans.j1 k b x0 x1 x2 x3 x4) (fun v => v.1.1 = true) :=
  TP.step (fun k => rfl) (TP.cond (fun hb => TP.yes (by rw [h hb]; rfl) (awake_end fun k => rfl)) fun _ => awake_end fun k => rfl)
theorem mj0_ok (l : List Nat) (hb : B64 l) (h0 : (l.take 30).length ≠ 0) : TP (fun k => chartularylaw17_FindMeans.j0 k (castL l) ((l.take 30).map papF) (aNan (l.take 30)) (aUp (l.take 30)) (aDn (l.take 30)) (aZero (l.take 30)) 3 false 0 (meanB (l.take 30) : Int) ByteArray.empty) (fun v => v.1.1 = true) := by
  have hsm := small_ok l hb
  have hb2 : ∀ t ∈ l.take 30, t < 18446744073709551616 := fun t ht => hb t (List.mem_of_mem_take ht)
  have hl : (l.take 30).length ≤ 30 := by rw [List.length_take]; omega
  generalize hbs : l.take 30 = bs at *
  have inv : Inv bs (sumF bs 0) := by
    have := Inv.sum bs [] 0 Inv.nil hb2 (by simpa using hl)
    rw [List.nil_append] at this; exact this
  have awk : TP (fun k => (chartularylaw17_awake.f k).bind fun r => some ((r.1.1, ()), ())) (fun v => v.1.1 = true) := awake_end fun k => rfl
  have hq : sumF bs 0 = quietN → meanB bs = quietN := fun e => by unfold meanB; rw [e]; exact fdiv_nan quiet_is _
  have c_nan : aNan bs = true → meanB bs = quietN := fun h => hq (inv.nan ((aNan_iff bs).1 h))
  have c_both : aUp bs = true → aDn bs = true → meanB bs = quietN := fun h1 h2 => hq (by
    rcases inv.up ((aUp_iff bs).1 h1) with e | e
    · rcases inv.dn ((aDn_iff bs).1 h2) with e2 | e2
      · rw [e] at e2; exact absurd e2 (by decide)
      · exact e2
    · exact e)
  have c_zero : aZero bs = true → meanB bs = 0 := fun h => by unfold meanB; rw [inv.zero ((aZero_iff bs).1 h)]; exact fdiv_zero h0 (by omega)
  have c_one : aNan bs = false → aZero bs = false → bs.length = 1 → ∃ t, bs = [t] ∧ meanB bs = fcan t := by
    intro h1 h2 h3
    obtain ⟨t, rfl⟩ := List.length_eq_one_iff.1 h3
    have hn : fnan t = false := by simpa [aNan] using h1
    have hz : rung t ≠ 0 := by simpa [aZero] using h2
    refine ⟨t, rfl, ?_⟩
    rw [fcan_id hn]
    exact single_ok (hb2 t (by simp)) hn hz
  have c_up : aNan bs = false → aUp bs = true → aDn bs = false → (∀ t ∈ bs, smallT t) → meanB bs = pinf := by
    intro h1 h2 h3 h4
    have hmem := (aUp_iff bs).1 h2
    have k1 : ∀ t ∈ bs, fnan t = false := by
      intro t ht
      cases hn : fnan t with
      | false => rfl
      | true => rw [(aNan_iff bs).2 ⟨t, ht, hn⟩] at h1; cases h1
    have k2 : ∀ t ∈ bs, t ≠ ninf := by
      intro t ht e
      rw [(aDn_iff bs).2 (by rw [← e]; exact ht)] at h3; cases h3
    rcases inv.small (fun t ht => ⟨k1 t ht, k2 t ht, small_V (h4 t ht)⟩) with ⟨_, e⟩ | ⟨e, _⟩
    · unfold meanB; rw [e]; exact fdiv_pinf h0 (by omega)
    · exact absurd hmem e
  have lone : ∀ {t : Nat}, bs = [t] → meanB bs = fcan t → TP (fun k => (rdo (bs.map papF) 0).bind fun t27 => (rdo t27.2.2.1 0).bind fun t28 => bif (((3 : Int) : Int) == t28.2.1.1 && (false == t28.2.1.2.1 && (((0 : Int) : Int) == t28.2.1.2.2.1 && (((meanB bs : Int)) == t28.2.1.2.2.2.1 && (seqB ByteArray.empty t28.2.1.2.2.2.2.1 && true))))) then
      (chartularylaw17_awake.f k).bind fun r29 => some ((r29.1.1, ()), (())) else some ((false, ()), (()))) (fun v => v.1.1 = true) := by
    intro t e1 e2
    have e3 : rdo (bs.map papF) 0 = some (papF t) := by rw [e1]; rfl
    have e4 : rdo (papF t).2.2.1 0 = some ((⟨#[120]⟩ : ByteArray), flV t, ()) := rfl
    refine TP.optE e3 (TP.optE e4 (TP.yes ?_ awk))
    rw [e2]; exact eqVal_refl (flV t)
  have hlen : (bs.map papF).length = bs.length := List.length_map ..
  refine TP.step (fun k => rfl) (TP.cond (fun h1 => TP.yes (by rw [c_nan h1]; rfl) awk) fun h1 => TP.cond (fun h2 => TP.cond (fun h3 => TP.yes (by rw [c_both h2 h3]; rfl) awk) fun h3 => TP.cond (fun h4 => TP.yes (by rw [c_zero h4]; rfl) awk) fun h4 => TP.eqI (fun h5 => ?_) fun h5 => TP.dec (fun h6 => TP.yes h2 (TP.bind hsm fun r hr => mj1_ok _ _ _ _ _ _ fun hh => ?_)) fun h6 => mj1_ok _ _ _ _ _ _ fun hh => by cases hh) fun h2 => TP.cond (fun h4 => TP.yes (by rw [c_zero h4]; rfl) awk) fun h4 => TP.eqI (fun h5 => ?_) fun h5 => TP.dec (fun h6 => TP.no h2 (mj1_ok _ _ _ _ _ _ fun hh => by cases hh)) fun h6 => mj1_ok _ _ _ _ _ _ fun hh => by cases hh)
  · rw [hlen] at h5
    obtain ⟨t, e1, e2⟩ := c_one h1 h4 (by omega)
    exact lone e1 e2
  · rw [c_up h1 h2 h3 (hr hh)]; rfl
  · rw [hlen] at h5
    obtain ⟨t, e1, e2⟩ := c_one h1 h4 (by omega)
    exact lone e1 e2
/-- Behind the papers. -/
theorem mtail_ok (l : List Nat) (hb : B64 l) (L : List Pap) (hL : L = (l.take 30).map papF) (n u d z : Bool) (hn : n = aNan (l.take 30)) (hu : u = aUp (l.take 30)) (hd : d = aDn (l.take 30)) (hz : z = aZero (l.take 30)) :
    TP (fun k => (find_Mean.f k (⟨#[120]⟩ : ByteArray) L).bind fun r18 =>
        bif ((L.length : Int) : Int) == 0 then
          bif !r18.1.2.1 then
            bif ((r18.1.1.1 : Int) == 0 && (r18.1.1.2.1 == false && ((r18.1.1.2.2.1 : Int) == 0 && ((r18.1.1.2.2.2.1 : Int) == 0 && (seqB r18.1.1.2.2.2.2.1 ByteArray.empty && true))))) then
              (chartularylaw17_awake.f k).bind fun r19 =>
              some ((r19.1.1, ()), (()))
            else
              some ((false, ()), (()))
          else
            some ((false, ()), (()))
        else
        bif !r18.1.2.1 then
          some ((false, ()), (()))
        else
        bif (r18.1.1.1 : Int) != 3 then
          some ((false, ()), (()))
        else
          (value_Right.f k (r18.1.1.1, (r18.1.1.2.1, (r18.1.1.2.2.1, (r18.1.1.2.2.2.1, (r18.1.1.2.2.2.2.1, ())))))).bind fun r20 =>
          bif !r20.1.1 then
            some ((false, ()), (()))
          else
            chartularylaw17_FindMeans.j0 k (castL l) L n u d z r18.1.1.1 r18.1.1.2.1 r18.1.1.2.2.1 r18.1.1.2.2.2.1 r18.1.1.2.2.2.2.1) (fun v => v.1.1 = true) := by
  subst hL; subst hn; subst hu; subst hd; subst hz
  have hb2 : ∀ t ∈ l.take 30, t < 18446744073709551616 := fun t ht => hb t (List.mem_of_mem_take ht)
  have hl : (l.take 30).length ≤ 30 := by rw [List.length_take]; omega
  by_cases h0 : (l.take 30).length = 0
  · rw [List.eq_nil_of_length_eq_zero h0]
    exact TP.bindR mean_nil (TP.yes rfl (TP.yes rfl (TP.yes (eqVal_refl (0, false, 0, 0, ByteArray.empty, ())) (awake_end fun k => rfl))))
  · refine TP.bindR (mean_ok _ hb2 hl h0) (TP.no (by rw [List.length_map, beq_eq_false_iff_ne]; omega) (TP.no rfl (TP.no rfl ?_)))
    have hv : ((3, false, 0, (meanB (l.take 30) : Int), ByteArray.empty, ()) : Vlu) = flV (meanB (l.take 30)) := by unfold flV; rw [meanB_can]
    have hm : meanB (l.take 30) < 18446744073709551616 := by
      have h1 := meanB_can (l.take 30)
      show fres _ < _
      unfold Ieee.Format.div
      cases (Ieee.Datum.quotient (Ieee.double.fractionBits + 2) (Ieee.double.read (sumF (l.take 30) 0)) (Ieee.double.read (fofi ((l.take 30).length : Int)))) with
      | none => exact (by decide : quietN < 18446744073709551616)
      | some d => exact fcan_lt (Ieee.double.write_lt d)
    have hr : Runs (fun k => value_Right.f k (3, false, 0, (meanB (l.take 30) : Int), ByteArray.empty, ())) ((true, ()), ()) := by
      rw [hv, ← right_fl (meanB (l.take 30))]; exact right_ok _ (bok_fl hm)
    exact TP.bindR hr (TP.no rfl (mj0_ok l hb h0))
theorem ml0_ok (l : List Nat) (hb : B64 l) : ∀ (m i : Nat), i + m = min l.length 30 → ∀ (L : List Pap) (n u d z : Bool), L = (l.take i).map papF → n = aNan (l.take i) → u = aUp (l.take i) → d = aDn (l.take i) → z = aZero (l.take i) →
    TP (fun k => chartularylaw17_FindMeans.l0 k (castL l) L n u d z (i : Int)) (fun v => v.1.1 = true)
  | 0, i, hi, L, n, u, d, z, hL, hn, hu, hd, hz => by
    have he : l.take i = l.take 30 := by
      by_cases h : l.length ≤ 30
      · rw [List.take_of_length_le (i := i) (by omega), List.take_of_length_le (by omega)]
      · rw [show i = 30 by omega]
    rw [he] at hL hn hu hd hz
    have tl := mtail_ok l hb L hL n u d z hn hu hd hz
    refine TP.step (fun k => rfl) (TP.dec (fun h => TP.dec (fun h2 => ?_) fun _ => tl) fun _ => tl)
    rw [castL_len] at h; omega
  | m + 1, i, hi, L, n, u, d, z, hL, hn, hu, hd, hz => by
    have hlt : i < l.length := by omega
    have h64 := hb _ (List.getElem_mem hlt)
    have hrd := castL_at hlt
    have ht : l.take (i + 1) = l.take i ++ [l[i]] := List.take_succ_eq_append_getElem hlt
    have hLl : L.length ≤ 30 := by rw [hL, List.length_map, List.length_take]; omega
    have e_nan : decide ((IntKind.wrap .u64 (((l[i] : Nat) : Int) * 2 ^ (min (1 : Int).toNat (IntKind.bits .u64))) : Int) > 18437736874454810624) = fnan l[i] := by
      have : IntKind.wrap .u64 (((l[i] : Nat) : Int) * 2 ^ (min (1 : Int).toNat (IntKind.bits .u64))) = ((2 * rung l[i] : Nat) : Int) := by
        rw [show (2 : Int) ^ (min (1 : Int).toNat (IntKind.bits .u64)) = 2 from rfl]
        simp only [IntKind.wrap, IntKind.bits, IntKind.signed, Bool.false_and, rung]
        simp; omega
      rw [this, fnan_eq]
      apply decide_eq_decide.2; omega
    have e_z := shl1 l[i] h64
    have e_u : (((l[i] : Nat) : Int) == 9218868437227405312) = (l[i] == pinf) := by
      by_cases h : l[i] = pinf
      · rw [h]; rfl
      · rw [show (l[i] == pinf) = false from beq_eq_false_iff_ne.2 h, beq_eq_false_iff_ne]
        intro e; exact h (Int.ofNat.inj e)
    have e_d : (((l[i] : Nat) : Int) == 18442240474082181120) = (l[i] == ninf) := by
      by_cases h : l[i] = ninf
      · rw [h]; rfl
      · rw [show (l[i] == ninf) = false from beq_eq_false_iff_ne.2 h, beq_eq_false_iff_ne]
        intro e; exact h (Int.ofNat.inj e)
    have next : ∀ (n' u' d' z' : Bool), n' = (n || fnan l[i]) → u' = (u || (l[i] == pinf)) → d' = (d || (l[i] == ninf)) → z' = (z && decide (rung l[i] = 0)) →
        TP (fun k => chartularylaw17_FindMeans.l0 k (castL l) (L ++ [papF l[i]]) n' u' d' z' (IntKind.wrap .i64 ((i : Int) + 1))) (fun v => v.1.1 = true) := by
      intro n' u' d' z' h1 h2 h3 h4
      rw [show IntKind.wrap .i64 ((i : Int) + 1) = ((i + 1 : Nat) : Int) by rw [wrap_i64 (by omega) (by omega)]; rfl]
      refine ml0_ok l hb m (i + 1) (by omega) _ _ _ _ _ ?_ ?_ ?_ ?_ ?_
      · rw [ht, hL, List.map_append]; rfl
      · rw [h1, hn, ht]; unfold aNan; rw [List.any_append]; simp
      · rw [h2, hu, ht]; unfold aUp; rw [List.any_append]; simp
      · rw [h3, hd, ht]; unfold aDn; rw [List.any_append]; simp
      · rw [h4, hz, ht]; unfold aZero; rw [List.all_append]; simp
    clear hn hu hd hz
    have hcl : Runs (fun k => value_Clean.f k (3, false, 0, ((l[i] : Nat) : Int), ByteArray.empty, ())) ((flV l[i], ()), ()) := by
      rw [← clean_fl]; exact clean_ok _ ⟨l[i], rfl, h64⟩
    refine TP.step (fun k => rfl) (TP.yes (by apply decide_eq_true; rw [castL_len]; omega) (TP.yes (by apply decide_eq_true; omega) (TP.optE hrd (TP.bindR hcl (TP.ck (by apply decide_eq_true; simp only [List.length_cons, List.length_nil]; omega) ?_)))))
    cases n <;> cases u <;> cases d <;> cases z <;> simp only [cond_true, cond_false] <;> (repeat (first | refine TP.optE hrd ?_ | refine TP.ck (by rfl) ?_)) <;>
      exact next _ _ _ _ (by first | rfl | exact e_nan) (by first | rfl | exact e_u) (by first | rfl | exact e_d) (by first | rfl | exact e_z)
/-- The law. -/
theorem FindMeans : chartularylaw17_FindMeans.Pure := by
  intro x hx _
  have hx : ∀ t ∈ x, ∃ m : Nat, t = (m : Int) ∧ m < 18446744073709551616 := fun t ht => wf_u64 (hx t ht)
  obtain ⟨l, rfl, hb⟩ : ∃ l : List Nat, x = castL l ∧ B64 l := by
    refine ⟨x.map Int.toNat, ?_, ?_⟩
    · unfold castL
      rw [List.map_map]
      symm
      refine (List.map_congr_left fun t ht => ?_).trans (List.map_id x)
      obtain ⟨m, rfl, _⟩ := hx t ht
      rfl
    · intro t ht
      rw [List.mem_map] at ht
      obtain ⟨a, ha, rfl⟩ := ht
      obtain ⟨m, rfl, hm⟩ := hx a ha
      exact hm
  refine TP.one (TP.step (body := fun k => chartularylaw17_FindMeans.l0 k (castL l) [] false false false true ((0 : Nat) : Int)) (fun k => rfl) (ml0_ok l hb _ 0 (Nat.zero_add _) _ _ _ _ _ ?_ ?_ ?_ ?_ ?_)) <;> rw [List.take_zero] <;> rfl
end Go.Proofs.Ytcjiipbppkdkaaa.Pure
