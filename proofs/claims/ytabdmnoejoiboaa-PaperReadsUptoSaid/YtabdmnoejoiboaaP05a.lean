/- Plain laws of chapter 5: values made clean, words, few fields. -/
import Derived.Test.YtabdmnoejoiboaaPSortM
import Derived.Test.YtabdmnoejoiboaaPWord
namespace Go.Proofs.Ytabdmnoejoiboaa.Pure
open Go Go.Proofs.Ytabdmnoejoiboaa.E Go.Proofs.Ytabdmnoejoiboaa.Eng
set_option linter.unusedVariables false
set_option linter.unusedSimpArgs false

abbrev Vlu := Int × Bool × Int × Int × ByteArray × Unit
abbrev Pap := ByteArray × Int × List Elm × Unit
noncomputable def nanB (b : Int) : Bool := decide ((IntKind.wrap .u64 ((BitVec.ofInt (IntKind.bits .u64) b &&& BitVec.ofInt (IntKind.bits .u64) 9223372036854775807).toNat : Int) : Int) > 9218868437227405312)
noncomputable def cleanV (x : Vlu) : Vlu :=
  bif (x.1 : Int) == 1 then (x.1, x.2.1, 0, 0, ByteArray.empty, ()) else bif (x.1 : Int) == 2 then (x.1, false, x.2.2.1, 0, ByteArray.empty, ()) else
  bif (x.1 : Int) == 3 then (bif nanB x.2.2.2.1 then (x.1, false, 0, 9221120237041090561, ByteArray.empty, ()) else (x.1, false, 0, x.2.2.2.1, ByteArray.empty, ())) else
  bif (x.1 : Int) == 4 then (x.1, false, 0, 0, x.2.2.2.2.1, ()) else (x.1, false, 0, 0, ByteArray.empty, ())
theorem nan_ok (b : Int) : Runs (fun k => value_nan.f k b) ((nanB b, ()), ()) := Runs.step (fun k => rfl) Runs.some
theorem clean_ok (x : Vlu) : Runs (fun k => value_Clean.f k x) ((cleanV x, ()), ()) := by
  refine Runs.step (fun k => rfl) (Runs.cond (fun h1 => ?_) fun h1 => Runs.cond (fun h2 => ?_) fun h2 => Runs.cond (fun h3 => ?_) fun h3 => Runs.cond (fun h4 => ?_) fun h4 => ?_)
  · exact Runs.some' (by unfold cleanV; rw [h1]; rfl)
  · exact Runs.some' (by unfold cleanV; rw [h1, h2]; rfl)
  · refine Runs.bind (nan_ok _) (Runs.cond (fun h4 => ?_) fun h4 => ?_)
    · exact Runs.some' (by unfold cleanV; rw [h1, h2, h3]; dsimp only at h4; rw [h4]; rfl)
    · exact Runs.some' (by unfold cleanV; rw [h1, h2, h3]; dsimp only at h4; rw [h4]; rfl)
  · exact Runs.some' (by unfold cleanV; rw [h1, h2, h3, h4]; rfl)
  · exact Runs.some' (by unfold cleanV; rw [h1, h2, h3, h4]; rfl)
theorem seqB_eq (a b : ByteArray) : seqB a b = decide (a = b) := by
  unfold seqB
  rw [beq_toListBytes, beq_text]
def eqVal (a b : Vlu) : Bool := ((a.1 : Int) == b.1 && (a.2.1 == b.2.1 && ((a.2.2.1 : Int) == b.2.2.1 && ((a.2.2.2.1 : Int) == b.2.2.2.1 && (seqB a.2.2.2.2.1 b.2.2.2.2.1 && true)))))
theorem eqVal_iff (a b : Vlu) : eqVal a b = decide (a = b) := by
  obtain ⟨a1, a2, a3, a4, a5, ⟨⟩⟩ := a
  obtain ⟨b1, b2, b3, b4, b5, ⟨⟩⟩ := b
  unfold eqVal
  rw [seqB_eq]
  by_cases h : (a1, a2, a3, a4, a5, ()) = (b1, b2, b3, b4, b5, ())
  · rw [decide_eq_true h]
    injection h with e1 h; injection h with e2 h; injection h with e3 h; injection h with e4 h; injection h with e5 h
    subst e1; subst e2; subst e3; subst e4; subst e5
    simp
  · rw [decide_eq_false h]
    cases hb : ((a1 : Int) == b1 && (a2 == b2 && ((a3 : Int) == b3 && ((a4 : Int) == b4 && (decide (a5 = b5) && true))))) with
    | false => rfl
    | true =>
      simp only [Bool.and_eq_true, beq_iff_eq, decide_eq_true_eq] at hb
      obtain ⟨e1, e2, e3, e4, e5, _⟩ := hb
      exact absurd (by rw [e1, e2, e3, e4, e5]) h
/-- May a value be? -/
noncomputable def rightV (x : Vlu) : Bool := decide ((x.1 : Int) ≥ 0) && (decide ((x.1 : Int) ≤ 4) && (decide ((x.2.2.2.2.1.size : Int) ≤ 200) && eqVal x (cleanV x)))
theorem right_ok (x : Vlu) : Runs (fun k => value_Right.f k x) ((rightV x, ()), ()) :=
  Runs.step (fun k => rfl) (Runs.and (fun _ => Runs.and (fun _ => Runs.and (fun _ => Runs.bind (clean_ok _) Runs.some) Runs.some) Runs.some) Runs.some)

/-! ## Words, as the document has them -/
theorem lword_loop (s : ByteArray) (hs : s.size ≤ 1000000000) (most : Int) : ∀ (m i : Nat), i + m = s.data.toList.length →
    Runs (fun k => chartularylaw05_word.l0 k s most (i : Int)) (((s.data.toList.drop i).all (fun c => signB (c.toNat : Int)) && (decide ((s.size : Int) > 0) && decide ((s.size : Int) ≤ most)), ()), ()) := by
  have hsz := size_list s
  intro m
  induction m with
  | zero =>
    intro i hi
    rw [List.drop_of_length_le (by omega)]
    exact Runs.step (fun k => rfl) (Runs.no (by apply decide_eq_false; omega) (Runs.and (fun _ => Runs.some) Runs.some))
  | succ m ih =>
    intro i hi
    have hlt : i < s.data.toList.length := by omega
    refine Runs.step (fun k => rfl) (Runs.yes (by apply decide_eq_true; omega) (Runs.opt (bto_at hlt) ?_))
    rw [List.drop_eq_getElem_cons hlt, List.all_cons]
    have hw : IntKind.wrap .i64 ((i : Int) + 1) = ((i + 1 : Nat) : Int) := by rw [wrap_i64 (by omega) (by omega)]; rfl
    have hc : signB ((s.data.toList[i]).toNat : Int) = true → Runs (fun k => chartularylaw05_word.l0 k s most (IntKind.wrap .i64 ((i : Int) + 1))) ((signB ((s.data.toList[i]).toNat : Int) && (s.data.toList.drop (i + 1)).all (fun c => signB (c.toNat : Int)) && (decide ((s.size : Int) > 0) && decide ((s.size : Int) ≤ most)), ()), ()) := by
      intro h; rw [hw, h, Bool.true_and]; exact ih (i + 1) (by omega)
    have he : signB ((s.data.toList[i]).toNat : Int) = false → Runs (fun _ => some ((false, ()), ())) ((signB ((s.data.toList[i]).toNat : Int) && (s.data.toList.drop (i + 1)).all (fun c => signB (c.toNat : Int)) && (decide ((s.size : Int) > 0) && decide ((s.size : Int) ≤ most)), ()), ()) := by
      intro h; rw [h]; exact Runs.some
    generalize ((s.data.toList[i]).toNat : Int) = t at hc he ⊢
    have e : ∀ b, signB t = b ↔ (match paper_sign.f 1 t with | some r => r.1.1 | none => false) = b := fun b => Iff.rfl
    rw [e] at hc he
    repeat' (refine Runs.cond (fun _ => ?_) fun _ => ?_)
    all_goals first
      | exact hc (by simp only [paper_sign.f, bne, Bool.not_eq_true', Bool.not_eq_false', Bool.not_not] at *; simp only [*, cond_true, cond_false])
      | exact he (by simp only [paper_sign.f, bne, Bool.not_eq_true', Bool.not_eq_false', Bool.not_not] at *; simp only [*, cond_true, cond_false])
theorem lword_ok (s : ByteArray) (hs : s.size ≤ 1000000000) (most : Int) : Runs (fun k => chartularylaw05_word.f k s most) ((wordB s most, ()), ()) := by
  refine Runs.step (body := fun k => chartularylaw05_word.l0 k s most ((0 : Nat) : Int)) (fun k => rfl) ((lword_loop s hs most _ 0 (Nat.zero_add _)).vbool ?_)
  unfold wordB
  rw [List.drop_zero]
  generalize s.data.toList.all (fun c => signB (c.toNat : Int)) = b
  have e1 : decide ((s.size : Int) > 0) = !decide (s.size = 0) := by
    by_cases h : s.size = 0
    · rw [decide_eq_true h, decide_eq_false (by omega)]; rfl
    · rw [decide_eq_false h, decide_eq_true (by omega)]; rfl
  have e2 : decide ((s.size : Int) ≤ most) = !decide ((s.size : Int) > most) := by
    by_cases h : (s.size : Int) ≤ most
    · rw [decide_eq_true h, decide_eq_false (by omega)]; rfl
    · rw [decide_eq_false h, decide_eq_true (by omega)]; rfl
  rw [e1, e2, Bool.and_comm b, Bool.and_assoc]

/-! ## Few -/
def FOk (f : Elm) : Prop := f.1.size ≤ 300 ∧ f.2.1.2.2.2.2.1.size ≤ 300
def POk (p : Pap) : Prop := p.1.size ≤ 300 ∧ p.2.2.1.length ≤ 30 ∧ ∀ f ∈ p.2.2.1, FOk f
theorem cut_size (s : ByteArray) : (s.extract (0 : Int).toNat (300 : Int).toNat).size ≤ 300 := by
  show (s.extract 0 300).size ≤ 300
  rw [ByteArray.size_extract]; omega
/-- What a value's whole numbers may be. -/
structure VOk (v : Vlu) : Prop where
  i1 : -9223372036854775808 ≤ v.2.2.1
  i2 : v.2.2.1 ≤ 9223372036854775807
  b1 : 0 ≤ v.2.2.2.1
  b2 : v.2.2.2.1 < 18446744073709551616
/-- So they are where nothing else is changed. -/
def VLike (l : List Elm) (f : Elm) : Prop := (∀ g ∈ l, VOk g.2.1) → VOk f.2.1
theorem few_loop (x1 : ByteArray) (x2 : Int) (l : List Elm) (z1 : ByteArray) (z2 : Int) (z3 : List Elm) (id : ByteArray) (hid : id.size ≤ 300) (c : Int) : ∀ (m i : Nat), 30 - i = m → i ≤ 30 → i ≤ l.length → ∀ (out : List Elm), out.length = i → (∀ f ∈ out, FOk f) → (∀ f ∈ out, VLike l f) →
    TP (fun k => chartularylaw05_Few.l0 k (i : Int) x1 x2 l z1 z2 z3 id c out) (fun v => POk v.1.1 ∧ ∀ f ∈ v.1.1.2.2.1, VLike l f)
  | m, i, hm, hi, hil, out, ho, hf, hg => by
    have done : POk (id, c, out, ()) ∧ ∀ f ∈ out, VLike l f := ⟨⟨hid, by show out.length ≤ 30; omega, hf⟩, hg⟩
    refine TP.step (fun k => rfl) (TP.dec (fun h1 => TP.dec (fun h2 => ?_) fun h2 => TP.some done) fun h1 => TP.some done)
    have hlt : i < l.length := by omega
    cases m with
    | zero => omega
    | succ m =>
    have hv : VLike l l[i] := fun h => h _ (List.getElem_mem hlt)
    have next : ∀ (f : Elm), FOk f → VLike l f → TP (fun k => chartularylaw05_Few.l0 k (IntKind.wrap .i64 ((i : Int) + 1)) x1 x2 l z1 z2 z3 id c (out ++ ([f] : List Elm))) (fun v => POk v.1.1 ∧ ∀ f ∈ v.1.1.2.2.1, VLike l f) := by
      intro f hfo hvo
      rw [show IntKind.wrap .i64 ((i : Int) + 1) = ((i + 1 : Nat) : Int) by rw [wrap_i64 (by omega) (by omega)]; rfl]
      refine few_loop x1 x2 l z1 z2 z3 id hid c m (i + 1) (by omega) (by omega) (by omega) _ (by simp [ho]) (fun g hg' => ?_) (fun g hg' => ?_)
      · rcases List.mem_append.1 hg' with hg' | hg'
        · exact hf g hg'
        · rw [List.mem_singleton.1 hg']; exact hfo
      · rcases List.mem_append.1 hg' with hg' | hg'
        · exact hg g hg'
        · rw [List.mem_singleton.1 hg']; exact hvo
    have hv' : ∀ f : Elm, f.2.1.2.2.1 = l[i].2.1.2.2.1 → f.2.1.2.2.2.1 = l[i].2.1.2.2.2.1 → VLike l f := fun f e1 e2 h => by
      obtain ⟨a1, a2, a3, a4⟩ := hv h
      exact ⟨e1 ▸ a1, e1 ▸ a2, e2 ▸ a3, e2 ▸ a4⟩
    have hck : ∀ (f : Elm), decide ((out.length + ([f] : List Elm).length) * 64 ≤ 70368744177664) = true := fun f => decide_eq_true (by simp only [List.length_cons, List.length_nil]; omega)
    refine TP.optE (rdo_at hlt) (TP.dec (fun c1 => ?_) fun c1 => ?_)
    · refine TP.ck (by simp only [Bool.and_eq_true, decide_eq_true_eq]; omega) (TP.dec (fun c2 => ?_) fun c2 => ?_)
      · exact TP.ck (by simp only [Bool.and_eq_true, decide_eq_true_eq]; omega) (TP.ck (hck _) (next _ ⟨cut_size _, cut_size _⟩ (hv' _ rfl rfl)))
      · exact TP.ck (hck _) (next _ ⟨cut_size _, by dsimp only; omega⟩ (hv' _ rfl rfl))
    · refine TP.dec (fun c2 => ?_) fun c2 => ?_
      · exact TP.ck (by simp only [Bool.and_eq_true, decide_eq_true_eq]; omega) (TP.ck (hck _) (next _ ⟨by dsimp only; omega, cut_size _⟩ (hv' _ rfl rfl)))
      · exact TP.ck (hck _) (next _ ⟨by dsimp only; omega, by dsimp only; omega⟩ (hv' _ rfl rfl))
theorem few_ok2 (p : Pap) : TP (fun k => chartularylaw05_Few.f k p) (fun v => POk v.1.1 ∧ ∀ f ∈ v.1.1.2.2.1, VLike p.2.2.1 f) := by
  refine TP.step (fun k => rfl) (TP.dec (fun h => ?_) fun h => ?_)
  · exact TP.ck (by simp only [Bool.and_eq_true, decide_eq_true_eq]; omega) (TP.step (fun k => rfl) (few_loop _ _ _ _ _ _ _ (cut_size _) _ _ 0 rfl (by omega) (by omega) [] rfl (fun f hf => by cases hf) (fun f hf => by cases hf)))
  · exact TP.step (fun k => rfl) (few_loop _ _ _ _ _ _ _ (by omega) _ _ 0 rfl (by omega) (by omega) [] rfl (fun f hf => by cases hf) (fun f hf => by cases hf))
theorem few_ok (p : Pap) : TP (fun k => chartularylaw05_Few.f k p) (fun v => POk v.1.1) := (few_ok2 p).mono fun v h => h.1
end Go.Proofs.Ytabdmnoejoiboaa.Pure
