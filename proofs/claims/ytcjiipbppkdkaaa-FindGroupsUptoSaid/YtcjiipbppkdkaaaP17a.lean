/- Plain laws of chapter 17: values compared, fields found, terms that hold, queries that may be: by the program and by the document. -/
import Derived.Test.YtcjiipbppkdkaaaPWord
import Derived.Test.YtcjiipbppkdkaaaPComb
namespace Go.Proofs.Ytcjiipbppkdkaaa.Pure
open Go Go.Proofs.Ytcjiipbppkdkaaa.E Go.Proofs.Ytcjiipbppkdkaaa.Eng
set_option linter.unusedVariables false
set_option linter.unusedSimpArgs false
abbrev ValueT := Int × Bool × Int × Int × ByteArray × Unit
abbrev Fld := ByteArray × ValueT × Unit
abbrev Pap := ByteArray × Int × List Fld × Unit
abbrev Trm := ByteArray × ValueT × ValueT × Bool × Bool × Bool × Unit
abbrev Qry := List Trm × ByteArray × Bool × Int × Unit
theorem nan_tot (x : Int) : TP (fun k => value_nan.f k x) (fun _ => True) := TP.step (fun k => rfl) (TP.some trivial)
theorem clean_tot (x : ValueT) : TP (fun k => value_Clean.f k x) (fun _ => True) :=
 TP.step (fun k => rfl) (TP.both (TP.some trivial) (TP.both (TP.some trivial) (TP.both (TP.bind (nan_tot _) fun _ _ => TP.both (TP.some trivial) (TP.some trivial)) (TP.both (TP.some trivial) (TP.some trivial)))))
theorem vright_tot (x : ValueT) : TP (fun k => value_Right.f k x) (fun _ => True) :=
 TP.step (fun k => rfl) (TP.both (TP.both (TP.both (TP.bind (clean_tot _) fun _ _ => TP.some trivial) (TP.some trivial)) (TP.some trivial)) (TP.some trivial))
noncomputable def rightQ (x : ValueT) : Bool := (Classical.choose (vright_tot x)).1.1
theorem rightQ_ok (x : ValueT) : Runs (fun k => value_Right.f k x) ((rightQ x, ()), ()) := (Classical.choose_spec (vright_tot x)).1
theorem sign_tot (a b : Bool) : TP (fun k => value_sign.f k a b) (fun _ => True) := TP.step (fun k => rfl) (TP.both (TP.some trivial) (TP.both (TP.some trivial) (TP.some trivial)))
theorem rank_tot (x : Int) : TP (fun k => value_rank.f k x) (fun _ => True) := TP.step (fun k => rfl) (TP.both (TP.some trivial) (TP.some trivial))
theorem scmp_tot (a b : ByteArray) : TP (fun k => strings_Compare.f k a b) (fun _ => True) :=
 TP.step (fun k => rfl) (TP.bind (TP.step (fun k => rfl) (TP.opt ⟨_, rfl⟩ fun _ => TP.some trivial) : TP (fun k => bytealg_CompareString.f k a b) (fun _ => True)) fun _ _ => TP.some trivial)
theorem cmp_tot (x y : ValueT) : TP (fun k => value_Compare.f k x y) (fun _ => True) := by
 have s (a b : Bool) {g : value_sign.R → Nat → Option value_Compare.R} (h : ∀ v, TP (g v) (fun _ => True)) : TP (fun k => (value_sign.f k a b).bind fun r => g r k) (fun _ => True) := TP.bind (sign_tot a b) fun v _ => h v
 refine TP.step (fun k => rfl) (TP.both (s _ _ fun _ => TP.some trivial) (TP.both (TP.both (TP.both (s _ _ fun _ => TP.some trivial) (s _ _ fun _ => TP.some trivial)) (TP.both (s _ _ fun _ => TP.some trivial) (s _ _ fun _ => TP.some trivial))) (TP.both (s _ _ fun _ => TP.some trivial) (TP.both ?_ (TP.both (TP.bind (scmp_tot _ _) fun _ _ => TP.some trivial) (TP.some trivial))))))
 exact TP.bind (clean_tot _) fun _ _ => TP.bind (rank_tot _) fun _ _ => TP.bind (clean_tot _) fun _ _ => TP.bind (rank_tot _) fun _ _ => s _ _ fun _ => TP.some trivial
noncomputable def cmpV (x y : ValueT) : Int := (Classical.choose (cmp_tot x y)).1.1
theorem cmp_ok (x y : ValueT) : Runs (fun k => value_Compare.f k x y) ((cmpV x y, ()), ()) := (Classical.choose_spec (cmp_tot x y)).1
def fieldI (name : ByteArray) : Nat → List Fld → Int
 | _, [] => -1
 | i, f :: r => if f.1 = name then (i : Int) else fieldI name (i + 1) r
theorem fieldI_at (name : ByteArray) : ∀ (l : List Fld) (i : Nat), fieldI name i l = -1 ∨ ∃ j, j < l.length ∧ fieldI name i l = ((i + j : Nat) : Int)
 | [], i => Or.inl rfl
 | f :: r, i => by
  unfold fieldI
  split
  ·exact Or.inr ⟨0, by simp, rfl⟩
  ·rcases fieldI_at name r (i + 1) with h | ⟨j, h1, h2⟩
   ·exact Or.inl h
   ·exact Or.inr ⟨j + 1, by simpa using h1, by rw [h2]; congr 1; omega⟩
theorem ix_loop (l : List Fld) (name : ByteArray) (hb : l.length ≤ 1000000000) : ∀ (m i : Nat), i + m = l.length → Runs (fun k => slices_IndexFunc_api_Field_v0.l0 k l (l.length : Int) (i : Int) name) ((fieldI name i (l.drop i), ()), ())
 | 0, i, h => Runs.step (fun k => rfl) (Runs.dec (fun h' => absurd h' (by omega)) fun _ => Runs.some' (by rw [List.drop_of_length_le (by omega)]; rfl))
 | m + 1, i, h => by
  have hi : i < l.length := by omega
  refine Runs.step (fun k => rfl) (Runs.dec (fun h' => Runs.opt (rdo_at hi) (Runs.bind (v := ((decide (l[i].1 = name), ()), ())) (Runs.step (fun k => rfl) (Runs.some' (by first | (dsimp only; rw [beq_text]) | rw [beq_text]))) (Runs.dec (fun hn => Runs.some' ?_) fun hn => ?_))) fun h' => absurd (by omega : (i : Int) < l.length) h')
  ·rw [List.drop_eq_getElem_cons hi]; unfold fieldI; rw [if_pos hn]
  ·rw [show IntKind.wrap .i64 ((i : Int) + 1) = ((i + 1 : Nat) : Int) by rw [wrap_i64 (by omega) (by omega)]; rfl]
   refine (ix_loop l name hb m (i + 1) (by omega)).of_eq ?_
   rw [List.drop_eq_getElem_cons hi]; conv => rhs; unfold fieldI
   rw [if_neg hn]
theorem find_ok (p : Pap) (name : ByteArray) (hb : p.2.2.1.length ≤ 1000000000) : Runs (fun k => paper_Find.f k p name) ((fieldI name 0 p.2.2.1, ()), ()) :=
 Runs.step (fun k => rfl) (Runs.bind (Runs.step (fun k => rfl) (ix_loop p.2.2.1 name hb _ 0 (Nat.zero_add _))) Runs.some)
theorem lfield_loop (a : ByteArray) (b : Int) (l : List Fld) (name : ByteArray) (hb : l.length ≤ 1000000000) : ∀ (m i : Nat), i + m = l.length → Runs (fun k => chartularylaw17_field.l0 k name (i : Int) a b l) ((fieldI name i (l.drop i), ()), ())
 | 0, i, h => Runs.step (fun k => rfl) (Runs.dec (fun h' => absurd h' (by omega)) fun _ => Runs.some' (by rw [List.drop_of_length_le (by omega)]; rfl))
 | m + 1, i, h => by
  have hi : i < l.length := by omega
  refine Runs.step (fun k => rfl) (Runs.dec (fun h' => Runs.opt (rdo_at hi) (Runs.cond (fun hn => ?_) fun hn => ?_)) fun h' => absurd (by omega : (i : Int) < l.length) h')
  ·rw [beq_text] at hn
   refine Runs.some' ?_
   rw [List.drop_eq_getElem_cons hi]; unfold fieldI; rw [if_pos (of_decide_eq_true hn)]
  ·rw [beq_text] at hn
   rw [show IntKind.wrap .i64 ((i : Int) + 1) = ((i + 1 : Nat) : Int) by rw [wrap_i64 (by omega) (by omega)]; rfl]
   refine (lfield_loop a b l name hb m (i + 1) (by omega)).of_eq ?_
   rw [List.drop_eq_getElem_cons hi]; conv => rhs; unfold fieldI
   rw [if_neg (of_decide_eq_false hn)]
theorem lfield_ok (p : Pap) (name : ByteArray) (hb : p.2.2.1.length ≤ 1000000000) : Runs (fun k => chartularylaw17_field.f k p name) ((fieldI name 0 p.2.2.1, ()), ()) :=
 Runs.step (fun k => rfl) (lfield_loop p.1 p.2.1 p.2.2.1 name hb _ 0 (Nat.zero_add _))
noncomputable def betV (t : Trm) (v : ValueT) : Bool :=
 !(t.2.2.2.1 && (!decide (v.1 = t.2.1.1) || decide (cmpV v t.2.1 < 0))) && (!t.2.2.2.2.1 || (decide (v.1 = t.2.2.1.1) && decide (cmpV v t.2.2.1 ≤ 0)))
def fieldV (p : Pap) (i : Int) : ValueT := (p.2.2.1.getD i.toNat (⟨#[]⟩, (0, false, 0, 0, ⟨#[]⟩, ()), ())).2.1
noncomputable def holdsV (t : Trm) (p : Pap) : Bool := decide (0 ≤ fieldI t.1 0 p.2.2.1) && !(betV t (fieldV p (fieldI t.1 0 p.2.2.1)) == t.2.2.2.2.2.1)
theorem field_rdo (p : Pap) (name : ByteArray) (h : 0 ≤ fieldI name 0 p.2.2.1) : ∃ f, rdo p.2.2.1 (fieldI name 0 p.2.2.1) = some f ∧ f.2.1 = fieldV p (fieldI name 0 p.2.2.1) := by
 rcases fieldI_at name p.2.2.1 0 with h1 | ⟨j, h1, h2⟩
 ·omega
 ·rw [Nat.zero_add] at h2
  refine ⟨p.2.2.1[j], by rw [h2]; exact rdo_at h1, ?_⟩
  unfold fieldV
  rw [h2, Int.toNat_natCast, List.getD_eq_getElem?_getD, List.getElem?_eq_getElem h1]; rfl
noncomputable def checkT : List Trm → Int
 | [] => 0
 | t :: r => if wordB t.1 16 = false then 14 else if t.2.2.2.1 = true ∧ rightQ t.2.1 = false then 15 else if t.2.2.2.2.1 = true ∧ rightQ t.2.2.1 = false then 15 else checkT r
noncomputable def checkA (q : Qry) : Int := if q.1.length > 8 ∨ q.2.2.2.1 < 0 then 5 else if q.2.1 ≠ ⟨#[]⟩ ∧ wordB q.2.1 16 = false then 14 else checkT q.1
def TermsOk (l : List Trm) : Prop := l.length ≤ 1000000000 ∧ ∀ t ∈ l, t.1.size ≤ 1000000000
structure QryOk (q : Qry) : Prop where
 t : TermsOk q.1
 b : q.2.1.size ≤ 1000000000
end Go.Proofs.Ytcjiipbppkdkaaa.Pure
