/- Plain laws of chapter 26: a printed question is read as it was. -/
import Derived.Test.YtpidgdelfaidoaaP26m
namespace Go.Proofs.Ytpidgdelfaidoaa.Pure
open Go Go.Proofs.Ytpidgdelfaidoaa.E Go.Proofs.Ytpidgdelfaidoaa.Eng
set_option linter.unusedVariables false
set_option linter.unusedSectionVars false
set_option linter.unusedSimpArgs false
structure RestT (L : List Tok) (i : Nat) (l : Tks) : Prop where
 n : L.length = i + l.length
 t : AtL L i l
theorem RestT.tail {L : List Tok} {i : Nat} {a b : Tks} (h : RestT L i (a ++ b)) : RestT L (i + a.length) b :=
 ⟨by rw [h.n]; simp; omega, fun j k t hj => by
  have := h.t (a.length + j) k t (by rw [List.getElem?_append_right (by omega), Nat.add_sub_cancel_left]; exact hj)
  rw [show i + a.length + j = i + (a.length + j) by omega]; exact this⟩
theorem RestT.head {L : List Tok} {i : Nat} {k : Int} {t : Tx} {b : Tks} (h : RestT L i ((k, t) :: b)) : AtT L i k t := h.t 0 k t rfl
theorem RestT.next {L : List Tok} {i : Nat} {x : Int × Tx} {b : Tks} (h : RestT L i (x :: b)) : RestT L (i + 1) b := RestT.tail (a := [x]) h
theorem RestT.of_map {L : List Tok} {l : Tks} (h : L.map tokP = l.map tokT) : RestT L 0 l := by
 have hn := congrArg List.length h
 simp at hn
 refine ⟨by omega, fun j k t hj => ?_⟩
 obtain ⟨hjl, hj⟩ := List.getElem?_eq_some_iff.mp hj
 have hj' : j < L.length := by omega
 rw [Nat.zero_add]
 refine ⟨hj', ?_⟩
 have e := congrArg (fun x => x[j]?) h
 simp only [List.getElem?_map, List.getElem?_eq_getElem hj', List.getElem?_eq_getElem hjl, Option.map_some] at e
 injection e with e
 rw [hj] at e
 have e1 := congrArg Prod.fst e
 have e2 := congrArg Prod.snd e
 exact ⟨e1, e2⟩
section
variable (L : List Tok) (hL : L.length ≤ 100000) (e : Int)
include hL
abbrev AskS := List Tok × Int × Int × Int × Unit
theorem word_yes (i : Nat) (t : Tx) {l : Tks} (h : RestT L i ((0, t) :: l)) : Runs (fun n => ask_asker_word.f n (tx t) L (i : Int) e (-1)) ((true, ()), ((L, ((i + 1 : Nat) : Int), e, (-1), ()), ())) := by
 obtain ⟨x, hx, h1, h2⟩ := h.head.rdo
 have hlt := h.head.lt
 have w1 : IntKind.wrap .i64 ((i : Int) + 1) = ((i + 1 : Nat) : Int) := by rw [wrap_i64 (by omega) (by omega)]; rfl
 refine Runs.step (fun n => rfl) (Runs.no (by apply decide_eq_false; omega) (Runs.opt hx (Runs.no (by rw [h1]; rfl) (Runs.opt hx (Runs.no ?_ (Runs.step (fun n => rfl) (Runs.some' ?_)))))))
 ·rw [h2, txt_eq, decide_eq_true rfl]; rfl
 ·rw [w1]
theorem word_no (i : Nat) (t : Tx) {l : Tks} (h : RestT L i l) (hn : l.head? ≠ some (0, t)) : Runs (fun n => ask_asker_word.f n (tx t) L (i : Int) e (-1)) ((false, ()), ((L, (i : Int), e, (-1), ()), ())) := by
 cases l with
 | nil =>
  have := h.n
  exact Runs.step (fun n => rfl) (Runs.yes (by apply decide_eq_true; simp at this; omega) Runs.some)
 | cons y l =>
  obtain ⟨k, s⟩ := y
  obtain ⟨x, hx, h1, h2⟩ := h.head.rdo
  have hlt := h.head.lt
  refine Runs.step (fun n => rfl) (Runs.no (by apply decide_eq_false; omega) (Runs.opt hx (Runs.cond (fun _ => Runs.some) fun hk => Runs.opt hx (Runs.yes ?_ Runs.some))))
  have hk : x.1 = 0 := by simpa using hk
  rw [h2, txt_eq]
  rw [h1] at hk
  subst hk
  have : s ≠ t := fun e => hn (by rw [e]; rfl)
  rw [decide_eq_false this]; rfl
theorem name_ok (i : Nat) (t : Tx) {l : Tks} (h : RestT L i ((2, t) :: l)) : Runs (fun n => ask_asker_name.f n L (i : Int) e (-1)) ((tx t, ()), ((L, ((i + 1 : Nat) : Int), e, (-1), ()), ())) := by
 obtain ⟨x, hx, h1, h2⟩ := h.head.rdo
 have hlt := h.head.lt
 have w1 : IntKind.wrap .i64 ((i : Int) + 1) = ((i + 1 : Nat) : Int) := by rw [wrap_i64 (by omega) (by omega)]; rfl
 have w0 : IntKind.wrap .i64 (((i + 1 : Nat) : Int) - 1) = (i : Int) := by rw [wrap_i64 (by omega) (by omega)]; omega
 refine Runs.step (fun n => rfl) (Runs.no (by apply decide_eq_false; omega) (Runs.opt hx (Runs.no (by rw [h1]; rfl) ?_)))
 refine Runs.step (body := fun n => (Eng.rdo L (IntKind.wrap .i64 ((IntKind.wrap .i64 ((i : Int) + 1)) - 1))).bind fun t5 => some ((t5.2.1, ()), ((L, IntKind.wrap .i64 ((i : Int) + 1), e, (-1), ()), ()))) (fun n => rfl) ?_
 rw [w1, w0]
 refine Runs.opt hx (Runs.some' ?_)
 rw [h2]
theorem avalue_ok (v : ValueT) (hv : VForm v) (i : Nat) {l : Tks} (h : RestT L i (valT v ++ l)) : Runs (fun n => ask_asker_value.f n L (i : Int) e (-1)) ((v, ()), ((L, ((i + (valT v).length : Nat) : Int), e, (-1), ()), ())) := by
 have hn := h.n
 simp only [List.length_append] at hn
 have hd : AtL (L.drop i) 0 (valT v) := fun j k t hj => by
  obtain ⟨hjl, _⟩ := List.getElem?_eq_some_iff.mp hj
  obtain ⟨h0, h1, h2⟩ := h.t j k t (by rw [List.getElem?_append_left hjl]; exact hj)
  rw [Nat.zero_add]
  refine ⟨by simp; omega, ?_, ?_⟩
  ·rw [List.getElem_drop]; exact h1
  ·rw [List.getElem_drop]; exact h2
 have hdl : (L.drop i).length ≤ 100000 := by simp; omega
 have tk := takeValue_ok (L.drop i) hdl v hv hd
 refine Runs.step (fun n => rfl) (Runs.ck (by simp only [Bool.and_eq_true, decide_eq_true_eq]; omega) ?_)
 have e1 : (L.take ((L.length : Int)).toNat).drop ((i : Int)).toNat = L.drop i := by rw [Int.toNat_natCast, Int.toNat_natCast, List.take_length]
 rw [e1]
 refine Runs.bind tk (Runs.no rfl (Runs.some' ?_))
 have : IntKind.wrap .i64 ((i : Int) + (((valT v).length : Nat) : Int)) = ((i + (valT v).length : Nat) : Int) := by rw [wrap_i64 (by omega) (by omega)]; omega
 show ((v, ()), ((L, IntKind.wrap .i64 ((i : Int) + (((valT v).length : Nat) : Int)), e, (-1), ()), ())) = _
 rw [this]
abbrev zeroV : ValueT := (0, (false, (0, (0, (ByteArray.empty, ())))))
def saidT (t : Trm) : Trm := (t.1, ((if t.2.2.2.1 = true then t.2.1 else zeroV), ((if t.2.2.2.2.1 = true then t.2.2.1 else zeroV), (t.2.2.2.1, (t.2.2.2.2.1, t.2.2.2.2.2)))))
structure TForm (t : Trm) : Prop where
 l : t.2.2.2.1 = true → VForm t.2.1
 h : t.2.2.2.2.1 = true → VForm t.2.2.1
theorem aterm_ok (t : Trm) (ht : TForm t) (i : Nat) {l : Tks} (h : RestT L i (termT t ++ l)) (hl : l.head? ≠ some (0, [116, 111])) : Runs (fun n => ask_asker_term.f n L (i : Int) e (-1)) ((saidT t, ()), ((L, ((i + (termT t).length : Nat) : Int), e, (-1), ()), ())) := by
 obtain ⟨tn, tl, th, f1, f2, f3, ⟨⟩⟩ := t
 have hname : tx tn.data.toList = tn := tx_self tn
 -- behind the name
 have rest : ∀ (i0 : Nat), RestT L i0 ((2, tn.data.toList) :: (tailT (tn, tl, th, f1, f2, f3, ()) ++ l)) → i + (termT (tn, tl, th, f1, f2, f3, ())).length = i0 + 1 + (tailT (tn, tl, th, f1, f2, f3, ())).length →
   Runs (fun n => (ask_asker_name.f n L (i0 : Int) e (-1)).bind fun r2 => (ask_asker_word.f n (⟨#[116, 104, 101, 114, 101]⟩ : ByteArray) r2.2.1.1 r2.2.1.2.1 r2.2.1.2.2.1 r2.2.1.2.2.2.1).bind fun r3 =>
    bif r3.1.1 then some (((r2.1.1, (zeroV, (zeroV, (false, (false, (f3, ())))))), ()), ((r3.2.1.1, r3.2.1.2.1, r3.2.1.2.2.1, r3.2.1.2.2.2.1, ()), ()))
    else (ask_asker_word.f n (⟨#[105, 115]⟩ : ByteArray) r3.2.1.1 r3.2.1.2.1 r3.2.1.2.2.1 r3.2.1.2.2.2.1).bind fun r4 =>
    bif r4.1.1 then (ask_asker_value.f n r4.2.1.1 r4.2.1.2.1 r4.2.1.2.2.1 r4.2.1.2.2.2.1).bind fun r5 => some (((r2.1.1, (r5.1.1, (r5.1.1, (true, (true, (f3, ())))))), ()), ((r5.2.1.1, r5.2.1.2.1, r5.2.1.2.2.1, r5.2.1.2.2.2.1, ()), ()))
    else (ask_asker_word.f n (⟨#[102, 114, 111, 109]⟩ : ByteArray) r4.2.1.1 r4.2.1.2.1 r4.2.1.2.2.1 r4.2.1.2.2.2.1).bind fun r6 =>
    bif r6.1.1 then (ask_asker_value.f n r6.2.1.1 r6.2.1.2.1 r6.2.1.2.2.1 r6.2.1.2.2.2.1).bind fun r7 => (ask_asker_word.f n (⟨#[116, 111]⟩ : ByteArray) r7.2.1.1 r7.2.1.2.1 r7.2.1.2.2.1 r7.2.1.2.2.2.1).bind fun r8 =>
     bif r8.1.1 then (ask_asker_value.f n r8.2.1.1 r8.2.1.2.1 r8.2.1.2.2.1 r8.2.1.2.2.2.1).bind fun r9 => some (((r2.1.1, (r7.1.1, (r9.1.1, (true, (true, (f3, ())))))), ()), ((r9.2.1.1, r9.2.1.2.1, r9.2.1.2.2.1, r9.2.1.2.2.2.1, ()), ()))
     else some (((r2.1.1, (r7.1.1, (zeroV, (true, (false, (f3, ())))))), ()), ((r8.2.1.1, r8.2.1.2.1, r8.2.1.2.2.1, r8.2.1.2.2.2.1, ()), ()))
    else (ask_asker_word.f n (⟨#[116, 111]⟩ : ByteArray) r6.2.1.1 r6.2.1.2.1 r6.2.1.2.2.1 r6.2.1.2.2.2.1).bind fun r10 =>
    bif r10.1.1 then (ask_asker_value.f n r10.2.1.1 r10.2.1.2.1 r10.2.1.2.2.1 r10.2.1.2.2.2.1).bind fun r11 => some (((r2.1.1, (zeroV, (r11.1.1, (false, (true, (f3, ())))))), ()), ((r11.2.1.1, r11.2.1.2.1, r11.2.1.2.2.1, r11.2.1.2.2.2.1, ()), ()))
    else (ask_asker_fail.f n r10.2.1.1 r10.2.1.2.1 r10.2.1.2.2.1 r10.2.1.2.2.2.1).bind fun r12 => some (((r2.1.1, (zeroV, (zeroV, (false, (false, (f3, ())))))), ()), ((r12.2.1.1, r12.2.1.2.1, r12.2.1.2.2.1, r12.2.1.2.2.2.1, ()), ())))
    ((saidT (tn, tl, th, f1, f2, f3, ()), ()), ((L, ((i + (termT (tn, tl, th, f1, f2, f3, ())).length : Nat) : Int), e, (-1), ()), ())) := by
  intro i0 hr hlen
  rw [hlen]
  have nm := name_ok L hL e i0 _ hr
  rw [hname] at nm
  have hr1 := hr.next
  refine Runs.bind nm ?_
  unfold tailT at hr1 ⊢
  by_cases c1 : f1 = true ∧ f2 = true ∧ tl = th
  ·have c1' : (tn, tl, th, f1, f2, f3, ()).2.2.2.1 = true ∧ (tn, tl, th, f1, f2, f3, ()).2.2.2.2.1 = true ∧ (tn, tl, th, f1, f2, f3, ()).2.1 = (tn, tl, th, f1, f2, f3, ()).2.2.1 := c1
   rw [if_pos c1'] at hr1 ⊢
   obtain ⟨rfl, rfl, rfl⟩ := c1
   have hr1 : RestT L (i0 + 1) ((0, [105, 115]) :: (valT tl ++ l)) := hr1
   refine Runs.bind (word_no L hL e _ [116, 104, 101, 114, 101] hr1 (by simp)) (Runs.no rfl (Runs.bind (word_yes L hL e _ [105, 115] hr1) (Runs.yes rfl (Runs.bind (avalue_ok L hL e tl (ht.l rfl) _ hr1.next) (Runs.some' ?_)))))
   show _ = ((saidT (tn, tl, tl, true, true, f3, ()), ()), ((L, ((i0 + 1 + ((0, [105, 115]) :: valT tl).length : Nat) : Int), e, (-1), ()), ()))
   rw [List.length_cons, show i0 + 1 + ((valT tl).length + 1) = i0 + 1 + 1 + (valT tl).length by omega]
   rfl
  ·have c1' : ¬ ((tn, tl, th, f1, f2, f3, ()).2.2.2.1 = true ∧ (tn, tl, th, f1, f2, f3, ()).2.2.2.2.1 = true ∧ (tn, tl, th, f1, f2, f3, ()).2.1 = (tn, tl, th, f1, f2, f3, ()).2.2.1) := c1
   rw [if_neg c1'] at hr1 ⊢
   cases f1 <;> cases f2
   ·have hr1 : RestT L (i0 + 1) ((0, [116, 104, 101, 114, 101]) :: l) := hr1
    exact Runs.bind (word_yes L hL e _ [116, 104, 101, 114, 101] hr1) (Runs.yes rfl Runs.some)
   ·have hr1 : RestT L (i0 + 1) ((0, [116, 111]) :: (valT th ++ l)) := hr1
    refine Runs.bind (word_no L hL e _ [116, 104, 101, 114, 101] hr1 (by simp)) (Runs.no rfl (Runs.bind (word_no L hL e _ [105, 115] hr1 (by simp)) (Runs.no rfl (Runs.bind (word_no L hL e _ [102, 114, 111, 109] hr1 (by simp)) (Runs.no rfl (Runs.bind (word_yes L hL e _ [116, 111] hr1) (Runs.yes rfl (Runs.bind (avalue_ok L hL e th (ht.h rfl) _ hr1.next) (Runs.some' ?_)))))))))
    show _ = ((saidT (tn, tl, th, false, true, f3, ()), ()), ((L, ((i0 + 1 + ((0, [116, 111]) :: valT th).length : Nat) : Int), e, (-1), ()), ()))
    rw [List.length_cons, show i0 + 1 + ((valT th).length + 1) = i0 + 1 + 1 + (valT th).length by omega]
    rfl
   ·have hr1 : RestT L (i0 + 1) ((0, [102, 114, 111, 109]) :: (valT tl ++ l)) := by
     have : ((0, [102, 114, 111, 109]) :: valT tl ++ []) ++ l = (0, [102, 114, 111, 109]) :: (valT tl ++ l) := by simp
     rw [← this]; exact hr1
    refine Runs.bind (word_no L hL e _ [116, 104, 101, 114, 101] hr1 (by simp)) (Runs.no rfl (Runs.bind (word_no L hL e _ [105, 115] hr1 (by simp)) (Runs.no rfl (Runs.bind (word_yes L hL e _ [102, 114, 111, 109] hr1) (Runs.yes rfl (Runs.bind (avalue_ok L hL e tl (ht.l rfl) _ hr1.next) (Runs.bind (word_no L hL e _ [116, 111] hr1.next.tail hl) (Runs.no rfl (Runs.some' ?_)))))))))
    show _ = ((saidT (tn, tl, th, true, false, f3, ()), ()), ((L, ((i0 + 1 + (((0, [102, 114, 111, 109]) :: valT tl) ++ []).length : Nat) : Int), e, (-1), ()), ()))
    rw [List.append_nil, List.length_cons, show i0 + 1 + ((valT tl).length + 1) = i0 + 1 + 1 + (valT tl).length by omega]
    rfl
   ·have hr1 : RestT L (i0 + 1) ((0, [102, 114, 111, 109]) :: (valT tl ++ ((0, [116, 111]) :: (valT th ++ l)))) := by
     have : ((0, [102, 114, 111, 109]) :: valT tl ++ ((0, [116, 111]) :: valT th)) ++ l = (0, [102, 114, 111, 109]) :: (valT tl ++ ((0, [116, 111]) :: (valT th ++ l))) := by simp
     rw [← this]; exact hr1
    refine Runs.bind (word_no L hL e _ [116, 104, 101, 114, 101] hr1 (by simp)) (Runs.no rfl (Runs.bind (word_no L hL e _ [105, 115] hr1 (by simp)) (Runs.no rfl (Runs.bind (word_yes L hL e _ [102, 114, 111, 109] hr1) (Runs.yes rfl (Runs.bind (avalue_ok L hL e tl (ht.l rfl) _ hr1.next) (Runs.bind (word_yes L hL e _ [116, 111] hr1.next.tail) (Runs.yes rfl (Runs.bind (avalue_ok L hL e th (ht.h rfl) _ hr1.next.tail.next) (Runs.some' ?_))))))))))
    show _ = ((saidT (tn, tl, th, true, true, f3, ()), ()), ((L, ((i0 + 1 + (((0, [102, 114, 111, 109]) :: valT tl) ++ ((0, [116, 111]) :: valT th)).length : Nat) : Int), e, (-1), ()), ()))
    rw [List.length_append, List.length_cons, List.length_cons, show i0 + 1 + ((valT tl).length + 1 + ((valT th).length + 1)) = i0 + 1 + 1 + (valT tl).length + 1 + (valT th).length by omega]
    rfl
 unfold termT at h
 cases f3
 ·have h : RestT L i ((2, tn.data.toList) :: (tailT (tn, tl, th, f1, f2, false, ()) ++ l)) := h
  refine Runs.step (fun n => rfl) (Runs.bind (word_no L hL e i [110, 111, 116] h (by simp)) ?_)
  exact rest i h (by show i + (_ :: _ : Tks).length = _; rw [List.length_cons]; omega)
 ·have h : RestT L i ((0, [110, 111, 116]) :: ((2, tn.data.toList) :: (tailT (tn, tl, th, f1, f2, true, ()) ++ l))) := h
  refine Runs.step (fun n => rfl) (Runs.bind (word_yes L hL e i [110, 111, 116] h) ?_)
  exact rest (i + 1) h.next (by show i + (_ :: _ :: _ : Tks).length = _; rw [List.length_cons, List.length_cons]; omega)
theorem anumber_ok (z : Int) (z0 : 0 ≤ z) (z2 : z ≤ 9223372036854775807) (i : Nat) {l : Tks} (h : RestT L i ((1, wholeL z) :: l)) : Runs (fun n => ask_asker_number.f n L (i : Int) e (-1)) ((z, ()), ((L, ((i + 1 : Nat) : Int), e, (-1), ()), ())) := by
 have hv : VForm (2, (false, (z, (0, (ByteArray.empty, ()))))) := .int z (by omega) z2
 have hz : (bif decide ((0 : Int) > z) then 0 else z) = z := by rw [decide_eq_false (by omega)]; rfl
 refine Runs.step (fun n => rfl) (Runs.bind (avalue_ok L hL e _ hv i (l := l) h) (Runs.yes rfl (Runs.no rfl (Runs.no (by show decide (z < 0) = false; apply decide_eq_false; omega) (Runs.some' ?_)))))
 show (((bif decide ((0 : Int) > z) then 0 else z), ()), _) = _
 rw [hz]; rfl
end
end Go.Proofs.Ytpidgdelfaidoaa.Pure
