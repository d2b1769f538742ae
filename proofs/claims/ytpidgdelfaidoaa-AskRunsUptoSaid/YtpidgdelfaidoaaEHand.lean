/- The engine, part 16: functions of Go's library by contracts of their own (strings.Builder's; a byte's place in a text). -/
import Derived.Test.YtpidgdelfaidoaaETab
namespace Go.Proofs.Ytpidgdelfaidoaa.Eng
open Go
set_option linter.unusedVariables false
set_option linter.unusedSimpArgs false
theorem MOK.forget {B : Base} {M : Mem} (ok : MOK B M) : MOK B ⟨M.S, M.h, M.β, fun _ => none, M.C, M.C⟩ :=
 ⟨fun _ _ h => (nomatch h), fun _ h => absurd rfl h, fun _ h => h, fun _ _ _ _ _ h => (nomatch h), fun _ _ _ h => (nomatch h), fun _ _ h => absurd rfl h.1, ok.lt, ok.size, ok.keep, ok.base, ok.cell, ok.new, fun _ h => absurd rfl h.1⟩
theorem lk_one {α : Type} (i : Nat) (v : α) (o : Nat) : lk [(i, v)] o = if i = o then some v else none := by rw [lk_cons]; rfl
theorem args_one {v : Value} {args : Array Value} (h : args.size = 1) (e : args[0]? = some v) : args = #[v] := by
 apply Array.ext
 ·rw [h]; rfl
 ·intro i hi _
  rw [h] at hi
  have : i = 0 := by omega
  subst this
  rw [Array.getElem?_eq_some_iff] at e; obtain ⟨_, e⟩ := e; exact e
theorem args_two {v u : Value} {args : Array Value} (h : args.size = 2) (e : args[0]? = some v) (e' : args[1]? = some u) : args = #[v, u] := by
 apply Array.ext
 ·rw [h]; rfl
 ·intro i hi _
  rw [h] at hi
  have : i = 0 ∨ i = 1 := by omega
  rcases this with rfl | rfl
  ·rw [Array.getElem?_eq_some_iff] at e; obtain ⟨_, e⟩ := e; exact e
  ·rw [Array.getElem?_eq_some_iff] at e'; obtain ⟨_, e'⟩ := e'; exact e'
section
variable {P : Program} {T E : Nat}
theorem bld_fresh {M : Mem} (core : MCore M) {l : List CV} (hl : l = [.nilp, .nils]) (hg : M.go 1 = some (.cells T l)) : (M.β 1).nil = false ∧ M.h[(M.β 1).b]? = some (.cells #[.pointer none, .slice none 0 0] T (0, 0)) ∧ ∀ x, ¬ M.S (M.β 1).b x := by
 subst hl
 have h := core.obj 1 _ hg
 simp only [OR] at h
 obtain ⟨hn, hl, hS⟩ := h
 obtain ⟨vs, h1, h2⟩ := hl.cells rfl
 simp only [VRL, VR] at h2
 obtain ⟨v, vr, e, rfl, u, ur, e', rfl, rfl⟩ := h2
 refine ⟨hn, ?_, hS⟩
 have : vs = #[.pointer none, .slice none 0 0] := by rw [← Array.toArray_toList (xs := vs), e, e']
 rw [h1, this]
theorem bld_used {M : Mem} (core : MCore M) (hg : M.go 1 = some (.cells T [.ptr 1 0, .own 2 0])) {l : List (Ty.int .u8).den} (hr : M.go 2 = some (.row 0 E (.int .u8) l)) :
  (M.β 1).nil = false ∧ M.h[(M.β 1).b]? = some (.cells #[.pointer (some ⟨(M.β 1).b, 0, none⟩), (M.β 2).slice l.length] T (0, 0)) ∧ ∀ x, ¬ M.S (M.β 1).b x := by
 have h := core.obj 1 _ hg
 simp only [OR] at h
 obtain ⟨hn, hl, hS⟩ := h
 obtain ⟨vs, h1, h2⟩ := hl.cells rfl
 simp only [VRL, VR] at h2
 obtain ⟨v, vr, e, ⟨_, rfl⟩, u, ur, e', ⟨_, hu⟩, rfl⟩ := h2
 have hu := (hu 0 E (.int .u8) l hr).2 rfl
 subst hu
 refine ⟨hn, ?_, hS⟩
 have : vs = #[.pointer (some ⟨(M.β 1).b, 0, none⟩), (M.β 2).slice l.length] := by rw [← Array.toArray_toList (xs := vs), e, e']
 rw [h1, this]
def ccFresh.f (k : Nat) : Option (Unit × (Unit × Unit × Unit) × Unit) := some ((), (((), (), ()), ()))
def ccFresh (T : Nat) : Spec := ⟨⟨[(0, .ptr 1 0)], [(1, T, [.nilp, .nils])]⟩, ⟨[], [(1, T, [.ptr 1 0, .nils])]⟩, 0, [], [], fun _ => (ccFresh.f 0 : Option (Unit × (Unit × Unit × Unit) × Unit)), false⟩
theorem ccFresh_ok {f : Nat} (he : ∀ args w, (callFunc f args).run P w = .ok (.enter f args) w)
  (hc : ∀ (b : Nat) (w : World), w.heap[b]? = some (.cells #[.pointer none, .slice none 0 0] T (0, 0)) → Calls P f #[.pointer (some ⟨b, 0, none⟩)] w fun e w' => e = .returned (.tuple #[]) ∧ w' = w.setCell ⟨b, 0, none⟩ (.pointer (some ⟨b, 0, none⟩))) : SpecIn P f (ccFresh T) := by
 refine ⟨⟨by simp [ccFresh, LSh.ids, ownIds, ownIdsO, ownIdsS], fun p hp => .inr hp, fun p hp => nomatch hp⟩, ?_⟩
 intro d r hd w args M hh hgo core hlt hE hsz hU
 obtain ⟨v0, e0, h0⟩ := hE 0 (.ptr 1 0) rfl
 obtain rfl := args_one hsz e0
 simp only [VR] at h0
 obtain ⟨hC, rfl⟩ := h0
 have hg : M.go 1 = some (.cells T [.nilp, .nils]) := by rw [hgo]; rfl
 obtain ⟨hn, hb, hS⟩ := bld_fresh core rfl hg
 refine .inl ⟨he _ _, (hc (M.β 1).b w (by rw [← hh]; exact hb)).mono ?_, fun h => nomatch h⟩
 rintro e w' ⟨rfl, rfl⟩
 have ok := mcore_ok (sp := ccFresh T) core hlt
 have hset := ok.setCells (d := 1) (l' := [.ptr 1 0, .nils]) (vs' := #[.pointer (some ⟨(M.β 1).b, 0, none⟩), .slice none 0 0]) (h' := (w.setCell ⟨(M.β 1).b, 0, none⟩ (.pointer (some ⟨(M.β 1).b, 0, none⟩))).heap)
  (go' := lk [(1, .cells T [.ptr 1 0, .nils])]) (fun h => nomatch h) hg (fun o => by
   rw [hgo]
   show lk _ o = if 1 = o then _ else lk [(1, Ob.cells T [CV.nilp, CV.nils])] o
   rw [lk_one, lk_one]; by_cases h : 1 = o
   ·rw [if_pos h, if_pos h]
   ·rw [if_neg h, if_neg h, if_neg h])
  (by simp [World.setCell, ← hh, Array.getElem?_modify, hb]) (fun b hne => by simp [World.setCell, ← hh, Array.getElem?_modify, Ne.symm hne]) (by simp [World.setCell, ← hh])
  (by simp only [VRL, VR]; exact ⟨_, _, rfl, ⟨hC, rfl⟩, _, _, rfl, rfl, rfl⟩)
 refine ⟨_, _, rfl, ⟨rfl, ⟨rfl, rfl, rfl⟩⟩, hset.1, rfl, ?_, fun p hp => ?_, fun p hp => .inr hp, fun p hp _ => hp, fun p hp => ⟨hp, rfl⟩, fun p hp => nomatch hp⟩
 ·show VR _ (.tup []) _
  simp only [VR, VRL]; exact ⟨#[], rfl, rfl⟩
 have := hU p hp
 have : p = 1 := by simpa [LSh.refs, refsE, refsO, refsS, SSh.refs, ccFresh] using this
 subst this; exact .inr hC
def ccUsed.f (k : Nat) (_l : List Int) : Option (Unit × Unit) := some ((), ())
def ccUsed (T E : Nat) : Spec := ⟨⟨[(0, .ptr 1 0)], [(1, T, [.ptr 1 0, .own 2 E (.int .u8)])]⟩, ⟨[], []⟩, 0, [1, 2], [], fun (d : (Unit × Unit) × (Unit × List Int × Unit) × Unit) => (ccUsed.f 0 d.2.1.2.1 : Option (Unit × Unit)), false⟩
theorem ccUsed_ok {f : Nat} (he : ∀ args w, (callFunc f args).run P w = .ok (.enter f args) w)
  (hc : ∀ (b : Nat) (w : World), w.cell? ⟨b, 0, none⟩ = some (.pointer (some ⟨b, 0, none⟩)) → Calls P f #[.pointer (some ⟨b, 0, none⟩)] w fun e w' => e = .returned (.tuple #[]) ∧ w' = w) : SpecIn P f (ccUsed T E) := by
 refine ⟨⟨List.nodup_nil, fun p hp => .inl hp, fun p _ hp => nomatch hp⟩, ?_⟩
 intro d r hd w args M hh hgo core hlt hE hsz hU
 obtain ⟨v0, e0, h0⟩ := hE 0 (.ptr 1 0) rfl
 obtain rfl := args_one hsz e0
 simp only [VR] at h0
 obtain ⟨hC, rfl⟩ := h0
 have hg : M.go 1 = some (.cells T [.ptr 1 0, .own 2 0]) := by rw [hgo]; rfl
 have hr : M.go 2 = some (.row 0 E (.int .u8) d.2.1.2.1) := by rw [hgo]; rfl
 obtain ⟨hn, hb, hS⟩ := bld_used core hg hr
 refine .inl ⟨he _ _, (hc (M.β 1).b w (by rw [cell_eq]; unfold cellAt; rw [← hh, hb]; rfl)).mono ?_, fun h => nomatch h⟩
 rintro e w' ⟨rfl, rfl⟩
 have ok := mcore_ok (sp := ccUsed T E) core hlt
 refine ⟨_, ⟨M.S, M.h, M.β, fun _ => none, M.C, M.C⟩, rfl, ⟨hh.symm, ⟨rfl, rfl, rfl⟩⟩, ok.forget, rfl, ?_, fun p hp => .inr hp, fun p hp => .inr hp, fun p hp _ => hp, fun p hp => ⟨hp, rfl⟩, fun p hp => nomatch hp⟩
 show VR _ (.tup []) _
 simp only [VR, VRL]; exact ⟨#[], rfl, rfl⟩
def bsOf (l : List Int) : Option ((ByteArray × List Int × Unit) × (Unit × Unit × Unit) × Unit) := match l with
 | [] => none
 | x :: r => match decide (r.length ≤ 4611686018427387904) with | true => some ((strOf (x :: r), [], ()), ((), (), ()), ()) | false => none
def strUsed.f (k : Nat) (l : List Int) : Option ((ByteArray × List Int × Unit) × (Unit × Unit × Unit) × Unit) := bsOf l
def strUsed (T E : Nat) : Spec := ⟨⟨[(0, .ptr 1 0)], [(1, T, [.ptr 1 0, .own 2 E (.int .u8)])]⟩, ⟨[(0, .val .str), (1, .own 2 E (.int .u8))], [(1, T, [.ptr 1 0, .top])]⟩, 1, [], [],
 fun (d : (Unit × Unit) × (Unit × List Int × Unit) × Unit) => (strUsed.f 0 d.2.1.2.1 : Option ((ByteArray × List Int × Unit) × (Unit × Unit × Unit) × Unit)), false⟩
theorem freeze_heap (w : World) (b o n : Nat) : (w.freeze ⟨b, o, none⟩ n).heap.size = w.heap.size ∧ (∀ b', b' ≠ b → (w.freeze ⟨b, o, none⟩ n).heap[b']? = w.heap[b']?) ∧ (∀ b' x, cellAt (w.freeze ⟨b, o, none⟩ n).heap b' x = cellAt w.heap b' x) ∧ Outer w (w.freeze ⟨b, o, none⟩ n) := by
 unfold World.freeze
 split
 ·exact ⟨rfl, fun _ _ => rfl, fun _ _ => rfl, Outer.rfl⟩
 ·refine ⟨by simp, fun b' hb => ?_, fun b' x => ?_, ⟨rfl, rfl, rfl⟩⟩
  ·simp only [Array.getElem?_modify, if_neg (Ne.symm hb)]
  ·unfold cellAt
   simp only [Array.getElem?_modify]
   by_cases hb : b = b'
   ·rw [if_pos hb]
    cases w.heap[b']? with
    | none => rfl
    | some ob => cases ob <;> rfl
   ·rw [if_neg hb]
theorem strUsed_ok {f : Nat} (he : ∀ args w, (callFunc f args).run P w = .ok (.enter f args) w)
  (hc : ∀ (b g off c cells : Nat) (l : List Int) (w : World), l ≠ [] → l.length ≤ c → w.cell? ⟨b, 1, none⟩ = some (.slice (some ⟨g, off, none⟩) l.length c) → w.shape? g = some (E, cells) → off + l.length ≤ cells → l.length ≤ 9223372036854775807 →
   (∀ j x, l[j]? = some x → w.cell? ((⟨g, off, none⟩ : Addr).add j) = some (.int .u8 x)) →
   Calls P f #[.pointer (some ⟨b, 0, none⟩)] w fun e w' => e = .returned (.string ⟨(l.map fun n => UInt8.ofNat n.toNat).toArray⟩) ∧ w' = w.drew.freeze ⟨g, off, none⟩ l.length) : SpecIn P f (strUsed T E) := by
 refine ⟨⟨by simp [strUsed, LSh.ids, ownIds, ownIdsO, ownIdsS], fun p hp => .inr ?_, fun p hp => nomatch hp⟩, ?_⟩
 ·simp [strUsed, LSh.ids, ownIds, ownIdsO, ownIdsS] at hp ⊢; omega
 intro d r hd w args M hh hgo core hlt hE hsz hU
 obtain ⟨v0, e0, h0⟩ := hE 0 (.ptr 1 0) rfl
 obtain rfl := args_one hsz e0
 simp only [VR] at h0
 obtain ⟨hC, rfl⟩ := h0
 have hg : M.go 1 = some (.cells T [.ptr 1 0, .own 2 0]) := by rw [hgo]; rfl
 have hr : M.go 2 = some (.row 0 E (.int .u8) d.2.1.2.1) := by rw [hgo]; rfl
 obtain ⟨hn, hb, hS⟩ := bld_used core hg hr
 have hd : bsOf d.2.1.2.1 = some r := hd
 obtain ⟨l, hl⟩ : ∃ l : List Int, l = d.2.1.2.1 := ⟨_, rfl⟩
 rw [← hl] at hr hd hb
 obtain ⟨x, r', rfl⟩ : ∃ x r', l = x :: r' := by
  cases l with
  | nil => cases hd
  | cons x r' => exact ⟨x, r', rfl⟩
 obtain ⟨h62, hd⟩ : r'.length ≤ 4611686018427387904 ∧ some ((strOf (x :: r'), ([] : List Int), ()), ((), (), ()), ()) = some r := by
  simp only [bsOf] at hd
  split at hd
  ·rename_i h; exact ⟨of_decide_eq_true h, hd⟩
  ·cases hd
 injection hd with hd; subst hd
 have hor := core.obj 2 _ hr
 simp only [OR] at hor
 cases hnil : (M.β 2).nil with
 | true => rw [hnil] at hor; cases hor
 | false =>
  rw [hnil] at hor
  obtain ⟨hlc, hel, ⟨cs, fz, hbk, hcsz, _⟩, _, _⟩ := hor
  simp only [Ty.n, Nat.mul_one] at hcsz
  have hsl : (M.β 2).slice (x :: r').length = .slice (some ⟨(M.β 2).b, (M.β 2).off, none⟩) (x :: r').length (M.β 2).cap := by unfold Hd.slice; rw [hnil]
  have hl2 : live M 2 := ⟨by rw [hr]; simp, hnil⟩
  have hl1 : live M 1 := ⟨by rw [hg]; simp, hn⟩
  have hne : (M.β 1).b ≠ (M.β 2).b := core.inj 1 2 hl1 hl2 (by decide)
  have hcell : ∀ j y, (x :: r')[j]? = some y → w.cell? ((⟨(M.β 2).b, (M.β 2).off, none⟩ : Addr).add j) = some (.int .u8 y) := fun j y hj => by
   have hj' : j < (x :: r').length := (List.getElem?_eq_some_iff.mp hj).1
   have h := hel j hj'
   simp only [ElR, Ty.n, Nat.mul_one] at h
   have e : (⟨(M.β 2).b, (M.β 2).off, none⟩ : Addr).add j = ⟨(M.β 2).b, (M.β 2).off + j, none⟩ := by
    unfold Addr.add
    by_cases h0 : j = 0
    ·subst h0; simp
    ·simp [h0]
   rw [e, cell_eq, ← hh, h.2]
   have : (x :: r')[j] = y := (List.getElem?_eq_some_iff.mp hj).2
   exact congrArg (fun z => some (Value.int IntKind.u8 z)) this
  refine .inl ⟨he _ _, (hc (M.β 1).b (M.β 2).b (M.β 2).off (M.β 2).cap cs.size (x :: r') w (by simp) hlc (by rw [cell_eq]; unfold cellAt; rw [← hh, hb]; exact congrArg some hsl) (by unfold World.shape?; rw [← hh, hbk]) (by have : (x :: r').length ≤ (M.β 2).cap := hlc; omega) (by rw [List.length_cons]; omega) hcell).mono ?_, fun h => nomatch h⟩
  rintro e w' ⟨rfl, rfl⟩
  have ok := mcore_ok (sp := strUsed T E) core hlt
  obtain ⟨f1, f2, f3, f4⟩ := freeze_heap w.drew (M.β 2).b (M.β 2).off (x :: r').length
  have hdh : w.drew.heap = M.h := hh.symm
  rw [hdh] at f1 f2 f3
  have hgo' : ∀ o ob, lk [(2, Ob.row 0 E (.int .u8) []), (1, Ob.cells T [.ptr 1 0, .top])] o = some ob → (o = 2 ∧ ob = .row 0 E (.int .u8) []) ∨ (o = 1 ∧ ob = .cells T [.ptr 1 0, .top]) := fun o ob h => by
   rw [lk_cons, lk_one] at h
   by_cases h2 : 2 = o
   ·rw [if_pos h2] at h; injection h with h; exact .inl ⟨h2.symm, h.symm⟩
   ·rw [if_neg h2] at h
    by_cases h1 : 1 = o
    ·rw [if_pos h1] at h; injection h with h; exact .inr ⟨h1.symm, h.symm⟩
    ·rw [if_neg h1] at h; cases h
  have hlive : ∀ o, live ⟨M.S, (w.drew.freeze ⟨(M.β 2).b, (M.β 2).off, none⟩ (x :: r').length).heap, fun o => if 2 = o then ⟨true, 0, 0, 0⟩ else M.β o, lk [(2, .row 0 E (.int .u8) []), (1, .cells T [.ptr 1 0, .top])], M.U, M.C⟩ o → o = 1 := fun o h => by
   obtain ⟨h1, h2⟩ := h
   cases hlo : lk [(2, Ob.row 0 E (.int .u8) []), (1, Ob.cells T [.ptr 1 0, .top])] o with
   | none => exact absurd hlo h1
   | some ob =>
    rcases hgo' o ob hlo with ⟨rfl, _⟩ | ⟨rfl, _⟩
    ·simp at h2
    ·rfl
  refine ⟨.string (strOf (x :: r')), ⟨M.S, (w.drew.freeze ⟨(M.β 2).b, (M.β 2).off, none⟩ (x :: r').length).heap, fun o => if 2 = o then ⟨true, 0, 0, 0⟩ else M.β o, lk [(2, .row 0 E (.int .u8) []), (1, .cells T [.ptr 1 0, .top])], M.U, M.C⟩, rfl, ⟨rfl, ?_⟩, ?_, ?_, ?_, ?_, fun p hp => .inr hp, fun p hp _ => hp, fun p hp => ⟨hp, ?_⟩, fun p hp => nomatch hp⟩
  ·exact ⟨f4.os, f4.tape, f4.output⟩
  ·refine ⟨fun o ob hob => ?_, fun o h => ?_, ok.cu, fun o v t T' l0 hob => ?_, fun o t l0 hob => ?_, fun o o' h1 h2 hne => absurd ((hlive o h1).trans (hlive o' h2).symm) hne, fun b y h => by show b < Array.size _; rw [f1]; exact ok.lt b y h, by show _ ≤ Array.size _; rw [f1]; exact ok.size, fun b hb hX => ?_, ok.base, fun b y h => (f3 b y).trans (ok.cell b y h), ok.new, fun o h => ?_⟩
   ·rcases hgo' o ob hob with ⟨rfl, rfl⟩ | ⟨rfl, rfl⟩
    ·simp only [OR, if_pos]
    ·simp only [OR]
     refine ⟨by simpa using hn, Lies.of_cells (vs := #[.pointer (some ⟨(M.β 1).b, 0, none⟩), (M.β 2).slice (x :: r').length]) ?_ ?_, by simpa using hS⟩
     ·simp only [show ¬ (2 = 1) by decide, if_false]
      rw [f2 _ hne]; exact hb
     ·simp only [VRL, VR, show ¬ (2 = 1) by decide, if_false]
      exact ⟨_, _, rfl, ⟨hC, rfl⟩, _, _, rfl, trivial, rfl⟩
   ·cases hlo : lk [(2, Ob.row 0 E (.int .u8) []), (1, Ob.cells T [.ptr 1 0, .top])] o with
    | none => exact absurd hlo h
    | some ob =>
     rcases hgo' o ob hlo with ⟨rfl, _⟩ | ⟨rfl, _⟩
     ·exact ok.used 2 (by rw [hr]; simp)
     ·exact ok.used 1 (by rw [hg]; simp)
   ·rcases hgo' o _ hob with ⟨rfl, _⟩ | ⟨rfl, h⟩
    ·exact ok.rc 2 _ _ _ _ hr
    ·cases h
   ·rcases hgo' o _ hob with ⟨rfl, h⟩ | ⟨rfl, _⟩
    ·cases h
    ·exact ok.cc 1 _ _ hg
   ·show (World.freeze _ _ _).heap[b]? = _
    rw [f2 b (fun he => hX ⟨2, hl2, (fun h => nomatch h), he.symm⟩)]
    rfl
   ·obtain rfl := hlive o h
    refine .inr (.inr ⟨1, hl1, (fun h => nomatch h), ?_⟩)
    simp
  ·rfl
  ·show VR _ (.str _) _
   simp only [VR]
  ·intro p hp
   have := hU p hp
   have : p = 1 ∨ p = 2 := by simpa [LSh.refs, refsE, refsO, refsS, SSh.refs, strUsed] using this
   rcases this with rfl | rfl
   ·exact .inr hC
   ·exact .inl (by show lk _ 2 ≠ none; rw [lk_cons, if_pos rfl]; simp)
  ·have : p ≠ 2 := fun h => by subst h; exact ok.rc 2 _ _ _ _ hr hp
   simp [Ne.symm this]
def strFresh.f (k : Nat) : Option ((ByteArray × Unit) × Unit) := some ((ByteArray.empty, ()), ())
def strFresh (T : Nat) : Spec := ⟨⟨[(0, .ptr 1 0)], [(1, T, [.nilp, .nils])]⟩, ⟨[(0, .val .str)], []⟩, 1, [1], [], fun _ => (strFresh.f 0 : Option ((ByteArray × Unit) × Unit)), false⟩
theorem strFresh_ok {f : Nat} (he : ∀ args w, (callFunc f args).run P w = .ok (.enter f args) w)
  (hc : ∀ (b : Nat) (w : World), w.cell? ⟨b, 1, none⟩ = some (.slice none 0 0) → Calls P f #[.pointer (some ⟨b, 0, none⟩)] w fun e w' => e = .returned (.string .empty) ∧ w' = w.drew) : SpecIn P f (strFresh T) := by
 refine ⟨⟨List.nodup_nil, fun p hp => .inl hp, fun p _ hp => nomatch hp⟩, ?_⟩
 intro d r hd w args M hh hgo core hlt hE hsz hU
 obtain ⟨v0, e0, h0⟩ := hE 0 (.ptr 1 0) rfl
 obtain rfl := args_one hsz e0
 simp only [VR] at h0
 obtain ⟨hC, rfl⟩ := h0
 have hg : M.go 1 = some (.cells T [.nilp, .nils]) := by rw [hgo]; rfl
 obtain ⟨hn, hb, hS⟩ := bld_fresh core rfl hg
 have hd : some ((ByteArray.empty, ()), ()) = some r := hd
 injection hd with hd; subst hd
 refine .inl ⟨he _ _, (hc (M.β 1).b w (by rw [cell_eq]; unfold cellAt; rw [← hh, hb]; rfl)).mono ?_, fun h => nomatch h⟩
 rintro e w' ⟨rfl, rfl⟩
 have ok := mcore_ok (sp := strFresh T) core hlt
 refine ⟨_, ⟨M.S, M.h, M.β, fun _ => none, M.C, M.C⟩, rfl, ⟨hh.symm, ⟨rfl, rfl, rfl⟩⟩, ok.forget, rfl, ?_, fun p hp => .inr hp, fun p hp => .inr hp, fun p hp _ => hp, fun p hp => ⟨hp, rfl⟩, fun p hp => nomatch hp⟩
 show VR _ (.str _) _
 simp only [VR]
def growB (n : Int) : Option (Unit × (Unit × List Int × Unit) × Unit) := match decide (0 < n) && decide (n ≤ 281474976710656) with
 | true => some ((), ((), [], ()), ())
 | false => none
def growFresh.f (k : Nat) (n : Int) : Option (Unit × (Unit × List Int × Unit) × Unit) := growB n
def growFresh (T E : Nat) : Spec := ⟨⟨[(0, .ptr 1 0), (1, .val (.int .i64))], [(1, T, [.nilp, .nils])]⟩, ⟨[], [(1, T, [.ptr 1 0, .own 2 E (.int .u8)])]⟩, 0, [], [],
 fun (d : (Unit × Int × Unit) × (Unit × Unit × Unit) × Unit) => (growFresh.f 0 d.1.2.1 : Option (Unit × (Unit × List Int × Unit) × Unit)), false⟩
theorem growFresh_ok {f : Nat} (he : ∀ args w, (callFunc f args).run P w = .ok (.enter f args) w)
  (hc : ∀ (b n : Nat) (w : World), w.heap[b]? = some (.cells #[.pointer none, .slice none 0 0] T (0, 0)) → 0 < n → n ≤ 281474976710656 → Calls P f #[.pointer (some ⟨b, 0, none⟩), .int .i64 n] w fun e w' => e = .returned (.tuple #[]) ∧ ∃ cs : Array Value, n ≤ cs.size ∧
   w'.heap = (((w.setCell ⟨b, 0, none⟩ (.pointer (some ⟨b, 0, none⟩))).setCell ⟨b, 1, none⟩ (.slice (some ⟨w.heap.size, 0, none⟩) 0 cs.size)).alloc (.cells cs E)).heap ∧ w'.os = w.os ∧ w'.tape = w.tape ∧ w'.output = w.output) : SpecIn P f (growFresh T E) := by
 refine ⟨⟨by simp [growFresh, LSh.ids, ownIds, ownIdsO, ownIdsS], fun p hp => .inr ?_, fun p hp => nomatch hp⟩, ?_⟩
 ·simp [growFresh, LSh.ids, ownIds, ownIdsO, ownIdsS] at hp ⊢; omega
 intro d r hd w args M hh hgo core hlt hE hsz hU
 obtain ⟨v0, e0, h0⟩ := hE 0 (.ptr 1 0) rfl
 obtain ⟨v1, e1, h1⟩ := hE 1 (.int .i64 d.1.2.1) rfl
 obtain rfl := args_two hsz e0 e1
 simp only [VR] at h0 h1
 subst h1
 obtain ⟨hC, rfl⟩ := h0
 have hg : M.go 1 = some (.cells T [.nilp, .nils]) := by rw [hgo]; rfl
 obtain ⟨hn, hb, hS⟩ := bld_fresh core rfl hg
 obtain ⟨z, hz⟩ : ∃ z : Int, z = d.1.2.1 := ⟨_, rfl⟩
 have hd : growB d.1.2.1 = some r := hd
 rw [← hz] at hd ⊢
 obtain ⟨⟨hn0, hn1⟩, hd⟩ : (0 < z ∧ z ≤ 281474976710656) ∧ some ((), (((), ([] : List Int), ()), ())) = some r := by
  unfold growB at hd
  split at hd
  ·rename_i h; simp only [Bool.and_eq_true, decide_eq_true_eq] at h; exact ⟨h, hd⟩
  ·cases hd
 injection hd with hd; subst hd
 obtain ⟨n, hnn⟩ := Int.eq_ofNat_of_zero_le (show 0 ≤ z by omega)
 subst hnn
 refine .inl ⟨he _ _, (hc (M.β 1).b n w (by rw [← hh]; exact hb) (by omega) (by omega)).mono ?_, fun h => nomatch h⟩
 rintro e w' ⟨rfl, cs, hcs, hheap, ho1, ho2, ho3⟩
 have ok := mcore_ok (sp := growFresh T E) core hlt
 have hbl : (M.β 1).b < M.h.size := (Array.getElem?_eq_some_iff.mp hb).1
 have hws : w.heap.size = M.h.size := by rw [hh]
 have hl1 : live M 1 := ⟨by rw [hg]; simp, hn⟩
 have q1 : w'.heap.size = M.h.size + 1 := by rw [hheap, hh]; simp [World.setCell, World.alloc]
 have q2 : w'.heap[(M.β 1).b]? = some (.cells #[.pointer (some ⟨(M.β 1).b, 0, none⟩), .slice (some ⟨M.h.size, 0, none⟩) 0 cs.size] T (0, 0)) := by
  rw [hheap]
  simp only [World.alloc, World.setCell, Array.getElem?_push, Array.size_modify, hws]
  rw [if_neg (by omega)]
  simp [Array.getElem?_modify, ← hh, hb]
 have q3 : w'.heap[M.h.size]? = some (.cells cs E (0, 0)) := by
  rw [hheap]
  simp only [World.alloc, World.setCell, Array.getElem?_push, Array.size_modify, hws]
  simp
 have q4 : ∀ b, b < M.h.size → b ≠ (M.β 1).b → w'.heap[b]? = M.h[b]? := fun b hb hne => by
  rw [hheap]
  simp only [World.alloc, World.setCell, Array.getElem?_push, Array.size_modify, hws]
  rw [if_neg (by omega)]
  simp [Array.getElem?_modify, ← hh, Ne.symm hne]
 have q5 : ∀ b x, M.S b x → cellAt w'.heap b x = cellAt M.h b x := fun b x h => by
  unfold cellAt
  rw [q4 b (hlt b x h) (fun he => hS x (he ▸ h))]
 have hgo' : ∀ o ob, lk [(1, Ob.cells T [.ptr 1 0, .own 2 0]), (2, Ob.row 0 E (.int .u8) [])] o = some ob → (o = 2 ∧ ob = .row 0 E (.int .u8) []) ∨ (o = 1 ∧ ob = .cells T [.ptr 1 0, .own 2 0]) := fun o ob h => by
  rw [lk_cons, lk_one] at h
  by_cases h2 : 1 = o
  ·rw [if_pos h2] at h; injection h with h; exact .inr ⟨h2.symm, h.symm⟩
  ·rw [if_neg h2] at h
   by_cases h1 : 2 = o
   ·rw [if_pos h1] at h; injection h with h; exact .inl ⟨h1.symm, h.symm⟩
   ·rw [if_neg h1] at h; cases h
 have hU2 : ¬ M.U 2 := fun h => by
  have := hU 2 h
  simp [LSh.refs, refsE, refsO, refsS, SSh.refs, growFresh] at this
 obtain ⟨M', hM'⟩ : ∃ M' : Mem, M' = ⟨M.S, w'.heap, fun o => if 2 = o then ⟨false, M.h.size, 0, cs.size⟩ else M.β o, lk [(1, .cells T [.ptr 1 0, .own 2 0]), (2, .row 0 E (.int .u8) [])], fun o => o = 2 ∨ M.U o, M.C⟩ := ⟨_, rfl⟩
 have hβ1 : M'.β 1 = M.β 1 := by rw [hM']; simp
 have hβ2 : M'.β 2 = ⟨false, M.h.size, 0, cs.size⟩ := by rw [hM']; simp
 have hM'go : M'.go = lk [(1, .cells T [.ptr 1 0, .own 2 0]), (2, .row 0 E (.int .u8) [])] := by rw [hM']
 have hM'h : M'.h = w'.heap := by rw [hM']
 have hM'S : M'.S = M.S := by rw [hM']
 have hM'C : M'.C = M.C := by rw [hM']
 have hM'U : M'.U = fun o => o = 2 ∨ M.U o := by rw [hM']
 have hlive : ∀ o, live M' o → o = 1 ∨ o = 2 := fun o h => by
  obtain ⟨h1, _⟩ := h
  rw [hM'go] at h1
  cases hlo : lk [(1, Ob.cells T [.ptr 1 0, .own 2 0]), (2, Ob.row 0 E (.int .u8) [])] o with
  | none => exact absurd hlo h1
  | some ob =>
   rcases hgo' o ob hlo with ⟨rfl, _⟩ | ⟨rfl, _⟩
   ·exact .inr rfl
   ·exact .inl rfl
 refine ⟨.tuple #[], M', rfl, ⟨hM'h.symm, ⟨ho1, ho2, ho3⟩⟩, ?_, hM'go, ?_, ?_, fun p hp => .inr (hM'C ▸ hp), fun p hp _ => hM'C ▸ hp, fun p hp => ⟨by rw [hM'C]; exact hp, ?_⟩, fun p hp => nomatch hp⟩
 ·refine ⟨fun o ob hob => ?_, fun o h => ?_, fun o h => ?_, fun o v t T' l0 hob => ?_, fun o t l0 hob => ?_, fun o o' h1 h2 hne => ?_, fun b y h => ?_, ?_, fun b hb hX => ?_, fun b x h => by rw [hM'S]; exact h, fun b y h => ?_, fun b x h => .inl (by rw [hM'S] at h; exact h), fun o h => ?_⟩
  ·rw [hM'go] at hob
   rcases hgo' o ob hob with ⟨rfl, rfl⟩ | ⟨rfl, rfl⟩
   ·simp only [OR, hβ2]
    refine ⟨Nat.zero_le _, fun i hi => absurd hi (Nat.not_lt_zero _), ⟨cs, (0, 0), by rw [hM'h]; exact q3, by simp [Ty.n], fun i _ h => by omega⟩, rfl, fun x hx => ?_⟩
    rw [hM'S] at hx
    exact absurd (hlt _ _ hx) (Nat.lt_irrefl _)
   ·simp only [OR, hβ1]
    refine ⟨hn, Lies.of_cells (by rw [hM'h]; exact q2) ?_, by rw [hM'S]; exact hS⟩
    simp only [VRL, VR]
    refine ⟨_, _, rfl, ⟨by rw [hM'C]; exact hC, by rw [hβ1]⟩, _, _, rfl, ⟨by rw [hM'U]; exact .inl rfl, fun v0 t T0 l hg0 => ?_⟩, rfl⟩
    rw [hM'go] at hg0
    rcases hgo' 2 _ hg0 with ⟨_, h⟩ | ⟨h, _⟩
    ·injection h with a1 a2 a3 a4; subst a1; subst a3; have a4 := eq_of_heq a4; subst a4
     refine ⟨Nat.le_refl _, fun _ => ?_⟩
     rw [hβ2]; rfl
    ·cases h
  ·rw [hM'go] at h; rw [hM'U]
   cases hlo : lk [(1, Ob.cells T [.ptr 1 0, .own 2 0]), (2, Ob.row 0 E (.int .u8) [])] o with
   | none => exact absurd hlo h
   | some ob =>
    rcases hgo' o ob hlo with ⟨rfl, _⟩ | ⟨rfl, _⟩
    ·exact .inl rfl
    ·exact .inr (ok.used 1 (by rw [hg]; simp))
  ·rw [hM'C] at h; rw [hM'U]; exact .inr (ok.cu o h)
  ·rw [hM'go] at hob; rw [hM'C]
   rcases hgo' o _ hob with ⟨rfl, _⟩ | ⟨rfl, h⟩
   ·exact fun h => hU2 (ok.cu 2 h)
   ·cases h
  ·rw [hM'go] at hob; rw [hM'C]
   rcases hgo' o _ hob with ⟨rfl, h⟩ | ⟨rfl, _⟩
   ·cases h
   ·exact hC
  ·rcases hlive o h1 with rfl | rfl <;> rcases hlive o' h2 with rfl | rfl
   ·exact absurd rfl hne
   ·rw [hβ1, hβ2]; exact Nat.ne_of_lt hbl
   ·rw [hβ1, hβ2]; exact Nat.ne_of_gt hbl
   ·exact absurd rfl hne
  ·rw [hM'S] at h; rw [hM'h, q1]; have := hlt b y h; omega
  ·show M.h.size ≤ _; rw [hM'h, q1]; omega
  ·show M'.h[b]? = M.h[b]?
   have hb' : b < M.h.size := hb
   rw [hM'h, q4 b hb' (fun he => hX ⟨1, hl1, (fun h => nomatch h), he.symm⟩)]
  ·rw [hM'h]; exact q5 b y h
  ·rcases hlive o h with rfl | rfl
   ·refine .inr (.inr ⟨1, hl1, (fun h => nomatch h), ?_⟩); rw [hβ1]
   ·refine .inr (.inl ?_); rw [hβ2]; exact Nat.le_refl _
 ·show VR _ (.tup []) _
  simp only [VR, VRL]; exact ⟨#[], rfl, rfl⟩
 ·intro p hp
  rw [hM'U] at hp
  rcases hp with rfl | hp
  ·exact .inl (by rw [hM'go, lk_cons, if_neg (by decide), lk_one, if_pos rfl]; simp)
  ·have := hU p hp
   have : p = 1 := by simpa [LSh.refs, refsE, refsO, refsS, SSh.refs, growFresh] using this
   subst this; exact .inr (by rw [hM'C]; exact hC)
 ·have : p ≠ 2 := fun h => by subst h; exact hU2 (ok.cu 2 hp)
  rw [hM']; simp [Ne.symm this]
def idxB.f (k : Nat) (s : ByteArray) (c : Int) : Option ((Int × Unit) × Unit) := some ((Lib.indexByte s.data.toList c.toNat.toUInt8, ()), ())
def idxB : Spec := ⟨⟨[(0, .val .str), (1, .val (.int .u8))], []⟩, ⟨[(0, .val (.int .i64))], []⟩, 1, [], [], fun (d : (ByteArray × Int × Unit) × Unit) => (idxB.f 0 d.1.1 d.1.2.1 : Option ((Int × Unit) × Unit)), false⟩
theorem idxB_ok {f : Nat} (h : ∀ (a : ByteArray) (b : Int) (w : World), (callFunc f #[.string a, .int .u8 b]).run P w = .ok (.value (.int .i64 (Lib.indexByte a.data.toList b.toNat.toUInt8))) w) : SpecIn P f idxB := by
 refine ⟨⟨List.nodup_nil, (fun p hp => nomatch hp), (fun p hp => nomatch hp)⟩, ?_⟩
 intro d r hd w args M hh hgo core hlt hE hsz hU
 have hd : some ((Lib.indexByte d.1.1.data.toList d.1.2.1.toNat.toUInt8, ()), ()) = some r := hd
 injection hd with hd; subst hd
 obtain ⟨v0, e0, h0⟩ := hE 0 (.str d.1.1) rfl
 obtain ⟨v1, e1, h1⟩ := hE 1 (.int .u8 d.1.2.1) rfl
 have h0 := h0.str
 have h1 := h1.int
 subst h0; subst h1
 obtain rfl := args_two hsz e0 e1
 have hno : ∀ p, ¬ M.U p := fun p hp => by have := hU p hp; cases this
 refine .inr ⟨_, w, rfl, h _ _ w, _, M, rfl, ⟨hh.symm, .rfl⟩, mcore_ok core hlt, hgo, rfl, fun p hp => absurd hp (hno p), fun p hp => absurd (core.cu p hp) (hno p), fun p hp => absurd (core.cu p hp) (hno p), fun p hp => absurd (core.cu p hp) (hno p), fun p hp => nomatch hp⟩
theorem GamOk.cons2 {f : Nat} {sp sp' : Spec} {r : Gam} (h : SpecIn P f sp) (h' : SpecIn P f sp') (hr : GamOk P r) : GamOk P ((f, [sp, sp']) :: r) := fun g sps hl s hs => by
 rw [lk_cons] at hl
 by_cases e : f = g
 ·rw [if_pos e] at hl; injection hl with hl; subst hl; subst e
  simp only [List.mem_cons, List.not_mem_nil, or_false] at hs
  rcases hs with rfl | rfl
  ·exact h
  ·exact h'
 ·rw [if_neg e] at hl; exact hr g sps hl s hs
end
end Go.Proofs.Ytpidgdelfaidoaa.Eng
