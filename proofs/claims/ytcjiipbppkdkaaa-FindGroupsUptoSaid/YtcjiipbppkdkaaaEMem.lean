/- The engine, part 3: how memory goes on: a new object, cells written anew, a row made, a row that grows. -/
import Derived.Test.YtcjiipbppkdkaaaERel
namespace Go.Proofs.Ytcjiipbppkdkaaa.Eng
open Go
set_option linter.unusedVariables false
theorem OR.keep {M M' : Mem} {o : Nat} {ob : Ob} (e : Ext M M') (hb : M'.β o = M.β o) (hh : (M.β o).nil = false → M'.h[(M.β o).b]? = M.h[(M.β o).b]?)
  (hS : (M.β o).nil = false → ∀ x, M'.S (M.β o).b x → M.S (M.β o).b x) (h : OR M o ob) : OR M' o ob := by
 cases ob with
 | cells t l =>
  simp only [OR] at h ⊢
  rw [hb]
  obtain ⟨hn, h1, h3⟩ := h
  exact ⟨hn, h1.ext e (hh hn), fun x hx => h3 x (hS hn x hx)⟩
 | row v t T l =>
  simp only [OR] at h ⊢
  rw [hb]
  cases hn : (M.β o).nil with
  | true => rw [hn] at h; exact h
  | false =>
   rw [hn] at h
   simp only [] at h ⊢
   obtain ⟨h1, h2, ⟨cs, f, h3, h4, h5⟩, hm, h6⟩ := h
   refine ⟨h1, fun i hi => ?_, ⟨cs, f, by rw [hh hn]; exact h3, h4, h5⟩, hm, fun x hx => h6 x (hS hn x hx)⟩
   cases hT : T.isMu with
   | false => have := h2 i hi; rw [Ty.seal_of hT] at this ⊢; exact this.mono e.S e.cell
   | true =>
    have := h2 i hi
    rw [Ty.seal_mu hT] at this ⊢
    cases T with
    | mu e0 => exact ElR.flat (fun x => by unfold cellAt; rw [hh hn]) (fun _ _ => trivial) e0 _ _ hm this
    | _ => cases hT
theorem cellAt_push {h : Array Obj} {x : Obj} {b o : Nat} (hb : b < h.size) : cellAt (h.push x) b o = cellAt h b o := by
 unfold cellAt; rw [Array.getElem?_push]; rw [if_neg (by omega)]
theorem OR.lt {M : Mem} {o : Nat} {ob : Ob} (h : OR M o ob) (hn : (M.β o).nil = false) : (M.β o).b < M.h.size := by
 cases ob with
 | cells t l =>
  simp only [OR] at h
  exact h.2.1.lt
 | row v t T l =>
  simp only [OR, hn] at h
  obtain ⟨_, _, ⟨cs, f, h3, _, _⟩, _, _⟩ := h
  exact (Array.getElem?_eq_some_iff.mp h3).1
theorem MOK.live_lt {B : Base} {M : Mem} (ok : MOK B M) {o : Nat} (hl : live M o) : (M.β o).b < M.h.size := by
 obtain ⟨h1, h2⟩ := hl
 cases hg : M.go o with
 | none => exact absurd hg h1
 | some ob => exact (ok.obj o ob hg).lt h2
def Mem.add (M : Mem) (d : Nat) (ob : Obj) (x : Hd) (go' : Nat → Option Ob) (S' : Seal) (c : Prop) : Mem :=
 ⟨S', M.h.push ob, fun o => if d = o then x else M.β o, go', fun o => o = d ∨ M.U o, fun o => (o = d ∧ c) ∨ M.C o⟩
theorem ext_add {B : Base} {M : Mem} (ok : MOK B M) {d : Nat} {ob : Obj} {x : Hd} {go' : Nat → Option Ob} {S' : Seal} {c : Prop} (hd : ¬ M.U d) (hgo : ∀ o, d ≠ o → go' o = M.go o)
  (hS : ∀ b y, M.S b y → S' b y) : Ext M (M.add d ob x go' S' c) where
 S := hS
 cell := fun b y h => cellAt_push (ok.lt b y h)
 U := fun o h => .inr h
 cells := fun o hc => by
  have hne : d ≠ o := fun he => hd (he ▸ ok.cu o hc)
  exact ⟨.inr hc, by simp [Mem.add, hne]⟩
 row := fun o hu v t T l hg => by
  have hne : d ≠ o := fun he => hd (he ▸ hu)
  simp only [Mem.add] at hg ⊢
  rw [hgo o hne] at hg
  exact ⟨v, t, T, l, hg, Nat.le_refl _, fun _ => ⟨rfl, by simp [hne], rfl⟩⟩
theorem MOK.add {B : Base} {M : Mem} (ok : MOK B M) {d : Nat} {ob : Obj} {x : Hd} {go' : Nat → Option Ob} {S' : Seal} {c : Prop} (hd : ¬ M.U d) (hgo : ∀ o, d ≠ o → go' o = M.go o)
  (hS : ∀ b y, M.S b y → S' b y) (hS' : ∀ b y, S' b y → M.S b y ∨ b = M.h.size) (hx : x.nil = false → x.b = M.h.size)
  (hor : ∀ o, go' d = some o → OR (M.add d ob x go' S' c) d o) (hc : ∀ v t T l, go' d = some (.row v t T l) → ¬ c) (hcc : ∀ t l, go' d = some (.cells t l) → c) : MOK B (M.add d ob x go' S' c) := by
 have e := ext_add ok (ob := ob) (x := x) (c := c) hd hgo hS
 refine ⟨?_, ?_, fun o h => h.elim (fun h => .inl h.1) (fun h => .inr (ok.cu o h)), ?_, ?_, ?_, ?_, ?_, ?_, ?_, ?_, ?_, ?_⟩
 ·intro o ob' hg
  by_cases hne : d = o
  ·subst hne; exact hor ob' hg
  ·have hg' : M.go o = some ob' := by rw [← hgo o hne]; exact hg
   have h0 := ok.obj o ob' hg'
   refine h0.keep e (by simp [Mem.add, hne]) (fun hn => ?_) (fun hn y hy => ?_)
   ·simp only [Mem.add]; rw [Array.getElem?_push, if_neg (by have := h0.lt hn; omega)]
   ·rcases hS' _ _ hy with h | h
    ·exact h
    ·have := h0.lt hn; omega
 ·intro o hg
  by_cases hne : d = o
  ·exact .inl hne.symm
  ·exact .inr (ok.used o (by rw [← hgo o hne]; exact hg))
 ·intro o v t T l hg hC
  by_cases hne : d = o
  ·subst hne
   rcases hC with h | h
   ·exact hc v t T l hg h.2
   ·exact hd (ok.cu _ h)
  ·have hg' : M.go o = some (.row v t T l) := by rw [← hgo o hne]; exact hg
   rcases hC with h | h
   ·exact hne h.1.symm
   ·exact ok.rc o v t T l hg' h
 ·intro o t l hg
  by_cases hne : d = o
  ·subst hne; exact .inl ⟨rfl, hcc t l hg⟩
  ·exact .inr (ok.cc o t l (by rw [← hgo o hne]; exact hg))
 ·intro o o' h1 h2 hne
  have key : ∀ p, live (M.add d ob x go' S' c) p → (d = p ∧ x.nil = false) ∨ (d ≠ p ∧ live M p) := by
   intro p ⟨hp1, hp2⟩
   by_cases hp : d = p
   ·refine .inl ⟨hp, ?_⟩; simpa [Mem.add, hp] using hp2
   ·refine .inr ⟨hp, ?_, ?_⟩
    ·rw [← hgo p hp]; exact hp1
    ·simpa [Mem.add, hp] using hp2
  rcases key o h1 with ⟨ho, hn⟩ | ⟨ho, hl⟩ <;> rcases key o' h2 with ⟨ho', hn'⟩ | ⟨ho', hl'⟩
  ·exact absurd (ho.symm.trans ho') hne
  ·have := ok.live_lt hl'
   simp only [Mem.add, if_pos ho, if_neg ho', hx hn]; omega
  ·have := ok.live_lt hl
   simp only [Mem.add, if_neg ho, if_pos ho', hx hn']; omega
  ·simp only [Mem.add, if_neg ho, if_neg ho']; exact ok.inj o o' hl hl' hne
 ·intro b y hy
  simp only [Mem.add, Array.size_push]
  rcases hS' b y hy with h | h
  ·have := ok.lt b y h; omega
  ·omega
 ·simp only [Mem.add, Array.size_push]; have := ok.size; omega
 ·intro b hb hX
  have hs := ok.size
  simp only [Mem.add]; rw [Array.getElem?_push, if_neg (by omega)]; exact ok.keep b hb hX
 ·intro b y h; exact hS _ _ (ok.base b y h)
 ·intro b y h; exact (e.cell b y (ok.base b y h)).trans (ok.cell b y h)
 ·intro b y h
  rcases hS' b y h with h | h
  ·exact ok.new b y h
  ·have := ok.size; exact .inr (.inl (by omega))
 ·intro o ⟨h1, h2⟩
  by_cases hne : d = o
  ·have hn : x.nil = false := by simpa [Mem.add, hne] using h2
   have := ok.size
   refine .inr (.inl ?_)
   simp only [Mem.add, if_pos hne, hx hn]; omega
  ·have := ok.own o ⟨by rw [← hgo o hne]; exact h1, by simpa [Mem.add, hne] using h2⟩
   simpa [Mem.add, hne] using this
theorem MOK.addCells {B : Base} {M : Mem} (ok : MOK B M) {d t : Nat} {l : List CV} {vs : Array Value} {go' : Nat → Option Ob} (hd : ¬ M.U d)
  (hgo : ∀ o, go' o = if d = o then some (.cells t l) else M.go o) (hl : VRL M l vs.toList) :
  MOK B (M.add d (.cells vs t (0, 0)) ⟨false, M.h.size, 0, 0⟩ go' M.S True) ∧ Ext M (M.add d (.cells vs t (0, 0)) ⟨false, M.h.size, 0, 0⟩ go' M.S True) := by
 have h0 : ∀ o, d ≠ o → go' o = M.go o := fun o h => by rw [hgo o, if_neg h]
 have e := ext_add ok (ob := .cells vs t (0, 0)) (x := ⟨false, M.h.size, 0, 0⟩) (S' := M.S) (c := True) hd h0 (fun _ _ h => h)
 refine ⟨ok.add hd h0 (fun _ _ h => h) (fun _ _ h => .inl h) (fun _ => rfl) ?_ (fun v t' T l' h => by rw [hgo d, if_pos rfl] at h; cases h) (fun _ _ _ => trivial), e⟩
 intro o ho
 rw [hgo d, if_pos rfl] at ho
 injection ho with ho; subst ho
 simp only [OR]
 refine ⟨by simp [Mem.add], Lies.of_cells (vs := vs) (by simp [Mem.add]) (hl.ext e), fun x hx => ?_⟩
 have h1 : M.S M.h.size x := by simpa [Mem.add] using hx
 have := ok.lt _ _ h1
 omega
theorem MOK.addRow {B : Base} {M : Mem} (ok : MOK B M) {d t v : Nat} {T : Ty} {l : List T.den} {cs : Array Value} {f : Nat × Nat} {cap : Nat} {go' : Nat → Option Ob} (hd : ¬ M.U d) (hmu : T.isMu = false)
  (hgo : ∀ o, go' o = if d = o then some (.row v t T l) else M.go o) (hcap : l.length ≤ cap) (hcs : cap * T.n ≤ cs.size) (hf : ∀ i, (i < cap * T.n ∨ 1 < T.n) → ¬ (f.1 ≤ i ∧ i < f.2))
  (hel : ∀ S' : Seal, (∀ b x, M.S b x → S' b x) → (∀ x, x < l.length * T.n → S' M.h.size x) → ∀ (i : Nat) (hi : i < l.length), ElR S' (M.h.push (.cells cs t f)) T l[i] M.h.size (i * T.n)) :
  MOK B (M.add d (.cells cs t f) ⟨false, M.h.size, 0, cap⟩ go' (fun b x => M.S b x ∨ (b = M.h.size ∧ x < l.length * T.n)) False) ∧
  Ext M (M.add d (.cells cs t f) ⟨false, M.h.size, 0, cap⟩ go' (fun b x => M.S b x ∨ (b = M.h.size ∧ x < l.length * T.n)) False) := by
 have h0 : ∀ o, d ≠ o → go' o = M.go o := fun o h => by rw [hgo o, if_neg h]
 have hS : ∀ b y, M.S b y → (fun b x => M.S b x ∨ (b = M.h.size ∧ x < l.length * T.n)) b y := fun _ _ h => .inl h
 have e := ext_add ok (ob := .cells cs t f) (x := ⟨false, M.h.size, 0, cap⟩) (c := False) hd h0 hS
 refine ⟨ok.add hd h0 hS (fun b y h => h.imp id And.left) (fun _ => rfl) ?_ (fun _ _ _ _ _ h => h) (fun t' l' h => by rw [hgo d, if_pos rfl] at h; cases h), e⟩
 intro o ho
 rw [hgo d, if_pos rfl] at ho
 injection ho with ho; subst ho
 simp only [OR, Mem.add, if_pos, Ty.seal_of hmu]
 refine ⟨hcap, fun i hi => ?_, ⟨cs, f, by simp, by omega, fun i hi => hf i (hi.imp (fun h => by omega) id)⟩, Ty.muOk_of hmu, fun x hx => ⟨hmu, ?_⟩⟩
 ·have := hel _ hS (fun x hx => .inr ⟨rfl, hx⟩) i hi
  simpa using this
 ·rcases hx with hx | ⟨_, hx⟩
  ·have := ok.lt _ _ hx; omega
  ·omega
theorem MOK.addMu {B : Base} {M : Mem} (ok : MOK B M) {d t v : Nat} {T : Ty} {l : List T.den} {cs : Array Value} {f : Nat × Nat} {cap : Nat} {go' : Nat → Option Ob} (hd : ¬ M.U d) (hfl : T.flat = true)
  (hgo : ∀ o, go' o = if d = o then some (.row v t (.mu T) l) else M.go o) (hcap : l.length ≤ cap) (hcs : cap * T.n ≤ cs.size) (hf : ∀ i, (i < cap * T.n ∨ 1 < T.n) → ¬ (f.1 ≤ i ∧ i < f.2))
  (hel : ∀ (i : Nat) (hi : i < l.length), ElR (fun _ _ => True) (M.h.push (.cells cs t f)) T l[i] M.h.size (i * T.n)) :
  MOK B (M.add d (.cells cs t f) ⟨false, M.h.size, 0, cap⟩ go' M.S False) ∧ Ext M (M.add d (.cells cs t f) ⟨false, M.h.size, 0, cap⟩ go' M.S False) := by
 have h0 : ∀ o, d ≠ o → go' o = M.go o := fun o h => by rw [hgo o, if_neg h]
 have e := ext_add ok (ob := .cells cs t f) (x := ⟨false, M.h.size, 0, cap⟩) (S' := M.S) (c := False) hd h0 (fun _ _ h => h)
 refine ⟨ok.add hd h0 (fun _ _ h => h) (fun b y h => .inl h) (fun _ => rfl) ?_ (fun _ _ _ _ _ h => h) (fun t' l' h => by rw [hgo d, if_pos rfl] at h; cases h), e⟩
 intro o ho
 rw [hgo d, if_pos rfl] at ho
 injection ho with ho; subst ho
 simp only [OR, Mem.add, if_pos]
 refine ⟨hcap, fun i hi => ?_, ⟨cs, f, by simp, by show 0 + cap * T.n ≤ _; omega, fun i hi => hf i (hi.imp (fun h => by have : i < 0 + cap * T.n := h; omega) id)⟩, hfl, fun x hx => ?_⟩
 ·have := hel i hi
  show ElR (fun _ _ => True) _ T _ M.h.size (0 + i * T.n)
  rw [Nat.zero_add]; exact this
 ·have := ok.lt _ _ hx; omega
theorem MOK.addNil {B : Base} {M : Mem} (ok : MOK B M) {d t v : Nat} {T : Ty} {go' : Nat → Option Ob} (hd : ¬ M.U d)
  (hgo : ∀ o, go' o = if d = o then some (.row v t T []) else M.go o) :
  MOK B ⟨M.S, M.h, fun o => if d = o then ⟨true, 0, 0, 0⟩ else M.β o, go', fun o => o = d ∨ M.U o, M.C⟩ ∧ Ext M ⟨M.S, M.h, fun o => if d = o then ⟨true, 0, 0, 0⟩ else M.β o, go', fun o => o = d ∨ M.U o, M.C⟩ := by
 have h0 : ∀ o, d ≠ o → go' o = M.go o := fun o h => by rw [hgo o, if_neg h]
 have e : Ext M ⟨M.S, M.h, fun o => if d = o then ⟨true, 0, 0, 0⟩ else M.β o, go', fun o => o = d ∨ M.U o, M.C⟩ := by
  refine ⟨fun _ _ h => h, fun _ _ _ => rfl, fun o h => .inr h, fun o hc => ?_, fun o hu v t T l hg => ?_⟩
  ·have hne : d ≠ o := fun he => hd (he ▸ ok.cu o hc)
   exact ⟨hc, by simp [hne]⟩
  ·have hne : d ≠ o := fun he => hd (he ▸ hu)
   change go' o = _ at hg; rw [h0 o hne] at hg; exact ⟨v, t, T, l, hg, Nat.le_refl _, fun _ => ⟨rfl, by simp [hne], rfl⟩⟩
 have key : ∀ p, live ⟨M.S, M.h, fun o => if d = o then ⟨true, 0, 0, 0⟩ else M.β o, go', fun o => o = d ∨ M.U o, M.C⟩ p → d ≠ p ∧ live M p := by
  intro p ⟨hp1, hp2⟩
  by_cases hp : d = p
  ·simp [hp] at hp2
  ·exact ⟨hp, by rw [← h0 p hp]; exact hp1, by simpa [hp] using hp2⟩
 refine ⟨⟨?_, ?_, fun o h => .inr (ok.cu o h), ?_, fun o t' l' hg => ?_, ?_, ok.lt, ok.size, ok.keep, ok.base, ok.cell, ok.new, ?_⟩, e⟩
 ·intro o ob' hg
  by_cases hne : d = o
  ·subst hne
   simp only [hgo, if_pos] at hg
   injection hg with hg; subst hg
   simp [OR]
  ·have hg' : M.go o = some ob' := by rw [← h0 o hne]; exact hg
   exact (ok.obj o ob' hg').keep e (by simp [hne]) (fun _ => rfl) (fun _ _ h => h)
 ·intro o hg
  by_cases hne : d = o
  ·exact .inl hne.symm
  ·exact .inr (ok.used o (by rw [← h0 o hne]; exact hg))
 ·intro o v' t' T' l' hg hC
  by_cases hne : d = o
  ·exact hd (hne ▸ ok.cu _ hC)
  ·exact ok.rc o v' t' T' l' (by rw [← h0 o hne]; exact hg) hC
 ·by_cases hne : d = o
  ·subst hne; simp only [hgo, if_pos] at hg; cases hg
  ·exact ok.cc o t' l' (by rw [← h0 o hne]; exact hg)
 ·intro o o' h1 h2 hne
  obtain ⟨a1, a2⟩ := key o h1
  obtain ⟨b1, b2⟩ := key o' h2
  simp only [if_neg a1, if_neg b1]; exact ok.inj o o' a2 b2 hne
 ·intro o h1
  obtain ⟨a1, a2⟩ := key o h1
  have := ok.own o a2
  simpa [a1] using this
theorem MOK.setAny {B : Base} {M : Mem} (ok : MOK B M) {d t : Nat} {l l' : List CV} {h' : Array Obj} {go' : Nat → Option Ob} (hro : ¬ B.ro d)
  (hg : M.go d = some (.cells t l)) (hgo : ∀ o, go' o = if d = o then some (.cells t l') else M.go o)
  (h2 : ∀ b, b ≠ (M.β d).b → h'[b]? = M.h[b]?) (h3 : h'.size = M.h.size) (hl : Ext M ⟨M.S, h', M.β, go', M.U, M.C⟩ → Lies ⟨M.S, h', M.β, go', M.U, M.C⟩ (M.β d).b t l') :
  MOK B ⟨M.S, h', M.β, go', M.U, M.C⟩ ∧ Ext M ⟨M.S, h', M.β, go', M.U, M.C⟩ := by
 have hor := ok.obj d _ hg
 simp only [OR] at hor
 obtain ⟨hn, _, hS⟩ := hor
 have hcell : ∀ b x, M.S b x → cellAt h' b x = cellAt M.h b x := fun b x hx => by
  have : b ≠ (M.β d).b := fun he => hS x (he ▸ hx)
  unfold cellAt; rw [h2 b this]
 have e : Ext M ⟨M.S, h', M.β, go', M.U, M.C⟩ := by
  refine ⟨fun _ _ h => h, hcell, fun _ h => h, fun o hc => ⟨hc, rfl⟩, fun o hu v t' T l0 hg' => ?_⟩
  ·simp only [hgo] at hg'
   by_cases hne : d = o
   ·rw [if_pos hne] at hg'; injection hg' with hg'; cases hg'
   ·rw [if_neg hne] at hg'; exact ⟨v, t', T, l0, hg', Nat.le_refl _, fun _ => ⟨rfl, rfl, rfl⟩⟩
 have hld : live M d := ⟨by rw [hg]; simp, hn⟩
 have key : ∀ p, live ⟨M.S, h', M.β, go', M.U, M.C⟩ p → live M p := by
  intro p ⟨hp1, hp2⟩
  by_cases hp : d = p
  ·subst hp; exact hld
  ·refine ⟨?_, hp2⟩; simp only [hgo, if_neg hp] at hp1; exact hp1
 refine ⟨⟨?_, ?_, ok.cu, ?_, fun o t' l0 hg' => ?_, fun o o' a b hne => ok.inj o o' (key o a) (key o' b) hne, ?_, by rw [h3]; exact ok.size, ?_, ok.base, fun b y h => (hcell b y (ok.base b y h)).trans (ok.cell b y h), ok.new, fun o a => ok.own o (key o a)⟩, e⟩
 ·intro o ob' hg'
  by_cases hne : d = o
  ·subst hne
   simp only [hgo, if_pos] at hg'
   injection hg' with hg'; subst hg'
   simp only [OR]
   exact ⟨hn, hl e, hS⟩
  ·simp only [hgo, if_neg hne] at hg'
   have h0 := ok.obj o ob' hg'
   refine h0.keep e rfl (fun hn' => ?_) (fun _ _ h => h)
   exact h2 _ (fun he => ok.inj d o hld ⟨by rw [hg']; simp, hn'⟩ hne he.symm)
 ·intro o hg'
  by_cases hne : d = o
  ·subst hne; exact ok.used d (by rw [hg]; simp)
  ·simp only [hgo, if_neg hne] at hg'; exact ok.used o hg'
 ·intro o v' t' T' l0 hg'
  by_cases hne : d = o
  ·simp only [hgo, if_pos hne] at hg'; cases hg'
  ·simp only [hgo, if_neg hne] at hg'; exact ok.rc o v' t' T' l0 hg'
 ·by_cases hne : d = o
  ·subst hne; exact ok.cc d t l hg
  ·simp only [hgo, if_neg hne] at hg'; exact ok.cc o t' l0 hg'
 ·intro b y hy; show b < h'.size; rw [h3]; exact ok.lt b y hy
 ·intro b hb' hX
  have : b ≠ (M.β d).b := by
   intro he
   rcases ok.own d hld with h | h | h
   ·exact hro h
   ·omega
   ·exact hX (he ▸ h)
  show h'[b]? = _
  rw [h2 b this]; exact ok.keep b hb' hX
theorem MOK.setCells {B : Base} {M : Mem} (ok : MOK B M) {d t : Nat} {l l' : List CV} {vs' : Array Value} {h' : Array Obj} {go' : Nat → Option Ob} (hro : ¬ B.ro d)
  (hg : M.go d = some (.cells t l)) (hgo : ∀ o, go' o = if d = o then some (.cells t l') else M.go o)
  (h1 : h'[(M.β d).b]? = some (.cells vs' t (0, 0))) (h2 : ∀ b, b ≠ (M.β d).b → h'[b]? = M.h[b]?) (h3 : h'.size = M.h.size) (hl : VRL M l' vs'.toList) :
  MOK B ⟨M.S, h', M.β, go', M.U, M.C⟩ ∧ Ext M ⟨M.S, h', M.β, go', M.U, M.C⟩ := ok.setAny hro hg hgo h2 h3 (fun e => Lies.of_cells h1 (hl.ext e))
theorem isMap_one (d : List (ByteArray × ByteArray)) : isMap [.mapd d] = some d := rfl
theorem MOK.setMap {B : Base} {M : Mem} (ok : MOK B M) {d t : Nat} {l : List CV} {m : List (ByteArray × ByteArray)} {es : Array MapEntry} {c : Nat} {h' : Array Obj} {go' : Nat → Option Ob} (hro : ¬ B.ro d)
  (hg : M.go d = some (.cells t l)) (hgo : ∀ o, go' o = if d = o then some (.cells t [.mapd m]) else M.go o)
  (h1 : h'[(M.β d).b]? = some (.map es c)) (h2 : ∀ b, b ≠ (M.β d).b → h'[b]? = M.h[b]?) (h3 : h'.size = M.h.size) (hl : EntR es.toList m) :
  MOK B ⟨M.S, h', M.β, go', M.U, M.C⟩ ∧ Ext M ⟨M.S, h', M.β, go', M.U, M.C⟩ := ok.setAny hro hg hgo h2 h3 (fun e => by unfold Lies; rw [isMap_one]; exact ⟨es, c, h1, hl⟩)
theorem MOK.addMap {B : Base} {M : Mem} (ok : MOK B M) {d t : Nat} {go' : Nat → Option Ob} (hd : ¬ M.U d)
  (hgo : ∀ o, go' o = if d = o then some (.cells t [.mapd []]) else M.go o) :
  MOK B (M.add d (.map #[] 0) ⟨false, M.h.size, 0, 0⟩ go' M.S True) ∧ Ext M (M.add d (.map #[] 0) ⟨false, M.h.size, 0, 0⟩ go' M.S True) := by
 have h0 : ∀ o, d ≠ o → go' o = M.go o := fun o h => by rw [hgo o, if_neg h]
 have e := ext_add ok (ob := .map #[] 0) (x := ⟨false, M.h.size, 0, 0⟩) (S' := M.S) (c := True) hd h0 (fun _ _ h => h)
 refine ⟨ok.add hd h0 (fun _ _ h => h) (fun _ _ h => .inl h) (fun _ => rfl) ?_ (fun v t' T l' h => by rw [hgo d, if_pos rfl] at h; cases h) (fun _ _ _ => trivial), e⟩
 intro o ho
 rw [hgo d, if_pos rfl] at ho
 injection ho with ho; subst ho
 simp only [OR]
 refine ⟨by simp [Mem.add], ?_, fun x hx => ?_⟩
 ·unfold Lies; rw [isMap_one]
  exact ⟨#[], 0, by simp [Mem.add], by simp [EntR]⟩
 ·have h1 : M.S M.h.size x := by simpa [Mem.add] using hx
  have := ok.lt _ _ h1
  omega
theorem MOK.grow {B : Base} {M : Mem} (ok : MOK B M) {d t v : Nat} {T : Ty} {l l' : List T.den} {h' : Array Obj} {x : Hd} {S' : Seal} {go' : Nat → Option Ob} (hro : ¬ B.ro d)
  (hg : M.go d = some (.row v t T l)) (hgo : ∀ o, go' o = if d = o then some (.row (v + 1) t T l') else M.go o)
  (hS : ∀ b y, M.S b y → S' b y) (hS' : ∀ b y, S' b y → M.S b y ∨ (x.nil = false ∧ b = x.b))
  (hcell : ∀ b y, M.S b y → cellAt h' b y = cellAt M.h b y)
  (hx : x.nil = false → (x.b = M.h.size ∨ ((M.β d).nil = false ∧ x.b = (M.β d).b)))
  (h2 : ∀ b, b < M.h.size → ((M.β d).nil = false → x.nil = false → x.b = (M.β d).b → b ≠ (M.β d).b) → h'[b]? = M.h[b]?) (h3 : M.h.size ≤ h'.size) (h4 : x.nil = false → x.b < h'.size)
  (hor : OR ⟨S', h', fun o => if d = o then x else M.β o, go', M.U, M.C⟩ d (.row (v + 1) t T l')) :
  MOK B ⟨S', h', fun o => if d = o then x else M.β o, go', M.U, M.C⟩ ∧ Ext M ⟨S', h', fun o => if d = o then x else M.β o, go', M.U, M.C⟩ := by
 have e : Ext M ⟨S', h', fun o => if d = o then x else M.β o, go', M.U, M.C⟩ := by
  refine ⟨hS, hcell, fun _ h => h, fun o hc => ⟨hc, ?_⟩, fun o hu v' t' T' l0 hg' => ?_⟩
  ·have hne : d ≠ o := fun he => ok.rc d v t T l hg (he ▸ hc)
   simp [hne]
  ·simp only [hgo] at hg'
   by_cases hne : d = o
   ·rw [if_pos hne] at hg'; injection hg' with hg'; cases hg'
    subst hne
    exact ⟨v, t, T, l, hg, by omega, fun h => by omega⟩
   ·rw [if_neg hne] at hg'; exact ⟨v', t', T', l0, hg', Nat.le_refl _, fun _ => ⟨rfl, by simp [hne], rfl⟩⟩
 have key : ∀ p, live ⟨S', h', fun o => if d = o then x else M.β o, go', M.U, M.C⟩ p → (d = p ∧ x.nil = false) ∨ (d ≠ p ∧ live M p) := by
  intro p ⟨hp1, hp2⟩
  by_cases hp : d = p
  ·refine .inl ⟨hp, ?_⟩; simpa [hp] using hp2
  ·refine .inr ⟨hp, ?_, by simpa [hp] using hp2⟩
   simp only [hgo, if_neg hp] at hp1; exact hp1
 have hdl : (M.β d).nil = false → live M d := fun h => ⟨by rw [hg]; simp, h⟩
 have other : ∀ p, d ≠ p → live M p → x.nil = false → x.b ≠ (M.β p).b := by
  intro p hp hl hn
  rcases hx hn with h | ⟨h, h'⟩
  ·have := ok.live_lt hl; omega
  ·rw [h']; exact ok.inj d p (hdl h) hl hp
 refine ⟨⟨?_, ?_, ok.cu, ?_, fun o t' l0 hg' => ?_, ?_, ?_, Nat.le_trans ok.size h3, ?_, fun b y h => hS _ _ (ok.base b y h), fun b y h => (hcell b y (ok.base b y h)).trans (ok.cell b y h), ?_, ?_⟩, e⟩
 ·intro o ob' hg'
  by_cases hne : d = o
  ·subst hne
   simp only [hgo, if_pos] at hg'
   injection hg' with hg'; subst hg'
   exact hor
  ·simp only [hgo, if_neg hne] at hg'
   have h0 := ok.obj o ob' hg'
   refine h0.keep e (by simp [hne]) (fun hn' => ?_) (fun hn' y hy => ?_)
   ·refine h2 _ (h0.lt hn') (fun hnd _ _ he => ?_)
    exact ok.inj d o (hdl hnd) ⟨by rw [hg']; simp, hn'⟩ hne he.symm
   ·rcases hS' _ _ hy with h | ⟨hn, hb⟩
    ·exact h
    ·exact absurd hb.symm (other o hne ⟨by rw [hg']; simp, hn'⟩ hn)
 ·intro o hg'
  by_cases hne : d = o
  ·subst hne; exact ok.used d (by rw [hg]; simp)
  ·simp only [hgo, if_neg hne] at hg'; exact ok.used o hg'
 ·intro o v' t' T' l0 hg'
  by_cases hne : d = o
  ·subst hne; exact ok.rc d v t T l hg
  ·simp only [hgo, if_neg hne] at hg'; exact ok.rc o v' t' T' l0 hg'
 ·by_cases hne : d = o
  ·simp only [hgo, if_pos hne] at hg'; cases hg'
  ·simp only [hgo, if_neg hne] at hg'; exact ok.cc o t' l0 hg'
 ·intro o o' h1 h2' hne
  rcases key o h1 with ⟨ho, hn⟩ | ⟨ho, hl⟩ <;> rcases key o' h2' with ⟨ho', hn'⟩ | ⟨ho', hl'⟩
  ·exact absurd (ho.symm.trans ho') hne
  ·simp only [if_pos ho, if_neg ho']; exact other o' ho' hl' hn
  ·simp only [if_neg ho, if_pos ho']; exact fun he => other o ho hl hn' he.symm
  ·simp only [if_neg ho, if_neg ho']; exact ok.inj o o' hl hl' hne
 ·intro b y hy
  rcases hS' b y hy with h | ⟨hn, hb⟩
  ·exact Nat.lt_of_lt_of_le (ok.lt b y h) h3
  ·rw [hb]; exact h4 hn
 ·intro b hb hX
  have hs := ok.size
  show h'[b]? = _
  rw [h2 b (by omega) (fun hnd hn hxb he => ?_)]
  ·exact ok.keep b hb hX
  ·rcases ok.own d (hdl hnd) with h | h | h
   ·exact hro h
   ·omega
   ·exact hX (he ▸ h)
 ·intro b y hy
  rcases hS' b y hy with h | ⟨hn, hb⟩
  ·exact ok.new b y h
  ·have hs := ok.size
   rcases hx hn with h | ⟨h, h'⟩
   ·exact .inr (.inl (by omega))
   ·rcases ok.own d (hdl h) with h0 | h0 | h0
    ·exact absurd h0 hro
    ·exact .inr (.inl (by rw [hb, h']; exact h0))
    ·exact .inr (.inr (by rw [hb, h']; exact h0))
 ·intro o hl
  rcases key o hl with ⟨ho, hn⟩ | ⟨ho, hl'⟩
  ·simp only [if_pos ho]
   rcases hx hn with h | ⟨h, h'⟩
   ·have hs := ok.size; exact .inr (.inl (by omega))
   ·have := ok.own d (hdl h); rw [h', ← ho]; exact this
  ·simp only [if_neg ho]; exact ok.own o hl'
theorem MOK.setRow {B : Base} {M : Mem} (ok : MOK B M) {d t v : Nat} {T : Ty} {l l' : List T.den} {h' : Array Obj} {go' : Nat → Option Ob} (hro : ¬ B.ro d) (hmu : T.isMu = true) (hn : (M.β d).nil = false)
  (hg : M.go d = some (.row v t T l)) (hgo : ∀ o, go' o = if d = o then some (.row v t T l') else M.go o) (hlen : l'.length = l.length)
  (h2 : ∀ b, b ≠ (M.β d).b → h'[b]? = M.h[b]?) (h3 : h'.size = M.h.size) (hor : OR ⟨M.S, h', M.β, go', M.U, M.C⟩ d (.row v t T l')) :
  MOK B ⟨M.S, h', M.β, go', M.U, M.C⟩ ∧ Ext M ⟨M.S, h', M.β, go', M.U, M.C⟩ := by
 have h0 := ok.obj d _ hg
 simp only [OR, hn] at h0
 obtain ⟨_, _, _, _, hS⟩ := h0
 have hS : ∀ x, ¬ M.S (M.β d).b x := fun x hx => by have := (hS x hx).1; rw [hmu] at this; cases this
 have hcell : ∀ b x, M.S b x → cellAt h' b x = cellAt M.h b x := fun b x hx => by
  have : b ≠ (M.β d).b := fun he => hS x (he ▸ hx)
  unfold cellAt; rw [h2 b this]
 have e : Ext M ⟨M.S, h', M.β, go', M.U, M.C⟩ := by
  refine ⟨fun _ _ h => h, hcell, fun _ h => h, fun o hc => ⟨hc, rfl⟩, fun o hu v' t' T' l0 hg' => ?_⟩
  simp only [hgo] at hg'
  by_cases hne : d = o
  ·rw [if_pos hne] at hg'; injection hg' with hg'; cases hg'
   subst hne
   exact ⟨v, t, T, l, hg, Nat.le_refl _, fun _ => ⟨hlen, rfl, rfl⟩⟩
  ·rw [if_neg hne] at hg'; exact ⟨v', t', T', l0, hg', Nat.le_refl _, fun _ => ⟨rfl, rfl, rfl⟩⟩
 have hld : live M d := ⟨by rw [hg]; simp, hn⟩
 have key : ∀ p, live ⟨M.S, h', M.β, go', M.U, M.C⟩ p → live M p := by
  intro p ⟨hp1, hp2⟩
  by_cases hp : d = p
  ·subst hp; exact hld
  ·refine ⟨?_, hp2⟩; simp only [hgo, if_neg hp] at hp1; exact hp1
 refine ⟨⟨?_, ?_, ok.cu, ?_, fun o t' l0 hg' => ?_, fun o o' a b hne => ok.inj o o' (key o a) (key o' b) hne, ?_, by rw [h3]; exact ok.size, ?_, ok.base, fun b y h => (hcell b y (ok.base b y h)).trans (ok.cell b y h), ok.new, fun o a => ok.own o (key o a)⟩, e⟩
 ·intro o ob' hg'
  by_cases hne : d = o
  ·subst hne
   simp only [hgo, if_pos] at hg'
   injection hg' with hg'; subst hg'
   exact hor
  ·simp only [hgo, if_neg hne] at hg'
   have h0 := ok.obj o ob' hg'
   refine h0.keep e rfl (fun hn' => ?_) (fun _ _ h => h)
   exact h2 _ (fun he => ok.inj d o hld ⟨by rw [hg']; simp, hn'⟩ hne he.symm)
 ·intro o hg'
  by_cases hne : d = o
  ·subst hne; exact ok.used d (by rw [hg]; simp)
  ·simp only [hgo, if_neg hne] at hg'; exact ok.used o hg'
 ·intro o v' t' T' l0 hg'
  by_cases hne : d = o
  ·subst hne; exact ok.rc d v t T l hg
  ·simp only [hgo, if_neg hne] at hg'; exact ok.rc o v' t' T' l0 hg'
 ·by_cases hne : d = o
  ·simp only [hgo, if_pos hne] at hg'; cases hg'
  ·simp only [hgo, if_neg hne] at hg'; exact ok.cc o t' l0 hg'
 ·intro b y hy; show b < h'.size; rw [h3]; exact ok.lt b y hy
 ·intro b hb' hX
  have : b ≠ (M.β d).b := by
   intro he
   rcases ok.own d hld with h | h | h
   ·exact hro h
   ·omega
   ·exact hX (he ▸ h)
  show h'[b]? = _
  rw [h2 b this]; exact ok.keep b hb' hX
theorem ElR.sealed {S' : Seal} {h : Array Obj} {b : Nat} : ∀ (T : Ty) (d : T.den) (o : Nat), T.flat = true → (∀ x, o ≤ x → x < o + T.n → S' b x) → ElR (fun _ _ => True) h T d b o → ElR S' h T d b o := by
 intro T
 induction T with
 | int k => intro d o _ hs hh; exact ⟨hs _ (Nat.le_refl _) (by simp [Ty.n]), hh.2⟩
 | bool => intro d o _ hs hh; exact ⟨hs _ (Nat.le_refl _) (by simp [Ty.n]), hh.2⟩
 | str => intro d o _ hs hh; exact ⟨hs _ (Nat.le_refl _) (by simp [Ty.n]), hh.2⟩
 | flt => intro d o _ hs hh; exact ⟨hs _ (Nat.le_refl _) (by simp [Ty.n]), hh.2⟩
 | pt => intro d o _ hs hh; exact ⟨hs _ (Nat.le_refl _) (by simp [Ty.n]), hh.2⟩
 | sl e ih => intro d o hf; cases hf
 | nil => intro d o _ _ _; trivial
 | cons x y ihx ihy =>
  intro d o hf hs hh
  simp only [Ty.flat] at hf
  cases hx : x.flat with
  | false => rw [hx] at hf; cases hf
  | true =>
   rw [hx] at hf
   simp only [Ty.n] at hs
   exact ⟨ihx _ _ hx (fun z h1 h2 => hs z h1 (by omega)) hh.1, ihy _ _ hf (fun z h1 h2 => hs z (by omega) (by omega)) hh.2⟩
 | mu e ih => intro d o hf; cases hf
theorem MOK.freeze {B : Base} {M : Mem} (ok : MOK B M) (hro : ∀ o v t T l, M.go o = some (.row v t T l) → ¬ B.ro o) :
  ∃ S', MOK B ⟨S', M.h, M.β, frz false M.go, M.U, M.C⟩ ∧ Ext M ⟨S', M.h, M.β, frz false M.go, M.U, M.C⟩ := by
 let N : Nat → Nat → Prop := fun b x => ∃ o v t e l, M.go o = some (.row v t (.mu e) l) ∧ (M.β o).nil = false ∧ b = (M.β o).b ∧ x < (M.β o).off + List.length (α := e.den) l * e.n
 have hgo : ∀ o, frz false M.go o = (match M.go o with | some b => some (frzB b) | none => none) := fun o => rfl
 have hrow : ∀ o v t T l, frz false M.go o = some (.row v t T l) → (M.go o = some (.row v t T l) ∧ T.isMu = false) ∨ (∃ hm : True, M.go o = some (.row v t (.mu T) l)) := by
  intro o v t T l h
  rw [hgo] at h
  cases hg : M.go o with
  | none => rw [hg] at h; cases h
  | some ob =>
   rw [hg] at h
   cases ob with
   | cells t l => cases h
   | row v' t' T' l' =>
    cases T' with
    | mu e =>
     simp only [frzB] at h
     injection h with h; injection h with h1 h2 h3 h4
     subst h1; subst h2; subst h3; have h4 := eq_of_heq h4; subst h4
     exact .inr ⟨trivial, rfl⟩
    | _ =>
     simp only [frzB] at h
     injection h with h; injection h with h1 h2 h3 h4
     subst h1; subst h2; subst h3; have h4 := eq_of_heq h4; subst h4
     exact .inl ⟨rfl, rfl⟩
 have hcel : ∀ o t l, frz false M.go o = some (.cells t l) → M.go o = some (.cells t l) := by
  intro o t l h
  rw [hgo] at h
  cases hg : M.go o with
  | none => rw [hg] at h; cases h
  | some ob =>
   rw [hg] at h
   cases ob with
   | cells t' l' => simpa [frzB] using h
   | row v' t' T' l' => cases T' <;> simp [frzB] at h
 have hne : ∀ o, frz false M.go o ≠ none → M.go o ≠ none := fun o h h' => h (by rw [hgo, h'])
 have hlv : ∀ o, live ⟨fun b x => M.S b x ∨ N b x, M.h, M.β, frz false M.go, M.U, M.C⟩ o → live M o := fun o h => ⟨hne o h.1, h.2⟩
 have hNl : ∀ {b x}, N b x → ∃ o, live M o ∧ (M.β o).b = b ∧ ¬ B.ro o := fun ⟨o, v, t, e, l, h1, h2, h3, _⟩ => ⟨o, ⟨by rw [h1]; simp, h2⟩, h3.symm, hro o v t _ l h1⟩
 have e : Ext M ⟨fun b x => M.S b x ∨ N b x, M.h, M.β, frz false M.go, M.U, M.C⟩ := by
  refine ⟨fun _ _ h => .inl h, fun _ _ _ => rfl, fun _ h => h, fun o hc => ⟨hc, rfl⟩, fun o hu v t T l hg => ?_⟩
  rcases hrow o v t T l hg with ⟨h, _⟩ | ⟨_, h⟩
  ·exact ⟨v, t, T, l, h, Nat.le_refl _, fun _ => ⟨rfl, rfl, rfl⟩⟩
  ·exact ⟨v, t, .mu T, l, h, Nat.le_refl _, fun _ => ⟨rfl, rfl, rfl⟩⟩
 refine ⟨fun b x => M.S b x ∨ N b x, ⟨?_, fun o h => ok.used o (hne o h), ok.cu, fun o v t T l hg => ?_, fun o t l hg => ok.cc o t l (hcel o t l hg), fun o o' h1 h2 hn => ok.inj o o' (hlv o h1) (hlv o' h2) hn, ?_, ok.size, ok.keep, fun b x h => .inl (ok.base b x h), ok.cell, ?_, fun o h => ok.own o (hlv o h)⟩, e⟩
 ·intro o ob hg
  have other : ∀ x, (M.β o).nil = false → M.go o ≠ none → (∀ v t e l, M.go o ≠ some (.row v t (.mu e) l)) → N (M.β o).b x → False := by
   intro x hn hg0 hno ⟨o2, v2, t2, e2, l2, h1, h2, h3, _⟩
   by_cases he : o = o2
   ·subst he; exact hno _ _ _ _ h1
   ·exact ok.inj o o2 ⟨hg0, hn⟩ ⟨by rw [h1]; simp, h2⟩ he h3
  cases ob with
  | cells t l =>
   have hg' := hcel o t l hg
   have h0 := ok.obj o _ hg'
   refine h0.keep e rfl (fun _ => rfl) (fun hn x hx => ?_)
   rcases hx with hx | hx
   ·exact hx
   ·exact (other x hn (by rw [hg']; simp) (fun _ _ _ _ h => by rw [hg'] at h; cases h) hx).elim
  | row v t T l =>
   rcases hrow o v t T l hg with ⟨hg', hT⟩ | ⟨_, hg'⟩
   ·have h0 := ok.obj o _ hg'
    refine h0.keep e rfl (fun _ => rfl) (fun hn x hx => ?_)
    rcases hx with hx | hx
    ·exact hx
    ·refine (other x hn (by rw [hg']; simp) (fun _ _ _ _ h => ?_) hx).elim
     rw [hg'] at h; injection h with h; injection h with _ _ h3 _; subst h3; cases hT
   ·have h0 := ok.obj o _ hg'
    simp only [OR] at h0 ⊢
    cases hn : (M.β o).nil with
    | true => rw [hn] at h0; exact h0
    | false =>
     rw [hn] at h0
     simp only [] at h0 ⊢
     obtain ⟨h1, h2, h3, hm, h4⟩ := h0
     have hfl : T.flat = true := hm
     have hT : T.isMu = false := by cases T <;> first | rfl | cases hfl
     rw [Ty.seal_of hT]
     refine ⟨h1, fun i hi => ?_, h3, Ty.muOk_of hT, fun x hx => ⟨hT, ?_⟩⟩
     ·refine ElR.sealed T _ _ hfl (fun x hx1 hx2 => .inr ⟨o, v, t, T, l, hg', hn, rfl, ?_⟩) (h2 i hi)
      have h5 : (i + 1) * T.n ≤ l.length * T.n := Nat.mul_le_mul_right _ hi
      rw [Nat.add_mul] at h5
      omega
     ·rcases hx with hx | ⟨o2, v2, t2, e2, l2, g1, g2, g3, g4⟩
      ·have := (h4 x hx).1; cases this
      ·by_cases he : o = o2
       ·subst he
        rw [hg'] at g1; injection g1 with g1; injection g1 with _ _ q3 q4
        injection q3 with q3
        subst q3; have q4 := eq_of_heq q4; subst q4
        exact g4
       ·exact absurd g3 (ok.inj o o2 ⟨by rw [hg']; simp, hn⟩ ⟨by rw [g1]; simp, g2⟩ he)
 ·rcases hrow o v t T l hg with ⟨h, _⟩ | ⟨_, h⟩
  ·exact ok.rc _ _ _ _ _ h
  ·exact ok.rc _ _ _ _ _ h
 ·intro b x hx
  rcases hx with hx | hx
  ·exact ok.lt b x hx
  ·obtain ⟨o, hl, hb, _⟩ := hNl hx; rw [← hb]; exact ok.live_lt hl
 ·intro b x hx
  rcases hx with hx | hx
  ·exact ok.new b x hx
  ·obtain ⟨o, hl, hb, hr⟩ := hNl hx
   rcases ok.own o hl with h | h | h
   ·exact absurd h hr
   ·exact .inr (.inl (by rw [← hb]; exact h))
   ·exact .inr (.inr (by rw [← hb]; exact h))
end Go.Proofs.Ytcjiipbppkdkaaa.Eng
