/- The engine, part 17: slices.Insert at groups, by a contract of its own. -/
import Derived.Test.YtcjiipbppkdkaaaETab
import Derived.Test.YtcjiipbppkdkaaaEW17
namespace Go.Proofs.Ytcjiipbppkdkaaa.Eng
open Go Go.Proofs
set_option linter.unusedVariables false
set_option linter.unusedSimpArgs false
abbrev GrpT : Ty := .cons (.cons (.int .i64) (.cons .bool (.cons (.int .i64) (.cons (.int .u64) (.cons .str .nil))))) (.cons (.int .i64) .nil)
theorem MOK.keep1 {B : Base} {M : Mem} (ok : MOK B M) {d v v' t : Nat} {T : Ty} {l : List T.den} (hg : M.go d = some (.row v t T l)) (hC : ∀ p, ¬ M.C p) : MOK B ⟨M.S, M.h, M.β, lk [(d, .row v' t T l)], fun o => o = d, M.C⟩ := by
 have hgo : ∀ o ob, lk [(d, Ob.row v' t T l)] o = some ob → o = d ∧ ob = .row v' t T l := fun o ob h => by
  rw [lk_cons] at h
  by_cases e : d = o
  ·rw [if_pos e] at h; injection h with h; exact ⟨e.symm, h.symm⟩
  ·rw [if_neg e] at h; cases h
 have hl : ∀ o, live ⟨M.S, M.h, M.β, lk [(d, .row v' t T l)], fun o => o = d, M.C⟩ o → o = d := fun o h => by
  cases hx : lk [(d, Ob.row v' t T l)] o with
  | none => exact absurd hx h.1
  | some ob => exact (hgo o ob hx).1
 refine ⟨fun o ob h => ?_, fun o h => ?_, fun o h => absurd h (hC o), fun o _ _ _ _ h => hC o, fun o t' l' h => ?_, fun o o' h h' hne => absurd ((hl o h).trans (hl o' h').symm) hne, ok.lt, ok.size, ok.keep, ok.base, ok.cell, ok.new, fun o h => ?_⟩
 ·obtain ⟨rfl, rfl⟩ := hgo o ob h
  have := ok.obj o _ hg
  simpa only [OR] using this
 ·cases hx : lk [(d, Ob.row v' t T l)] o with
  | none => exact absurd hx h
  | some ob => exact (hgo o ob hx).1
 ·cases (hgo o _ h).2
 ·have e := hl o h
  subst e
  exact ok.own o ⟨by rw [hg]; simp, h.2⟩
theorem cells_of {M : Mem} {T : Ty} {m : List T.den} {b o : Nat} (hf : T.flat = true) (hel : ∀ (i : Nat) (hi : i < m.length), ElR (fun _ _ => True) M.h T m[i] b (o + i * T.n)) :
  ∃ vs : List Value, vs.length = m.length * T.n ∧ (∀ j v, vs[j]? = some v → cellAt M.h b (o + j) = some v) ∧ (∀ u ∈ vs, u.oneCell' = true) ∧
   ∀ (h' : Array Obj) (b' o' : Nat), (∀ j v, vs[j]? = some v → cellAt h' b' (o' + j) = some v) → ∀ (i : Nat) (hi : i < m.length), ElR (fun _ _ => True) h' T m[i] b' (o' + i * T.n) := by
 have hcell : ∀ j, j < m.length * T.n → ∃ v, cellAt M.h b (o + j) = some v ∧ v.oneCell' = true := by
  intro j hj
  have hT : 0 < T.n := by rcases Nat.eq_zero_or_pos T.n with h0 | h0; rw [h0] at hj; simp at hj; exact h0
  have h1 : j / T.n < m.length := Nat.div_lt_of_lt_mul (by rw [Nat.mul_comm]; exact hj)
  have := ((hel (j / T.n) h1).seals _ _ _ _ (j % T.n) (Nat.mod_lt _ hT)).2
  have e : o + j / T.n * T.n + j % T.n = o + j := by have := Nat.div_add_mod j T.n; rw [Nat.mul_comm] at this; omega
  rwa [e] at this
 obtain ⟨vs, hl, hv⟩ : ∃ vs : List Value, vs.length = m.length * T.n ∧ ∀ j, j < m.length * T.n → vs[j]? = cellAt M.h b (o + j) := by
  refine ⟨(List.range (m.length * T.n)).map (fun j => (cellAt M.h b (o + j)).getD undef), by simp, fun j hj => ?_⟩
  obtain ⟨v, hv, _⟩ := hcell j hj
  simp [hj, hv]
 have hv' : ∀ j v, vs[j]? = some v → cellAt M.h b (o + j) = some v := fun j v hj => by
  have : j < vs.length := (List.getElem?_eq_some_iff.mp hj).1
  rw [← hv j (by omega)]; exact hj
 refine ⟨vs, hl, hv', fun u hu => ?_, fun h' b' o' hcv i hi => ?_⟩
 ·obtain ⟨j, hj⟩ := List.getElem?_of_mem hu
  have hj2 : j < vs.length := (List.getElem?_eq_some_iff.mp hj).1
  obtain ⟨v, h1, h2⟩ := hcell j (by omega)
  have := hv' j u hj
  rw [h1] at this; injection this with this; subst this; exact h2
 ·have hin : ∀ j, j < T.n → i * T.n + j < m.length * T.n := fun j hj => by
   have : (i + 1) * T.n ≤ m.length * T.n := Nat.mul_le_mul_right _ hi
   rw [Nat.add_mul] at this; omega
  refine ElR.moveF T _ b (o + i * T.n) b' _ hf (hel i hi) (fun j hj => trivial) (fun j hj => ?_)
  rw [Nat.add_assoc, Nat.add_assoc]
  have h0 := hv _ (hin j hj)
  obtain ⟨u, hu, _⟩ := hcell _ (hin j hj)
  rw [hu] at h0 ⊢
  exact hcv _ u h0
theorem args_three {v u x : Value} {args : Array Value} (h : args.size = 3) (e : args[0]? = some v) (e' : args[1]? = some u) (e'' : args[2]? = some x) : args = #[v, u, x] := by
 apply Array.ext
 ·rw [h]; rfl
 ·intro i hi _
  rw [h] at hi
  have : i = 0 ∨ i = 1 ∨ i = 2 := by omega
  rcases this with rfl | rfl | rfl
  ·rw [Array.getElem?_eq_some_iff] at e; obtain ⟨_, e⟩ := e; exact e
  ·rw [Array.getElem?_eq_some_iff] at e'; obtain ⟨_, e'⟩ := e'; exact e'
  ·rw [Array.getElem?_eq_some_iff] at e''; obtain ⟨_, e''⟩ := e''; exact e''
structure Left (M : Mem) (w w' : World) (x : Hd) (L : List Value) (k : Nat) : Prop where
 outer : Outer w w'
 nil : x.nil = false
 cells : ∀ j v, L[j]? = some v → cellAt w'.heap x.b (x.off + j) = some v
 blk : ∃ cs f, w'.heap[x.b]? = some (.cells cs 69 f) ∧ x.off + x.cap * 6 ≤ cs.size ∧ ∀ i : Nat, ¬ (f.1 ≤ i ∧ i < f.2)
 room : k ≤ x.cap
 at' : x.b = M.h.size ∨ ((M.β 1).nil = false ∧ x.b = (M.β 1).b)
 keep : ∀ b, b < M.h.size → ((M.β 1).nil = false → x.b = (M.β 1).b → b ≠ (M.β 1).b) → w'.heap[b]? = M.h[b]?
 size : M.h.size ≤ w'.heap.size
theorem get_three {a b c : List Value} {j : Nat} {v : Value} (h : (a ++ b ++ c)[j]? = some v) : (j < a.length ∧ a[j]? = some v) ∨ (a.length ≤ j ∧ b[j - a.length]? = some v) ∨ (a.length + b.length ≤ j ∧ c[j - (a.length + b.length)]? = some v) := by
 rw [List.getElem?_append] at h
 split at h
 ·rw [List.getElem?_append] at h
  split at h
  ·rename_i h1; exact .inl ⟨h1, h⟩
  ·exact .inr (.inl ⟨by omega, h⟩)
 ·rename_i h1
  rw [List.length_append] at h h1
  exact .inr (.inr ⟨by omega, h⟩)
theorem frozen_not {w : World} {b : Nat} {cs : Array Value} {e : Nat} {f : Nat × Nat} (hb : w.heap[b]? = some (.cells cs e f)) (hf : ∀ i : Nat, ¬ (f.1 ≤ i ∧ i < f.2)) (j : Nat) : w.frozen? ⟨b, j, none⟩ = false := by
 have := hf j
 obtain ⟨flo, fhi⟩ := f
 simp only [World.frozen?, hb]
 simp only [Bool.and_eq_false_iff, decide_eq_false_iff_not]
 simp only [] at this
 omega
theorem left_end_room {M : Mem} {w : World} (hw : w.heap = M.h) {a v : List Value} {n m : Nat} (hn : (M.β 1).nil = false) {cs : Array Value} {f : Nat × Nat} (hb : M.h[(M.β 1).b]? = some (.cells cs 69 f))
  (hcs : (M.β 1).off + (M.β 1).cap * 6 ≤ cs.size) (hf : ∀ i : Nat, ¬ (f.1 ≤ i ∧ i < f.2)) (hroom : n + m ≤ (M.β 1).cap) (ha : a.length = n * 6) (hv : v.length = m * 6) (hca : ∀ j u, a[j]? = some u → cellAt M.h (M.β 1).b ((M.β 1).off + j) = some u) :
  Left M w (w.setCells (M.β 1).b ((M.β 1).off + n * 6) v) (M.β 1) (a ++ v ++ []) (n + m) := by
 obtain ⟨g1, g2, g3⟩ := setCells_heap (M.β 1).b v ((M.β 1).off + n * 6) w
 obtain ⟨cs', g4, g5⟩ := g3 cs 69 f (by rw [hw]; exact hb)
 have hsp : ∀ j, j < v.length → (w.cell? ⟨(M.β 1).b, (M.β 1).off + n * 6 + j, none⟩).isSome = true := fun j hj => by
  rw [cell_eq, hw]; unfold cellAt; rw [hb]
  simp only []
  rw [Array.getElem?_eq_getElem (by omega)]; rfl
 refine ⟨setCells_outer _ _ _ _, hn, fun j u hj => ?_, ⟨cs', f, g4, by omega, hf⟩, hroom, .inr ⟨hn, rfl⟩, fun b hb' hne => by rw [g2 b (hne hn rfl), hw], by rw [g1, hw]; exact Nat.le_refl _⟩
 rcases get_three hj with ⟨h1, h2⟩ | ⟨h1, h2⟩ | ⟨_, h2⟩
 ·rw [← cell_eq, World.cell?_setCells_out _ _ _ w _ (fun _ _ => .inl (by show (M.β 1).off + j < _; omega)), cell_eq, hw]
  exact hca j u h2
 ·have hl := (List.getElem?_eq_some_iff.mp h2).1
  have := World.cell?_setCells_in (M.β 1).b v ((M.β 1).off + n * 6) w hsp (j - a.length) hl
  rw [← cell_eq, show (M.β 1).off + j = (M.β 1).off + n * 6 + (j - a.length) by omega, this, ← List.getElem?_eq_getElem hl]; exact h2
 ·cases h2
theorem left_end_grow {M : Mem} {w : World} (hw : w.heap = M.h) {a v : List Value} {n m cap : Nat} {zs : Array Value} (hcap : n + m ≤ cap) (hz : zs.size = (cap - (n + m)) * 6) (ha : a.length = n * 6) (hv : v.length = m * 6) :
  Left M w (w.drew.alloc (.cells ((a ++ v).toArray ++ zs) 69)) ⟨false, M.h.size, 0, cap⟩ (a ++ v ++ []) (n + m) := by
 have hh : (w.drew.alloc (.cells ((a ++ v).toArray ++ zs) 69)).heap = M.h.push (.cells ((a ++ v).toArray ++ zs) 69 (0, 0)) := by simp [World.alloc, World.drew, hw]
 refine ⟨⟨rfl, rfl, rfl⟩, rfl, fun j u hj => ?_, ⟨(a ++ v).toArray ++ zs, (0, 0), by rw [hh]; simp, ?_, fun i h => by have := h.2; exact Nat.not_lt_zero _ this⟩, hcap, .inl rfl, fun b hb _ => ?_, by rw [hh]; simp⟩
 ·rw [List.append_nil] at hj
  have hl := (List.getElem?_eq_some_iff.mp hj).1
  rw [hh, Nat.zero_add, cellAt_push_new, Array.getElem?_append_left (by simpa using hl)]
  simpa using hj
 ·simp only [Array.size_append, List.size_toArray, List.length_append, hz, ha, hv]; omega
 ·rw [hh, Array.getElem?_push, if_neg (by omega)]
theorem left_mid_grow {M : Mem} {w : World} (hw : w.heap = M.h) {a v r : List Value} {i n m cap : Nat} {ROW : Array Value} (hcap : n + m ≤ cap) (hz : ROW.size = cap * 6) (ha : a.length = i * 6) (hv : v.length = m * 6) (hr : r.length = (n - i) * 6) (hin : i ≤ n)
  (hR : ∀ (j : Nat) (u : Value), a[j]? = some u → ROW[j]? = some u) :
  Left M w ((((w.alloc (.cells ROW 69)).drew.setCells w.heap.size (i * 6) v).drew).setCells w.heap.size ((i + m) * 6) r) ⟨false, M.h.size, 0, cap⟩ (a ++ v ++ r) (n + m) := by
 obtain ⟨W0, hW0⟩ : ∃ W0, W0 = (w.alloc (.cells ROW 69)).drew := ⟨_, rfl⟩
 rw [← hW0]
 have hh : W0.heap = M.h.push (.cells ROW 69 (0, 0)) := by rw [hW0]; simp [World.alloc, World.drew, hw]
 have hs : w.heap.size = M.h.size := by rw [hw]
 rw [hs]
 have o0 : Outer w W0 := by rw [hW0]; exact ⟨rfl, rfl, rfl⟩
 have hb0 : W0.heap[M.h.size]? = some (.cells ROW 69 (0, 0)) := by rw [hh]; simp
 obtain ⟨W1, hW1⟩ : ∃ W1, W1 = W0.setCells M.h.size (i * 6) v := ⟨_, rfl⟩
 obtain ⟨g1, g2, g3⟩ := setCells_heap M.h.size v (i * 6) W0
 obtain ⟨cs1, g4, g5⟩ := g3 _ _ _ hb0
 have o1 : Outer W0 W1 := by rw [hW1]; exact setCells_outer _ _ _ _
 rw [← hW1] at g1 g2 g4 ⊢
 obtain ⟨k1, k2, k3⟩ := setCells_heap M.h.size r ((i + m) * 6) W1.drew
 obtain ⟨cs2, k4, k5⟩ := k3 _ _ _ (show W1.drew.heap[M.h.size]? = _ from g4)
 have o2 : Outer W1.drew (W1.drew.setCells M.h.size ((i + m) * 6) r) := setCells_outer _ _ _ _
 have hd : W1.drew.heap = W1.heap := rfl
 rw [hd] at k1 k2
 have hc6 : (n + m) * 6 ≤ cap * 6 := Nat.mul_le_mul_right _ hcap
 have hsp0 : ∀ j, j < v.length → (W0.cell? ⟨M.h.size, i * 6 + j, none⟩).isSome = true := fun j hj => by
  rw [cell_eq]; unfold cellAt; rw [hb0]
  simp only []
  rw [Array.getElem?_eq_getElem (by omega)]; rfl
 have hsp1 : ∀ j, j < r.length → (W1.drew.cell? ⟨M.h.size, (i + m) * 6 + j, none⟩).isSome = true := fun j hj => by
  rw [cell_eq]; unfold cellAt; rw [hd, g4]
  simp only []
  rw [Array.getElem?_eq_getElem (by omega)]; rfl
 refine ⟨(o0.trans o1).trans ⟨o2.os, o2.tape, o2.output⟩, rfl, fun j u hj => ?_, ⟨cs2, (0, 0), k4, by show 0 + cap * 6 ≤ _; omega, fun i h => by have := h.2; exact Nat.not_lt_zero _ this⟩, hcap, .inl rfl, fun b hb _ => ?_, by rw [k1, g1, hh]; simp⟩
 ·rw [Nat.zero_add, ← cell_eq]
  rcases get_three hj with ⟨h1, h2⟩ | ⟨h1, h2⟩ | ⟨h1, h2⟩
  ·rw [World.cell?_setCells_out _ _ _ _ _ (fun _ _ => .inl (by show j < _; omega))]
   show W1.cell? _ = _
   rw [hW1, World.cell?_setCells_out _ _ _ _ _ (fun _ _ => .inl (by show j < _; omega)), cell_eq]
   unfold cellAt; rw [hb0]
   exact hR j u h2
  ·have hl := (List.getElem?_eq_some_iff.mp h2).1
   rw [World.cell?_setCells_out _ _ _ _ _ (fun _ _ => .inl (by show j < _; omega))]
   show W1.cell? _ = _
   have := World.cell?_setCells_in M.h.size v (i * 6) W0 hsp0 (j - a.length) hl
   rw [hW1, show j = i * 6 + (j - a.length) by omega, this, ← List.getElem?_eq_getElem hl]
   exact h2
  ·have hl := (List.getElem?_eq_some_iff.mp h2).1
   have := World.cell?_setCells_in M.h.size r ((i + m) * 6) W1.drew hsp1 (j - (a.length + v.length)) hl
   rw [show j = (i + m) * 6 + (j - (a.length + v.length)) by omega, this, ← List.getElem?_eq_getElem hl]
   exact h2
 ·rw [k2 b (by omega), g2 b (by omega), hh, Array.getElem?_push, if_neg (by omega)]
theorem left_shift {M : Mem} {w : World} (hw : w.heap = M.h) {a v r : List Value} {i n m : Nat} (hn : (M.β 1).nil = false) {cs : Array Value} {f : Nat × Nat} (hb : M.h[(M.β 1).b]? = some (.cells cs 69 f))
  (hcs : (M.β 1).off + (M.β 1).cap * 6 ≤ cs.size) (hf : ∀ i : Nat, ¬ (f.1 ≤ i ∧ i < f.2)) (hroom : n + m ≤ (M.β 1).cap) (ha : a.length = i * 6) (hv : v.length = m * 6) (hr : r.length = (n - i) * 6) (hin : i ≤ n) (hca : ∀ j u, a[j]? = some u → cellAt M.h (M.β 1).b ((M.β 1).off + j) = some u) :
  Left M w ((w.drew.setCells (M.β 1).b ((M.β 1).off + (i + m) * 6) r).setCells (M.β 1).b ((M.β 1).off + i * 6) v) (M.β 1) (a ++ v ++ r) (n + m) := by
 obtain ⟨W1, hW1⟩ : ∃ W1, W1 = w.drew.setCells (M.β 1).b ((M.β 1).off + (i + m) * 6) r := ⟨_, rfl⟩
 obtain ⟨g1, g2, g3⟩ := setCells_heap (M.β 1).b r ((M.β 1).off + (i + m) * 6) w.drew
 have hd : w.drew.heap = M.h := hw
 obtain ⟨cs1, g4, g5⟩ := g3 cs 69 f (by rw [hd]; exact hb)
 have o1 : Outer w.drew W1 := by rw [hW1]; exact setCells_outer _ _ _ _
 rw [hd] at g1 g2
 rw [← hW1] at g1 g2 g4 ⊢
 obtain ⟨k1, k2, k3⟩ := setCells_heap (M.β 1).b v ((M.β 1).off + i * 6) W1
 obtain ⟨cs2, k4, k5⟩ := k3 _ _ _ g4
 have o2 : Outer W1 (W1.setCells (M.β 1).b ((M.β 1).off + i * 6) v) := setCells_outer _ _ _ _
 have hc6 : (n + m) * 6 ≤ (M.β 1).cap * 6 := Nat.mul_le_mul_right _ hroom
 have hsp0 : ∀ j, j < r.length → (w.drew.cell? ⟨(M.β 1).b, (M.β 1).off + (i + m) * 6 + j, none⟩).isSome = true := fun j hj => by
  rw [cell_eq]; unfold cellAt; rw [hd, hb]
  simp only []
  rw [Array.getElem?_eq_getElem (by omega)]; rfl
 have hsp1 : ∀ j, j < v.length → (W1.cell? ⟨(M.β 1).b, (M.β 1).off + i * 6 + j, none⟩).isSome = true := fun j hj => by
  rw [cell_eq]; unfold cellAt; rw [g4]
  simp only []
  rw [Array.getElem?_eq_getElem (by omega)]; rfl
 refine ⟨Outer.trans ⟨o1.os, o1.tape, o1.output⟩ o2, hn, fun j u hj => ?_, ⟨cs2, f, k4, by omega, hf⟩, hroom, .inr ⟨hn, rfl⟩, fun b hb' hne => by rw [k2 b (hne hn rfl), g2 b (hne hn rfl)], by rw [k1, g1]; exact Nat.le_refl _⟩
 rw [← cell_eq]
 rcases get_three hj with ⟨h1, h2⟩ | ⟨h1, h2⟩ | ⟨h1, h2⟩
 ·rw [World.cell?_setCells_out _ _ _ _ _ (fun _ _ => .inl (by show (M.β 1).off + j < _; omega)), hW1, World.cell?_setCells_out _ _ _ _ _ (fun _ _ => .inl (by show (M.β 1).off + j < _; omega)), cell_eq, hd]
  exact hca j u h2
 ·have hl := (List.getElem?_eq_some_iff.mp h2).1
  have := World.cell?_setCells_in (M.β 1).b v ((M.β 1).off + i * 6) W1 hsp1 (j - a.length) hl
  rw [show (M.β 1).off + j = (M.β 1).off + i * 6 + (j - a.length) by omega, this, ← List.getElem?_eq_getElem hl]; exact h2
 ·have hl := (List.getElem?_eq_some_iff.mp h2).1
  have := World.cell?_setCells_in (M.β 1).b r ((M.β 1).off + (i + m) * 6) w.drew hsp0 (j - (a.length + v.length)) hl
  rw [World.cell?_setCells_out _ _ _ _ _ (fun _ _ => .inr (by show _ ≤ (M.β 1).off + j; omega)), hW1, show (M.β 1).off + j = (M.β 1).off + (i + m) * 6 + (j - (a.length + v.length)) by omega, this, ← List.getElem?_eq_getElem hl]; exact h2
abbrev GrpD := (Int × Bool × Int × Int × ByteArray × Unit) × Int × Unit
def insG.f (k : Nat) (l : List GrpD) (i : Int) (v : List GrpD) : Option ((List GrpD × Unit) × Unit) :=
 match decide (0 ≤ i) && decide (i ≤ (l.length : Int)) && decide (0 < v.length) && decide ((l.length + v.length) * 56 ≤ 70368744177664) with
 | true => some ((l.take i.toNat ++ v ++ l.drop i.toNat, ()), ())
 | false => none
def insG : Spec := ⟨⟨[(0, .own 1 69 (.mu GrpT)), (1, .val (.int .i64)), (2, .own 2 69 GrpT)], []⟩, ⟨[(0, .own 1 69 (.mu GrpT))], []⟩, 1, [2], [],
 fun (d : (List GrpT.den × Int × List GrpT.den × Unit) × Unit) => (insG.f 0 d.1.1 d.1.2.1 d.1.2.2.1 : Option ((List GrpT.den × Unit) × Unit)), false⟩
theorem insG_ok (he : ∀ args w, (callFunc 44 args).run Try.prog w = .ok (.enter 44 args) w) : SpecIn Try.prog 44 insG := by
 refine ⟨⟨by simp [insG, LSh.ids, ownIds, ownIdsO, ownIdsS], fun p hp => ?_, fun p hp => ?_⟩, ?_⟩
 ·simp [insG, LSh.ids, ownIds, ownIdsO, ownIdsS] at hp ⊢; omega
 ·simp [insG, LSh.ids, ownIds, ownIdsO, ownIdsS] at hp ⊢; omega
 intro d r hd w args M hh hgo core hlt hE hsz hU
 obtain ⟨v0, e0, h0⟩ := hE 0 (.own 1 0) rfl
 obtain ⟨v1, e1, h1⟩ := hE 1 (.int .i64 d.1.2.1) rfl
 obtain ⟨v2, e2, h2⟩ := hE 2 (.own 2 0) rfl
 obtain rfl := args_three hsz e0 e1 e2
 obtain ⟨l, hl⟩ : ∃ l : List GrpT.den, l = d.1.1 := ⟨_, rfl⟩
 obtain ⟨z, hz⟩ : ∃ z : Int, z = d.1.2.1 := ⟨_, rfl⟩
 obtain ⟨v, hv⟩ : ∃ v : List GrpT.den, v = d.1.2.2.1 := ⟨_, rfl⟩
 have hg1 : M.go 1 = some (.row 0 69 (.mu GrpT) l) := by rw [hgo, hl]; rfl
 have hg2 : M.go 2 = some (.row 0 69 GrpT v) := by rw [hgo, hv]; rfl
 have h1 := h1.int
 rw [← hz] at h1
 subst h1
 have h0 := h0.own hg1
 have h2 := h2.own hg2
 subst h0; subst h2
 have hd : insG.f 0 d.1.1 d.1.2.1 d.1.2.2.1 = some r := hd
 rw [← hl, ← hz, ← hv] at hd
 obtain ⟨⟨⟨⟨hz0, hzn⟩, hv0⟩, hbd⟩, hd⟩ : (((0 ≤ z ∧ z ≤ (l.length : Int)) ∧ 0 < v.length) ∧ (l.length + v.length) * 56 ≤ 70368744177664) ∧ some ((l.take z.toNat ++ v ++ l.drop z.toNat, ()), ()) = some r := by
  unfold insG.f at hd
  split at hd
  ·rename_i h; simp only [Bool.and_eq_true, decide_eq_true_eq] at h; exact ⟨h, hd⟩
  ·cases hd
 injection hd with hd; subst hd
 obtain ⟨i, hi⟩ := Int.eq_ofNat_of_zero_le hz0
 subst hi
 have hin : i ≤ l.length := by omega
 rw [show ((i : Int)).toNat = i from rfl]
 have hC : ∀ p, ¬ M.C p := fun p hp => by
  have := hU p (core.cu p hp)
  have : p = 1 ∨ p = 2 := by simpa [LSh.refs, refsE, refsO, refsS, SSh.refs, insG] using this
  rcases this with rfl | rfl
  ·exact core.rc 1 _ _ _ _ hg1 hp
  ·exact core.rc 2 _ _ _ _ hg2 hp
 have ok := mcore_ok (sp := insG) core hlt
 have hwh : w.heap = M.h := hh.symm
 have hws : w.heap.size = M.h.size := by rw [hwh]
 -- what is put in
 have hor2 := core.obj 2 _ hg2
 simp only [OR] at hor2
 cases hn2 : (M.β 2).nil with
 | true => rw [hn2] at hor2; rw [hor2] at hv0; exact absurd hv0 (Nat.lt_irrefl 0)
 | false =>
 rw [hn2] at hor2
 obtain ⟨vlc, vel, ⟨vcs, vf, vhb, vsz, vfz⟩, _, _⟩ := hor2
 have vsz : (M.β 2).off + (M.β 2).cap * 6 ≤ vcs.size := vsz
 have vfz : ∀ i : Nat, ¬ (vf.1 ≤ i ∧ i < vf.2) := fun i => vfz i (.inr (by decide))
 have hsl2 : (M.β 2).slice v.length = .slice (some ⟨(M.β 2).b, (M.β 2).off, none⟩) v.length (M.β 2).cap := by unfold Hd.slice; rw [hn2]
 obtain ⟨vs, hvl, hvc, hv1, hvp⟩ := cells_of (M := M) (T := GrpT) (m := v) (b := (M.β 2).b) (o := (M.β 2).off) rfl (fun j hj => ElR.mono (fun _ _ _ => trivial) (fun _ _ _ => rfl) _ _ _ _ (vel j hj))
 have hvl : vs.length = v.length * 6 := hvl
 have hvcell : ∀ j u, vs[j]? = some u → w.cell? ⟨(M.β 2).b, (M.β 2).off + j, none⟩ = some u := fun j u hj => by rw [cell_eq, hwh]; exact hvc j u hj
 -- how it ends
 have fin : ∀ (x : Hd) (w' : World) (a c : List Value) (m : Nat), Left M w w' x (a ++ vs ++ c) (l.length + v.length) → a.length = i * 6 → c.length = (l.length - i) * 6 →
   (∀ (h' : Array Obj) (b' o' : Nat), (∀ j u, a[j]? = some u → cellAt h' b' (o' + j) = some u) → ∀ (k : Nat) (hk : k < (l.take i).length), ElR (fun _ _ => True) h' GrpT (l.take i)[k] b' (o' + k * 6)) →
   (∀ (h' : Array Obj) (b' o' : Nat), (∀ j u, c[j]? = some u → cellAt h' b' (o' + j) = some u) → ∀ (k : Nat) (hk : k < (l.drop i).length), ElR (fun _ _ => True) h' GrpT (l.drop i)[k] b' (o' + k * 6)) →
   ∃ v' M', Ending.returned (.slice (some ⟨x.b, x.off, none⟩) (l.length + v.length) x.cap) = .returned v' ∧ (w'.heap = M'.h ∧ Outer w w') ∧ MOK (insG.base M) M' ∧ M'.go = lk (insG.out.obj ((l.take i ++ v ++ l.drop i, ()), ())) ∧
    VR M' (asRes insG.nres (valsE (insG.out.env ((l.take i ++ v ++ l.drop i, ()), ())))) v' ∧ (∀ p, M'.U p → M'.go p ≠ none ∨ M'.C p) ∧ (∀ p, M'.C p → M'.go p ≠ none ∨ M.C p) ∧ (∀ p, M'.C p → M.U p → M.C p) ∧ (∀ p, M.C p → M'.C p ∧ (M'.β p).b = (M.β p).b) ∧ Kept insG.ks M M' := by
  intro x w' a c m L ha hc pa pc
  have hlen : (l.take i ++ v ++ l.drop i).length = l.length + v.length := by simp only [List.length_append, List.length_take, List.length_drop]; omega
  have hlt1 : (l.take i).length = i := by rw [List.length_take]; omega
  obtain ⟨cs', f', lb, lsz, lf⟩ := L.blk
  have hor1 := core.obj 1 _ hg1
  have hS1 : (M.β 1).nil = false → ∀ y, ¬ M.S (M.β 1).b y := fun hn y hy => by
   simp only [OR, hn] at hor1
   obtain ⟨_, _, _, _, h⟩ := hor1
   cases (h y hy).1
  have hcell : ∀ b y, M.S b y → cellAt w'.heap b y = cellAt M.h b y := fun b y hy => by
   unfold cellAt
   rw [L.keep b (hlt b y hy) (fun hn _ he => hS1 hn y (he ▸ hy))]
  have hpart : ∀ (o' : Nat) (q : List Value), (∀ j u, q[j]? = some u → (a ++ vs ++ c)[o' + j]? = some u) → ∀ j u, q[j]? = some u → cellAt w'.heap x.b (x.off + o' + j) = some u := fun o' q hq j u hj => by
   rw [Nat.add_assoc]; exact L.cells _ u (hq j u hj)
  have gA := pa w'.heap x.b (x.off + 0) (hpart 0 a fun j u hj => by
   have := (List.getElem?_eq_some_iff.mp hj).1
   rw [Nat.zero_add, List.append_assoc, List.getElem?_append_left this]; exact hj)
  have gV := hvp w'.heap x.b (x.off + i * 6) (hpart (i * 6) vs fun j u hj => by
   have := (List.getElem?_eq_some_iff.mp hj).1
   rw [List.getElem?_append_left (by rw [List.length_append]; omega), List.getElem?_append_right (by omega), ha, Nat.add_sub_cancel_left]; exact hj)
  have gC := pc w'.heap x.b (x.off + (i + v.length) * 6) (hpart ((i + v.length) * 6) c fun j u hj => by
   have e : (i + v.length) * 6 = (a ++ vs).length := by rw [List.length_append]; omega
   rw [e, List.getElem?_append_right (by omega), Nat.add_sub_cancel_left]; exact hj)
  have hgrow := ok.grow (d := 1) (t := 69) (v := 0) (T := .mu GrpT) (l := l) (l' := l.take i ++ v ++ l.drop i) (h' := w'.heap) (x := x) (S' := M.S) (go' := fun o => if 1 = o then some (.row 1 69 (.mu GrpT) (l.take i ++ v ++ l.drop i)) else M.go o)
   (fun h => by have h : (1 : Nat) ∈ [2] := h; simp at h) hg1 (fun o => rfl) (fun _ _ h => h) (fun _ _ h => .inl h) hcell (fun _ => L.at') (fun b hb' hne => L.keep b hb' (fun hn he => hne hn L.nil he)) L.size (fun _ => (Array.getElem?_eq_some_iff.mp lb).1) (by
    simp only [OR, if_pos, L.nil]
    refine ⟨by show (l.take i ++ v ++ l.drop i).length ≤ _; rw [hlen]; exact L.room, fun k hk => ?_, ⟨cs', f', lb, lsz, fun j _ => lf j⟩, rfl, fun y hy => ?_⟩
    ·have hk : k < (l.take i ++ v ++ l.drop i).length := hk
     show ElR (fun _ _ => True) w'.heap GrpT (l.take i ++ v ++ l.drop i)[k] x.b (x.off + k * 6)
     by_cases c1 : k < (l.take i).length
     ·have := gA k c1
      rw [List.getElem_append_left (by rw [List.length_append]; omega), List.getElem_append_left c1]
      rw [Nat.add_zero] at this
      exact this
     ·by_cases c2 : k < (l.take i ++ v).length
      ·rw [List.getElem_append_left c2, List.getElem_append_right (by omega)]
       have hk2 : k - (l.take i).length < v.length := by rw [List.length_append] at c2; omega
       have := gV (k - (l.take i).length) hk2
       have e6 : x.off + i * 6 + (k - (l.take i).length) * GrpT.n = x.off + k * 6 := by show x.off + i * 6 + (k - (l.take i).length) * 6 = _; omega
       rw [e6] at this
       exact this
      ·rw [List.getElem_append_right (by omega)]
       have hk2 : k - (l.take i ++ v).length < (l.drop i).length := by rw [hlen] at hk; rw [List.length_append] at c2 ⊢; rw [List.length_drop]; omega
       have := gC (k - (l.take i ++ v).length) hk2
       have e6 : x.off + (i + v.length) * 6 + (k - (l.take i ++ v).length) * 6 = x.off + k * 6 := by rw [List.length_append] at c2 ⊢; omega
       rw [e6] at this
       exact this
    ·rcases L.at' with h | ⟨hn, h⟩
     ·have := hlt _ _ hy; omega
     ·exact absurd (h ▸ hy) (hS1 hn y))
  have hk1 := hgrow.1.keep1 (d := 1) (v' := 0) (t := 69) (T := .mu GrpT) (l := l.take i ++ v ++ l.drop i) (v := 1) (by simp) hC
  refine ⟨_, _, rfl, ⟨rfl, L.outer⟩, hk1, rfl, ?_, fun p hp => .inl ?_, fun p hp => absurd hp (hC p), fun p hp => absurd hp (hC p), fun p hp => absurd hp (hC p), fun p hp => nomatch hp⟩
  ·show VR _ (.own 1 0) _
   simp only [VR]
   refine ⟨trivial, fun v0 t0 T0 l0 hg' => ?_⟩
   simp only [lk_cons, if_pos] at hg'
   injection hg' with hg'; injection hg' with q1 q2 q3 q4
   subst q1; subst q3
   have q4 := eq_of_heq q4
   subst q4
   exact ⟨Nat.le_refl _, fun _ => by
    simp only [if_pos, Hd.slice, L.nil]
    congr 1
    exact hlen.symm⟩
  ·have hp : p = 1 := hp
   subst hp
   simp [lk_cons]
 refine .inl ⟨he _ _, ?_, fun h => nomatch h⟩
 have hor1 := core.obj 1 _ hg1
 simp only [OR] at hor1
 rw [hsl2]
 cases hn1 : (M.β 1).nil with
 | true =>
  rw [hn1] at hor1
  have hor1 : l = [] := hor1
  subst hor1
  have hi0 : i = 0 := by have : i ≤ 0 := hin; omega
  subst hi0
  have hsl1 : (M.β 1).slice 0 = .slice none 0 0 := by unfold Hd.slice; rw [hn1]
  show Calls Try.prog 44 #[(M.β 1).slice 0, _, _] w _
  rw [hsl1]
  refine (EW.ins_end_grow none 0 0 (M.β 2).b (M.β 2).off v.length (M.β 2).cap [] vs w hv0 (Nat.le_refl _) (by omega) (by have : (0 + v.length) * 56 ≤ 70368744177664 := hbd; omega) rfl hvl (fun _ => rfl) (fun a ha => nomatch ha) hvcell hv1).mono ?_
  rintro e w' ⟨cap, zs, q1, q2, rfl, rfl⟩
  have := fin ⟨false, M.h.size, 0, cap⟩ _ [] [] 0 (by
   have := left_end_grow (M := M) (w := w) hwh (a := []) (v := vs) (n := 0) q1 q2 rfl hvl
   exact this) rfl rfl (fun _ _ _ _ k hk => absurd hk (Nat.not_lt_zero _)) (fun _ _ _ _ k hk => absurd hk (Nat.not_lt_zero _))
  rw [hws]
  exact this
 | false =>
  rw [hn1] at hor1
  obtain ⟨hlc, hel, ⟨cs, f, hb, hcsz, hfz⟩, _, hS⟩ := hor1
  have hcsz : (M.β 1).off + (M.β 1).cap * 6 ≤ cs.size := hcsz
  have hfz : ∀ i : Nat, ¬ (f.1 ≤ i ∧ i < f.2) := fun i => hfz i (.inr (by decide))
  have hlc : l.length ≤ (M.β 1).cap := hlc
  have hsl1 : (M.β 1).slice l.length = .slice (some ⟨(M.β 1).b, (M.β 1).off, none⟩) l.length (M.β 1).cap := by unfold Hd.slice; rw [hn1]
  show Calls Try.prog 44 #[(M.β 1).slice l.length, _, _] w _
  rw [hsl1]
  have hel : ∀ (j : Nat) (hj : j < l.length), ElR (fun _ _ => True) M.h GrpT l[j] (M.β 1).b ((M.β 1).off + j * 6) := hel
  have hlt1 : (l.take i).length = i := by rw [List.length_take]; omega
  have hld : (l.drop i).length = l.length - i := List.length_drop
  obtain ⟨a, hal, hac, ha1, hap⟩ := cells_of (M := M) (T := GrpT) (m := l.take i) (b := (M.β 1).b) (o := (M.β 1).off) rfl (fun j hj => by
   rw [List.getElem_take]; exact hel j (by omega))
  obtain ⟨c, hcl, hcc, hc1, hcp⟩ := cells_of (M := M) (T := GrpT) (m := l.drop i) (b := (M.β 1).b) (o := (M.β 1).off + i * 6) rfl (fun j hj => by
   rw [List.getElem_drop]
   have := hel (i + j) (by omega)
   have e : (M.β 1).off + i * 6 + j * GrpT.n = (M.β 1).off + (i + j) * 6 := by show (M.β 1).off + i * 6 + j * 6 = _; omega
   rw [e]; exact this)
  have hal : a.length = i * 6 := by rw [← hlt1]; exact hal
  have hcl : c.length = (l.length - i) * 6 := by rw [← hld]; exact hcl
  have hne : (M.β 2).b ≠ (M.β 1).b := core.inj 2 1 ⟨by rw [hg2]; simp, hn2⟩ ⟨by rw [hg1]; simp, hn1⟩ (by decide)
  have acl : (a ++ c).length = l.length * 6 := by rw [List.length_append]; omega
  have act : (a ++ c).take (i * 6) = a := by rw [← hal]; exact List.take_left
  have acd : (a ++ c).drop (i * 6) = c := by rw [← hal]; exact List.drop_left
  have acc : ∀ j u, (a ++ c)[j]? = some u → w.cell? ⟨(M.β 1).b, (M.β 1).off + j, none⟩ = some u := fun j u hj => by
   rw [cell_eq, hwh]
   rw [List.getElem?_append] at hj
   split at hj
   ·exact hac j u hj
   ·have := hcc _ u hj
    rw [show (M.β 1).off + i * 6 + (j - a.length) = (M.β 1).off + j by omega] at this
    exact this
  have ac1 : ∀ u ∈ a ++ c, u.oneCell' = true := fun u hu => (List.mem_append.mp hu).elim (ha1 u) (hc1 u)
  have hwb : w.heap[(M.β 1).b]? = some (.cells cs 69 f) := by rw [hwh]; exact hb
  have spare : ∀ j, j < (M.β 1).cap * 6 → (w.cell? ⟨(M.β 1).b, (M.β 1).off + j, none⟩).isSome = true := fun j hj => by
   rw [cell_eq, hwh]; unfold cellAt; rw [hb]
   simp only []
   rw [Array.getElem?_eq_getElem (by omega)]; rfl
  by_cases hroom : l.length + v.length ≤ (M.β 1).cap
  ·have hc6 : (l.length + v.length) * 6 ≤ (M.β 1).cap * 6 := Nat.mul_le_mul_right _ hroom
   by_cases hend : i = l.length
   ·subst hend
    have hc0 : c = [] := List.eq_nil_of_length_eq_zero (by rw [hcl]; simp)
    refine (EW.ins_end_room (M.β 1).b (M.β 1).off l.length (M.β 1).cap (M.β 2).b (M.β 2).off v.length (M.β 2).cap vs w hv0 hroom (by omega) hvl (fun j hj => by rw [Nat.add_assoc]; exact spare _ (by omega)) (fun j hj => frozen_not hwb hfz _) hvcell hv1).mono ?_
    rintro e w' ⟨rfl, rfl⟩
    exact fin (M.β 1) _ a [] 0 (left_end_room hwh hn1 hb hcsz hfz hroom hal hvl hac) hal (by simp) (fun h' b' o' hh' k hk => hap h' b' o' hh' k hk) (fun h' b' o' hh' k hk => hcp h' b' o' (by rw [hc0]; exact hh') k hk)
   ·refine (EW.ins_shift (M.β 1).b (M.β 1).off l.length (M.β 1).cap i (M.β 2).b (M.β 2).off v.length (M.β 2).cap (a ++ c) vs w (by omega) hv0 hroom (by omega) hne acl hvl acc (fun j hj => spare j (by omega)) (fun j hj => frozen_not hwb hfz _) hvcell ac1 hv1
     69 69 vcs.size cs.size (by unfold World.shape?; rw [hwh, vhb]) (by unfold World.shape?; rw [hwh, hb]) (by omega) (frozen_not (by rw [hwh]; exact vhb) vfz _) (frozen_not (by rw [hwh]; exact vhb) vfz _)).mono ?_
    rintro e w' ⟨rfl, rfl⟩
    rw [acd]
    exact fin (M.β 1) _ a c 0 (left_shift hwh hn1 hb hcsz hfz hroom hal hvl hcl hin hac) hal hcl (fun h' b' o' hh' k hk => hap h' b' o' hh' k hk) (fun h' b' o' hh' k hk => hcp h' b' o' hh' k hk)
  ·by_cases hend : i = l.length
   ·subst hend
    have hc0 : c = [] := List.eq_nil_of_length_eq_zero (by rw [hcl]; simp)
    refine (EW.ins_end_grow (some ⟨(M.β 1).b, (M.β 1).off, none⟩) l.length (M.β 1).cap (M.β 2).b (M.β 2).off v.length (M.β 2).cap a vs w hv0 hlc (by omega) (by omega) hal hvl (fun h => nomatch h) (fun ad had j u hj => by
     injection had with had; subst had
     rw [Addr.add_lit, cell_eq, hwh]; exact hac j u hj) hvcell hv1).mono ?_
    rintro e w' ⟨cap, zs, q1, q2, rfl, rfl⟩
    have := fin ⟨false, M.h.size, 0, cap⟩ _ a [] 0 (left_end_grow (M := M) (w := w) hwh (n := l.length) q1 q2 hal hvl) hal (by simp) (fun h' b' o' hh' k hk => hap h' b' o' hh' k hk) (fun h' b' o' hh' k hk => hcp h' b' o' (by rw [hc0]; exact hh') k hk)
    rw [hws]
    exact this
   ·refine (EW.ins_grow (M.β 1).b (M.β 1).off l.length (M.β 1).cap i (M.β 2).b (M.β 2).off v.length (M.β 2).cap (a ++ c) vs w (by omega) hv0 hlc (by omega) (by omega) acl hvl acc hvcell ac1 hv1).mono ?_
    rintro e w' ⟨cap, ROW, q1, q2, q3, rfl, rfl⟩
    rw [act] at q3
    rw [acd]
    have := fin ⟨false, M.h.size, 0, cap⟩ _ a c 0 (left_mid_grow (M := M) (w := w) hwh q1 q2 hal hvl hcl hin q3) hal hcl (fun h' b' o' hh' k hk => hap h' b' o' hh' k hk) (fun h' b' o' hh' k hk => hcp h' b' o' hh' k hk)
    rw [hws] at this ⊢
    exact this
end Go.Proofs.Ytcjiipbppkdkaaa.Eng
