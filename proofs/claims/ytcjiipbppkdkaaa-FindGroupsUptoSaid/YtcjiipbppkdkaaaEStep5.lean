/- The engine, part 8: a list that grows. -/
import Derived.Test.YtcjiipbppkdkaaaEStep4
namespace Go.Proofs.Ytcjiipbppkdkaaa.Eng
open Go
set_option linter.unusedVariables false
set_option linter.unusedSimpArgs false
section
variable {P : Program} {B : Base} {M : Mem} {obj : List (Nat × Ob)} {a : Act} {w : World} {o : Oper} {K : Act → World → Prop} {Q : Exit → Act → World → Prop} {tt : TT} {env : List (Nat × CV)} {cr : List Nat}
theorem appSrc_ok (ok : MOK B M) {e : Nat} {de : TD} {x : CV} {v : Value} {m : List de.ty.den} (h : appSrc M.go e de x = some m) (hv : VR M x v) (hw : w.heap = M.h) (hsz : de.size = de.ty.n) : Nonempty (Src P M de.ty m v de.size w) := by
 have gen : ∀ x, asL M.go de.ty x = some m → VR M x v → Nonempty (Src P M de.ty m v de.size w) := fun x h1 h2 => src_list (asL_ok ok h1 h2) hw hsz
 have gen2 : ∀ x, muV M.go de.ty e x = some m → VR M x v → Nonempty (Src P M de.ty m v de.size w) := by
  intro x h1 h2
  have key : ∀ p ver l, muAt M.go de.ty e p ver = some l → OR M p (.row ver e (.mu de.ty) l) := fun p ver l hl => ok.obj p _ (muAt_some hl)
  cases x <;> simp only [muV] at h1 <;> first | (cases h1; done) | skip
  case own p ver =>
   have hv := h2.own (muAt_some h1)
   have hor := key p ver m h1
   simp only [OR] at hor
   cases hn : (M.β p).nil with
   | true =>
    rw [hn] at hor
    have h0 : m = [] := hor
    subst h0
    have hv : v = .slice none 0 0 := by rw [hv]; simp [Hd.slice, hn]
    subst hv
    exact src_nil (fun _ => rfl)
   | false =>
    rw [hn] at hor
    have hv : v = .slice (some ⟨(M.β p).b, (M.β p).off, none⟩) (List.length (α := de.ty.den) m) (M.β p).cap := by rw [hv]; simp only [Hd.slice, hn]; rfl
    subst hv
    exact src_cells hor.2.2.2.1 hor.2.1 hsz
  case part p ver a0 n0 =>
   cases hl : muAt M.go de.ty e p ver with
   | none => rw [hl] at h1; cases h1
   | some l =>
    rw [hl] at h1; injection h1 with h1; subst h1
    simp only [VR] at h2
    obtain ⟨hlen, hv⟩ := (h2.2 _ _ _ _ (muAt_some hl)).2 rfl
    have hlen : a0 + n0 ≤ List.length (α := de.ty.den) l := hlen
    have hor := key p ver l hl
    simp only [OR] at hor
    cases hn : (M.β p).nil with
    | true =>
     rw [hn] at hor
     have h0 : l = [] := hor
     subst h0
     have hv : v = .slice none 0 0 := by rw [hv]; simp [Hd.part, hn]
     subst hv
     simp only [List.drop_nil, List.take_nil]
     exact src_nil (fun _ => rfl)
    | false =>
     rw [hn] at hor
     obtain ⟨q1, q2, _, q4, _⟩ := hor
     have q1 : List.length (α := de.ty.den) l ≤ (M.β p).cap := q1
     have hl2 : ((l.drop a0).take n0).length = n0 := by rw [List.length_take, List.length_drop]; omega
     simp only [Hd.part, hn] at hv
     by_cases hca : (M.β p).cap = a0
     ·rw [if_pos hca] at hv
      have hn0 : n0 = 0 := by omega
      subst hn0; subst hv
      simp only [List.take_zero]
      exact src_nil (fun h => by cases h)
     ·rw [if_neg hca] at hv
      have hs := src_cells (P := P) (w := w) (M := M) (T := de.ty) (m := (l.drop a0).take n0) (b := (M.β p).b) (o := (M.β p).off + a0 * de.ty.n) (c := (M.β p).cap - a0) q4 (fun i hi => by
       rw [hl2] at hi
       have := q2 (a0 + i) (by show _ < List.length (α := de.ty.den) l; omega)
       have e1 : (Ty.mu de.ty).n = de.ty.n := rfl
       rw [e1, Nat.add_mul, ← Nat.add_assoc] at this
       simp only [List.getElem_take, List.getElem_drop]
       exact this) hsz
      rw [hl2] at hs
      have e1 : (Ty.mu de.ty).n = de.ty.n := rfl
      rw [e1] at hv
      subst hv; exact hs
 have gen3 : ∀ x, (match asL M.go de.ty x with | some l => some l | none => muV M.go de.ty e x) = some m → VR M x v → Nonempty (Src P M de.ty m v de.size w) := by
  intro x h1 h2
  cases hl : asL M.go de.ty x with
  | some l => rw [hl] at h1; injection h1 with h1; subst h1; exact gen x hl h2
  | none => rw [hl] at h1; exact gen2 x h1 h2
 cases x <;> simp only [appSrc] at h <;> first | exact gen3 _ h hv | skip
 rename_i b
 split at h
 ·rename_i he
  injection h with h
  rw [hv.str]
  have hs : de.size = 1 := by rw [hsz, ← he]; rfl
  have := src_str (P := P) (M := M) b w
  rw [hs]
  subst h
  clear gen gen2 gen3
  revert this
  generalize de.ty = T at he ⊢
  subst he
  exact id
 ·cases h
theorem el_append {T : Ty} {l m : List T.den} {v1 v2 : Value} {size : Nat} (s1 : Src P M T l v1 size w) (s2 : Src P M T m v2 size w) (S' : Seal) (h' : Array Obj) (b o : Nat) (hS : ∀ b x, M.S b x → S' b x)
  (hc : ∀ b x, M.S b x → cellAt h' b x = cellAt M.h b x) (hb : ∀ j, j < (l ++ m).length * T.n → S' b (o + j)) (hv : ∀ j v, (s1.vs ++ s2.vs)[j]? = some v → cellAt h' b (o + j) = some v) :
  ∀ (i : Nat) (hi : i < (l ++ m).length), ElR S' h' T (l ++ m)[i] b (o + i * T.n) := by
 intro i hi
 have e0 : (l ++ m).length * T.n = l.length * T.n + m.length * T.n := by rw [List.length_append, Nat.add_mul]
 by_cases h1 : i < l.length
 ·rw [List.getElem_append_left h1]
  refine s1.el S' h' b o hS hc (fun j hj => hb j (by omega)) (fun j v hj => hv j v ?_) i h1
  have : j < s1.vs.length := (List.getElem?_eq_some_iff.mp hj).1
  rw [List.getElem?_append_left this]; exact hj
 ·rw [List.getElem_append_right (by omega)]
  have := s2.el S' h' b (o + l.length * T.n) hS hc (fun j hj => by have := hb (l.length * T.n + j) (by omega); rwa [← Nat.add_assoc] at this) (fun j v hj => by
   have := hv (l.length * T.n + j) v (by rw [List.getElem?_append_right (by rw [s1.len]; omega), s1.len]; simpa using hj)
   rwa [← Nat.add_assoc] at this) (i - l.length) (by simp at hi; omega)
  have e2 : o + l.length * T.n + (i - l.length) * T.n = o + i * T.n := by
   have : i = l.length + (i - l.length) := by omega
   conv => rhs; rw [this, Nat.add_mul]
   omega
  rwa [e2] at this
theorem size_zero (z : Array Value) (n : Nat) : (Builtin.zeroCells z n).size = n * z.size := size_zeroCells z n
theorem setCells_outer (b : Nat) : ∀ (vs : List Value) (off : Nat) (w : World), Outer w (w.setCells b off vs)
 | [], _, _ => .rfl
 | v :: vs, off, w => by
  have := setCells_outer b vs (off + 1) (w.setCell ⟨b, off, none⟩ v)
  exact Outer.trans (b := w.setCell ⟨b, off, none⟩ v) ⟨rfl, rfl, rfl⟩ (by unfold World.setCells; exact this)
theorem app_mu (ok : MOK B M) (hgo : M.go = lk obj) (hw : w.heap = M.h) {t t2 e ty : Nat} {de : TD} {ie : TypeInfo} {z vx : Value} (hu : P.underlying t = some (.slice e)) (hi : P.info? e = some ie) (his : ie.size = de.size) (hib : ie.bytes = de.bytes)
  (hz : ie.zero = some z) (hzs : z.cells.size = de.size) (hsz : de.size = de.ty.n) (hby : 1 ≤ de.bytes) (h2 : P.underlying t2 = some .string ∨ ∃ e', P.underlying t2 = some (.slice e')) {m : List de.ty.den} (src : Src P M de.ty m vx ie.size w)
  {p ver n : Nat} {l0 : List de.ty.den} (hg : M.go p = some (.row ver e (.mu de.ty) l0)) (hn : n ≤ l0.length) (hfl : de.ty.flat = true) (hbd : (n + m.length) * de.bytes ≤ 70368744177664) (hpro : ¬ B.ro p) :
  ∃ (x : Hd) (h' : Array Obj) (w' : World), Outer w w' ∧ w'.heap = h' ∧ (Builtin.append_ #[t, t2] ty #[(M.β p).slice n, vx]).run P w = .ok (x.slice (n + m.length)) w' ∧
   (MOK B ⟨M.S, h', fun o => if p = o then x else M.β o, lk ((p, .row (ver + 1) e (.mu de.ty) (l0.take n ++ m)) :: obj), M.U, M.C⟩ ∧ Ext M ⟨M.S, h', fun o => if p = o then x else M.β o, lk ((p, .row (ver + 1) e (.mu de.ty) (l0.take n ++ m)) :: obj), M.U, M.C⟩) := by
 have hgo' : ∀ q, lk ((p, Ob.row (ver + 1) e (.mu de.ty) (l0.take n ++ m)) :: obj) q = if p = q then some (.row (ver + 1) e (.mu de.ty) (l0.take n ++ m)) else M.go q := fun q => by rw [lk_cons, hgo]
 have hor := ok.obj p _ hg
 have hlt : (l0.take n).length = n := by rw [List.length_take]; omega
 have hll : (l0.take n ++ m).length = n + m.length := by rw [List.length_append, hlt]
 have hb63 : ((n + m.length : Nat) : Int) ≤ 9223372036854775807 := by
  have : n + m.length ≤ (n + m.length) * de.bytes := Nat.le_mul_of_pos_right _ hby
  omega
 have hisz : ie.size = de.ty.n := his.trans hsz
 -- the old elements, as a source
 have hs1 : ∀ base cc, (M.β p).slice n = .slice base n cc → Nonempty (Src P M de.ty (l0.take n) (.slice base n cc) ie.size w) := by
  intro base cc hv
  simp only [OR] at hor
  cases hnil : (M.β p).nil with
  | true =>
   rw [hnil] at hor
   have h0 : l0 = [] := hor
   subst h0
   have h1 : n = 0 := by simpa using hn
   subst h1
   simp only [Hd.slice, hnil] at hv
   injection hv with e1 e2 e3
   subst e1; subst e3
   exact src_nil (fun _ => rfl)
  | false =>
   rw [hnil] at hor
   simp only [Hd.slice, hnil] at hv
   injection hv with e1 e2 e3
   subst e1; subst e3
   have := src_cells (P := P) (w := w) (M := M) (T := de.ty) (m := l0.take n) (b := (M.β p).b) (o := (M.β p).off) (c := (M.β p).cap) hfl (fun i hi' => by
    rw [hlt] at hi'
    have := hor.2.1 i (by show _ < List.length (α := de.ty.den) l0; omega)
    simp only [List.getElem_take]
    exact this) hisz
   rw [hlt] at this
   exact this
 have elsewhere : ∀ (base : Option Addr) (cc : Nat), (M.β p).slice n = .slice base n cc → cc < n + m.length → ∃ (x : Hd) (h' : Array Obj) (w' : World), Outer w w' ∧ w'.heap = h' ∧ (Builtin.append_ #[t, t2] ty #[(M.β p).slice n, vx]).run P w = .ok (x.slice (n + m.length)) w' ∧
   (MOK B ⟨M.S, h', fun o => if p = o then x else M.β o, lk ((p, .row (ver + 1) e (.mu de.ty) (l0.take n ++ m)) :: obj), M.U, M.C⟩ ∧ Ext M ⟨M.S, h', fun o => if p = o then x else M.β o, lk ((p, .row (ver + 1) e (.mu de.ty) (l0.take n ++ m)) :: obj), M.U, M.C⟩) := by
  intro base cc hv hlt2
  obtain ⟨s1⟩ := hs1 base cc hv
  obtain ⟨cap, hcap, hr⟩ := append_more (P := P) (ty := ty) hu hi h2 src hw (base := base) (n := n) (c := cc) hlt2 hb63 (by rw [hib]; exact growslice_fits hlt2 (by omega)) hz (olds := s1.vs)
   (fun w' hw' => by have := s1.first w' (by rw [hw', hw]); rw [hlt] at this; exact this)
  have hsize : cap * de.ty.n ≤ (s1.vs.toArray ++ src.vs.toArray ++ Builtin.zeroCells z.cells (cap - (n + m.length))).size := by
   simp only [Array.size_append, List.size_toArray, size_zero, hzs, hsz, s1.len, src.len]
   rw [hlt, ← Nat.add_mul, ← Nat.add_mul]
   have : n + m.length + (cap - (n + m.length)) = cap := by omega
   rw [this]; exact Nat.le_refl _
  refine ⟨⟨false, M.h.size, 0, cap⟩, _, w.drew.alloc (.cells (s1.vs.toArray ++ src.vs.toArray ++ Builtin.zeroCells z.cells (cap - (n + m.length))) e), ⟨rfl, rfl, rfl⟩, rfl, by rw [hv, hr, hw]; simp [Hd.slice], ?_⟩
  have hh : (w.drew.alloc (.cells (s1.vs.toArray ++ src.vs.toArray ++ Builtin.zeroCells z.cells (cap - (n + m.length))) e)).heap = M.h.push (.cells (s1.vs.toArray ++ src.vs.toArray ++ Builtin.zeroCells z.cells (cap - (n + m.length))) e (0, 0)) := by simp [World.alloc, World.drew, hw]
  rw [hh]
  refine ok.grow (x := ⟨false, M.h.size, 0, cap⟩) hpro hg hgo' (fun b y hy => hy) (fun b y hy => .inl hy) (fun b y hy => cellAt_push (ok.lt b y hy)) (fun _ => .inl rfl)
   (fun b hb _ => by rw [Array.getElem?_push, if_neg (by omega)]) (by simp) (by simp) ?_
  simp only [OR, if_pos]
  refine ⟨by show List.length (α := de.ty.den) (l0.take n ++ m) ≤ cap; rw [hll]; exact hcap, fun i hi => ?_, ⟨s1.vs.toArray ++ src.vs.toArray ++ Builtin.zeroCells z.cells (cap - (n + m.length)), (0, 0), by simp, by show 0 + cap * de.ty.n ≤ _; omega, fun j _ => by simp⟩, hfl, fun y hy => ?_⟩
  ·have := el_append s1 src (fun _ _ => True) (M.h.push (.cells (s1.vs.toArray ++ src.vs.toArray ++ Builtin.zeroCells z.cells (cap - (n + m.length))) e (0, 0))) M.h.size 0 (fun _ _ _ => trivial) (fun b y hy => cellAt_push (ok.lt b y hy))
    (fun j hj => trivial) (fun j v hj => by
     rw [Nat.zero_add, cellAt_push_new]
     have hj2 : j < (s1.vs ++ src.vs).length := (List.getElem?_eq_some_iff.mp hj).1
     rw [Array.getElem?_append_left (by simpa using hj2)]
     simpa using hj) i hi
   exact this
  ·have := ok.lt _ _ hy; omega
 simp only [OR] at hor
 cases hnil : (M.β p).nil with
 | true =>
  rw [hnil] at hor
  have h0 : l0 = [] := hor
  subst h0
  have h1 : n = 0 := by simpa using hn
  subst h1
  have hv : (M.β p).slice 0 = .slice none 0 0 := by simp [Hd.slice, hnil]
  by_cases h0 : m.length = 0
  ·have hm0 : m = [] := List.eq_nil_of_length_eq_zero h0
   subst hm0
   have hr := append_room (P := P) (ty := ty) hu hi h2 src hw (base := none) (n := 0) (c := 0) (by simp) (w' := w) (by simp) (fun _ => rfl)
   refine ⟨M.β p, M.h, w, .rfl, hw, by rw [hv, hr]; simp [Hd.slice, hnil], ?_⟩
   refine ok.grow (x := M.β p) hpro hg hgo' (fun _ _ h => h) (fun _ _ h => .inl h) (fun _ _ _ => rfl) (fun h => by rw [hnil] at h; cases h) (fun _ _ _ => rfl) (Nat.le_refl _) (fun h => by rw [hnil] at h; cases h) ?_
   simp only [OR, if_pos, hnil]; rfl
  ·exact elsewhere none 0 hv (by omega)
 | false =>
  rw [hnil] at hor
  have hv : (M.β p).slice n = .slice (some ⟨(M.β p).b, (M.β p).off, none⟩) n (M.β p).cap := by simp only [Hd.slice, hnil]
  by_cases hroom : n + m.length ≤ (M.β p).cap
  ·obtain ⟨hlc, hel, ⟨cs, f, hb, hcsz, hfz⟩, _, hS⟩ := hor
   have hS : ∀ y, ¬ M.S (M.β p).b y := fun y hy => by have := (hS y hy).1; cases this
   have hcsz : (M.β p).off + (M.β p).cap * de.ty.n ≤ cs.size := hcsz
   have hfz : ∀ i, (i < (M.β p).off + (M.β p).cap * de.ty.n ∨ 1 < de.ty.n) → ¬ (f.1 ≤ i ∧ i < f.2) := hfz
   have hmn : n * de.ty.n + m.length * de.ty.n ≤ (M.β p).cap * de.ty.n := by rw [← Nat.add_mul]; exact Nat.mul_le_mul_right _ hroom
   have hvl : src.vs.length = m.length * de.ty.n := src.len
   have hcell : ∀ j, j < src.vs.length → (w.cell? ⟨(M.β p).b, (M.β p).off + n * de.ty.n + 0 + j, none⟩).isSome = true := fun j hj => by
    rw [cell_eq, hw]; unfold cellAt; rw [hb]
    simp only []
    rw [Array.getElem?_eq_getElem (by omega)]; rfl
   have hfro : ∀ j, j < src.vs.length → w.frozen? ⟨(M.β p).b, (M.β p).off + n * de.ty.n + 0 + j, none⟩ = false := fun j hj => by
    have := hfz ((M.β p).off + n * de.ty.n + 0 + j) (.inl (by omega))
    obtain ⟨flo, fhi⟩ := f
    simp only [World.frozen?, hw, hb]
    simp only [Bool.and_eq_false_iff, decide_eq_false_iff_not]
    simp only [] at this
    omega
   have hst := run_storeCells_cells (P := P) (M.β p).b ((M.β p).off + n * de.ty.n) src.vs 0 w hcell hfro src.one
   simp only [Nat.add_zero] at hst hcell
   have hr := append_room (P := P) (ty := ty) hu hi h2 src hw (base := some ⟨(M.β p).b, (M.β p).off, none⟩) (n := n) (c := (M.β p).cap) hroom
    (w' := w.setCells (M.β p).b ((M.β p).off + n * de.ty.n) src.vs) (fun ad had => by injection had with had; subst had; have eN : n * ie.size = n * de.ty.n := congrArg (n * ·) hisz; rw [eN, add_none]; exact hst) (fun h => by cases h)
   obtain ⟨g1, g2, g3⟩ := setCells_heap (M.β p).b src.vs ((M.β p).off + n * de.ty.n) w
   have hold : ∀ b y, M.S b y → cellAt (w.setCells (M.β p).b ((M.β p).off + n * de.ty.n) src.vs).heap b y = cellAt M.h b y := fun b y hy => by
    rw [← cell_eq, World.cell?_setCells_out (M.β p).b src.vs _ w ⟨b, y, none⟩ (fun hbb _ => absurd (hbb ▸ hy) (hS y)), cell_eq, hw]
   have hold2 : ∀ y, y < (M.β p).off + n * de.ty.n → cellAt (w.setCells (M.β p).b ((M.β p).off + n * de.ty.n) src.vs).heap (M.β p).b y = cellAt M.h (M.β p).b y := fun y hy => by
    rw [← cell_eq, World.cell?_setCells_out (M.β p).b src.vs _ w ⟨(M.β p).b, y, none⟩ (fun _ _ => .inl hy), cell_eq, hw]
   refine ⟨M.β p, _, w.setCells (M.β p).b ((M.β p).off + n * de.ty.n) src.vs, setCells_outer _ _ _ _, rfl, by rw [hv, hr]; simp only [Hd.slice, hnil], ?_⟩
   refine ok.grow (x := M.β p) hpro hg hgo' (fun b y hy => hy) (fun b y hy => .inl hy) hold (fun _ => .inr ⟨hnil, rfl⟩) (fun b hb' hne => by rw [g2 b (hne hnil hnil rfl), hw]) (by rw [g1, hw]; exact Nat.le_refl _)
    (fun _ => by rw [g1, hw]; exact (Array.getElem?_eq_some_iff.mp hb).1) ?_
   obtain ⟨cs', g4, g5⟩ := g3 cs e f (by rw [hw]; exact hb)
   simp only [OR, if_pos, hnil]
   refine ⟨by show List.length (α := de.ty.den) (l0.take n ++ m) ≤ _; rw [hll]; exact hroom, fun i hi => ?_, ⟨cs', f, g4, by show (M.β p).off + (M.β p).cap * de.ty.n ≤ _; omega, hfz⟩, hfl, fun y hy => absurd hy (hS y)⟩
   have hi : i < (l0.take n ++ m).length := hi
   show ElR (fun _ _ => True) (w.setCells (M.β p).b ((M.β p).off + n * de.ty.n) src.vs).heap de.ty (l0.take n ++ m)[i] (M.β p).b ((M.β p).off + i * de.ty.n)
   by_cases h1 : i < n
   ·rw [List.getElem_append_left (by rw [hlt]; exact h1)]
    have h0 := hel i (by show _ < List.length (α := de.ty.den) l0; omega)
    simp only [List.getElem_take]
    have hin : ∀ j, j < de.ty.n → i * de.ty.n + j < n * de.ty.n := fun j hj => by
     have : (i + 1) * de.ty.n ≤ n * de.ty.n := Nat.mul_le_mul_right _ h1
     rw [Nat.add_mul] at this; omega
    exact ElR.moveF de.ty _ _ _ _ _ hfl h0 (fun _ _ => trivial) (fun j hj => by
     have e1 : (Ty.mu de.ty).n = de.ty.n := rfl
     rw [e1]; exact hold2 _ (by have := hin j hj; omega))
   ·rw [List.getElem_append_right (by rw [hlt]; omega)]
    have := src.el (fun _ _ => True) (w.setCells (M.β p).b ((M.β p).off + n * de.ty.n) src.vs).heap
     (M.β p).b ((M.β p).off + n * de.ty.n) (fun b y hy => trivial) hold (fun j hj => trivial) (fun j v hj => by
      have hj2 : j < src.vs.length := (List.getElem?_eq_some_iff.mp hj).1
      rw [← cell_eq, World.cell?_setCells_in (M.β p).b src.vs _ w hcell j hj2]
      rw [List.getElem?_eq_getElem hj2] at hj; exact hj) (i - n) (by rw [hll] at hi; omega)
    have e2 : (M.β p).off + n * de.ty.n + (i - n) * de.ty.n = (M.β p).off + i * de.ty.n := by
     have : i = n + (i - n) := by omega
     conv => rhs; rw [this, Nat.add_mul]
     omega
    rw [e2] at this
    simpa [hlt] using this
  ·exact elsewhere _ _ hv (by omega)
theorem op_append (htt : TTok P tt) (ok : MOK B M) (hgo : M.go = lk obj) (hE : RelE M env a.tmps) (hw : w.heap = M.h) {t t2 : Nat} {ys yx : Operand} {c : Call} (hop : o.op = .call c)
  (hc : c.callee = .builtin .append) (ha : c.args.toList = [ys, yx]) (ht : c.argTypes.toList = [t, t2]) (hok : appOk (kindOf tt t2) (operand env yx) = true) {s : Stp}
  (h : appStep (lk obj) tt o.dst t (operand env ys) (operand env yx) = some s) (x : s.α) (hx : s.o = some x) (hcr : ∀ d ∈ s.cr, ¬ M.U d) (hro : ∀ d ∈ s.wr, ¬ B.ro d)
  (hk : Cont w B M obj s.cr (s.f x) a o.dst K) : o.wp P a w K Q := by
 have hys := operand_ok hE ys
 have hyx := operand_ok hE yx
 have hargs : c.args = #[ys, yx] := by rw [← Array.toArray_toList (xs := c.args), ha]
 have htys : c.argTypes = #[t, t2] := by rw [← Array.toArray_toList (xs := c.argTypes), ht]
 have run : ∀ v w', (Builtin.append_ #[t, t2] o.type #[a.eval ys, a.eval yx]).run P w = .ok v w' → (execOp a.eval o).run P w = .ok (.value v) w' := by
  intro v w' hv
  simp [execOp, hop, resolve, hc, hargs, htys, invoke, builtin, hv]
 have h2 : P.underlying t2 = some .string ∨ ∃ e', P.underlying t2 = some (.slice e') := by
  cases hkd : kindOf tt t2 with
  | none => rw [hkd] at hok; cases hok
  | some k =>
   rw [hkd] at hok
   obtain ⟨dd, hdd, hkd'⟩ := kindOf_some hkd
   cases k <;> simp only [appOk] at hok <;> first | (cases hok; done) | skip
   ·exact .inl ((htt t2 dd hdd).str hkd')
   ·exact .inr ⟨_, (htt t2 dd hdd).slice _ hkd'⟩
 unfold appStep at h
 cases hst : sliceOf tt t with
 | none => rw [hst] at h; cases h
 | some q =>
  obtain ⟨e, de⟩ := q
  cases hdst : o.dst with
  | none => rw [hst, hdst] at h; cases h
  | some i =>
   rw [hst, hdst] at h; simp only [] at h
   obtain ⟨d, hd, hkd, hde, hsz, hby, hmu⟩ := sliceOf_some hst
   have hu := (htt t d hd).slice e hkd
   obtain ⟨ie, z, hi, his, hib, hz, hzs, _⟩ := (htt e de hde).info
   rw [← hgo] at h
   cases hm : appSrc M.go e de (operand env yx) with
   | none => rw [hm] at h; cases h
   | some m =>
    rw [hm] at h; simp only [] at h
    obtain ⟨src⟩ := appSrc_ok (P := P) ok hm hyx hw hsz
    have src' : Src P M de.ty m (a.eval yx) ie.size w := his.symm ▸ src
    have hwc : w.heap = M.h := hw
    -- a new block with the cells of both
    have fresh : ∀ (l : List de.ty.den) (v1 : Value) (s1 : Src P M de.ty l v1 ie.size w) (base : Option Addr) (n cc : Nat), n = l.length → v1 = .slice base n cc → cc < n + m.length → (n + m.length) * de.bytes ≤ 70368744177664 →
      ∃ (cs : Array Value) (cap : Nat) (w' : World), n + m.length ≤ cap ∧ cap * de.ty.n ≤ cs.size ∧ (w'.heap = M.h.push (.cells cs e (0, 0)) ∧ Outer w w') ∧
       (Builtin.append_ #[t, t2] o.type #[.slice base n cc, a.eval yx]).run P w = .ok (.slice (some ⟨M.h.size, 0, none⟩) (n + m.length) cap) w' ∧
       ∀ S' : Seal, (∀ b x, M.S b x → S' b x) → (∀ x, x < (l ++ m).length * de.ty.n → S' M.h.size x) → ∀ (i : Nat) (hi : i < (l ++ m).length), ElR S' (M.h.push (.cells cs e (0, 0))) de.ty (l ++ m)[i] M.h.size (i * de.ty.n) := by
     intro l v1 s1 base n cc hn hv1 hlt hbd
     subst hv1
     have hb63 : ((n + m.length : Nat) : Int) ≤ 9223372036854775807 := by
      have : n + m.length ≤ (n + m.length) * de.bytes := Nat.le_mul_of_pos_right _ hby
      omega
     obtain ⟨cap, hcap, hr⟩ := append_more (P := P) (ty := o.type) hu hi h2 src' hwc (base := base) (n := n) (c := cc) hlt hb63 (by rw [hib]; exact growslice_fits hlt (by omega)) hz (olds := s1.vs)
      (fun w' hw' => by have := s1.first w' (by rw [hw', hw]); rw [← hn] at this; exact this)
     refine ⟨s1.vs.toArray ++ src'.vs.toArray ++ Builtin.zeroCells z.cells (cap - (n + m.length)), cap, w.drew.alloc (.cells (s1.vs.toArray ++ src'.vs.toArray ++ Builtin.zeroCells z.cells (cap - (n + m.length))) e), hcap, ?_, ?_, by rw [hr, hw], fun S' hS hb i hi => ?_⟩
     ·simp only [Array.size_append, List.size_toArray, size_zero, hzs, hsz, s1.len, src'.len]
      rw [← hn, ← Nat.add_mul, ← Nat.add_mul]
      have : n + m.length + (cap - (n + m.length)) = cap := by omega
      rw [this]; exact Nat.le_refl _
     ·exact ⟨by simp [World.alloc, World.drew, hw], rfl, rfl, rfl⟩
     ·have := el_append s1 src' S' (M.h.push (.cells (s1.vs.toArray ++ src'.vs.toArray ++ Builtin.zeroCells z.cells (cap - (n + m.length))) e (0, 0))) M.h.size 0 hS (fun b y hy => cellAt_push (ok.lt b y hy))
       (fun j hj => by rw [Nat.zero_add]; exact hb j hj) (fun j v hj => by
        rw [Nat.zero_add, cellAt_push_new]
        have hj2 : j < (s1.vs ++ src'.vs).length := (List.getElem?_eq_some_iff.mp hj).1
        rw [Array.getElem?_append_left (by simpa using hj2)]
        simpa using hj) i hi
      simpa using this
    have nilsrc : ∀ v1, v1 = Value.slice none 0 0 → Src P M de.ty [] v1 ie.size w := fun v1 hv1 => by
     subst hv1
     exact ⟨[], by simp, by simp [Builtin.lenOf], fun w' _ => by simp [Builtin.firstCells], by simp, fun _ _ _ _ _ _ _ _ i hi => by simp at hi⟩
    have mudone : ∀ (p ver : Nat) (l : List de.ty.den) (x2 : Hd) (h' : Array Obj) (w' : World), Outer w w' → w'.heap = h' → (Builtin.append_ #[t, t2] o.type #[a.eval ys, a.eval yx]).run P w = .ok (x2.slice (l.length + m.length)) w' →
      MOK B ⟨M.S, h', fun o => if p = o then x2 else M.β o, lk ((p, .row (ver + 1) e (.mu de.ty) (l ++ m)) :: obj), M.U, M.C⟩ → Ext M ⟨M.S, h', fun o => if p = o then x2 else M.β o, lk ((p, .row (ver + 1) e (.mu de.ty) (l ++ m)) :: obj), M.U, M.C⟩ → M.U p →
      Cont w B M obj [] ⟨.own p (ver + 1), [(p, some (.row (ver + 1) e (.mu de.ty) (l ++ m)))]⟩ a o.dst K → o.wp P a w K Q := by
     intro p ver l x2 h' w' ho hw' hr hm1 hm2 hU hk
     refine wp_value (v := x2.slice (l.length + m.length)) (w' := w') (run _ _ hr) (hk _ _ _ ho hw' hm1 hm2 ?_ rfl (fun q hq => .inr hq))
     simp only [VR]
     refine ⟨hU, fun v0 t0 T0 l0 hg' => ?_⟩
     simp only [lk_cons, if_pos] at hg'
     injection hg' with hg'; injection hg' with h1 h2 h3 h4
     subst h1; subst h3
     have h4 := eq_of_heq h4
     subst h4
     exact ⟨Nat.le_refl _, fun _ => by simp only [if_pos]; congr 1; exact (List.length_append (as := l) (bs := m)).symm⟩
    have kept : ∀ l : List de.ty.den, (fun b x => M.S b x ∨ (b = M.h.size ∧ x < l.length * de.ty.n)) = (fun b x => M.S b x ∨ (b = M.h.size ∧ x < l.length * de.ty.n)) := fun _ => rfl
    cases hcs : operand env ys <;> rw [hcs] at h <;> simp only [] at h <;> first | (cases h; done) | skip
    case nils =>
     rw [hcs] at hys
     have hvs := hys.nils
     injection h with h; subst h
     have hbd := ck_some hx
     simp only [decide_eq_true_eq] at hbd
     by_cases h0 : m.length = 0
     ·have hm0 : m = [] := List.eq_nil_of_length_eq_zero h0
      subst hm0
      have hr := append_room (P := P) (ty := o.type) hu hi h2 src' hwc (base := none) (n := 0) (c := 0) (by simp) (w' := w) (by simp) (fun _ => rfl)
      have hmm := ok.addNil (d := i) (t := e) (v := 0) (T := de.ty) (go' := lk ((i, .row 0 e de.ty []) :: obj)) (hcr i (by simp)) (fun q => by rw [lk_cons, hgo])
      refine wp_value (v := .slice none 0 0) (w' := w) (run _ _ (by rw [hvs, hr]; simp)) (hk _ _ ⟨M.S, M.h, fun o => if i = o then ⟨true, 0, 0, 0⟩ else M.β o, lk ((i, .row 0 e de.ty []) :: obj), fun o => o = i ∨ M.U o, M.C⟩ .rfl hw hmm.1 hmm.2 ?_ rfl (fun q hq => hq.imp (fun h => by simp [h]) id))
      simp only [VR]
      refine ⟨.inl trivial, fun v0 t0 T0 l0 hg => ?_⟩
      simp only [lk_cons, if_pos] at hg
      injection hg with hg; injection hg with h1 h2 h3 h4
      subst h1; subst h3
      exact ⟨Nat.le_refl _, fun _ => by simp [Hd.slice]⟩
     ·obtain ⟨cs, cap, w', hcap, hcs', ⟨hw', ho⟩, hr, hel⟩ := fresh [] _ (nilsrc _ rfl) none 0 0 rfl rfl (by omega) (by simpa using hbd)
      simp only [List.nil_append, Nat.zero_add] at hel hcap hr
      have hmm := ok.addRow (d := i) (t := e) (v := 0) (T := de.ty) (l := m) (cs := cs) (f := (0, 0)) (cap := cap) (go' := lk ((i, .row 0 e de.ty m) :: obj)) (hcr i (by simp)) hmu (fun q => by rw [lk_cons, hgo]) hcap hcs' (fun j _ => by omega) hel
      refine wp_value (v := .slice (some ⟨M.h.size, 0, none⟩) m.length cap) (w' := w') (run _ _ (by rw [hvs, hr])) (hk _ _ _ ho (by simp [Mem.add, hw']) hmm.1 hmm.2 ?_ rfl (fun q hq => hq.imp (fun h => by simp [h]) id))
      simp only [VR]
      refine ⟨.inl rfl, fun v0 t0 T0 l0 hg => ?_⟩
      simp only [Mem.add, lk_cons, if_pos] at hg
      injection hg with hg; injection hg with h1 h2 h3 h4
      subst h1; subst h3
      have h4 := eq_of_heq h4
      subst h4
      exact ⟨Nat.le_refl _, fun _ => by simp [Mem.add, Hd.slice]⟩
    case own p ver =>
     rw [hcs] at hys
     cases hg : M.go p with
     | none => rw [hg] at h; cases h
     | some ob =>
      rw [hg] at h
      cases ob with
      | cells => cases h
      | row v' t' T l =>
       simp only [] at h
       cases hbq : (Nat.beq ver v' && Nat.beq t' e) with
       | false => rw [hbq] at h; cases h
       | true =>
        rw [hbq] at h; simp only [] at h
        simp only [Bool.and_eq_true] at hbq
        have e1 := beq_of hbq.1
        have e2 := beq_of hbq.2
        subst e1; subst e2
        split at h
        ·rename_i hT
         subst hT
         injection h with h; subst h
         have hbd := ck_some hx
         simp only [decide_eq_true_eq] at hbd
         have hvs := hys.own hg
         have hor := ok.obj p _ hg
         have hsl : SlR M.S M.h de.ty l ((M.β p).slice l.length) := by
          simp only [OR, Ty.seal_of hmu] at hor
          cases hn : (M.β p).nil with
          | true => rw [hn] at hor; simp only [Hd.slice, hn]; exact .inl ⟨hor, none, 0, rfl, fun _ => rfl⟩
          | false => rw [hn] at hor; simp only [Hd.slice, hn]; exact .inr ⟨_, _, _, rfl, hor.1, hor.2.1⟩
         obtain ⟨s0⟩ := src_list (P := P) (w := w) hsl hw (his.trans hsz)
         have hpro : ¬ B.ro p := hro p (by simp)
         -- the row's new head
         have done : ∀ (x : Hd) (S' : Seal) (h' : Array Obj) (w' : World), Outer w w' → w'.heap = h' → (Builtin.append_ #[t, t2] o.type #[(M.β p).slice l.length, a.eval yx]).run P w = .ok (x.slice (l ++ m).length) w' →
           (MOK B ⟨S', h', fun o => if p = o then x else M.β o, lk ((p, .row (ver + 1) t' de.ty (l ++ m)) :: obj), M.U, M.C⟩ ∧ Ext M ⟨S', h', fun o => if p = o then x else M.β o, lk ((p, .row (ver + 1) t' de.ty (l ++ m)) :: obj), M.U, M.C⟩) → o.wp P a w K Q := by
          intro x S' h' w' ho hw' hr hmm
          refine wp_value (v := x.slice (l ++ m).length) (w' := w') (run _ _ (by rw [hvs, hr])) (hk _ _ _ ho hw' hmm.1 hmm.2 ?_ rfl (fun q hq => .inr hq))
          simp only [VR]
          refine ⟨ok.used p (by rw [hg]; simp), fun v0 t0 T0 l0 hg' => ?_⟩
          simp only [lk_cons, if_pos] at hg'
          injection hg' with hg'; injection hg' with h1 h2 h3 h4
          subst h1; subst h3
          have h4 := eq_of_heq h4
          subst h4
          exact ⟨Nat.le_refl _, fun _ => by simp⟩
         have hgo' : ∀ q, lk ((p, Ob.row (ver + 1) t' de.ty (l ++ m)) :: obj) q = if p = q then some (.row (ver + 1) t' de.ty (l ++ m)) else M.go q := fun q => by rw [lk_cons, hgo]
         -- elsewhere
         have elsewhere : ∀ (base : Option Addr) (n cc : Nat), (M.β p).slice l.length = .slice base n cc → n = l.length → cc < n + m.length → o.wp P a w K Q := by
          intro base n cc hv hn hlt
          obtain ⟨cs, cap, w', hcap, hcs', ⟨hw', ho⟩, hr, hel⟩ := fresh l _ s0 base n cc hn hv hlt (by rw [hn]; exact hbd)
          subst hn
          refine done ⟨false, M.h.size, 0, cap⟩ (fun b x => M.S b x ∨ (b = M.h.size ∧ x < (l ++ m).length * de.ty.n)) _ w' ho hw' (by rw [hv, hr]; simp [Hd.slice]) ?_
          refine ok.grow (x := ⟨false, M.h.size, 0, cap⟩) hpro hg hgo' (fun b y hy => .inl hy) (fun b y hy => hy.imp id (fun h => ⟨rfl, h.1⟩)) (fun b y hy => cellAt_push (ok.lt b y hy)) (fun _ => .inl rfl)
           (fun b hb _ => by rw [Array.getElem?_push, if_neg (by omega)]) (by simp) (by simp) ?_
          simp only [OR, if_pos, Ty.seal_of hmu]
          refine ⟨by simpa using hcap, fun i hi => ?_, ⟨cs, (0, 0), by simp, by simpa using hcs', fun j _ => by simp⟩, Ty.muOk_of hmu, fun y hy => ⟨hmu, ?_⟩⟩
          ·have := hel (fun b x => M.S b x ∨ (b = M.h.size ∧ x < (l ++ m).length * de.ty.n)) (fun b x h => .inl h) (fun x h => .inr ⟨rfl, h⟩) i hi
           simpa using this
          ·rcases hy with hy | hy
           ·have := ok.lt _ _ hy; omega
           ·have := hy.2; omega
         cases hn : (M.β p).nil with
         | true =>
          simp only [OR, hn] at hor
          subst hor
          have hv : (M.β p).slice ([] : List de.ty.den).length = .slice none 0 0 := by simp [Hd.slice, hn]
          by_cases h0 : m.length = 0
          ·have hm0 : m = [] := List.eq_nil_of_length_eq_zero h0
           subst hm0
           have hr := append_room (P := P) (ty := o.type) hu hi h2 src' hwc (base := none) (n := 0) (c := 0) (by simp) (w' := w) (by simp) (fun _ => rfl)
           refine done (M.β p) M.S M.h w .rfl hw (by rw [hv, hr]; simp [Hd.slice, hn]) ?_
           refine ok.grow (x := M.β p) hpro hg hgo' (fun _ _ h => h) (fun _ _ h => .inl h) (fun _ _ _ => rfl) (fun h => by rw [hn] at h; cases h) (fun _ _ _ => rfl) (Nat.le_refl _) (fun h => by rw [hn] at h; cases h) ?_
           simp [OR, hn]
          ·exact elsewhere none 0 0 hv rfl (by simp; omega)
         | false =>
          have hv : (M.β p).slice l.length = .slice (some ⟨(M.β p).b, (M.β p).off, none⟩) l.length (M.β p).cap := by simp only [Hd.slice, hn]
          by_cases hroom : l.length + m.length ≤ (M.β p).cap
          ·simp only [OR, hn, Ty.seal_of hmu] at hor
           obtain ⟨hlc, hel, ⟨cs, f, hb, hcsz, hfz⟩, _, hS0⟩ := hor
           have hS := fun x hx => (hS0 x hx).2
           have hmn : l.length * de.ty.n + m.length * de.ty.n ≤ (M.β p).cap * de.ty.n := by rw [← Nat.add_mul]; exact Nat.mul_le_mul_right _ hroom
           have hvl : src'.vs.length = m.length * de.ty.n := src'.len
           have hisz : ie.size = de.ty.n := his.trans hsz
           have hcell : ∀ j, j < src'.vs.length → (w.cell? ⟨(M.β p).b, (M.β p).off + l.length * de.ty.n + 0 + j, none⟩).isSome = true := fun j hj => by
            rw [cell_eq, hw]; unfold cellAt; rw [hb]
            simp only []
            rw [Array.getElem?_eq_getElem (by omega)]; rfl
           have hfro : ∀ j, j < src'.vs.length → w.frozen? ⟨(M.β p).b, (M.β p).off + l.length * de.ty.n + 0 + j, none⟩ = false := fun j hj => by
            have := hfz ((M.β p).off + l.length * de.ty.n + 0 + j) (.inl (by omega))
            obtain ⟨flo, fhi⟩ := f
            simp only [World.frozen?, hw, hb]
            simp only [Bool.and_eq_false_iff, decide_eq_false_iff_not]
            simp only [] at this
            omega
           have hst := run_storeCells_cells (P := P) (M.β p).b ((M.β p).off + l.length * de.ty.n) src'.vs 0 w hcell hfro src'.one
           simp only [Nat.add_zero] at hst hcell
           have hr := append_room (P := P) (ty := o.type) hu hi h2 src' hwc (base := some ⟨(M.β p).b, (M.β p).off, none⟩) (n := l.length) (c := (M.β p).cap) hroom
            (w' := w.setCells (M.β p).b ((M.β p).off + l.length * de.ty.n) src'.vs) (fun ad had => by injection had with had; subst had; have eN : l.length * ie.size = l.length * de.ty.n := congrArg (l.length * ·) hisz; rw [eN, add_none]; exact hst) (fun h => by cases h)
           obtain ⟨g1, g2, g3⟩ := setCells_heap (M.β p).b src'.vs ((M.β p).off + l.length * de.ty.n) w
           have hold : ∀ b y, M.S b y → cellAt (w.setCells (M.β p).b ((M.β p).off + l.length * de.ty.n) src'.vs).heap b y = cellAt M.h b y := fun b y hy => by
            rw [← cell_eq, World.cell?_setCells_out (M.β p).b src'.vs _ w ⟨b, y, none⟩ (fun hbb _ => .inl (by have := hS y (hbb ▸ hy); exact this)), cell_eq, hw]
           refine done (M.β p) (fun b x => M.S b x ∨ (b = (M.β p).b ∧ x < (M.β p).off + (l ++ m).length * de.ty.n ∧ (M.β p).off + l.length * de.ty.n ≤ x)) _ (w.setCells (M.β p).b ((M.β p).off + l.length * de.ty.n) src'.vs) (setCells_outer _ _ _ _) rfl (by rw [hv, hr]; simp only [Hd.slice, hn, List.length_append]) ?_
           refine ok.grow (x := M.β p) hpro hg hgo' (fun b y hy => .inl hy) (fun b y hy => hy.imp id (fun h => ⟨hn, h.1⟩)) hold (fun _ => .inr ⟨hn, rfl⟩) (fun b hb' hne => by rw [g2 b (hne hn hn rfl), hw]) (by rw [g1, hw]; exact Nat.le_refl _)
            (fun _ => by rw [g1, hw]; exact (Array.getElem?_eq_some_iff.mp hb).1) ?_
           obtain ⟨cs', g4, g5⟩ := g3 cs t' f (by rw [hw]; exact hb)
           have e0 : (l ++ m).length * de.ty.n = l.length * de.ty.n + m.length * de.ty.n := by rw [List.length_append, Nat.add_mul]
           simp only [OR, if_pos, hn, Ty.seal_of hmu]
           refine ⟨by simpa using hroom, fun i hi => ?_, ⟨cs', f, g4, by omega, hfz⟩, Ty.muOk_of hmu, fun y hy => ⟨hmu, ?_⟩⟩
           ·by_cases h1 : i < l.length
            ·rw [List.getElem_append_left h1]
             exact (hel i h1).mono (fun b y hy => .inl hy) hold
            ·rw [List.getElem_append_right (by omega)]
             have := src'.el (fun b x => M.S b x ∨ (b = (M.β p).b ∧ x < (M.β p).off + (l ++ m).length * de.ty.n ∧ (M.β p).off + l.length * de.ty.n ≤ x)) (w.setCells (M.β p).b ((M.β p).off + l.length * de.ty.n) src'.vs).heap
              (M.β p).b ((M.β p).off + l.length * de.ty.n) (fun b y hy => .inl hy) hold (fun j hj => .inr ⟨rfl, by omega, by omega⟩) (fun j v hj => by
               have hj2 : j < src'.vs.length := (List.getElem?_eq_some_iff.mp hj).1
               rw [← cell_eq, World.cell?_setCells_in (M.β p).b src'.vs _ w hcell j hj2]
               rw [List.getElem?_eq_getElem hj2] at hj; exact hj) (i - l.length) (by simp at hi; omega)
             have e2 : (M.β p).off + l.length * de.ty.n + (i - l.length) * de.ty.n = (M.β p).off + i * de.ty.n := by
              have : i = l.length + (i - l.length) := by omega
              conv => rhs; rw [this, Nat.add_mul]
              omega
             rwa [e2] at this
           ·rcases hy with hy | hy
            ·have := hS y hy; omega
            ·exact hy.2.1
          ·exact elsewhere _ l.length _ hv rfl (by omega)
        ·cases hma : muAt M.go de.ty t' p ver with
         | none => rw [hma] at h; cases h
         | some l2 =>
          rw [hma] at h; simp only [muApp] at h
          cases hfl : de.ty.flat with
          | false => rw [hfl] at h; cases h
          | true =>
           rw [hfl] at h; injection h with h; subst h
           have hbd := ck_some hx
           simp only [decide_eq_true_eq] at hbd
           have hg2 := muAt_some hma
           have hvs := hys.own hg2
           obtain ⟨x2, h', w', ho, hw', hr, hm1, hm2⟩ := app_mu (P := P) (ty := o.type) ok hgo hw hu hi his hib hz hzs hsz hby h2 src' hg2 (Nat.le_refl _) hfl hbd (hro p (by simp))
           simp only [List.take_length] at hm1 hm2
           exact mudone p ver l2 x2 h' w' ho hw' (by rw [hvs]; exact hr) hm1 hm2 (ok.used p (by rw [hg2]; simp)) hk
    case part p ver a0 n0 =>
     rw [hcs] at hys
     cases ha0 : Nat.beq a0 0 with
     | false => rw [ha0] at h; cases h
     | true =>
      rw [ha0] at h; simp only [] at h
      have ha0 := beq_of ha0
      subst ha0
      cases hma : muAt M.go de.ty e p ver with
      | none => rw [hma] at h; cases h
      | some l2 =>
       rw [hma] at h; simp only [muApp] at h
       cases hfl : de.ty.flat with
       | false => rw [hfl] at h; cases h
       | true =>
        rw [hfl] at h; injection h with h; subst h
        have hbd := ck_some hx
        simp only [decide_eq_true_eq] at hbd
        have hg2 := muAt_some hma
        simp only [VR] at hys
        obtain ⟨hlen, hvs⟩ := (hys.2 _ _ _ _ hg2).2 rfl
        have hlen : n0 ≤ List.length (α := de.ty.den) l2 := by have : 0 + n0 ≤ List.length (α := de.ty.den) l2 := hlen; omega
        have hvs : a.eval ys = (M.β p).slice n0 := by
         rw [hvs]
         simp only [Hd.part, Hd.slice, Nat.zero_mul, Nat.add_zero, Nat.sub_zero, ite_self]
        have hlt : (l2.take n0).length = n0 := by rw [List.length_take]; omega
        rw [hlt] at hbd
        obtain ⟨x2, h', w', ho, hw', hr, hm1, hm2⟩ := app_mu (P := P) (ty := o.type) ok hgo hw hu hi his hib hz hzs hsz hby h2 src' hg2 hlen hfl hbd (hro p (by simp))
        refine mudone p ver (l2.take n0) x2 h' w' ho hw' (by rw [hvs, hlt]; exact hr) hm1 hm2 (ok.used p (by rw [hg2]; simp)) hk
theorem op_copy (htt : TTok P tt) (ok : MOK B M) (hgo : M.go = lk obj) (hE : RelE M env a.tmps) (hw : w.heap = M.h) {t t2 : Nat} {y z : Operand} {c : Call} (hop : o.op = .call c) (hc : c.callee = .builtin .copy) (hty : c.argTypes.toList = [t, t2]) (harg : c.args.toList = [y, z])
  {s : Stp} {Γ : Gam} (h : step tt Γ env (lk obj) o.dst (.call c) = some s) (x : s.α) (hro : ∀ d ∈ s.wr, ¬ B.ro d) (hk : Cont w B M obj s.cr (s.f x) a o.dst K) : o.wp P a w K Q := by
 have hy := operand_ok hE y
 have hz := operand_ok hE z
 have hargs : c.args = #[y, z] := by rw [← Array.toArray_toList (xs := c.args), harg]
 have htys : c.argTypes = #[t, t2] := by rw [← Array.toArray_toList (xs := c.argTypes), hty]
 simp only [step, hc, hty, harg] at h
 cases hst : sliceOf tt t with
 | none => rw [hst] at h; cases h
 | some q =>
  obtain ⟨e, de⟩ := q
  rw [hst] at h; simp only [] at h
  obtain ⟨d, hd, hkd, hde, hsz, hby, hmu⟩ := sliceOf_some hst
  split at h <;> first | (cases h; done) | skip
  rename_i hs1
  have hs1 := beq_of hs1
  split at h <;> first | (cases h; done) | skip
  rename_i o1 off n o2 off' n' hc1 hc2
  rw [hc1] at hy; rw [hc2] at hz
  simp only [VR] at hy hz
  obtain ⟨_, cap, hyv⟩ := hy
  obtain ⟨_, cap', hzv⟩ := hz
  split at h <;> first | (cases h; done) | skip
  rename_i t' l t3 l' hg hg'
  split at h <;> first | (cases h; done) | skip
  rename_i hm hm'
  cases ht : takeL (Nat.min n' n) (dropL off' l') with
  | none => rw [ht] at h; cases h
  | some cs =>
   rw [ht] at h; simp only [] at h
   cases hall : allOne (lk obj) cs with
   | false => rw [hall] at h; cases h
   | true =>
    rw [hall] at h; simp only [] at h
    cases hp : putL off cs l with
    | none => rw [hp] at h; cases h
    | some l2 =>
     rw [hp] at h; injection h with h; subst h
     have hor := ok.obj o1 _ (by rw [hgo]; exact hg)
     have hor' := ok.obj o2 _ (by rw [hgo]; exact hg')
     simp only [OR] at hor hor'
     obtain ⟨hn, hLies, _⟩ := hor
     obtain ⟨vs, hb, hl⟩ := hLies.cells hm
     obtain ⟨hn', hLies', _⟩ := hor'
     obtain ⟨vs', hb', hl'⟩ := hLies'.cells hm'
     obtain ⟨h1, h2⟩ := (hl'.drop off').take _ ht
     have hones := h1.ones (by rw [hgo]; exact hall)
     obtain ⟨hpv, hple⟩ := VRL.put off hp h1 hl
     obtain ⟨ie, ze, hi, his, _⟩ := (htt e de hde).info
     have hlen : ((vs'.toList.drop off').take (Nat.min n' n)).length = Nat.min n' n := by
      rw [List.length_take]; omega
     have hrun := run_copy_row (P := P) w t t2 o.type e (M.β o1).b off n cap ⟨(M.β o2).b, off', none⟩ n' cap' vs t' ((vs'.toList.drop off').take (Nat.min n' n)) ((htt t d hd).slice e hkd) (by rw [hi]; simp [his, hs1])
      (by rw [hw]; exact hb) hlen (fun j v hj => by
       rw [add_none, cell_eq, hw]; unfold cellAt; rw [hb']
       exact list_getElem?_toList hj) (by simpa using hple) hones
     have hsc := ok.setCells (t := t') (l := l) (l' := l2) (vs' := (vs.toList.take off ++ (vs'.toList.drop off').take (Nat.min n' n) ++ vs.toList.drop (off + ((vs'.toList.drop off').take (Nat.min n' n)).length)).toArray)
      (h' := (w.setRow (M.β o1).b (vs.toList.take off ++ (vs'.toList.drop off').take (Nat.min n' n) ++ vs.toList.drop (off + ((vs'.toList.drop off').take (Nat.min n' n)).length)).toArray).heap)
      (go' := lk ((o1, .cells t' l2) :: obj)) (d := o1) (hro o1 (by simp)) (by rw [hgo]; exact hg) (fun i => by rw [lk_cons, hgo])
      (setRow_heap w _ vs _ t' (0, 0) (by rw [hw]; exact hb)) (fun b hne => by rw [setRow_other w _ b _ hne, hw]) (by rw [setRow_size, hw]) (by simpa using hpv)
     refine wp_value (v := goInt ((vs'.toList.drop off').take (Nat.min n' n)).length) (w' := w.setRow (M.β o1).b (vs.toList.take off ++ (vs'.toList.drop off').take (Nat.min n' n) ++ vs.toList.drop (off + ((vs'.toList.drop off').take (Nat.min n' n)).length)).toArray) ?_ (hk _ _ _ ⟨rfl, rfl, rfl⟩ rfl hsc.1 hsc.2 ?_ rfl (fun _ h => .inr h))
     ·simp [execOp, hop, resolve, hc, hargs, htys, invoke, builtin, hyv, hzv, hrun]
     ·rw [hlen]; simp [VR, goInt]
theorem seqB_iff (a b : ByteArray) : seqB a b = true ↔ a = b := Go.MapKept.bytes_beq a b
theorem sameNow_str (a b : ByteArray) : Instr.sameNow .string (.string a) (.string b) = some (seqB a b) := rfl
theorem ent_find (s : ByteArray) : ∀ {l : List MapEntry} {d : List (ByteArray × ByteArray)} (i : Nat), EntR l d →
  (mhas s d = false ∧ mgetD s d = ByteArray.empty ∧ Instr.findNow .string (.string s) l i = some none ∧ (∀ v, mput s v d = d ++ [(s, v)])) ∨
  (mhas s d = true ∧ ∃ j, Instr.findNow .string (.string s) l i = some (some (i + j, .string (mgetD s d))) ∧ (∃ e, l[j]? = some e ∧ e.key = .string s) ∧ ∀ v, EntR (l.modify j fun e => { e with key := .string s, val := .string v }) (mput s v d))
 | [], d, i, h => by
  simp only [EntR] at h; subst h
  exact .inl ⟨rfl, rfl, rfl, fun v => rfl⟩
 | e :: r, d, i, h => by
  simp only [EntR] at h
  obtain ⟨k, v, q, rfl, hk, hv, h⟩ := h
  simp only [mhas, mgetD, mput, Instr.findNow, hk, sameNow_str]
  cases hs : seqB s k with
  | true =>
   have hsk := (seqB_iff s k).1 hs
   refine .inr ⟨rfl, 0, by simp [hv], ⟨e, rfl, by rw [hk, hsk]⟩, fun u => ?_⟩
   simp only [List.modify_zero_cons, EntR]
   exact ⟨k, u, q, rfl, by rw [hsk], rfl, h⟩
  | false =>
   rcases ent_find s (i + 1) h with ⟨h1, h2, h3, h4⟩ | ⟨h1, j, h2, ⟨e', h3, h3'⟩, h4⟩
   ·exact .inl ⟨h1, h2, h3, fun u => by simp [h4]⟩
   ·refine .inr ⟨h1, j + 1, by simp only [h2]; congr 3; omega, ⟨e', by simpa using h3, h3'⟩, fun u => ?_⟩
    simp only [List.modify_succ_cons, EntR]
    exact ⟨k, v, _, rfl, hk, hv, h4 u⟩
theorem EntR.push : ∀ {l : List MapEntry} {d : List (ByteArray × ByteArray)} {e : MapEntry} {s v : ByteArray}, EntR l d → e.key = .string s → e.val = .string v → EntR (l ++ [e]) (d ++ [(s, v)])
 | [], d, e, s, v, h, h1, h2 => by simp only [EntR] at h; subst h; simp only [List.nil_append, EntR]; exact ⟨s, v, [], rfl, h1, h2, rfl⟩
 | x :: r, d, e, s, v, h, h1, h2 => by
  simp only [EntR] at h
  obtain ⟨k, u, q, rfl, hk, hu, h⟩ := h
  simp only [List.cons_append, EntR]
  exact ⟨k, u, _, rfl, hk, hu, h.push h1 h2⟩
theorem mapOf_ok (htt : TTok P tt) {t : Nat} (h : mapOf tt t = true) : ∃ k e, P.underlying t = some (.map k e) ∧ P.underlying k = some .string ∧ ∀ w, (zeroValue e).run P w = .ok (.string ByteArray.empty) w := by
 unfold mapOf at h
 split at h <;> first | (cases h; done) | skip
 rename_i k e hk
 split at h <;> first | (cases h; done) | skip
 rename_i hks
 split at h <;> first | (cases h; done) | skip
 rename_i de hde
 split at h <;> first | (cases h; done) | skip
 rename_i s hkd hz
 have hz0 := beq_of h
 obtain ⟨d, hd, hkk⟩ := kindOf_some hk
 obtain ⟨d2, hd2, hkk2⟩ := kindOf_some hks
 refine ⟨k, e, (htt t d hd).map k e hkk, (htt k d2 hd2).str hkk2, fun w => ?_⟩
 obtain ⟨ti, hi, hzz⟩ := (htt e de hde).strz hkd
 simp [zeroValue, typeInfo, hi, hzz]
def lookR (c : Bool) (s : ByteArray) (b : Bool) : Value := match c with | true => .tuple #[.string s, .bool b] | false => .string s
theorem op_makeMap (htt : TTok P tt) (ok : MOK B M) (hgo : M.go = lk obj) (hw : w.heap = M.h) {t : Nat} {r : Option Operand} (hop : o.op = .makeMap t r) {s : Stp}
  {Γ : Gam} (h : step tt Γ env (lk obj) o.dst (.makeMap t r) = some s) (x : s.α) (hcr : ∀ d ∈ s.cr, ¬ M.U d) (hk : Cont w B M obj s.cr (s.f x) a o.dst K) : o.wp P a w K Q := by
 simp only [step] at h
 split at h <;> first | (cases h; done) | skip
 rename_i k e i _ hdst
 injection h with h; subst h
 have hm := ok.addMap (d := i) (t := t) (go' := lk ((i, .cells t [.mapd []]) :: obj)) (hcr i (by simp)) (fun q => by rw [lk_cons, hgo])
 refine wp_value (v := .map (some w.heap.size)) (w' := w.alloc (.map #[] 0)) ?_ (hk _ _ _ ⟨rfl, rfl, rfl⟩ (by simp [Mem.add, World.alloc, hw]) hm.1 hm.2 ?_ rfl (fun q hq => hq.imp (fun h => by simp [h]) id))
 ·have hr : (Instr.makeMap t none).run P w = .ok (.map (some w.heap.size)) (w.alloc (.map #[] 0)) := rfl
  simp only [execOp, hop, Option.map_none, Sem.run_bind, hr, Result.andThen_ok]; rfl
 ·simp only [VR]
  exact ⟨.inl ⟨rfl, trivial⟩, by simp [Mem.add, hw]⟩
theorem op_lookup (htt : TTok P tt) (ok : MOK B M) (hgo : M.go = lk obj) (hE : RelE M env a.tmps) (hw : w.heap = M.h) {t : Nat} {y z : Operand} {c : Bool} (hop : o.op = .lookup t y z c) {s : Stp}
  {Γ : Gam} (h : step tt Γ env (lk obj) o.dst (.lookup t y z c) = some s) (x : s.α) (hk : Cont w B M obj s.cr (s.f x) a o.dst K) : o.wp P a w K Q := by
 have hy := operand_ok hE y
 have hz := operand_ok hE z
 simp only [step] at h
 split at h <;> first | (cases h; done) | skip
 rename_i hmp
 split at h <;> first | (cases h; done) | skip
 rename_i st hcz
 split at h <;> first | (cases h; done) | skip
 rename_i o1 hcy
 split at h <;> first | (cases h; done) | skip
 rename_i t' l hg
 split at h <;> first | (cases h; done) | skip
 rename_i d hm
 injection h with h; subst h
 rw [hcy] at hy; rw [hcz] at hz
 simp only [VR] at hy
 obtain ⟨k, e, hu, huk, hze⟩ := mapOf_ok htt hmp
 have hor := ok.obj o1 _ (by rw [hgo]; exact hg)
 simp only [OR] at hor
 obtain ⟨es, ck, hb, he⟩ := hor.2.1.map hm
 have hobj := Go.MapKept.run_getObj_map (P := P) (w := w) (by rw [hw]; exact hb)
 have hck : ∀ em : Bool, (Instr.checkKey em 10000 k (.string st)).run P w = .ok () w := fun em => Go.MapKept.run_checkKey huk (d := .string) (k := .string st) trivial em 9999
 have hrun : (Instr.lookup t (.map (some (M.β o1).b)) (.string st) c).run P w = .ok (lookR c (mgetD st d) (mhas st d)) w := by
  rcases ent_find st 0 he with ⟨h1, h2, h3, _⟩ | ⟨h1, j, h2, _⟩
  ·have hf := Go.MapKept.run_findKey (P := P) (w := w) huk h3
   rw [h1, h2]
   cases c <;> simp [lookR, Instr.lookup, run_underlying hu, hobj, hck, hf, hze]
  ·have hf := Go.MapKept.run_findKey (P := P) (w := w) huk h2
   rw [h1]
   cases c <;> simp [lookR, Instr.lookup, run_underlying hu, hobj, hck, hf]
 refine wp_same (v := lookR c (mgetD st d) (mhas st d)) (w' := w) (d := ⟨_, []⟩) (by simp only [execOp, hop, hy.2, hz.str, Sem.run_bind, hrun, Result.andThen_ok]; rfl) hw ok hgo ?_ rfl hk
 cases c
 ·simp [VR, lookR]
 ·simp only [VR, lookR]; exact ⟨_, rfl, by simp [VRL, VR]⟩
theorem op_mapUpdate (htt : TTok P tt) (ok : MOK B M) (hgo : M.go = lk obj) (hE : RelE M env a.tmps) (hw : w.heap = M.h) {t : Nat} {y z u : Operand} (hop : o.op = .mapUpdate t y z u) {s : Stp}
  {Γ : Gam} (h : step tt Γ env (lk obj) o.dst (.mapUpdate t y z u) = some s) (x : s.α) (hro : ∀ d ∈ s.wr, ¬ B.ro d) (hk : Cont w B M obj s.cr (s.f x) a o.dst K) : o.wp P a w K Q := by
 have hy := operand_ok hE y
 have hz := operand_ok hE z
 have hu' := operand_ok hE u
 simp only [step] at h
 split at h <;> first | (cases h; done) | skip
 rename_i hmp
 split at h <;> first | (cases h; done) | skip
 rename_i o1 hcy
 split at h <;> first | (cases h; done) | skip
 rename_i st hcz
 split at h <;> first | (cases h; done) | skip
 rename_i v hcu
 split at h <;> first | (cases h; done) | skip
 rename_i t' l hg
 split at h <;> first | (cases h; done) | skip
 rename_i d hm
 injection h with h; subst h
 rw [hcy] at hy; rw [hcz] at hz; rw [hcu] at hu'
 simp only [VR] at hy
 obtain ⟨k, e, hu, huk, hze⟩ := mapOf_ok htt hmp
 have hgm : M.go o1 = some (.cells t' l) := by rw [hgo]; exact hg
 have hor := ok.obj o1 _ hgm
 simp only [OR] at hor
 obtain ⟨es, ck, hb, he⟩ := hor.2.1.map hm
 have hbw : w.heap[(M.β o1).b]? = some (.map es ck) := by rw [hw]; exact hb
 have hobj := Go.MapKept.run_getObj_map (P := P) (w := w) hbw
 have hck : (Instr.checkKey false 10000 k (.string st)).run P w = .ok () w := Go.MapKept.run_checkKey huk (d := .string) (k := .string st) trivial false 9999
 have hst : (Instr.keyThatStays (.string st) (.string st)).run P w = .ok (.string st) w := Go.MapKept.run_keyThatStays (d := .string) (k := .string st) trivial
 have done : ∀ (es' : Array MapEntry) (ck' : Nat), (Instr.mapUpdate t (.map (some (M.β o1).b)) (.string st) (.string v)).run P w = .ok () { w with heap := w.heap.setIfInBounds (M.β o1).b (.map es' ck') } → EntR es'.toList (mput st v d) → o.wp P a w K Q := by
  intro es' ck' hrun hent
  obtain ⟨g1, g2⟩ := Go.MapKept.heap_set (o' := .map es' ck') hbw
  have hsm := ok.setMap (t := t') (l := l) (m := mput st v d) (es := es') (c := ck') (h' := w.heap.setIfInBounds (M.β o1).b (.map es' ck')) (go' := lk ((o1, .cells t' [.mapd (mput st v d)]) :: obj)) (d := o1) (hro o1 (by simp)) hgm (fun i => by rw [lk_cons, hgo])
   g1 (fun b hne => by rw [g2 b hne, hw]) (by rw [Array.size_setIfInBounds, hw]) hent
  refine wp_skip' (w' := { w with heap := w.heap.setIfInBounds (M.β o1).b (.map es' ck') }) ?_ (hk _ _ _ ⟨rfl, rfl, rfl⟩ rfl hsm.1 hsm.2 ?_ rfl (fun _ h => .inr h))
  ·simp only [execOp, hop, hy.2, hz.str, hu'.str, Sem.run_bind, hrun, Result.andThen_ok]; rfl
  ·simp [VR]
 rcases ent_find st 0 he with ⟨h1, h2, h3, h4⟩ | ⟨h1, j, h2, ⟨e', h3, h3'⟩, h4⟩
 ·have hf := Go.MapKept.run_findKey (P := P) (w := w) huk h3
  refine done (es.push { key := .string st, val := .string v, born := ck }) (ck + 1) ?_ ?_
  ·simp [Instr.mapUpdate, run_underlying hu, hobj, hck, hf, Go.MapKept.run_setObj_map _ hbw]
  ·rw [h4, Array.toList_push]; exact he.push rfl rfl
 ·have hf := Go.MapKept.run_findKey (P := P) (w := w) huk h2
  refine done (es.modify j fun e => { e with key := .string st, val := .string v }) ck ?_ ?_
  ·have he' : es[j]? = some e' := by simpa using h3
   simp [Instr.mapUpdate, run_underlying hu, hobj, hck, hf, he', h3', hst, Go.MapKept.run_setObj_map _ hbw]
  ·rw [Array.toList_modify]; exact h4 v
end
end Go.Proofs.Ytcjiipbppkdkaaa.Eng
