/- The engine, part 2: what it means that memory holds what the evaluator keeps; and that this stays where memory grows. -/
import Derived.Test.YtcjiipbppkdkaaaEVal
import Derived.Laws.Sem
import Derived.Orders
namespace Go.Proofs.Ytcjiipbppkdkaaa.Eng
open Go
set_option linter.unusedVariables false
set_option linter.unusedSectionVars false
def cellAt (h : Array Obj) (b o : Nat) : Option Value :=
 match h[b]? with
 | some (.cells c _ _) => c[o]?
 | _ => none
theorem cell_eq (w : World) (b o : Nat) : w.cell? ⟨b, o, none⟩ = cellAt w.heap b o := by
 unfold World.cell? cellAt; cases w.heap[b]? with
 | none => rfl
 | some x => cases x <;> simp
structure Outer (w w' : World) : Prop where
 os : w'.os = w.os
 tape : w'.tape = w.tape
 output : w'.output = w.output
theorem Outer.rfl {w : World} : Outer w w := ⟨.refl _, .refl _, .refl _⟩
theorem Outer.trans {a b c : World} (h : Outer a b) (k : Outer b c) : Outer a c := ⟨k.os.trans h.os, k.tape.trans h.tape, k.output.trans h.output⟩
abbrev Seal := Nat → Nat → Prop
def FR (n : Nat) (v : Value) : Prop := ∃ b, v = .float .f64 b ∧ fcan b = n
def PtV (v : Value) : Prop := ∃ a, v = .pointer (some a)
def ElR (S : Seal) (h : Array Obj) : (T : Ty) → T.den → Nat → Nat → Prop
 | .int k, n, b, o => S b o ∧ cellAt h b o = some (.int k n)
 | .bool, x, b, o => S b o ∧ cellAt h b o = some (.bool x)
 | .str, s, b, o => S b o ∧ cellAt h b o = some (.string s)
 | .flt, n, b, o => S b o ∧ ∃ v, cellAt h b o = some v ∧ FR n v
 | .pt, _, b, o => S b o ∧ ∃ v, cellAt h b o = some v ∧ PtV v
 | .sl e, (l : List e.den), b, o => S b o ∧ ∃ v, cellAt h b o = some v ∧ ((l = [] ∧ ∃ a c, v = .slice a 0 c ∧ (a = none → c = 0)) ∨ ∃ b' o' c, v = .slice (some ⟨b', o', none⟩) l.length c ∧ l.length ≤ c ∧ ∀ (i : Nat) (hi : i < l.length), ElR S h e l[i] b' (o' + i * e.n))
 | .nil, _, _, _ => True
 | .cons x y, d, b, o => ElR S h x d.1 b o ∧ ElR S h y d.2 b (o + x.n)
 | .mu e, (x : e.den), b, o => ElR S h e x b o
def SlR (S : Seal) (h : Array Obj) (e : Ty) (l : List e.den) (v : Value) : Prop :=
 (l = [] ∧ ∃ a c, v = .slice a 0 c ∧ (a = none → c = 0)) ∨ ∃ b' o' c, v = .slice (some ⟨b', o', none⟩) l.length c ∧ l.length ≤ c ∧ ∀ (i : Nat) (hi : i < l.length), ElR S h e l[i] b' (o' + i * e.n)
theorem ElR.mono {S S' : Seal} {h h' : Array Obj} (hs : ∀ b x, S b x → S' b x) (hc : ∀ b x, S b x → cellAt h' b x = cellAt h b x) :
  ∀ (T : Ty) (d : T.den) (b o : Nat), ElR S h T d b o → ElR S' h' T d b o := by
 intro T
 induction T with
 | int k => intro d b o hh; exact ⟨hs _ _ hh.1, by rw [hc _ _ hh.1]; exact hh.2⟩
 | bool => intro d b o hh; exact ⟨hs _ _ hh.1, by rw [hc _ _ hh.1]; exact hh.2⟩
 | str => intro d b o hh; exact ⟨hs _ _ hh.1, by rw [hc _ _ hh.1]; exact hh.2⟩
 | flt => intro d b o hh; exact ⟨hs _ _ hh.1, by rw [hc _ _ hh.1]; exact hh.2⟩
 | pt => intro d b o hh; exact ⟨hs _ _ hh.1, by rw [hc _ _ hh.1]; exact hh.2⟩
 | sl e ih =>
  intro d b o hh
  obtain ⟨h1, v, h2, h3⟩ := hh
  refine ⟨hs _ _ h1, v, by rw [hc _ _ h1]; exact h2, ?_⟩
  rcases h3 with h3 | ⟨b', o', c, hv, hl, he⟩
  ·exact .inl h3
  ·exact .inr ⟨b', o', c, hv, hl, fun i hi => ih _ _ _ (he i hi)⟩
 | nil => intro d b o _; trivial
 | cons x y ihx ihy => intro d b o hh; exact ⟨ihx _ _ _ hh.1, ihy _ _ _ hh.2⟩
 | mu e ih => intro d b o hh; exact ih _ _ _ hh
def Ty.seal (T : Ty) (S : Seal) : Seal := match T with | .mu _ => fun _ _ => True | _ => S
theorem Ty.seal_of {T : Ty} {S : Seal} (h : T.isMu = false) : T.seal S = S := by cases T <;> first | rfl | cases h
theorem Ty.seal_mu {T : Ty} {S : Seal} (h : T.isMu = true) : T.seal S = fun _ _ => True := by cases T <;> first | rfl | cases h
theorem Ty.muOk_of {T : Ty} (h : T.isMu = false) : T.muOk = true := by cases T <;> first | rfl | cases h
theorem ElR.flat {S S' : Seal} {h h' : Array Obj} {b : Nat} (hc : ∀ x, cellAt h' b x = cellAt h b x) (hS : ∀ x, S b x → S' b x) :
  ∀ (T : Ty) (d : T.den) (o : Nat), T.flat = true → ElR S h T d b o → ElR S' h' T d b o := by
 intro T
 induction T with
 | int k => intro d o _ hh; exact ⟨hS _ hh.1, by rw [hc]; exact hh.2⟩
 | bool => intro d o _ hh; exact ⟨hS _ hh.1, by rw [hc]; exact hh.2⟩
 | str => intro d o _ hh; exact ⟨hS _ hh.1, by rw [hc]; exact hh.2⟩
 | flt => intro d o _ hh; exact ⟨hS _ hh.1, by rw [hc]; exact hh.2⟩
 | pt => intro d o _ hh; exact ⟨hS _ hh.1, by rw [hc]; exact hh.2⟩
 | sl e ih => intro d o hf; cases hf
 | nil => intro d o _ _; trivial
 | cons x y ihx ihy =>
  intro d o hf hh
  simp only [Ty.flat] at hf
  cases hx : x.flat with
  | false => rw [hx] at hf; cases hf
  | true => rw [hx] at hf; exact ⟨ihx _ _ hx hh.1, ihy _ _ hf hh.2⟩
 | mu e ih => intro d o hf; cases hf
theorem SlR.mono {S S' : Seal} {h h' : Array Obj} (hs : ∀ b x, S b x → S' b x) (hc : ∀ b x, S b x → cellAt h' b x = cellAt h b x)
  {e : Ty} {l : List e.den} {v : Value} (hh : SlR S h e l v) : SlR S' h' e l v := by
 rcases hh with h3 | ⟨b', o', c, hv, hl, he⟩
 ·exact .inl h3
 ·exact .inr ⟨b', o', c, hv, hl, fun i hi => ElR.mono hs hc _ _ _ _ (he i hi)⟩
structure Hd where
 nil : Bool
 b : Nat
 off : Nat
 cap : Nat
def Hd.slice (x : Hd) (n : Nat) : Value := match x.nil with
 | true => .slice none 0 0
 | false => .slice (some ⟨x.b, x.off, none⟩) n x.cap
def Hd.part (x : Hd) (ca a n : Nat) : Value := match x.nil with
 | true => .slice none 0 0
 | false => .slice (if x.cap = a then some ⟨x.b, x.off, none⟩ else some ⟨x.b, x.off + ca, none⟩) n (x.cap - a)
structure Mem where
 S : Seal
 h : Array Obj
 β : Nat → Hd
 go : Nat → Option Ob
 U : Nat → Prop
 C : Nat → Prop
def PsR (M : Mem) (l : List (Nat × Nat)) (v : Value) : Prop :=
 (l = [] ∧ v = .slice none 0 0) ∨ ∃ b o c, v = .slice (some ⟨b, o, none⟩) l.length c ∧ l.length ≤ c ∧ ∀ (i : Nat) (hi : i < l.length), M.S b (o + i) ∧ cellAt M.h b (o + i) = some (.pointer (some ⟨(M.β l[i].1).b, l[i].2, none⟩)) ∧ M.C l[i].1
def CapR (M : Mem) : List (Nat × Nat) → List Value → Prop
 | [], vs => vs = []
 | (o, off) :: r, vs => ∃ vr, vs = .pointer (some ⟨(M.β o).b, off, none⟩) :: vr ∧ M.C o ∧ CapR M r vr
mutual
def VR (M : Mem) : CV → Value → Prop
 | .top, _ => True
 | .und, v => v = undef
 | .int k n, v => v = .int k n
 | .bool b, v => v = .bool b
 | .str s, v => v = .string s
 | .flt n, v => FR n v
 | .sl T l, v => SlR M.S M.h T l v
 | .elt T x off, v => ∃ b o, v = .pointer (some ⟨b, o + off, none⟩) ∧ ElR M.S M.h T x b o
 | .own o ver, v => M.U o ∧ ∀ v0 t T l, M.go o = some (.row v0 t T l) → ver ≤ v0 ∧ (ver = v0 → v = (M.β o).slice l.length)
 | .ptr o off, v => M.C o ∧ v = .pointer (some ⟨(M.β o).b, off, none⟩)
 | .nilp, v => v = .pointer none
 | .nils, v => v = .slice none 0 0
 | .map o, v => M.C o ∧ v = .map (some (M.β o).b)
 | .mapd _, _ => False
 | .nilm, v => v = .map none
 | .qnil e, v => ∃ x, v = .bool x ∧ (e = false → x = false)
 | .psl l, v => PsR M l v
 | .prow o ver l, v => PsR M l v ∧ M.U o ∧ ∀ v0 t T l, M.go o = some (.row v0 t T l) → ver ≤ v0 ∧ (ver = v0 → v = (M.β o).slice l.length)
 | .pelt a off, v => ∃ b o, v = .pointer (some ⟨b, o, none⟩) ∧ M.S b o ∧ cellAt M.h b o = some (.pointer (some ⟨(M.β a).b, off, none⟩)) ∧ M.C a
 | .pidx o off n k j, v => M.C o ∧ 0 ≤ j ∧ j < (n : Int) ∧ v = .pointer (some ⟨(M.β o).b, off + j.toNat, none⟩)
 | .asl o off len, v => M.C o ∧ ∃ c, v = .slice (some ⟨(M.β o).b, off, none⟩) len c
 | .fn f, v => v = .func (.func f) #[] #[]
 | .clo f l, v => ∃ vs, v = .func (.func f) #[] vs ∧ CapR M l vs.toList
 | .mptr o ver i off, v => M.U o ∧ ∀ v0 t T l, M.go o = some (.row v0 t T l) → ver ≤ v0 ∧ (ver = v0 → (M.β o).nil = false ∧ 0 ≤ i ∧ i < (l.length : Int) ∧ v = .pointer (some ⟨(M.β o).b, (M.β o).off + i.toNat * T.n + off, none⟩))
 | .part o ver a n, v => M.U o ∧ ∀ v0 t T l, M.go o = some (.row v0 t T l) → ver ≤ v0 ∧ (ver = v0 → a + n ≤ l.length ∧ v = (M.β o).part (a * T.n) a n)
 | .agg l, v => ∃ vs, v = .agg vs ∧ VRL M l vs.toList
 | .tup l, v => ∃ vs, v = .tuple vs ∧ VRL M l vs.toList
def VRL (M : Mem) : List CV → List Value → Prop
 | [], vs => vs = []
 | c :: r, vs => ∃ v vr, vs = v :: vr ∧ VR M c v ∧ VRL M r vr
end
structure Ext (M M' : Mem) : Prop where
 S : ∀ b x, M.S b x → M'.S b x
 cell : ∀ b x, M.S b x → cellAt M'.h b x = cellAt M.h b x
 U : ∀ o, M.U o → M'.U o
 cells : ∀ o, M.C o → M'.C o ∧ (M'.β o).b = (M.β o).b
 row : ∀ o, M.U o → ∀ v t T l, M'.go o = some (.row v t T l) → ∃ v0 t0 T0 l0, M.go o = some (.row v0 t0 T0 l0) ∧ v0 ≤ v ∧ (v = v0 → l.length = l0.length ∧ M'.β o = M.β o ∧ T.n = T0.n)
theorem Ext.refl (M : Mem) : Ext M M := ⟨fun _ _ h => h, fun _ _ _ => rfl, fun _ h => h, fun _ h => ⟨h, rfl⟩, fun _ _ v t T l h => ⟨v, t, T, l, h, Nat.le_refl _, fun _ => ⟨rfl, rfl, rfl⟩⟩⟩
theorem Ext.trans {M M' M'' : Mem} (a : Ext M M') (b : Ext M' M'') : Ext M M'' where
 S := fun x y h => b.S _ _ (a.S _ _ h)
 cell := fun x y h => (b.cell _ _ (a.S _ _ h)).trans (a.cell _ _ h)
 U := fun o h => b.U _ (a.U _ h)
 cells := fun o hc => by
  obtain ⟨h1, e1⟩ := a.cells o hc
  obtain ⟨h2, e2⟩ := b.cells o h1
  exact ⟨h2, e2.trans e1⟩
 row := fun o hu v t T l h => by
  obtain ⟨v1, t1, T1, l1, h1, hv1, e1⟩ := b.row o (a.U _ hu) v t T l h
  obtain ⟨v0, t0, T0, l0, h0, hv0, e0⟩ := a.row o hu v1 t1 T1 l1 h1
  refine ⟨v0, t0, T0, l0, h0, Nat.le_trans hv0 hv1, fun hv => ?_⟩
  have h1v : v = v1 := Nat.le_antisymm (hv ▸ hv0) hv1
  have h0v : v1 = v0 := h1v.symm.trans hv
  exact ⟨(e1 h1v).1.trans (e0 h0v).1, (e1 h1v).2.1.trans (e0 h0v).2.1, (e1 h1v).2.2.trans (e0 h0v).2.2⟩
theorem CapR.ext {M M' : Mem} (e : Ext M M') : ∀ (l : List (Nat × Nat)) (vs : List Value), CapR M l vs → CapR M' l vs
 | [], _, h => h
 | (o, off) :: r, vs, h => by
  obtain ⟨vr, h1, h2, h3⟩ := h
  obtain ⟨hc, hb⟩ := e.cells o h2
  exact ⟨vr, by rw [hb]; exact h1, hc, CapR.ext e r vr h3⟩
theorem PsR.ext {M M' : Mem} (e : Ext M M') {l : List (Nat × Nat)} {v : Value} (h : PsR M l v) : PsR M' l v := by
 rcases h with h | ⟨b, o, c, hv, hc, h⟩
 ·exact .inl h
 ·refine .inr ⟨b, o, c, hv, hc, fun i hi => ?_⟩
  obtain ⟨h1, h2, h3⟩ := h i hi
  obtain ⟨h4, h5⟩ := e.cells _ h3
  exact ⟨e.S _ _ h1, by rw [e.cell _ _ h1, h5]; exact h2, h4⟩
theorem ownV.ext {M M' : Mem} (e : Ext M M') {o ver : Nat} {v : Value} (h : M.U o ∧ ∀ v0 t T l, M.go o = some (.row v0 t T l) → ver ≤ v0 ∧ (ver = v0 → v = (M.β o).slice l.length)) :
  M'.U o ∧ ∀ v0 t T l, M'.go o = some (.row v0 t T l) → ver ≤ v0 ∧ (ver = v0 → v = (M'.β o).slice l.length) := by
 refine ⟨e.U _ h.1, fun v0 t T l hg => ?_⟩
 obtain ⟨v1, t1, T1, l1, h1, hle, hb⟩ := e.row o h.1 v0 t T l hg
 obtain ⟨hv, hh⟩ := h.2 v1 t1 T1 l1 h1
 refine ⟨Nat.le_trans hv hle, fun hver => ?_⟩
 subst hver
 have hvv : v1 = ver := Nat.le_antisymm hle hv
 subst hvv
 obtain ⟨k1, k2, _⟩ := hb rfl
 rw [k1, k2]; exact hh rfl
mutual
theorem VR.ext {M M' : Mem} (e : Ext M M') : ∀ (c : CV) (v : Value), VR M c v → VR M' c v
 | .top, _, _ => by simp [VR]
 | .und, _, h => by simpa [VR] using h
 | .int _ _, _, h => by simpa [VR] using h
 | .bool _, _, h => by simpa [VR] using h
 | .str _, _, h => by simpa [VR] using h
 | .flt _, _, h => by simpa [VR] using h
 | .qnil _, _, h => by simpa only [VR] using h
 | .psl _, _, h => by simp only [VR] at h ⊢; exact h.ext e
 | .prow _ _ _, _, h => by simp only [VR] at h ⊢; exact ⟨h.1.ext e, ownV.ext e h.2⟩
 | .pelt _ _, _, h => by
  simp only [VR] at h ⊢
  obtain ⟨b, o, h1, h2, h3, h4⟩ := h
  obtain ⟨h5, h6⟩ := e.cells _ h4
  exact ⟨b, o, h1, e.S _ _ h2, by rw [e.cell _ _ h2, h6]; exact h3, h5⟩
 | .sl _ _, _, h => by simp only [VR] at h ⊢; exact h.mono e.S e.cell
 | .elt _ _ _, _, h => by
  simp only [VR] at h ⊢
  obtain ⟨b, o, hv, hh⟩ := h
  exact ⟨b, o, hv, hh.mono e.S e.cell⟩
 | .own o ver, v, h => by
  simp only [VR] at h ⊢
  refine ⟨e.U _ h.1, fun v0 t T l hg => ?_⟩
  obtain ⟨v1, t1, T1, l1, h1, hle, hb⟩ := e.row o h.1 v0 t T l hg
  obtain ⟨hv, hh⟩ := h.2 v1 t1 T1 l1 h1
  refine ⟨Nat.le_trans hv hle, fun hver => ?_⟩
  have h01 : v0 = v1 := Nat.le_antisymm (hver ▸ hv) hle
  rw [hh (hver.trans h01), (hb h01).1, (hb h01).2.1]
 | .ptr o off, v, h => by
  simp only [VR] at h ⊢
  obtain ⟨hc, hb⟩ := e.cells o h.1
  exact ⟨hc, by rw [hb]; exact h.2⟩
 | .nilp, _, h => by simpa [VR] using h
 | .nils, _, h => by simpa [VR] using h
 | .map o, v, h => by
  simp only [VR] at h ⊢
  obtain ⟨hc, hb⟩ := e.cells o h.1
  exact ⟨hc, by rw [hb]; exact h.2⟩
 | .mapd _, _, h => by simp [VR] at h
 | .nilm, _, h => by simpa [VR] using h
 | .pidx o off n k j, v, h => by
  simp only [VR] at h ⊢
  obtain ⟨hc, hb⟩ := e.cells o h.1
  exact ⟨hc, h.2.1, h.2.2.1, by rw [hb]; exact h.2.2.2⟩
 | .asl o off len, v, h => by
  simp only [VR] at h ⊢
  obtain ⟨hc, hb⟩ := e.cells o h.1
  exact ⟨hc, by rw [hb]; exact h.2⟩
 | .fn _, _, h => by simpa [VR] using h
 | .clo f l, _, h => by
  simp only [VR] at h ⊢
  obtain ⟨vs, hv, hl⟩ := h
  exact ⟨vs, hv, hl.ext e⟩
 | .mptr o ver i off, v, h => by
  simp only [VR] at h ⊢
  refine ⟨e.U _ h.1, fun v0 t T l hg => ?_⟩
  obtain ⟨v1, t1, T1, l1, h1, hle, hb⟩ := e.row o h.1 v0 t T l hg
  obtain ⟨hv, hh⟩ := h.2 v1 t1 T1 l1 h1
  refine ⟨Nat.le_trans hv hle, fun hver => ?_⟩
  have h01 : v0 = v1 := Nat.le_antisymm (hver ▸ hv) hle
  obtain ⟨e1, e2, e3⟩ := hb h01
  rw [e2, e1, e3]; exact hh (hver.trans h01)
 | .part o ver a n, v, h => by
  simp only [VR] at h ⊢
  refine ⟨e.U _ h.1, fun v0 t T l hg => ?_⟩
  obtain ⟨v1, t1, T1, l1, h1, hle, hb⟩ := e.row o h.1 v0 t T l hg
  obtain ⟨hv, hh⟩ := h.2 v1 t1 T1 l1 h1
  refine ⟨Nat.le_trans hv hle, fun hver => ?_⟩
  have h01 : v0 = v1 := Nat.le_antisymm (hver ▸ hv) hle
  obtain ⟨e1, e2, e3⟩ := hb h01
  rw [e2, e1, e3]; exact hh (hver.trans h01)
 | .agg l, _, h => by
  simp only [VR] at h ⊢
  obtain ⟨vs, hv, hl⟩ := h
  exact ⟨vs, hv, VRL.ext e l _ hl⟩
 | .tup l, _, h => by
  simp only [VR] at h ⊢
  obtain ⟨vs, hv, hl⟩ := h
  exact ⟨vs, hv, VRL.ext e l _ hl⟩
theorem VRL.ext {M M' : Mem} (e : Ext M M') : ∀ (c : List CV) (v : List Value), VRL M c v → VRL M' c v
 | [], _, h => by simpa [VRL] using h
 | c :: r, vs, h => by
  simp only [VRL] at h ⊢
  obtain ⟨v, vr, hv, h1, h2⟩ := h
  exact ⟨v, vr, hv, VR.ext e c v h1, VRL.ext e r vr h2⟩
end
def EntR : List MapEntry → List (ByteArray × ByteArray) → Prop
 | [], d => d = []
 | e :: r, d => ∃ s v q, d = (s, v) :: q ∧ e.key = .string s ∧ e.val = .string v ∧ EntR r q
theorem VRL.noMap {M : Mem} {l : List CV} {vs : List Value} (h : VRL M l vs) : isMap l = none := by
 unfold isMap
 split
 ·simp only [VRL] at h
  obtain ⟨v, vr, _, h1, _⟩ := h
  simp [VR] at h1
 ·rfl
def Lies (M : Mem) (b t : Nat) (l : List CV) : Prop :=
 match isMap l with
 | none => ∃ vs, M.h[b]? = some (.cells vs t (0, 0)) ∧ VRL M l vs.toList
 | some d => ∃ es c, M.h[b]? = some (.map es c) ∧ EntR es.toList d
theorem Lies.cells {M : Mem} {b t : Nat} {l : List CV} (h : Lies M b t l) (hm : isMap l = none) : ∃ vs, M.h[b]? = some (.cells vs t (0, 0)) ∧ VRL M l vs.toList := by
 unfold Lies at h; rw [hm] at h; exact h
theorem Lies.map {M : Mem} {b t : Nat} {l : List CV} {d : List (ByteArray × ByteArray)} (h : Lies M b t l) (hm : isMap l = some d) : ∃ es c, M.h[b]? = some (.map es c) ∧ EntR es.toList d := by
 unfold Lies at h; rw [hm] at h; exact h
theorem Lies.of_cells {M : Mem} {b t : Nat} {l : List CV} {vs : Array Value} (h : M.h[b]? = some (.cells vs t (0, 0))) (hl : VRL M l vs.toList) : Lies M b t l := by
 unfold Lies; rw [hl.noMap]; exact ⟨vs, h, hl⟩
theorem Lies.lt {M : Mem} {b t : Nat} {l : List CV} (h : Lies M b t l) : b < M.h.size := by
 unfold Lies at h
 split at h
 ·obtain ⟨vs, h1, _⟩ := h; exact (Array.getElem?_eq_some_iff.mp h1).1
 ·obtain ⟨es, c, h1, _⟩ := h; exact (Array.getElem?_eq_some_iff.mp h1).1
theorem Lies.ext {M M' : Mem} {b t : Nat} {l : List CV} (h : Lies M b t l) (e : Ext M M') (hh : M'.h[b]? = M.h[b]?) : Lies M' b t l := by
 unfold Lies at h ⊢
 split
 ·rename_i hm
  rw [hm] at h
  obtain ⟨vs, h1, h2⟩ := h
  exact ⟨vs, by rw [hh]; exact h1, h2.ext e⟩
 ·rename_i d hm
  rw [hm] at h
  obtain ⟨es, c, h1, h2⟩ := h
  exact ⟨es, c, by rw [hh]; exact h1, h2⟩
def OR (M : Mem) (o : Nat) : Ob → Prop
 | .cells t l => (M.β o).nil = false ∧ Lies M (M.β o).b t l ∧ ∀ x, ¬ M.S (M.β o).b x
 | .row _ t T l => match (M.β o).nil with
  | true => l = []
  | false => l.length ≤ (M.β o).cap ∧ (∀ (i : Nat) (hi : i < l.length), ElR (T.seal M.S) M.h T l[i] (M.β o).b ((M.β o).off + i * T.n)) ∧
   (∃ cs f, M.h[(M.β o).b]? = some (.cells cs t f) ∧ (M.β o).off + (M.β o).cap * T.n ≤ cs.size ∧ ∀ i, (i < (M.β o).off + (M.β o).cap * T.n ∨ 1 < T.n) → ¬ (f.1 ≤ i ∧ i < f.2)) ∧
   T.muOk = true ∧ ∀ x, M.S (M.β o).b x → T.isMu = false ∧ x < (M.β o).off + l.length * T.n
def live (M : Mem) (o : Nat) : Prop := M.go o ≠ none ∧ (M.β o).nil = false
structure Base where
 h : Array Obj
 S : Seal
 X : Nat → Prop
 ro : Nat → Prop
structure MOK (B : Base) (M : Mem) : Prop where
 obj : ∀ o ob, M.go o = some ob → OR M o ob
 used : ∀ o, M.go o ≠ none → M.U o
 cu : ∀ o, M.C o → M.U o
 rc : ∀ o v t T l, M.go o = some (.row v t T l) → ¬ M.C o
 cc : ∀ o t l, M.go o = some (.cells t l) → M.C o
 inj : ∀ o o', live M o → live M o' → o ≠ o' → (M.β o).b ≠ (M.β o').b
 lt : ∀ b x, M.S b x → b < M.h.size
 size : B.h.size ≤ M.h.size
 keep : ∀ b, b < B.h.size → ¬ B.X b → M.h[b]? = B.h[b]?
 base : ∀ b x, B.S b x → M.S b x
 cell : ∀ b x, B.S b x → cellAt M.h b x = cellAt B.h b x
 new : ∀ b x, M.S b x → B.S b x ∨ B.h.size ≤ b ∨ B.X b
 own : ∀ o, live M o → B.ro o ∨ B.h.size ≤ (M.β o).b ∨ B.X (M.β o).b
def RelE (M : Mem) (env : List (Nat × CV)) (tmps : Array Value) : Prop :=
 ∀ i c, lk env i = some c → ∃ v, tmps[i]? = some v ∧ VR M c v
theorem RelE.ext {M M' : Mem} (e : Ext M M') {env : List (Nat × CV)} {tmps : Array Value} (h : RelE M env tmps) : RelE M' env tmps :=
 fun i c hc => let ⟨v, h1, h2⟩ := h i c hc; ⟨v, h1, h2.ext e⟩
theorem beq_ne {i j : Nat} (h : i ≠ j) : Nat.beq i j = false := by
 cases e : Nat.beq i j with
 | false => rfl
 | true => exact absurd (Nat.eq_of_beq_eq_true e) h
theorem beq_of {i j : Nat} (h : Nat.beq i j = true) : i = j := Nat.eq_of_beq_eq_true h
theorem lk_cons {α : Type} (j : Nat) (v : α) (r : List (Nat × α)) (i : Nat) : lk ((j, v) :: r) i = if j = i then some v else lk r i := by
 simp only [lk]
 by_cases h : j = i
 ·rw [if_pos h]; subst h; simp
 ·rw [if_neg h, beq_ne (Ne.symm h)]
theorem memN_iff (l : List Nat) (i : Nat) : memN l i = true ↔ i ∈ l := by
 induction l with
 | nil => simp [memN]
 | cons j r ih =>
  simp only [memN]
  by_cases h : j = i
  ·subst h; simp
  ·rw [beq_ne (Ne.symm h)]; simp [ih, Ne.symm h]
theorem anyN_iff (p : Nat → Bool) (l : List Nat) : anyN p l = true ↔ ∃ x ∈ l, p x = true := by
 induction l with
 | nil => simp [anyN]
 | cons j r ih =>
  simp only [anyN]
  cases h : p j with
  | true => simp [h]
  | false => simp [ih, h]
theorem RelE.put {M : Mem} {env : List (Nat × CV)} {a : Act} (h : RelE M env a.tmps) {dst : Option Nat} {c : CV} {v : Value} {nt : Nat} (hs : a.tmps.size = nt)
  (hd : dstOk nt dst = true) (hv : VR M c v) : RelE M (putE dst c env) (a.put dst v).tmps := by
 cases dst with
 | none => exact h
 | some d =>
  have hlt : d < a.tmps.size := by simp [dstOk, Nat.blt] at hd; omega
  intro i x hx
  simp only [putE, lk_cons] at hx
  simp only [Act.put]
  by_cases hi : d = i
  ·subst hi
   rw [if_pos rfl] at hx
   injection hx with hx; subst hx
   exact ⟨v, by simp [hlt], hv⟩
  ·rw [if_neg hi] at hx
   obtain ⟨u, hu, hvr⟩ := h i x hx
   exact ⟨u, by rw [Array.getElem?_setIfInBounds_ne hi]; exact hu, hvr⟩
theorem put_size (a : Act) (dst : Option Tmp) (v : Value) : (a.put dst v).tmps.size = a.tmps.size := by cases dst <;> simp [Act.put]
theorem put_defers (a : Act) (dst : Option Tmp) (v : Value) : (a.put dst v).defers = a.defers := by cases dst <;> simp [Act.put]
theorem operand_ok {M : Mem} {env : List (Nat × CV)} {a : Act} (h : RelE M env a.tmps) (x : Operand) : VR M (operand env x) (a.eval x) := by
 cases x with
 | tmp t =>
  simp only [operand, Act.eval]
  cases hl : lk env t with
  | none => simp [VR]
  | some c =>
   obtain ⟨v, h1, h2⟩ := h t c hl
   have : a.tmps.getD t undef = v := by simp [Array.getD_eq_getD_getElem?, h1]
   rw [this]; exact h2
 | const v =>
  unfold operand Act.eval
  split <;> simp_all [VR, FR]
 | global g => simp [operand, VR]
 | func f => simp [operand, Act.eval, VR]
end Go.Proofs.Ytcjiipbppkdkaaa.Eng
