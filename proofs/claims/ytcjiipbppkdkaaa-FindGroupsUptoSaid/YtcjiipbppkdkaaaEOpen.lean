/- The engine, part 16: arguments that read as data are opened; what a law's row needs of its call. -/
import Derived.Test.YtcjiipbppkdkaaaETab
import Derived.Test.YtcjiipbppkdkaaaRows
import Derived.ChangeArms
import Derived.DataReads
import Derived.WideShapes
import Derived.Below
namespace Go.Proofs.Ytcjiipbppkdkaaa.Eng
open Go Go.Proofs.Ytcjiipbppkdkaaa Go.RowKit
set_option linter.unusedVariables false
set_option linter.unusedSimpArgs false
def wfT : (T : Ty) → T.den → Prop
 | .int k, n => (Lit.int k n).wf = true
 | .bool, _ => True
 | .str, _ => True
 | .flt, n => (Lit.float .f64 n).wf = true
 | .pt, _ => False
 | .sl e, (l : List e.den) => ∀ x ∈ l, wfT e x
 | .nil, _ => True
 | .cons a b, x => wfT a x.1 ∧ wfT b x.2
 | .mu _, _ => False
def sumB {α : Type} (b : α → Nat) : List α → Nat
 | [] => 1
 | x :: l => b x + sumB b l
def bulkT : (T : Ty) → T.den → Nat
 | .int _, _ => 1
 | .bool, _ => 1
 | .str, s => ByteArray.size s + 1
 | .flt, _ => 1
 | .pt, _ => 1
 | .sl e, (l : List e.den) => sumB (bulkT e) l
 | .nil, _ => 0
 | .cons a b, x => bulkT a x.1 + bulkT b x.2
 | .mu _, _ => 0
theorem sumB_ge {α : Type} (b : α → Nat) (l : List α) : ∀ x ∈ l, b x ≤ sumB b l := by
 induction l with
 | nil => intro x h; cases h
 | cons y l ih =>
  intro x h
  simp only [sumB]
  rcases List.mem_cons.1 h with rfl | h
  ·omega
  ·have := ih x h; omega
theorem sumB_len {α : Type} (b : α → Nat) (h1 : ∀ x, 1 ≤ b x) (l : List α) : l.length ≤ sumB b l := by
 induction l with
 | nil => simp
 | cons y l ih => simp only [sumB, List.length_cons]; have := h1 y; omega
def tyC (P : Program) : Ty → (Nat → Bool) × (Nat → List Field → Bool)
 | .int k => (fun t => match P.underlying t with | some (.int k') => (if k' = k then true else false) | _ => false, fun _ _ => false)
 | .bool => (fun t => match P.underlying t with | some .bool => true | _ => false, fun _ _ => false)
 | .str => (fun t => match P.underlying t with | some .string => true | _ => false, fun _ _ => false)
 | .flt => (fun _ => false, fun _ _ => false)
 | .pt => (fun _ => false, fun _ _ => false)
 | .mu _ => (fun _ => false, fun _ _ => false)
 | .sl e => (fun t => match P.underlying t with | some (.slice te) => Nat.beq (P.cellsOf te) e.n && Nat.blt 0 e.n && (tyC P e).1 te | _ => false, fun _ _ => false)
 | .nil => (fun t => match P.underlying t with | some (.struct F) => Nat.beq (P.cellsOf t) 0 && (match F.toList with | [] => true | _ => false) | _ => false, fun _ fs => match fs with | [] => true | _ => false)
 | .cons a b =>
  let fB : Nat → List Field → Bool := fun o fs => match fs with
   | f :: fs => Nat.beq f.offset o && Nat.beq (P.cellsOf f.type) a.n && (tyC P a).1 f.type && (tyC P b).2 (o + a.n) fs
   | [] => false
  (fun t => match P.underlying t with | some (.struct F) => Nat.beq (P.cellsOf t) (a.n + b.n) && fB 0 F.toList | _ => false, fB)
def M0 (w : World) : Mem := ⟨fun b _ => b < w.heap.size, w.heap, fun _ => ⟨true, 0, 0, 0⟩, fun _ => none, fun _ => False, fun _ => False⟩
theorem el_of_vrl {M : Mem} : ∀ (T : Ty) (x : T.den) (r : List CV) (cs : List Value) (b o : Nat), wfT T x → VRL M (toC T x r) cs → (∀ j, j < T.n → M.S b (o + j) ∧ cellAt M.h b (o + j) = cs[j]?) → ElR M.S M.h T x b o ∧ VRL M r (cs.drop T.n) := by
 intro T
 have one : ∀ {c : CV} {r : List CV} {cs : List Value} {b o : Nat}, VRL M (c :: r) cs → (∀ j, j < 1 → M.S b (o + j) ∧ cellAt M.h b (o + j) = cs[j]?) → ∃ v, M.S b o ∧ cellAt M.h b o = some v ∧ VR M c v ∧ VRL M r (cs.drop 1) := by
  intro c r cs b o h hc
  simp only [VRL] at h
  obtain ⟨v, vr, rfl, h1, h2⟩ := h
  obtain ⟨g1, g2⟩ := hc 0 (by omega)
  exact ⟨v, g1, by simpa using g2, h1, by simpa using h2⟩
 induction T with
 | int k => intro x r cs b o hw h hc; obtain ⟨v, g1, g2, g3, g4⟩ := one h hc; exact ⟨⟨g1, by rw [g2, g3.int]⟩, g4⟩
 | bool => intro x r cs b o hw h hc; obtain ⟨v, g1, g2, g3, g4⟩ := one h hc; exact ⟨⟨g1, by rw [g2, g3.bool]⟩, g4⟩
 | str => intro x r cs b o hw h hc; obtain ⟨v, g1, g2, g3, g4⟩ := one h hc; exact ⟨⟨g1, by rw [g2, g3.str]⟩, g4⟩
 | flt => intro x r cs b o hw h hc; obtain ⟨v, g1, g2, g3, g4⟩ := one h hc; exact ⟨⟨g1, v, g2, by simpa only [VR] using g3⟩, g4⟩
 | pt => intro x r cs b o hw h hc; exact hw.elim
 | sl e ih => intro x r cs b o hw h hc; obtain ⟨v, g1, g2, g3, g4⟩ := one h hc; exact ⟨⟨g1, v, g2, by simpa only [VR, SlR] using g3⟩, g4⟩
 | nil => intro x r cs b o hw h hc; exact ⟨trivial, by simpa [toC, Ty.n] using h⟩
 | cons p q ihp ihq =>
  intro x r cs b o hw h hc
  simp only [toC] at h
  obtain ⟨g1, g2⟩ := ihp x.1 _ cs b o hw.1 h (fun j hj => hc j (by simp only [Ty.n]; omega))
  obtain ⟨g3, g4⟩ := ihq x.2 r _ b (o + p.n) hw.2 g2 (fun j hj => by
   have := hc (p.n + j) (by simp only [Ty.n]; omega)
   rw [List.getElem?_drop, Nat.add_assoc]; exact this)
  exact ⟨⟨g1, g3⟩, by rw [List.drop_drop] at g4; exact g4⟩
 | mu e ih => intro x r cs b o hw h hc; exact hw.elim
theorem toC_app : ∀ (T : Ty) (x : T.den) (r : List CV), toC T x r = toC T x [] ++ r
 | .int _, _, _ => rfl
 | .bool, _, _ => rfl
 | .str, _, _ => rfl
 | .flt, _, _ => rfl
 | .pt, _, _ => rfl
 | .sl _, _, _ => rfl
 | .nil, _, _ => rfl
 | .cons a b, x, r => by
  simp only [toC]
  rw [toC_app a x.1 (toC b x.2 r), toC_app a x.1 (toC b x.2 []), toC_app b x.2 r, List.append_assoc]
 | .mu e, x, r => toC_app e x r
section
variable {P : Program}
def Opens (P : Program) (w : World) (T : Ty) (t : Nat) : Prop :=
 ∀ {H : Type} (enc : TypeId × Value → H) (fuel : Nat) (cs : List Value) (x : DataW H × List MemPlace), DataW.trod enc P w 0 (fun _ => true) true fuel t cs = some x →
  ∃ y : T.den, VRL (M0 w) (toC T y []) cs ∧ cs.length = T.n ∧ wfT T y ∧ bulkT T y ≤ Rows.uptoBulk x.1
def OpensF (P : Program) (w : World) (T : Ty) (o : Nat) (fs : List Field) : Prop :=
 ∀ {H : Type} (enc : TypeId × Value → H) (n : Nat) (cs : List Value) (xs : List (DataW H × List MemPlace)), cs.length = o + T.n → xs.length = fs.length →
  (∀ (i : Nat) (f : Field), fs[i]? = some f → DataW.trod enc P w 0 (fun _ => true) true n f.type ((cs.drop f.offset).take (P.cellsOf f.type)) = xs[i]?) →
  ∃ y : T.den, VRL (M0 w) (toC T y []) (cs.drop o) ∧ wfT T y ∧ bulkT T y ≤ Rows.uptoBulkAll (xs.map (·.1))
theorem list_of {β : Type} {Q : Nat → β → Prop} (n : Nat) (h : ∀ i, i < n → ∃ y, Q i y) : ∃ l : List β, l.length = n ∧ ∀ (i : Nat) (y : β), l[i]? = some y → Q i y := by
 induction n with
 | zero => exact ⟨[], rfl, fun i y hy => by simp at hy⟩
 | succ n ih =>
  obtain ⟨l, hl, hq⟩ := ih (fun i hi => h i (by omega))
  obtain ⟨y, hy⟩ := h n (by omega)
  refine ⟨l ++ [y], by simp [hl], fun i z hz => ?_⟩
  rcases Nat.lt_or_ge i l.length with hi | hi
  ·rw [List.getElem?_append_left hi] at hz; exact hq i z hz
  ·have : i = n := by
    have := (List.getElem?_eq_some_iff.1 hz).1
    simp at this; omega
   subst this
   rw [List.getElem?_append_right (by omega), hl] at hz
   simp at hz
   rw [← hz]; exact hy
theorem sumB_le {α : Type} {H : Type} {b : α → Nat} : ∀ (l : List α) (ds : List (DataW H)), l.length = ds.length → (∀ (i : Nat) (y : α) (d : DataW H), l[i]? = some y → ds[i]? = some d → b y ≤ Rows.uptoBulk d) → sumB b l ≤ Rows.uptoBulkAll ds + 1
 | [], [], _, _ => by simp [sumB, Rows.uptoBulkAll]
 | [], _ :: _, h, _ => by simp at h
 | _ :: _, [], h, _ => by simp at h
 | y :: l, d :: ds, h, hb => by
  have h0 := hb 0 y d rfl rfl
  have := sumB_le l ds (by simpa using h) (fun i y d hy hd => hb (i + 1) y d (by simpa using hy) (by simpa using hd))
  simp only [sumB, Rows.uptoBulkAll]
  omega
theorem opens_sl {w : World} {e : Ty} {t te : Nat} (ht : P.underlying t = some (.slice te)) (hc : P.cellsOf te = e.n) (hk : Opens P w e te) (hpos : 0 < e.n) : Opens P w (.sl e) t := by
 intro H enc fuel cs x h
 rcases DataW.trod_slice ht h with ⟨rfl, rfl⟩ | ⟨a, len, cap, elems, rest, n, _, rfl, rfl, hb, hl, hm, hlen, hel, hsp, hns⟩
 ·exact ⟨([] : List e.den), by simp only [toC, VRL, VR, SlR]; exact ⟨_, [], rfl, .inl ⟨trivial, none, 0, rfl, fun _ => rfl⟩, rfl⟩, rfl, fun y hy => (by cases hy), by simp [bulkT, sumB, Rows.uptoBulk]⟩
 ·obtain ⟨l, hll, hq⟩ := list_of (Q := fun i y => ∃ cs' d, w.cells? 0 (a.add (i * P.cellsOf te)) (P.cellsOf te) = some cs' ∧ elems[i]? = some d ∧ VRL (M0 w) (toC e y []) cs' ∧ wfT e y ∧ bulkT e y ≤ Rows.uptoBulk d.1) len (fun i hi => by
   have h1 := hel i hi
   rw [List.getElem?_eq_getElem (by omega)] at h1
   obtain ⟨cs', h2, h3⟩ := Option.bind_eq_some_iff.1 h1
   obtain ⟨y, h4, _, h5, h6⟩ := hk enc n cs' _ h3
   exact ⟨y, cs', _, h2, List.getElem?_eq_getElem (by omega), h4, h5, h6⟩)
  refine ⟨(l : List e.den), ?_, rfl, fun y hy => ?_, ?_⟩
  ·simp only [toC, VRL, VR]
   refine ⟨_, [], rfl, ?_, rfl⟩
   cases hl0 : l with
   | nil =>
    rw [hl0] at hll; simp at hll
    exact .inl ⟨rfl, some a, cap, by rw [← hll], fun h => by cases h⟩
   | cons y0 l' =>
    rw [← hl0]
    have h0 : 0 < len := by rw [← hll, hl0]; simp
    have hspot : a.spot = none := by
     obtain ⟨cs', d, h2, _⟩ := hq 0 y0 (by rw [hl0]; rfl)
     obtain ⟨_, h6, h7⟩ := World.cells?_some h2
     have h8 := h7 0 (by rw [hc]; omega)
     have e0 : (a.add (0 * P.cellsOf te)).add 0 = a := by simp [Addr.add]
     rw [e0] at h8
     have h9 : cs'[0]? ≠ none := by rw [ne_eq, List.getElem?_eq_none_iff]; omega
     cases hs : a.spot with
     | none => rfl
     | some sp =>
      exfalso; rw [← h8] at h9; apply h9
      unfold World.cell?
      cases w.heap[a.block]? with
      | none => rfl
      | some ob => cases ob <;> simp [hs]
    obtain ⟨ab, ao, asp⟩ := a
    simp only at hspot; subst hspot
    refine .inr ⟨ab, ao, cap, by rw [hll], by omega, fun i hi => ?_⟩
    obtain ⟨cs', d, h2, _, h4, h5, _⟩ := hq i l[i] (List.getElem?_eq_getElem hi)
    obtain ⟨_, h6, h7⟩ := World.cells?_some h2
    refine (el_of_vrl e _ [] cs' ab (ao + i * e.n) h5 h4 (fun j hj => ?_)).1
    have h8 := h7 j (by omega)
    rw [hc, add_none, add_none, cell_eq, ] at h8
    refine ⟨?_, h8⟩
    have h9 : cs'[j]? ≠ none := by rw [ne_eq, List.getElem?_eq_none_iff]; omega
    rw [← h8] at h9
    show ab < w.heap.size
    unfold cellAt at h9
    cases hg : w.heap[ab]? with
    | none => rw [hg] at h9; exact absurd rfl h9
    | some ob => exact (Array.getElem?_eq_some_iff.mp hg).1
  ·obtain ⟨i, hi⟩ := List.getElem?_of_mem hy
   obtain ⟨_, _, _, _, _, h5, _⟩ := hq i y hi
   exact h5
  ·have := sumB_le (b := bulkT e) l (elems.map (·.1)) (by simp [hll, hlen]) (fun i y d hy hd => by
    obtain ⟨_, d', _, h3, _, _, h6⟩ := hq i y hy
    simp [h3] at hd
    rw [← hd]; exact h6)
   simp only [bulkT, Rows.uptoBulk]
   omega
theorem opens_struct {w : World} {T : Ty} {t : Nat} {F : Array Field} (ht : P.underlying t = some (.struct F)) (hc : P.cellsOf t = T.n) (hk : OpensF P w T 0 F.toList) : Opens P w T t := by
 intro H enc fuel cs x h
 obtain ⟨xs, n, _, rfl, hl, hx, hf⟩ := DataW.trod_struct ht h
 obtain ⟨y, h1, h2, h3⟩ := hk enc n cs xs (by rw [hl, hc]; omega) (by simpa using hx) (fun i f hi => hf i f (by simpa using hi))
 exact ⟨y, by simpa using h1, by rw [hl, hc], h2, by simp only [Rows.uptoBulk]; omega⟩
theorem tyC_ok (w : World) : ∀ (T : Ty), (∀ t, (tyC P T).1 t = true → Opens P w T t) ∧ (∀ o fs, (tyC P T).2 o fs = true → OpensF P w T o fs) := by
 intro T
 induction T with
 | mu e ih => exact ⟨fun t h => by simp [tyC] at h, fun o fs h => by simp [tyC] at h⟩
 | int k =>
  refine ⟨fun t h => ?_, fun o fs h => by simp [tyC] at h⟩
  simp only [tyC] at h
  cases hu : P.underlying t with
  | none => rw [hu] at h; cases h
  | some u =>
   rw [hu] at h
   cases u <;> simp only [] at h <;> first | (cases h; done) | skip
   split at h <;> first | (cases h; done) | skip
   rename_i hk; subst hk
   intro H enc fuel cs x hx
   obtain ⟨n, rfl, rfl, hw⟩ := DataW.trod_int hu hx
   exact ⟨n, by simp only [toC, VRL, VR]; exact ⟨_, [], rfl, rfl, rfl⟩, rfl, hw, by simp [bulkT, Rows.uptoBulk]⟩
 | bool =>
  refine ⟨fun t h => ?_, fun o fs h => by simp [tyC] at h⟩
  simp only [tyC] at h
  cases hu : P.underlying t with
  | none => rw [hu] at h; cases h
  | some u =>
   rw [hu] at h
   cases u <;> simp only [] at h <;> first | (cases h; done) | skip
   intro H enc fuel cs x hx
   obtain ⟨b, rfl, rfl⟩ := DataW.trod_bool hu hx
   exact ⟨b, by simp only [toC, VRL, VR]; exact ⟨_, [], rfl, rfl, rfl⟩, rfl, trivial, by simp [bulkT, Rows.uptoBulk]⟩
 | str =>
  refine ⟨fun t h => ?_, fun o fs h => by simp [tyC] at h⟩
  simp only [tyC] at h
  cases hu : P.underlying t with
  | none => rw [hu] at h; cases h
  | some u =>
   rw [hu] at h
   cases u <;> simp only [] at h <;> first | (cases h; done) | skip
   intro H enc fuel cs x hx
   obtain ⟨s, rfl, rfl, _⟩ := DataW.trod_string hu hx
   exact ⟨s, by simp only [toC, VRL, VR]; exact ⟨_, [], rfl, rfl, rfl⟩, rfl, trivial, by simp [bulkT, Rows.uptoBulk]⟩
 | flt => exact ⟨fun t h => by simp [tyC] at h, fun o fs h => by simp [tyC] at h⟩
 | pt => exact ⟨fun t h => by simp [tyC] at h, fun o fs h => by simp [tyC] at h⟩
 | sl e ih =>
  refine ⟨fun t h => ?_, fun o fs h => by simp [tyC] at h⟩
  simp only [tyC] at h
  cases hu : P.underlying t with
  | none => rw [hu] at h; cases h
  | some u =>
   rw [hu] at h
   cases u <;> simp only [] at h <;> first | (cases h; done) | skip
   simp only [Bool.and_eq_true] at h
   exact opens_sl hu (beq_of h.1.1) (ih.1 _ h.2) (by simpa [Nat.blt_eq] using h.1.2)
 | nil =>
  have hf : ∀ o fs, (tyC P .nil).2 o fs = true → OpensF P w .nil o fs := by
   intro o fs h
   simp only [tyC] at h
   cases fs with
   | cons f fs => cases h
   | nil =>
    intro H enc n cs xs hl hx _
    refine ⟨(), ?_, trivial, by simp [bulkT]⟩
    have : cs.drop o = [] := by rw [List.drop_eq_nil_iff]; simp [Ty.n] at hl; omega
    rw [this]; simp [toC, VRL]
  refine ⟨fun t h => ?_, hf⟩
  simp only [tyC] at h
  cases hu : P.underlying t with
  | none => rw [hu] at h; cases h
  | some u =>
   rw [hu] at h
   cases u <;> simp only [] at h <;> first | (cases h; done) | skip
   simp only [Bool.and_eq_true] at h
   exact opens_struct (T := .nil) hu (by have := beq_of h.1; simpa [Ty.n] using this) (hf 0 _ h.2)
 | cons a b iha ihb =>
  have hf : ∀ o fs, (tyC P (.cons a b)).2 o fs = true → OpensF P w (.cons a b) o fs := by
   intro o fs h
   simp only [tyC] at h
   cases fs with
   | nil => cases h
   | cons f fs =>
    simp only [Bool.and_eq_true] at h
    obtain ⟨⟨⟨h1, h2⟩, h3⟩, h4⟩ := h
    have e1 := beq_of h1
    have e2 := beq_of h2
    intro H enc n cs xs hl hx hF
    cases xs with
    | nil => simp at hx
    | cons x xs =>
     have h0 := hF 0 f rfl
     rw [e1, e2] at h0
     obtain ⟨y, k1, k2, k3, k4⟩ := iha.1 _ h3 enc n _ x (by simpa using h0)
     obtain ⟨z, g1, g2, g3⟩ := ihb.2 _ _ h4 enc n cs xs (by rw [hl]; simp only [Ty.n]; omega) (by simpa using hx) (fun i f hi => by simpa using hF (i + 1) f (by simpa using hi))
     refine ⟨(y, z), ?_, ⟨k3, g2⟩, ?_⟩
     ·simp only [toC]
      rw [toC_app]
      have := VRL.append k1 g1
      rwa [← List.drop_drop, List.take_append_drop] at this
     ·simp only [bulkT, List.map_cons, Rows.uptoBulkAll]; omega
  refine ⟨fun t h => ?_, hf⟩
  have h' := h
  simp only [tyC] at h
  cases hu : P.underlying t with
  | none => rw [hu] at h; cases h
  | some u =>
   rw [hu] at h
   cases u <;> simp only [] at h <;> first | (cases h; done) | skip
   simp only [Bool.and_eq_true] at h
   rename_i F
   have h2 : (tyC P (.cons a b)).2 0 F.toList = true := by simp only [tyC]; exact h.2
   exact @opens_struct P w (.cons a b) t F hu (by have := beq_of h.1; simpa [Ty.n] using this) (@hf 0 F.toList h2)
theorem open_arg {T : Ty} {t : Nat} (ht : (tyC P T).1 t = true) {w : World} {base : Nat} {v : Value} (hval : Value.okWide P w .any base t v) {H : Type} {enc : TypeId × Value → H} {d : DataW H} {p : List MemPlace} (h : DataW.Trod enc P w 0 (fun _ => true) true t v d p) :
  ∃ y : T.den, VR (M0 w) (asCV T y) v ∧ wfT T y ∧ bulkT T y ≤ Rows.uptoBulk d := by
 obtain ⟨fu, hf⟩ := h
 obtain ⟨y, h1, h2, h3, h4⟩ := (tyC_ok w T).1 t ht enc fu _ _ hf
 refine ⟨y, ?_, h3, h4⟩
 have one : ∀ {c : CV}, v.cells = #[v] → VRL (M0 w) [c] v.cells.toList → VR (M0 w) c v := by
  intro c hc h
  rw [hc] at h
  simp only [VRL] at h
  obtain ⟨u, r, g1, g2, _⟩ := h
  injection g1 with g1; subst g1; exact g2
 cases T with
 | mu e => simp [tyC] at ht
 | int k =>
  simp only [tyC] at ht
  cases hu : P.underlying t with
  | none => rw [hu] at ht; cases ht
  | some u =>
   rw [hu] at ht
   cases u <;> simp only [] at ht <;> first | (cases ht; done) | skip
   obtain ⟨n, rfl⟩ := WideShapes.okWide_int hu hval
   exact one rfl h1
 | bool =>
  simp only [tyC] at ht
  cases hu : P.underlying t with
  | none => rw [hu] at ht; cases ht
  | some u =>
   rw [hu] at ht
   cases u <;> simp only [] at ht <;> first | (cases ht; done) | skip
   obtain ⟨n, rfl⟩ := WideShapes.okWide_bool hu hval
   exact one rfl h1
 | str =>
  simp only [tyC] at ht
  cases hu : P.underlying t with
  | none => rw [hu] at ht; cases ht
  | some u =>
   rw [hu] at ht
   cases u <;> simp only [] at ht <;> first | (cases ht; done) | skip
   obtain ⟨n, rfl⟩ := WideShapes.okWide_string hu hval
   exact one rfl h1
 | flt => simp [tyC] at ht
 | pt => simp [tyC] at ht
 | sl e =>
  simp only [tyC] at ht
  cases hu : P.underlying t with
  | none => rw [hu] at ht; cases ht
  | some u =>
   rw [hu] at ht
   cases u <;> simp only [] at ht <;> first | (cases ht; done) | skip
   obtain ⟨a, len, cap, rfl⟩ := WideShapes.okWide_slice hu hval
   exact one rfl h1
 | nil =>
  simp only [tyC] at ht
  cases hu : P.underlying t with
  | none => rw [hu] at ht; cases ht
  | some u =>
   rw [hu] at ht
   cases u <;> simp only [] at ht <;> first | (cases ht; done) | skip
   obtain ⟨cs, rfl, _⟩ := WideShapes.okWide_struct hu hval
   simp only [asCV, VR]; exact ⟨cs, rfl, h1⟩
 | cons a b =>
  simp only [tyC] at ht
  cases hu : P.underlying t with
  | none => rw [hu] at ht; cases ht
  | some u =>
   rw [hu] at ht
   cases u <;> simp only [] at ht <;> first | (cases ht; done) | skip
   obtain ⟨cs, rfl, _⟩ := WideShapes.okWide_struct hu hval
   simp only [asCV, VR]; exact ⟨cs, rfl, h1⟩
theorem zipE {M : Mem} {cs : List CV} {vs : Array Value} (h : VRL M cs vs.toList) : RelE M (zipI 0 cs) vs := by
 intro i c hc
 have gen : ∀ (cs : List CV) (vs : List Value) (k : Nat), VRL M cs vs → lk (zipI k cs) i = some c → k ≤ i ∧ ∃ v, vs[i - k]? = some v ∧ VR M c v := by
  intro cs
  induction cs with
  | nil => intro vs k _ h; simp [zipI, lk] at h
  | cons x r ih =>
   intro vs k hv h
   simp only [VRL] at hv
   obtain ⟨v, vr, rfl, h1, h2⟩ := hv
   simp only [zipI, lk_cons] at h
   by_cases e : k = i
   ·rw [if_pos e] at h; injection h with h; subst h; subst e; exact ⟨Nat.le_refl _, v, by simp, h1⟩
   ·rw [if_neg e] at h
    obtain ⟨g1, u, g2, g3⟩ := ih vr (k + 1) h2 h
    refine ⟨by omega, u, ?_, g3⟩
    have : i - k = (i - (k + 1)) + 1 := by omega
    rw [this, List.getElem?_cons_succ]; exact g2
 obtain ⟨_, v, h1, h2⟩ := gen cs vs.toList 0 h hc
 exact ⟨v, by simpa using h1, h2⟩
theorem law_calls {f : Nat} {F : FnD} {k : Nat} (hsp : SpecOk P f (F.sp k)) {W : World} {args : Array Value} {cs : List CV} {d : F.ini.den} {r : F.out.den} (hr : F.f k d = some r) (hobj : F.ini.obj d = []) (henv : F.ini.env d = zipI 0 cs)
  (hargs : VRL (M0 W) cs args.toList) (hsz : args.size = lenN F.ini.slots) (hres : asRes F.nres (valsE (F.out.env r)) = .bool true) :
  Calls P f args W fun e W' => e = .returned (.bool true) ∧ Below W.heap.size W W' := by
 refine (hsp.calls d r hr W args (M0 W) rfl (by show (fun _ => none) = lk (F.ini.obj d); rw [hobj]; rfl) ⟨fun o ob h => (by simp [M0] at h), fun o h => absurd rfl h, fun o h => h, fun o v t T l h => (by simp [M0] at h), fun o t l h => (by simp [M0] at h), fun o o' h => absurd rfl h.1⟩ (fun b x h => h)
  (by show RelE (M0 W) (F.ini.env d) args; rw [henv]; exact zipE hargs) hsz (fun p h => h.elim)).1.mono ?_
 rintro e W' ⟨v, M', rfl, ⟨hw, ho⟩, ok, _, hv, _⟩
 have hv' : VR M' (.bool true) v := by rw [← hres]; exact hv
 refine ⟨by rw [hv'.bool], ho.os, ho.tape, ho.output, by rw [hw]; exact ok.size, fun b hb => by rw [hw]; exact ok.keep b hb (fun ⟨p, hp, _⟩ => hp.1 rfl)⟩
end
end Go.Proofs.Ytcjiipbppkdkaaa.Eng
