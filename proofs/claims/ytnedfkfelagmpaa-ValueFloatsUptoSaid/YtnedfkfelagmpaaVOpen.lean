/- How an argument that reads as data is opened, by its kind: the pure value, that it is well formed, and that its bulk is at most the datum's. No function of the program. -/
import Derived.Test.YtnedfkfelagmpaaRows
import Derived.Test.YtnedfkfelagmpaaVWords
import Derived.ChangeArms
import Derived.DataReads
import Derived.OpenShut
namespace Go.Proofs.Ytnedfkfelagmpaa.Open
open Go.RowKit Go.Proofs.YtnedfkfelagmpaaW.PrintWords
set_option linter.unusedVariables false
set_option linter.unusedSimpArgs false

theorem bulkAll_append {H : Type} (l r : List (DataW H)) : Rows.uptoBulkAll (l ++ r) = Rows.uptoBulkAll l + Rows.uptoBulkAll r := by
  induction l with
  | nil => simp [Rows.uptoBulkAll]
  | cons x l ih => simp only [List.cons_append, Rows.uptoBulkAll, ih]; omega

def Opens (P : Program) {α : Type} (t : TypeId) (k : Kd α) (wf : α → Prop) (bulk : α → Nat) : Prop :=
  ∀ {H : Type} (enc : TypeId × Value → H) (w : World) (fuel : Nat) (cs : List Value) (x : DataW H × List MemPlace),
    DataW.trod enc P w 0 (fun _ => true) true fuel t cs = some x → ∃ y : α, k.K w y cs ∧ wf y ∧ bulk y ≤ Rows.uptoBulk x.1

section
variable {P : Program} {t e : TypeId}
theorem int {q : IntKind} (ht : P.underlying t = some (.int q)) : Opens P t (Kd.int q) (fun n => (Lit.int q n).wf = true) (fun _ => 1) := by
  intro H enc w fuel cs x h
  obtain ⟨n, rfl, rfl, hw⟩ := DataW.trod_int ht h
  exact ⟨n, rfl, hw, by simp [Rows.uptoBulk]⟩
theorem bool (ht : P.underlying t = some .bool) : Opens P t Kd.bool (fun _ => True) (fun _ => 1) := by
  intro H enc w fuel cs x h
  obtain ⟨b, rfl, rfl⟩ := DataW.trod_bool ht h
  exact ⟨b, rfl, trivial, by simp [Rows.uptoBulk]⟩
theorem string (ht : P.underlying t = some .string) : Opens P t Kd.string (fun _ => True) (fun s => s.size + 1) := by
  intro H enc w fuel cs x h
  obtain ⟨s, rfl, rfl, _⟩ := DataW.trod_string ht h
  exact ⟨s, rfl, trivial, by simp [Rows.uptoBulk]⟩
/-- A list's bulk. -/
def bulks {α : Type} (b : α → Nat) : List α → Nat
  | [] => 1
  | x :: l => b x + bulks b l
theorem bulks_ge {α : Type} (b : α → Nat) (l : List α) : ∀ x ∈ l, b x ≤ bulks b l := by
  induction l with
  | nil => intro x h; cases h
  | cons y l ih =>
    intro x h
    simp only [bulks]
    rcases List.mem_cons.1 h with rfl | h
    · omega
    · have := ih x h; omega
theorem bulks_len {α : Type} (b : α → Nat) (h1 : ∀ x, 1 ≤ b x) (l : List α) : l.length ≤ bulks b l := by
  induction l with
  | nil => simp
  | cons y l ih => simp only [bulks, List.length_cons]; have := h1 y; omega
theorem list_of {β : Type} {Q : Nat → β → Prop} (n : Nat) (h : ∀ i, i < n → ∃ y, Q i y) : ∃ l : List β, l.length = n ∧ ∀ (i : Nat) (y : β), l[i]? = some y → Q i y := by
  induction n with
  | zero => exact ⟨[], rfl, fun i y hy => by simp at hy⟩
  | succ n ih =>
    obtain ⟨l, hl, hq⟩ := ih (fun i hi => h i (by omega))
    obtain ⟨y, hy⟩ := h n (by omega)
    refine ⟨l ++ [y], by simp [hl], fun i z hz => ?_⟩
    rcases Nat.lt_or_ge i l.length with hi | hi
    · rw [List.getElem?_append_left hi] at hz; exact hq i z hz
    · have : i = n := by
        have := (List.getElem?_eq_some_iff.1 hz).1
        simp at this; omega
      subst this
      rw [List.getElem?_append_right (by omega), hl] at hz
      simp at hz
      rw [← hz]; exact hy
theorem bulks_le {α : Type} {H : Type} {b : α → Nat} : ∀ (l : List α) (ds : List (DataW H)), l.length = ds.length → (∀ (i : Nat) (y : α) (d : DataW H), l[i]? = some y → ds[i]? = some d → b y ≤ Rows.uptoBulk d) → bulks b l ≤ Rows.uptoBulkAll ds + 1
  | [], [], _, _ => by simp [bulks, Rows.uptoBulkAll]
  | [], _ :: _, h, _ => by simp at h
  | _ :: _, [], h, _ => by simp at h
  | y :: l, d :: ds, h, hb => by
    have h0 := hb 0 y d rfl rfl
    have := bulks_le l ds (by simpa using h) (fun i y d hy hd => hb (i + 1) y d (by simpa using hy) (by simpa using hd))
    simp only [bulks, Rows.uptoBulkAll]
    omega
theorem slice {α : Type} {k : Kd α} {wf : α → Prop} {bulk : α → Nat} (ht : P.underlying t = some (.slice e)) (hc : P.cellsOf e = k.sz) (hk : Opens P e k wf bulk) :
    Opens P t (Kd.slice e k) (fun l => ∀ y ∈ l, wf y) (bulks bulk) := by
  intro H enc w fuel cs x h
  rcases DataW.trod_slice ht h with ⟨rfl, rfl⟩ | ⟨a, len, cap, elems, rest, n, _, rfl, rfl, hb, hl, hm, hlen, hel, hsp, hns⟩
  · exact ⟨[], ⟨none, 0, rfl, Nat.le_refl _, rfl, by simp, fun h => by simp at h⟩, fun y hy => (by cases hy), by simp [bulks, Rows.uptoBulk]⟩
  · obtain ⟨l, hll, hq⟩ := list_of (Q := fun i y => ∃ cs' d, w.cells? 0 (a.add (i * P.cellsOf e)) (P.cellsOf e) = some cs' ∧ elems[i]? = some d ∧ k.K w y cs' ∧ wf y ∧ bulk y ≤ Rows.uptoBulk d.1) len (fun i hi => by
      have h1 := hel i hi
      rw [List.getElem?_eq_getElem (by omega)] at h1
      obtain ⟨cs', h2, h3⟩ := Option.bind_eq_some_iff.1 h1
      obtain ⟨y, h4, h5, h6⟩ := hk enc w n cs' _ h3
      exact ⟨y, cs', _, h2, List.getElem?_eq_getElem (by omega), h4, h5, h6⟩)
    refine ⟨l, ⟨some a, cap, by rw [hll], by omega, rfl, by simp only [maxLen] at hm; omega, fun _ => ⟨a, rfl, fun j p hj => ?_⟩⟩, fun y hy => ?_, ?_⟩
    · obtain ⟨cs', d, h2, _, h4, _, _⟩ := hq j p hj
      obtain ⟨_, h6, h7⟩ := World.cells?_some h2
      refine ⟨cs', by rw [← hc]; exact h6, h4, fun i u hu => ?_⟩
      have hi : i < P.cellsOf e := by rw [← h6]; exact (List.getElem?_eq_some_iff.1 hu).1
      have h8 := h7 i hi
      rw [hu] at h8
      rw [← h8, ← hc]
      congr 1
      unfold Addr.add
      by_cases h9 : j * P.cellsOf e = 0 <;> by_cases h10 : i = 0 <;> simp [h9, h10, Nat.add_assoc]
    · obtain ⟨i, hi⟩ := List.getElem?_of_mem hy
      obtain ⟨_, _, _, _, _, h5, _⟩ := hq i y hi
      exact h5
    · have := bulks_le (b := bulk) l (elems.map (·.1)) (by simp [hll, hlen]) (fun i y d hy hd => by
        obtain ⟨_, d', _, h3, _, _, h6⟩ := hq i y hy
        simp [h3] at hd
        rw [← hd]; exact h6)
      simp only [Rows.uptoBulk]
      omega
/-- A struct's fields, from one on. -/
def OpensL (P : Program) {α : Type} (fs : List Field) (o : Nat) (k : Kd α) (wf : α → Prop) (bulk : α → Nat) : Prop :=
  ∀ {H : Type} (enc : TypeId × Value → H) (w : World) (n : Nat) (cs : List Value) (xs : List (DataW H × List MemPlace)), cs.length = o + k.sz → xs.length = fs.length →
    (∀ (i : Nat) (f : Field), fs[i]? = some f → DataW.trod enc P w 0 (fun _ => true) true n f.type ((cs.drop f.offset).take (P.cellsOf f.type)) = xs[i]?) →
    ∃ y : α, k.K w y (cs.drop o) ∧ wf y ∧ bulk y ≤ Rows.uptoBulkAll (xs.map (·.1))
theorem last {α : Type} {f : Field} {k : Kd α} {wf : α → Prop} {bulk : α → Nat} (o : Nat) (ho : f.offset = o) (hc : P.cellsOf f.type = k.sz) (hk : Opens P f.type k wf bulk) : OpensL P [f] o k wf bulk := by
  intro H enc w n cs xs hl hx h
  have h0 := h 0 f rfl
  match xs, hx with
  | [x], _ =>
    rw [ho, List.take_of_length_le (by rw [List.length_drop, hl, hc]; omega)] at h0
    obtain ⟨y, h1, h2, h3⟩ := hk enc w n _ x (by simpa using h0)
    exact ⟨y, h1, h2, by simpa [Rows.uptoBulkAll] using h3⟩
theorem more {α β : Type} {f : Field} {fs : List Field} {k : Kd α} {k' : Kd β} {wf : α → Prop} {wf' : β → Prop} {bulk : α → Nat} {bulk' : β → Nat} (o : Nat) (ho : f.offset = o) (hc : P.cellsOf f.type = k.sz)
    (hk : Opens P f.type k wf bulk) (hr : OpensL P fs (o + k.sz) k' wf' bulk') : OpensL P (f :: fs) o (Kd.pair k k') (fun y => wf y.1 ∧ wf' y.2) (fun y => bulk y.1 + bulk' y.2) := by
  intro H enc w n cs xs hl hx h
  have h0 := h 0 f rfl
  match xs, hx with
  | x :: xs, hx =>
    rw [ho, hc] at h0
    obtain ⟨y, h1, h2, h3⟩ := hk enc w n _ x (by simpa using h0)
    obtain ⟨z, g1, g2, g3⟩ := hr enc w n cs xs (by rw [hl]; show o + (k.sz + k'.sz) = _; omega) (by simpa using hx) (fun i f hf => by simpa using h (i + 1) f (by simpa using hf))
    refine ⟨(y, z), ⟨_, _, ?_, h1, g1⟩, ⟨h2, g2⟩, ?_⟩
    · rw [← List.drop_drop, List.take_append_drop]
    · simp only [List.map_cons, Rows.uptoBulkAll]; omega
theorem struct {α β : Type} {fs : List Field} {k : Kd α} {wf : α → Prop} {bulk : α → Nat} (f : β → α) (g : α → β) (hfg : ∀ x, f (g x) = x) (ht : P.underlying t = some (.struct fs.toArray)) (hc : P.cellsOf t = k.sz) (hk : OpensL P fs 0 k wf bulk) :
    Opens P t (Kd.iso k f) (fun y => wf (f y)) (fun y => bulk (f y) + 1) := by
  intro H enc w fuel cs x h
  obtain ⟨xs, n, _, rfl, hl, hx, hf⟩ := DataW.trod_struct ht h
  obtain ⟨y, h1, h2, h3⟩ := hk enc w n cs xs (by rw [hl, hc]; omega) (by simpa using hx) (fun i f hi => hf i f (by simpa using hi))
  refine ⟨g y, ?_, ?_, ?_⟩
  · show k.K w (f (g y)) cs
    rw [hfg]; exact h1
  · show wf (f (g y))
    rw [hfg]; exact h2
  · show bulk (f (g y)) + 1 ≤ _
    rw [hfg]; simp only [Rows.uptoBulk]; omega
/-- The bound, as the form hands it over. -/
theorem bound {H : Type} {l : List (DataW H)} (hk : Rows.uptoSmall H l = true) : Rows.uptoBulkAll l ≤ 1048576 := of_decide_eq_true hk
end
end Go.Proofs.Ytnedfkfelagmpaa.Open
