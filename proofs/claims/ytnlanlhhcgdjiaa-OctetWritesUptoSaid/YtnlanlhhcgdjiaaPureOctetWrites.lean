/- OctetWrites: shows just what a writer has laid, whatever it was given; for arguments that hold together at most 1048576 values and letters. -/
import Derived.Test.YtnlanlhhcgdjiaaSOctetWrites
import Derived.Test.YtnlanlhhcgdjiaaQLaw01
namespace Go.Proofs.Ytnlanlhhcgdjiaa.Pure
open Go.RowKit Go.Proofs.Ytnlanlhhcgdjiaa.PAll Go.Proofs.YtnlanlhhcgdjiaaW.PrintWords Go.Proofs.YtnlanlhhcgdjiaaW.PrintLast Go.Proofs.Ytnlanlhhcgdjiaa.Q
set_option linter.unusedVariables false
set_option linter.unusedSimpArgs false
theorem writes_loop (l : List S34) (hl : l.length ≤ 8796093022200) (hr : ∀ x ∈ l, itemRoom x ≤ 10000000) (hf : ∀ x ∈ l, x.f4.length ≤ 2000000) :
    ∀ (m k i : Nat) (all : ByteArray) (ok : Bool), min l.length 40 - i = m → m + m + 3000000 < k → i ≤ l.length → i ≤ 40 → all.size ≤ i * 10000000 → chartularylaw01_OctetWrites.l0 k l all ok (i : Int) all (!ok) = some true := by
  intro m
  induction m with
  | zero =>
    intro k i all ok hm hk hi h40 ha
    obtain ⟨k, rfl⟩ : ∃ q, k = q + 2 := ⟨k - 2, by omega⟩
    rw [chartularylaw01_OctetWrites.l0]
    by_cases h : (i : Int) < (l.length : Int)
    · rw [if_pos h, chartularylaw01_OctetWrites.j1, if_neg (by simp; omega), awake_ok k (by omega)]; rfl
    · rw [if_neg h, chartularylaw01_OctetWrites.j1, if_neg (by decide), awake_ok k (by omega)]; rfl
  | succ m ih =>
    intro k i all ok hm hk hi h40 ha
    obtain ⟨k, rfl⟩ : ∃ q, k = q + 2 := ⟨k - 2, by omega⟩
    have hlt : i < l.length := by omega
    have hmem := List.getElem_mem hlt
    have r1 := hr _ hmem
    have f1 := hf _ hmem
    have z1 := itemL_size l[i]
    have hw : wrap64 ((i : Int) + 1) = ((i + 1 : Nat) : Int) := by unfold wrap64; omega
    have hnext : all.size + (itemL l[i]).size ≤ (i + 1) * 10000000 := by omega
    rw [chartularylaw01_OctetWrites.l0, if_pos (by omega), chartularylaw01_OctetWrites.j1, if_pos (by simp; omega), if_pos (by omega), if_pos (by omega), rd_item l i hlt, laid_ok k _ (by omega) (by omega) (by omega), bind_some',
      lay_ok k all (!ok) _ (by omega) (by omega) (by omega), bind_some']
    dsimp only
    rw [if_pos (by omega), hw]
    have step : ∀ ok' : Bool, chartularylaw01_OctetWrites.l0 k l (all ++ itemL l[i]) ok' ((i + 1 : Nat) : Int) (all ++ itemL l[i]) (!ok') = some true := fun ok' =>
      ih k (i + 1) _ ok' (by omega) (by omega) (by omega) (by omega) (by rw [ByteArray.size_append]; exact hnext)
    cases ok
    · have := step false
      rw [if_neg (by decide), Bool.not_false, Bool.true_or, writer_all, bind_some']
      dsimp only
      rw [if_neg (by decide), if_neg (by decide), if_pos (by rw [toList_eq]; rfl)]
      exact this
    · cases hok : itemOk l[i]
      · have := step false
        rw [if_pos rfl, Bool.not_false, Bool.or_true, writer_all, bind_some']
        dsimp only
        rw [if_neg (by decide), if_neg (by decide), if_pos (by rw [toList_eq]; rfl)]
        exact this
      · have := step true
        rw [if_pos rfl, Bool.not_true, Bool.or_false, writer_all, bind_some']
        dsimp only
        rw [if_neg (by decide), if_pos (by rfl), if_pos (by rfl)]
        exact this
/-- OctetWrites, in plain numbers and lists. -/
theorem OctetWrites : chartularylaw01_OctetWrites.Pure := by
  intro l hw hb
  have h1 := Open.bulks_len bulk34 (fun y => by unfold bulk34; omega) l
  have h2 : ∀ x ∈ l, itemRoom x ≤ 10000000 ∧ x.f4.length ≤ 2000000 := by
    intro x hx
    have h3 := Nat.le_trans (Open.bulks_ge bulk34 l x hx) hb
    have h4 := Open.bulks_len (fun y : ByteArray => y.size + 1) (fun y => by omega) x.f4
    have h5 := room_bulks x.f4 (Open.bulks (fun y : ByteArray => y.size + 1)) rfl (fun _ _ => rfl)
    unfold bulk34 at h3
    unfold itemRoom
    omega
  refine ⟨4000000, ?_⟩
  unfold chartularylaw01_OctetWrites.f
  exact writes_loop l (by omega) (fun x hx => (h2 x hx).1) (fun x hx => (h2 x hx).2) (min l.length 40) 4000000 0 (⟨#[]⟩ : ByteArray) true (by omega) (by omega) (by omega) (by omega) (by decide)
end Go.Proofs.Ytnlanlhhcgdjiaa.Pure
