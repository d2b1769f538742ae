/- Plain laws: a mill with any table whose sums have 32 bytes; leaves, nodes; the greatest power of two below a number. -/
import Derived.Test.YtfbpkpnnglhbcaaPSha
namespace Go.Proofs.Ytfbpkpnnglhbcaa.Pure
open Go Go.Proofs.Ytfbpkpnnglhbcaa.E Go.Proofs.Ytfbpkpnnglhbcaa.Eng
set_option linter.unusedVariables false
set_option linter.unusedSimpArgs false
noncomputable def shaV (s : ByteArray) : ByteArray := if h : s.size ≤ 100000000 then (Classical.choose (sha_tot s h)).1.1 else ⟨(List.replicate 32 0).toArray⟩
theorem shaV_size (s : ByteArray) : (shaV s).size = 32 := by
 unfold shaV
 split
 ·next h => exact (Classical.choose_spec (sha_tot s h)).2
 ·rfl
theorem sha_ok (s : ByteArray) (h : s.size ≤ 100000000) : Runs (fun k => sha_Sum.f k s) ((shaV s, ()), ()) := by
 have := (Classical.choose_spec (sha_tot s h)).1
 refine Runs.of_eq this ?_
 unfold shaV
 rw [dif_pos h]
def Tok (T : List (ByteArray × ByteArray)) : Prop := ∀ k, mhas k T = true → (mgetD k T).size = 32
theorem tok_nil : Tok [] := fun k h => by cases h
noncomputable def hashV (T : List (ByteArray × ByteArray)) (s : ByteArray) : ByteArray := bif mhas ((⟨#[115]⟩ : ByteArray) ++ s) T then mgetD ((⟨#[115]⟩ : ByteArray) ++ s) T else shaV s
theorem hashV_size {T : List (ByteArray × ByteArray)} (hT : Tok T) (s : ByteArray) : (hashV T s).size = 32 := by
 unfold hashV
 cases h : mhas ((⟨#[115]⟩ : ByteArray) ++ s) T with
 | true => exact hT _ h
 | false => exact shaV_size s
noncomputable def leafV (T : List (ByteArray × ByteArray)) (s : ByteArray) : ByteArray := hashV T ((⟨#[0]⟩ : ByteArray) ++ s)
noncomputable def nodeV (T : List (ByteArray × ByteArray)) (a b : ByteArray) : ByteArray := hashV T (((⟨#[1]⟩ : ByteArray) ++ a) ++ b)
noncomputable def noneV (T : List (ByteArray × ByteArray)) : ByteArray := hashV T ⟨#[]⟩
section
variable {T : List (ByteArray × ByteArray)}
theorem note_tot (s h t f1 f2 n N) : TP (fun k => mill_Mill_note.f k s h t f1 f2 n T N) (fun _ => True) := by
 refine TP.step (fun k => rfl) (TP.both (TP.both (TP.both (TP.some trivial) ?_) ?_) ?_) <;> exact TP.both (TP.some trivial) (TP.both (TP.some trivial) (TP.some trivial))
theorem none_ok (t f1 f2 n N) : TP (fun k => mill_Mill_none.f k t f1 f2 n T N) (fun v => v.1 = (false, ())) := TP.step (fun k => rfl) (TP.some rfl)
theorem name_ok (x s : ByteArray) (hs : s.size ≤ 100000000) : TP (fun k => mill_name.f k false x s) (fun v => v.1 = ((⟨#[115]⟩ : ByteArray) ++ s, ())) :=
 TP.step (fun k => rfl) (TP.ck (by apply decide_eq_true; show 1 + s.size ≤ _; omega) (TP.some rfl))
theorem sum_ok (s : ByteArray) (hs : s.size ≤ 100000000) (t f1 f2 n N) : TP (fun k => mill_Mill_Sum.f k s t f1 f2 n T N) (fun v => v.1 = (hashV T s, ())) := by
 refine TP.step (fun k => rfl) (TP.bindM (none_ok _ _ _ _ _) fun _ => TP.no rfl (TP.bindM (name_ok _ s hs) fun _ => TP.cond (fun h => ?_) fun h => ?_))
 ·refine TP.bindR (sha_ok s hs) (TP.bind (note_tot _ _ _ _ _ _ _) fun _ _ => TP.some ?_)
  have h' : mhas ((⟨#[115]⟩ : ByteArray) ++ s) T = false := by simpa using h
  show (shaV s, ()) = (hashV T s, ())
  unfold hashV; rw [h']; rfl
 ·refine TP.bind (note_tot _ _ _ _ _ _ _) fun _ _ => TP.some ?_
  have h' : mhas ((⟨#[115]⟩ : ByteArray) ++ s) T = true := by simpa using h
  show (mgetD ((⟨#[115]⟩ : ByteArray) ++ s) T, ()) = (hashV T s, ())
  unfold hashV; rw [h']; rfl
theorem leaf_ok (s : ByteArray) (hs : s.size ≤ 1000000) (t f1 f2 n N) : TP (fun k => pledge_Leaf.f k s t f1 f2 n T N) (fun v => v.1 = (leafV T s, ())) :=
 TP.step (fun k => rfl) (TP.ck (by apply decide_eq_true; show 1 + s.size ≤ _; omega) (TP.bindM (sum_ok _ (by rw [ByteArray.size_append]; show 1 + s.size ≤ _; omega) _ _ _ _ _) fun _ => TP.some rfl))
theorem node_ok (a b : ByteArray) (ha : a.size ≤ 10000000) (hb : b.size ≤ 10000000) (t f1 f2 n N) : TP (fun k => pledge_Node.f k a b t f1 f2 n T N) (fun v => v.1 = (nodeV T a b, ())) :=
 TP.step (fun k => rfl) (TP.ck (by apply decide_eq_true; show 1 + a.size ≤ _; omega) (TP.ck (by apply decide_eq_true; rw [ByteArray.size_append]; show 1 + a.size + b.size ≤ _; omega)
  (TP.bindM (sum_ok _ (by rw [ByteArray.size_append, ByteArray.size_append]; show 1 + a.size + b.size ≤ _; omega) _ _ _ _ _) fun _ => TP.some rfl)))
theorem pnone_ok (t f1 f2 n N) : TP (fun k => pledge_None.f k t f1 f2 n T N) (fun v => v.1 = (noneV T, ())) :=
 TP.step (fun k => rfl) (TP.bindM (sum_ok _ (by show 0 ≤ _; omega) _ _ _ _ _) fun _ => TP.some rfl)
end
def belowN (n : Nat) : Nat := 2 ^ (Nat.log2 (n - 1))
theorem below_pos (n : Nat) : 0 < belowN n := Nat.pow_pos (by decide)
theorem below_lt {n : Nat} (h : 2 ≤ n) : belowN n < n := by
 have := Nat.log2_self_le (n := n - 1) (by omega)
 unfold belowN; omega
theorem below_half {n : Nat} (h : 2 ≤ n) : n ≤ 2 * belowN n := by
 have := Nat.lt_log2_self (n := n - 1)
 unfold belowN
 rw [Nat.pow_succ] at this; omega
theorem below_le {n d : Nat} (h : 2 ≤ n) (hd : n ≤ 2 ^ (d + 1)) : belowN n ≤ 2 ^ d ∧ n - belowN n ≤ 2 ^ d := by
 have h1 : belowN n < 2 ^ (d + 1) := Nat.lt_of_lt_of_le (below_lt h) hd
 have h2 : Nat.log2 (n - 1) < d + 1 := (Nat.pow_lt_pow_iff_right (by decide : 1 < 2)).1 h1
 have h3 : belowN n ≤ 2 ^ d := Nat.pow_le_pow_right (by decide) (by omega)
 have := below_half h
 exact ⟨h3, by omega⟩
theorem wsub {a b : Nat} (ha : a ≤ 1000000000) (hb : b ≤ 1000000000) : IntKind.wrap .i64 ((a : Int) - (b : Int)) = (a : Int) - (b : Int) := wrap_i64 (by omega) (by omega)
theorem wdbl {p : Nat} (h : p ≤ 1000000000) : IntKind.wrap .i64 ((p : Int) * 2) = ((p * 2 : Nat) : Int) := by rw [wrap_i64 (by omega) (by omega)]; omega
theorem lt_sub {n p : Nat} : (p : Int) < (n : Int) - (p : Int) ↔ p * 2 ≤ n - 1 ∧ 0 < n := by omega
theorem split_loop {n : Nat} (hn : 2 ≤ n) (hb : n ≤ 1000000000) : ∀ (m j : Nat), j + m = Nat.log2 (n - 1) → TP (fun k => merkle_split.l0 k n ((2 ^ j : Nat) : Int)) (fun v => v.1 = ((belowN n : Int), ()))
 | m, j, h => by
  have hle : 2 ^ j ≤ belowN n := Nat.pow_le_pow_right (by decide) (by omega)
  have hlt := below_lt hn
  have e1 : IntKind.wrap .i64 ((n : Int) - ((2 ^ j : Nat) : Int)) = (n : Int) - ((2 ^ j : Nat) : Int) := wsub hb (by omega)
  have e2 : IntKind.wrap .i64 (((2 ^ j : Nat) : Int) * 2) = ((2 ^ (j + 1) : Nat) : Int) := by rw [Nat.pow_succ]; exact wdbl (by omega)
  have hiff : j + 1 ≤ Nat.log2 (n - 1) ↔ 2 ^ (j + 1) ≤ n - 1 := Nat.le_log2 (by omega)
  rw [Nat.pow_succ] at hiff
  refine TP.step (fun k => rfl) (TP.dec (fun hc => ?_) fun hc => ?_)
  ·rw [e1, lt_sub] at hc
   have : j + 1 ≤ Nat.log2 (n - 1) := hiff.2 hc.1
   cases m with
   | zero => omega
   | succ m =>
    rw [e2]
    exact split_loop hn hb m (j + 1) (by omega)
  ·rw [e1, lt_sub] at hc
   have : ¬ j + 1 ≤ Nat.log2 (n - 1) := fun h => hc ⟨hiff.1 h, by omega⟩
   refine TP.some ?_
   show (((2 ^ j : Nat) : Int), ()) = _
   rw [show j = Nat.log2 (n - 1) by omega]; rfl
theorem split_ok {n : Nat} (hn : 2 ≤ n) (hb : n ≤ 1000000000) : TP (fun k => merkle_split.f k (n : Int)) (fun v => v.1 = ((belowN n : Int), ())) := TP.step (fun k => rfl) (split_loop hn hb _ 0 (Nat.zero_add _))
end Go.Proofs.Ytfbpkpnnglhbcaa.Pure
