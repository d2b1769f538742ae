/- Plain laws of chapter 28: a growth's bytes, and what they are read as. -/
import Derived.Test.YtfbpkpnnglhbcaaPMerkS
import Derived.Test.YtfbpkpnnglhbcaaOOne
namespace Go.Proofs.Ytfbpkpnnglhbcaa.Pure
open Go Go.Proofs.Ytfbpkpnnglhbcaa.E Go.Proofs.Ytfbpkpnnglhbcaa.Eng
set_option linter.unusedVariables false
set_option linter.unusedSimpArgs false
theorem empty_left (s : ByteArray) : (⟨#[]⟩ : ByteArray) ++ s = s := by
 have : ((⟨#[]⟩ : ByteArray) ++ s).data = s.data := by rw [ByteArray.data_append]; simp
 cases s; cases h2 : (⟨#[]⟩ : ByteArray) ++ _; rw [h2] at this; simp only at this; rw [this]
theorem w_num {x : Int} (h0 : 0 ≤ x) (h1 : x < 72057594037927936) {s : ByteArray} (hs : s.size ≤ 1000000000) : Runs (fun k => octet_Writer_Num.f k x s false) ((), ((s ++ numI x, false, ()), ())) := writer_num h0 h1 hs
theorem w_text {t s : ByteArray} (h : t.size ≤ 1048576) (hs : s.size ≤ 1000000000) : Runs (fun k => octet_Writer_Text.f k t s false) ((), ((s ++ textB t, false, ()), ())) := writer_text h hs false
theorem w_texts (l : List ByteArray) (hl : l.length ≤ 1048576) (hb : ∀ t ∈ l, t.size ≤ 1048576) {s : ByteArray} (hs : s.size + 8 + roomL l ≤ 1000000000) : Runs (fun k => octet_Writer_Texts.f k l s false) ((), ((s ++ listB l, false, ()), ())) := by
 have hn := writer_num (x := (l.length : Int)) (by omega) (by omega) (s := s) (by omega)
 rw [Int.toNat_natCast] at hn
 have := numB_size (n := l.length) (by omega)
 refine Runs.step (fun k => rfl) (Runs.bind hn ?_)
 have hl2 := writer_texts_loop l hl hb false l.length 0 (Nat.zero_add _) (s ++ numB l.length) (by rw [List.drop_zero, ByteArray.size_append]; omega)
 rw [List.drop_zero, bapp_assoc] at hl2
 exact hl2
theorem numI_size' {x : Int} (h : x < 72057594037927936) : (numI x).size ≤ 8 := numI_size h
theorem bk_num {s : ByteArray} (hs : s.size ≤ 30000000) {a : Nat} {x lim : Int} (h0 : 0 ≤ x) (hx : x < 72057594037927936) (hl : x ≤ lim) (h : At s a (numI x)) : Runs (fun k => octet_Reader_Num.f k lim s (a : Int) 0) ((x, ()), ((s, ((a + (numI x).size : Nat) : Int), 0, ()), ())) := by
 have hr := reader_num hs (a := a) (by have := h.1; omega) 0 lim
 have hv := At.num (n := x.toNat) (by omega) (lim := lim) (by omega) h
 rw [hv, Int.toNat_of_nonneg h0] at hr
 exact hr
theorem bk_text {s : ByteArray} (hs : s.size ≤ 30000000) {a : Nat} {t : ByteArray} {lim : Int} (hl : (t.size : Int) ≤ lim) (h : At s a (textB t)) : Runs (fun k => octet_Reader_Text.f k lim s (a : Int) 0) ((t, ()), ((s, ((a + (textB t).size : Nat) : Int), 0, ()), ())) := by
 have hz := h.1
 have hsz : t.size ≤ (textB t).size := by unfold textB; rw [ByteArray.size_append]; omega
 have hr := reader_text hs (a := a) (by omega) 0 lim
 have hv := At.text (t := t) (by omega) hl h
 rw [hv] at hr
 exact hr
theorem bk_texts {s : ByteArray} (hs : s.size ≤ 30000000) {a : Nat} {l : List ByteArray} {n lim : Int} (hn : (l.length : Int) ≤ n) (hl : ∀ t ∈ l, (t.size : Int) ≤ lim) (hlen : l.length ≤ 1048576) (h : At s a (listB l)) : Runs (fun k => octet_Reader_Texts.f k n lim s (a : Int) 0) ((l, ()), ((s, ((a + (listB l).size : Nat) : Int), 0, ()), ())) := by
 unfold listB at h ⊢
 have hr := reader_num hs (a := a) (by have := h.1; omega) 0 n
 have hv := h.left.num (lim := n) (by omega) hn
 rw [hv] at hr
 have hin := texts_read hs lim l hlen hl _ 0 (Nat.zero_add _) _ h.left.1 (by rw [List.drop_zero]; exact h.right)
 rw [List.drop_zero, List.take_zero, Nat.add_assoc, ← ByteArray.size_append] at hin
 exact Runs.step (fun k => rfl) (Runs.bind hr hin)
theorem roomL_32 : ∀ l : List ByteArray, (∀ t ∈ l, t.size = 32) → roomL l ≤ 41 * l.length
 | [], _ => by simp [roomL]
 | t :: l, h => by
  have := h t (by simp)
  have := roomL_32 l (fun x hx => h x (List.mem_cons_of_mem _ hx))
  simp only [roomL, List.length_cons]; omega
theorem textsB_room : ∀ l : List ByteArray, (∀ t ∈ l, t.size ≤ 1048576) → (textsB l).size ≤ roomL l
 | [], _ => Nat.le_refl 0
 | t :: l, h => by
  have := textB_size (h t (by simp))
  unfold textB at this
  have := textsB_room l (fun x hx => h x (List.mem_cons_of_mem _ hx))
  simp only [textsB, roomL]; rw [ByteArray.size_append]; omega
theorem psums_loop (l : List ByteArray) (hl : l.length ≤ 17) (h : S32 l) : ∀ (m i : Nat), i + m = l.length → Runs (fun k => proof_sums.l0 k l 17 l (l.length : Int) (i : Int)) ((true, ()), ())
 | 0, i, hi => Runs.step (fun k => rfl) (Runs.no (by apply decide_eq_false; omega) (Runs.some' (by rw [decide_eq_true (by omega)])))
 | m + 1, i, hi => by
  have hlt : i < l.length := by omega
  have nx := psums_loop l hl h m (i + 1) (by omega)
  rw [show ((i + 1 : Nat) : Int) = IntKind.wrap .i64 ((i : Int) + 1) from (wrap_i64 (by omega) (by omega)).symm] at nx
  refine Runs.step (fun k => rfl) (Runs.yes (by apply decide_eq_true; omega) (Runs.opt (rdo_at hlt) (Runs.no ?_ nx)))
  rw [h _ (List.getElem_mem hlt)]; rfl
theorem psums_ok (l : List ByteArray) (hl : l.length ≤ 17) (h : S32 l) : Runs (fun k => proof_sums.f k l 17) ((true, ()), ()) := Runs.step (fun k => rfl) (psums_loop l hl h l.length 0 (Nat.zero_add _))
structure GrOk (n : Int) (r : ByteArray) (p : List ByteArray) : Prop where
 n0 : 0 ≤ n
 n1 : n ≤ 65536
 r : r.size = 32
 s : S32 p
 len : p.length ≤ 17
theorem rightg_ok {n : Int} {r : ByteArray} {p : List ByteArray} (h : GrOk n r p) : Runs (fun k => proof_RightGrowth.f k ((n, r, ()), p, ())) ((true, ()), ()) :=
 Runs.step (fun k => rfl) (Runs.yes (decide_eq_true h.n0) (Runs.yes (decide_eq_true h.n1) (Runs.yes (by dsimp only; rw [h.r]; rfl) (Runs.bind (psums_ok p h.len h.s) Runs.some))))
def gL (n : Int) (r : ByteArray) (p : List ByteArray) : ByteArray := numI n ++ (textB r ++ listB p)
theorem listP_size {l : List ByteArray} (hl : l.length ≤ 17) (h : S32 l) : (listB l).size ≤ 800 := by
 have h1 := roomL_32 l h
 have h2 := textsB_room l (fun t ht => by have := h t ht; omega)
 have h3 := numB_size (n := l.length) (by omega)
 unfold listB; rw [ByteArray.size_append]; omega
theorem all_ok (w : ByteArray) : Runs (fun k => octet_Writer_All.f k w false) ((w, true, ()), ()) := Runs.step (body := fun _ => some ((w, true, ()), ())) (fun k => rfl) Runs.some
theorem gbytes_ok {n : Int} {r : ByteArray} {p : List ByteArray} (h : GrOk n r p) : Runs (fun k => proof_GrowthBytes.f k ((n, r, ()), p, ())) ((gL n r p, ()), ()) := by
 have h0 := h.n0
 have h1 := h.n1
 have hr := h.r
 have hl := h.len
 have z1 := numI_size' (x := n) (by omega)
 have z2 := textB_size (t := r) (by omega)
 have z3 := roomL_32 p h.s
 refine Runs.step (fun k => rfl) (Runs.bind (rightg_ok h) (Runs.no rfl (Runs.bind (w_num (x := n) (s := ByteArray.empty) h0 (by omega) (Nat.zero_le _)) ?_)))
 have e0 : ByteArray.empty ++ numI n = numI n := empty_left _
 rw [e0]
 refine Runs.bind (w_text (t := r) (s := numI n) (by omega) (by omega)) (Runs.bind (w_texts p (by omega) (fun t ht => by have := h.s t ht; omega) (s := numI n ++ textB r) (by rw [ByteArray.size_append]; omega)) ?_)
 refine Runs.bind (all_ok _) (Runs.some' ?_)
 dsimp only
 unfold gL; rw [bapp_assoc]
theorem rgrowth_ok {n : Int} {r : ByteArray} {p : List ByteArray} (h : GrOk n r p) : Runs (fun k => proof_ReadGrowth.f k (gL n r p)) ((((n, r, ()), p, ()), 0, ()), ()) := by
 have h0 := h.n0
 have h1 := h.n1
 have hr := h.r
 have hl := h.len
 have z1 := numI_size' (x := n) (by omega)
 have z2 := textB_size (t := r) (by omega)
 have z3 := listP_size hl h.s
 have hsz : (gL n r p).size = (numI n).size + (textB r).size + (listB p).size := by unfold gL; simp only [ByteArray.size_append]; omega
 have hs : (gL n r p).size ≤ 30000000 := by omega
 have hat : At (gL n r p) 0 (numI n ++ (textB r ++ listB p)) := at_all (gL n r p)
 have r1 := bk_num hs (x := n) (lim := 65536) h0 (by omega) h1 hat.left
 have r2 := bk_text hs (t := r) (lim := 32) (by omega) hat.right.left
 have r3 := bk_texts hs (l := p) (n := 17) (lim := 32) (by omega) (fun t ht => by have := h.s t ht; omega) (by omega) hat.right.right
 have r4 := end_ok hs (a := 0 + (numI n).size + (textB r).size + (listB p).size) (by omega) 0
 rw [if_neg (by omega)] at r4
 have r0 : Runs (fun k => octet_Read.f k (gL n r p)) (((), ()), ((gL n r p, 0, 0, ()), ())) := Runs.step (fun k => rfl) Runs.some
 exact Runs.step (fun k => rfl) (Runs.bind r0 (Runs.bind r1 (Runs.bind r2 (Runs.bind r3 (Runs.bind r4 (Runs.no rfl (Runs.bind (rightg_ok h) (Runs.no rfl Runs.some))))))))
end Go.Proofs.Ytfbpkpnnglhbcaa.Pure
