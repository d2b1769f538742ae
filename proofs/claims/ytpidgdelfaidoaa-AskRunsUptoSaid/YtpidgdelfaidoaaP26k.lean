/- Plain laws of chapter 26: a question's tokens. -/
import Derived.Test.YtpidgdelfaidoaaP26j
namespace Go.Proofs.Ytpidgdelfaidoaa.Pure
open Go Go.Proofs.Ytpidgdelfaidoaa.E Go.Proofs.Ytpidgdelfaidoaa.Eng
set_option linter.unusedVariables false
set_option linter.unusedSimpArgs false
abbrev Tks := List (Int × Tx)
def valT (v : ValueT) : Tks :=
  if v.1 = 0 then [(0, [110, 117, 108, 108])] else if v.1 = 1 then [(0, if v.2.1 = true then [116, 114, 117, 101] else [102, 97, 108, 115, 101])] else if v.1 = 2 then [(1, wholeL v.2.2.1)]
  else if v.1 = 3 then [(0, [102, 108, 111, 97, 116]), (3, [40]), (2, hexD 16 v.2.2.2.1.toNat), (3, [41])] else [(2, v.2.2.2.2.1.data.toList)]
def tailT (t : Trm) : Tks :=
  if t.2.2.2.1 = true ∧ t.2.2.2.2.1 = true ∧ t.2.1 = t.2.2.1 then (0, [105, 115]) :: valT t.2.1
  else if t.2.2.2.1 = false ∧ t.2.2.2.2.1 = false then [(0, [116, 104, 101, 114, 101])]
  else (if t.2.2.2.1 = true then (0, [102, 114, 111, 109]) :: valT t.2.1 else []) ++ (if t.2.2.2.2.1 = true then (0, [116, 111]) :: valT t.2.2.1 else [])
def termT (t : Trm) : Tks := (if t.2.2.2.2.2.1 = true then [(0, [110, 111, 116])] else []) ++ (2, t.1.data.toList) :: tailT t
def termsT : Bool → List Trm → Tks
  | _, [] => []
  | b, t :: r => (0, if b = true then [119, 104, 101, 114, 101] else [97, 110, 100]) :: (termT t ++ termsT false r)
def byT (q : Qry) : Tks := if q.2.1 = ⟨#[]⟩ then [] else (0, [98, 121]) :: (2, q.2.1.data.toList) :: (if q.2.2.1 = true then [(0, [100, 111, 119, 110])] else [])
def toksQ (q : Qry) : Tks := termsT true q.1 ++ byT q ++ [(0, [109, 111, 115, 116]), (1, wholeL q.2.2.2.1)]
theorem Lx.pre {pre : Tx} (h : ∀ post bl, BlE post bl → BlE post (pre ++ bl)) {rest : Tx} {l : Tks} (hl : Lx rest l) : Lx (pre ++ rest) l := by
  cases hl with
  | done _ hb => exact .done _ (h _ _ hb)
  | tok bl w post text kind l hb ht hl =>
    rw [← List.append_assoc]
    exact .tok _ _ _ _ _ _ (h _ _ hb) ht hl
theorem Lx.sp {rest : Tx} {l : Tks} (hl : Lx rest l) : Lx (32 :: rest) l := Lx.pre (pre := [32]) (fun post bl h => .sp 32 bl (.inl rfl) h) hl
theorem not_blank {c : UInt8} (h : c ≠ 32 ∧ c ≠ 10 ∧ c ≠ 9 ∧ c ≠ 35) (w : Tx) : BlE (c :: w) [] := .nil (fun d r e => by injection e with e1 _; subst e1; exact h)
theorem letter_nb {c : UInt8} (h : letterB c = true) : c ≠ 32 ∧ c ≠ 10 ∧ c ≠ 9 ∧ c ≠ 35 := by
  refine ⟨?_, ?_, ?_, ?_⟩ <;> (intro e; subst e; exact absurd h (by decide))
theorem digit_nb {c : UInt8} (h : digitB c = true) : c ≠ 32 ∧ c ≠ 10 ∧ c ≠ 9 ∧ c ≠ 35 := by
  refine ⟨?_, ?_, ?_, ?_⟩ <;> (intro e; subst e; exact absurd h (by decide))
theorem Lx.word {c : UInt8} {w post : Tx} {l : Tks} (hc : letterB c = true) (hw : ∀ x ∈ w, wordC x = true) (hp : ∀ d r, post = d :: r → wordC d = false) (h : Lx post l) : Lx (c :: (w ++ post)) ((0, c :: w) :: l) :=
  .tok [] (c :: w) post (c :: w) 0 l (not_blank (letter_nb hc) _) (.word c w post hc hw hp) h
theorem Lx.num {c : UInt8} {w post : Tx} {l : Tks} (hc : digitB c = true ∨ (c = 45 ∧ w ≠ [])) (hw : ∀ x ∈ w, digitB x = true) (hp : ∀ d r, post = d :: r → digitB d = false) (h : Lx post l) : Lx (c :: (w ++ post)) ((1, c :: w) :: l) :=
  .tok [] (c :: w) post (c :: w) 1 l (not_blank (by rcases hc with h | ⟨rfl, _⟩
                                                    · exact digit_nb h
                                                    · decide) _) (.num c w post hc hw hp) h
theorem Lx.quote (t : Tx) {post : Tx} {l : Tks} (h : Lx post l) : Lx (quotedL t ++ post) ((2, t) :: l) :=
  .tok [] (quotedL t) post t 2 l (by unfold quotedL; exact not_blank (by decide) _) (.quote t post) h
theorem Lx.mark {c : UInt8} (hc : c ∈ marksT) {post : Tx} {l : Tks} (h : Lx post l) : Lx (c :: post) ((3, [c]) :: l) :=
  .tok [] [c] post [c] 3 l (not_blank (by
    have : ∀ c ∈ marksT, c ≠ 32 ∧ c ≠ 10 ∧ c ≠ 9 ∧ c ≠ 35 := by decide
    exact this c hc) _) (.mark c post hc) h
theorem Lx.wsp {c : UInt8} {w post : Tx} {l : Tks} (hc : letterB c = true) (hw : ∀ x ∈ w, wordC x = true) (h : Lx post l) : Lx (c :: (w ++ 32 :: post)) ((0, c :: w) :: l) :=
  Lx.word hc hw (fun d r e => by injection e with e1 _; subst e1; rfl) h.sp
theorem digL_digits : ∀ (n : Nat), ∀ x ∈ digL n, digitB x = true := by
  intro n
  induction n using Nat.strongRecOn with
  | _ n ih =>
    intro x hx
    have d : ∀ m, m < 10 → digitB (UInt8.ofNat (48 + m)) = true := by decide
    by_cases h : n < 10
    · rw [digL_small h] at hx
      rw [List.mem_singleton.1 hx]; exact d n h
    · rw [digL_big h] at hx
      rcases List.mem_append.1 hx with hx | hx
      · exact ih (n / 10) (by omega) x hx
      · rw [List.mem_singleton.1 hx]; exact d _ (Nat.mod_lt _ (by omega))
theorem Lx.whole (z : Int) {post : Tx} {l : Tks} (hp : ∀ d r, post = d :: r → digitB d = false) (h : Lx post l) : Lx (wholeL z ++ post) ((1, wholeL z) :: l) := by
  have hd := digL_digits z.natAbs
  have hne := digL_pos z.natAbs
  unfold wholeL
  split
  · exact Lx.num (.inr ⟨rfl, hne⟩) hd hp h
  · cases hl : digL z.natAbs with
    | nil => exact absurd hl hne
    | cons c w =>
      rw [hl] at hd
      exact Lx.num (.inl (hd c (List.mem_cons_self ..))) (fun x hx => hd x (List.mem_cons_of_mem _ hx)) hp h
theorem sp_digit : ∀ (d : UInt8) (r post : Tx), 32 :: post = d :: r → digitB d = false := fun d r post e => by injection e with e1 _; subst e1; rfl
theorem Lx.value (v : ValueT) (hk : 0 ≤ v.1 ∧ v.1 ≤ 4) {post : Tx} {l : Tks} (h : Lx post l) : Lx (valueL v ++ 32 :: post) (valT v ++ l) := by
  have hw : ∀ w : Tx, (∀ x ∈ w, wordC x = true) ↔ w.all wordC = true := fun w => by rw [List.all_eq_true]
  unfold valueL valT
  by_cases h0 : v.1 = 0
  · rw [if_pos h0, if_pos h0]; exact Lx.wsp rfl ((hw _).mpr rfl) h
  rw [if_neg h0, if_neg h0]
  by_cases h1 : v.1 = 1
  · rw [if_pos h1, if_pos h1]
    cases v.2.1
    · exact Lx.wsp rfl ((hw _).mpr rfl) h
    · exact Lx.wsp rfl ((hw _).mpr rfl) h
  rw [if_neg h1, if_neg h1]
  by_cases h2 : v.1 = 2
  · rw [if_pos h2, if_pos h2]; exact Lx.whole _ (fun d r e => sp_digit d r _ e) h.sp
  rw [if_neg h2, if_neg h2]
  by_cases h3 : v.1 = 3
  · rw [if_pos h3, if_pos h3]
    have e : floatL v.2.2.2.1.toNat ++ 32 :: post = 102 :: ([108, 111, 97, 116] ++ 40 :: (quotedL (hexD 16 v.2.2.2.1.toNat) ++ 41 :: 32 :: post)) := by unfold floatL; simp
    rw [e]
    exact Lx.word rfl ((hw _).mpr rfl) (fun d r e => by injection e with e1 _; subst e1; rfl) (Lx.mark (by decide) (Lx.quote _ (Lx.mark (by decide) h.sp)))
  · rw [if_neg h3, if_neg h3, if_pos (by omega)]
    exact Lx.quote _ h.sp
structure TRt (t : Trm) : Prop where
  l : t.2.2.2.1 = true → 0 ≤ t.2.1.1 ∧ t.2.1.1 ≤ 4
  h : t.2.2.2.2.1 = true → 0 ≤ t.2.2.1.1 ∧ t.2.2.1.1 ≤ 4
theorem Lx.tail (t : Trm) (ht : TRt t) {post : Tx} {l : Tks} (h : Lx post l) : Lx (tailL t ++ post) (tailT t ++ l) := by
  have hw : ∀ w : Tx, (∀ x ∈ w, wordC x = true) ↔ w.all wordC = true := fun w => by rw [List.all_eq_true]
  unfold tailL tailT
  by_cases h1 : t.2.2.2.1 = true ∧ t.2.2.2.2.1 = true ∧ t.2.1 = t.2.2.1
  · rw [if_pos h1, if_pos h1]
    have := Lx.wsp (c := 105) (w := [115]) rfl ((hw _).mpr rfl) (Lx.value t.2.1 (ht.l h1.1) h)
    simpa using this
  rw [if_neg h1, if_neg h1]
  by_cases h2 : t.2.2.2.1 = false ∧ t.2.2.2.2.1 = false
  · rw [if_pos h2, if_pos h2]
    exact Lx.wsp (c := 116) (w := [104, 101, 114, 101]) rfl ((hw _).mpr rfl) h
  rw [if_neg h2, if_neg h2]
  have hto : Lx ((if t.2.2.2.2.1 = true then [116, 111, 32] ++ valueL t.2.2.1 ++ [32] else []) ++ post) ((if t.2.2.2.2.1 = true then (0, [116, 111]) :: valT t.2.2.1 else []) ++ l) := by
    by_cases he : t.2.2.2.2.1 = true
    · rw [if_pos he, if_pos he]
      have := Lx.wsp (c := 116) (w := [111]) rfl ((hw _).mpr rfl) (Lx.value t.2.2.1 (ht.h he) h)
      simpa using this
    · rw [if_neg he, if_neg he]; exact h
  by_cases hd : t.2.2.2.1 = true
  · rw [if_pos hd, if_pos hd]
    have := Lx.wsp (c := 102) (w := [114, 111, 109]) rfl ((hw _).mpr rfl) (Lx.value t.2.1 (ht.l hd) hto)
    simpa using this
  · rw [if_neg hd, if_neg hd]; exact hto
theorem Lx.term (t : Trm) (ht : TRt t) {post : Tx} {l : Tks} (h : Lx post l) : Lx (termL t ++ post) (termT t ++ l) := by
  have hw : ∀ w : Tx, (∀ x ∈ w, wordC x = true) ↔ w.all wordC = true := fun w => by rw [List.all_eq_true]
  have h1 : Lx (quotedL t.1.data.toList ++ 32 :: (tailL t ++ post)) ((2, t.1.data.toList) :: (tailT t ++ l)) := Lx.quote _ (Lx.tail t ht h).sp
  unfold termL termT
  by_cases hn : t.2.2.2.2.2.1 = true
  · rw [if_pos hn, if_pos hn]
    have := Lx.wsp (c := 110) (w := [111, 116]) rfl ((hw _).mpr rfl) h1
    simpa using this
  · rw [if_neg hn, if_neg hn]
    simpa using h1
theorem Lx.terms : ∀ (ts : List Trm) (b : Bool), (∀ t ∈ ts, TRt t) → ∀ {post : Tx} {l : Tks}, Lx post l → Lx (termsL b ts ++ post) (termsT b ts ++ l)
  | [], _, _, _, _, h => h
  | t :: r, b, ht, post, l, h => by
    have hw : ∀ w : Tx, (∀ x ∈ w, wordC x = true) ↔ w.all wordC = true := fun w => by rw [List.all_eq_true]
    have h1 := Lx.term t (ht t (List.mem_cons_self ..)) (Lx.terms r false (fun x hx => ht x (List.mem_cons_of_mem _ hx)) h)
    unfold termsL termsT
    cases b
    · have := Lx.wsp (c := 97) (w := [110, 100]) rfl ((hw _).mpr rfl) h1
      simpa using this
    · have := Lx.wsp (c := 119) (w := [104, 101, 114, 101]) rfl ((hw _).mpr rfl) h1
      simpa using this
theorem Lx.by (q : Qry) {post : Tx} {l : Tks} (h : Lx post l) : Lx (byL q ++ post) (byT q ++ l) := by
  have hw : ∀ w : Tx, (∀ x ∈ w, wordC x = true) ↔ w.all wordC = true := fun w => by rw [List.all_eq_true]
  unfold byL byT
  by_cases hb : q.2.1 = ⟨#[]⟩
  · rw [if_pos hb, if_pos hb]; exact h
  · rw [if_neg hb, if_neg hb]
    cases hd : q.2.2.1
    · have := Lx.wsp (c := 98) (w := [121]) rfl ((hw _).mpr rfl) (Lx.quote q.2.1.data.toList h.sp)
      simpa using this
    · have := Lx.wsp (c := 98) (w := [121]) rfl ((hw _).mpr rfl) (Lx.quote q.2.1.data.toList (Lx.wsp (c := 100) (w := [111, 119, 110]) rfl ((hw _).mpr rfl) h).sp)
      simpa using this
theorem Lx.query (q : Qry) (ht : ∀ t ∈ q.1, TRt t) (post : Tx) (hp : ∀ d r, post = d :: r → digitB d = false) (h : Lx post []) : Lx (printL q ++ post) (toksQ q) := by
  have hw : ∀ w : Tx, (∀ x ∈ w, wordC x = true) ↔ w.all wordC = true := fun w => by rw [List.all_eq_true]
  have := Lx.terms q.1 true ht (Lx.by q (Lx.wsp (c := 109) (w := [111, 115, 116]) rfl ((hw _).mpr rfl) (Lx.whole q.2.2.2.1 hp h)))
  unfold printL toksQ
  simpa using this
theorem Lx.nil : Lx [] [] := .done [] (.nil (fun c r h => nomatch h))
end Go.Proofs.Ytpidgdelfaidoaa.Pure
