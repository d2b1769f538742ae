/- Plain laws of chapter 26: a question as a text: the program's pieces joined are the document's text. -/
import Derived.Test.YtpidgdelfaidoaaP26d
namespace Go.Proofs.Ytpidgdelfaidoaa.Pure
open Go Go.Proofs.Ytpidgdelfaidoaa.E Go.Proofs.Ytpidgdelfaidoaa.Eng
set_option linter.unusedVariables false
set_option linter.unusedSimpArgs false
def tailW (t : Trm) : Tx :=
 if t.2.2.2.1 = true ∧ t.2.2.2.2.1 = true ∧ t.2.1 = t.2.2.1 then [32, 105, 115, 32] ++ valueL t.2.1
 else if t.2.2.2.1 = false ∧ t.2.2.2.2.1 = false then [32, 116, 104, 101, 114, 101]
 else (if t.2.2.2.1 = true then [32, 102, 114, 111, 109, 32] ++ valueL t.2.1 else []) ++ (if t.2.2.2.2.1 = true then [32, 116, 111, 32] ++ valueL t.2.2.1 else [])
theorem tailW_eq (t : Trm) : tailW t ++ [32] = 32 :: tailL t := by
 unfold tailW tailL
 obtain ⟨a, b, c, d, e, f, ⟨⟩⟩ := t
 by_cases h1 : d = true ∧ e = true ∧ b = c
 ·simp [h1]
 ·rw [if_neg h1, if_neg h1]
  cases d <;> cases e <;> simp
def termW (t : Trm) : Tx := (if t.2.2.2.2.2.1 = true then [110, 111, 116, 32] else []) ++ quotedL t.1.data.toList ++ tailW t
theorem termW_eq (t : Trm) : termW t ++ [32] = termL t := by
 unfold termW termL
 rw [List.append_assoc, tailW_eq]; simp
theorem app_ok {a b : Tx} {β : Type} {g : Nat → Option β} {w : β} (ha : a.length ≤ 1000000) (hb : b.length ≤ 1000000) (h : Runs g w) : Runs (fun k => (ck (decide ((tx a).size + (tx b).size ≤ 9223372036854775807))).bind fun _ => g k) w :=
 Runs.ck (by apply decide_eq_true; rw [tx_size, tx_size]; omega) h
theorem term_j1 (t : Trm) (h : TOk t) (o : Tx) (ho : o.length ≤ 100000) (a0 : ByteArray) (a1 : ValueT) (a3 a5 : Bool) :
  Runs (fun k => ask_term.j1 k (tx o) a0 a1 t.2.2.1 a3 t.2.2.2.2.1 a5) ((tx (o ++ (if t.2.2.2.2.1 = true then [32, 116, 111, 32] ++ valueL t.2.2.1 else [])), ()), ()) := by
 have hv := valueL_len _ h.h
 refine Runs.step (fun k => rfl) (Runs.cond (fun hb => ?_) fun hb => Runs.some' (by rw [if_neg (by rw [hb]; decide)]; simp))
 rw [if_pos hb]
 refine Runs.bind (value_ok _ h.h) (app_ok (a := [32, 116, 111, 32]) (by simp) (by omega) ?_)
 have e : (⟨#[32, 116, 111, 32]⟩ : ByteArray) ++ tx (valueL t.2.2.1) = tx ([32, 116, 111, 32] ++ valueL t.2.2.1) := (tx_append _ _).symm
 rw [e]
 exact app_ok (by omega) (by simp; omega) (Runs.some' (congrArg (fun x => ((x, ()), ())) (tx_append _ _).symm))
theorem term_j0 (t : Trm) (h : TOk t) (o : Tx) (ho : o.length ≤ 50000) (a0 : ByteArray) (a5 : Bool) :
  Runs (fun k => ask_term.j0 k (tx o) a0 t.2.1 t.2.2.1 t.2.2.2.1 t.2.2.2.2.1 a5) ((tx (o ++ tailW t), ()), ()) := by
 have hl := valueL_len _ h.l
 have hv := valueL_len _ h.h
 have hfrom (hd : t.2.2.2.1 = true) (hs : tailW t = ([32, 102, 114, 111, 109, 32] ++ valueL t.2.1) ++ (if t.2.2.2.2.1 = true then [32, 116, 111, 32] ++ valueL t.2.2.1 else [])) :
   Runs (fun k => (say_Value.f k t.2.1).bind fun r4 => (ck (decide ((⟨#[32, 102, 114, 111, 109, 32]⟩ : ByteArray).size + r4.1.1.size ≤ 9223372036854775807))).bind fun _ => (ck (decide ((tx o).size + ((⟨#[32, 102, 114, 111, 109, 32]⟩ : ByteArray) ++ r4.1.1).size ≤ 9223372036854775807))).bind fun _ =>
    ask_term.j1 k (tx o ++ ((⟨#[32, 102, 114, 111, 109, 32]⟩ : ByteArray) ++ r4.1.1)) a0 t.2.1 t.2.2.1 t.2.2.2.1 t.2.2.2.2.1 a5) ((tx (o ++ tailW t), ()), ()) := by
  refine Runs.bind (value_ok _ h.l) (app_ok (a := [32, 102, 114, 111, 109, 32]) (by simp) (by omega) ?_)
  have e : (⟨#[32, 102, 114, 111, 109, 32]⟩ : ByteArray) ++ tx (valueL t.2.1) = tx ([32, 102, 114, 111, 109, 32] ++ valueL t.2.1) := (tx_append _ _).symm
  rw [e]
  refine app_ok (by omega) (by simp; omega) ?_
  rw [← tx_append]
  refine (term_j1 t h _ (by simp; omega) _ _ _ _).of_eq ?_
  rw [hs]; simp
 refine Runs.step (fun k => rfl) (Runs.cond (fun hd => Runs.cond (fun he => Runs.cond (fun hq => ?_) fun hq => ?_) fun he => ?_) fun hd => ?_)
 ·have hq : t.2.1 = t.2.2.1 := (eqVB_iff _ _).mp hq
  refine app_ok (b := [32, 105, 115, 32]) (by omega) (by simp) (Runs.bind (value_ok _ h.l) ?_)
  have e : tx o ++ (⟨#[32, 105, 115, 32]⟩ : ByteArray) = tx (o ++ [32, 105, 115, 32]) := (tx_append _ _).symm
  rw [e]
  refine app_ok (by simp; omega) (by omega) (Runs.some' ?_)
  unfold tailW
  rw [if_pos ⟨hd, he, hq⟩]
  refine (congrArg (fun x => ((x, ()), ())) (tx_append _ _).symm).trans ?_
  simp
 ·have hq : ¬ t.2.1 = t.2.2.1 := fun e => by have := (eqVB_iff _ _).mpr e; unfold eqVB at this; rw [this] at hq; cases hq
  have hs : tailW t = ([32, 102, 114, 111, 109, 32] ++ valueL t.2.1) ++ (if t.2.2.2.2.1 = true then [32, 116, 111, 32] ++ valueL t.2.2.1 else []) := by
   unfold tailW; rw [if_neg (fun e => hq e.2.2), if_neg (fun e => by rw [hd] at e; cases e.1), if_pos hd]
  refine Runs.no (by rw [hd]; rfl) (Runs.yes hd (hfrom hd hs))
 ·have hs : tailW t = ([32, 102, 114, 111, 109, 32] ++ valueL t.2.1) ++ (if t.2.2.2.2.1 = true then [32, 116, 111, 32] ++ valueL t.2.2.1 else []) := by
   unfold tailW; rw [if_neg (fun e => by rw [he] at e; cases e.2.1), if_neg (fun e => by rw [hd] at e; cases e.1), if_pos hd]
  refine Runs.no (by rw [hd]; rfl) (Runs.yes hd (hfrom hd hs))
 ·refine Runs.yes (by rw [hd]; rfl) (Runs.cond (fun he => ?_) fun he => ?_)
  ·have he : t.2.2.2.2.1 = false := by simpa using he
   refine app_ok (b := [32, 116, 104, 101, 114, 101]) (by omega) (by simp) (Runs.some' ?_)
   unfold tailW; rw [if_neg (fun e => by rw [he] at e; cases e.2.1), if_pos ⟨hd, he⟩]
   exact congrArg (fun x => ((x, ()), ())) (tx_append _ _).symm
  ·have he : t.2.2.2.2.1 = true := by simpa using he
   have hs : tailW t = (if t.2.2.2.2.1 = true then [32, 116, 111, 32] ++ valueL t.2.2.1 else []) := by
    unfold tailW; rw [if_neg (fun e => by rw [hd] at e; cases e.1), if_neg (fun e => by rw [he] at e; cases e.2), if_neg (show ¬ t.2.2.2.1 = true by rw [hd]; decide)]
    rfl
   refine Runs.no hd ((term_j1 t h o (by omega) _ _ _ _).of_eq ?_)
   rw [hs]
theorem term_ok (t : Trm) (h : TOk t) : Runs (fun k => ask_term.f k t) ((tx (termW t), ()), ()) := by
 have hn := h.n
 have hq := quotedL_len t.1.data.toList
 rw [← size_list] at hq
 have q := quoted_ok t.1.data.toList (by rw [← size_list]; omega)
 rw [tx_self] at q
 refine Runs.step (fun k => rfl) (Runs.bind q (Runs.cond (fun hb => ?_) fun hb => ?_))
 ·refine app_ok (a := [110, 111, 116, 32]) (by simp) (by omega) ?_
  have e : (⟨#[110, 111, 116, 32]⟩ : ByteArray) ++ tx (quotedL t.1.data.toList) = tx ([110, 111, 116, 32] ++ quotedL t.1.data.toList) := (tx_append _ _).symm
  rw [e]
  refine (term_j0 t h _ (by simp; omega) _ _).of_eq ?_
  unfold termW; rw [if_pos hb]
 ·refine (term_j0 t h _ (by omega) _ _).of_eq ?_
  unfold termW; rw [if_neg (by rw [hb]; decide)]; simp
def joinB : List Tx → Tx
 | [] => []
 | x :: r => x ++ 32 :: joinB r
def joinR : List Tx → Tx
 | [] => []
 | x :: r => 32 :: (x ++ joinR r)
def joinL : List Tx → Tx
 | [] => []
 | x :: r => x ++ joinR r
theorem joinR_eq : ∀ r : List Tx, joinR r ++ [32] = 32 :: joinB r
 | [] => rfl
 | x :: r => by simp [joinR, joinB, joinR_eq r]
theorem joinL_eq (x : Tx) (r : List Tx) : joinL (x :: r) ++ [32] = joinB (x :: r) := by
 simp [joinL, joinB, joinR_eq r]
def lens : List Tx → Nat
 | [] => 0
 | x :: r => x.length + lens r
theorem join_l1 (x : Tx) : ∀ (b a o : List Tx) (p : Tx), o = a ++ b → p ≠ [] → p.length + lens b + b.length ≤ 1000000 → o.length ≤ 1000000 →
  Runs (fun k => strings_Join.l1 k (tx [32]) (o.map tx) (o.length : Int) (a.length : Int) (ni p)) ((tx (p ++ joinR b), ()), ()) := by
 intro b
 induction b with
 | nil =>
  intro a o p ho hp hb hol
  subst ho
  refine Runs.step (fun k => rfl) (Runs.no (by apply decide_eq_false; simp) ?_)
  simp [lens] at hb
  exact Runs.bind (str_ok p hp (by omega)) (Runs.some' (by simp [joinR]))
 | cons c b ih =>
  intro a o p ho hp hb hol
  simp only [lens, List.length_cons] at hb
  have hmap : o.map tx = a.map tx ++ tx c :: b.map tx := by rw [ho]; simp
  have hao : a.length + (b.length + 1) = o.length := by rw [ho]; simp
  refine Runs.step (fun k => rfl) (Runs.yes (by apply decide_eq_true; omega) (Runs.opt (rdo_middle hmap (by simp)) ?_))
  refine Runs.bind (ws_ok _ (ni p) (by rw [ni_length]; omega) (by decide)) ?_
  have e1 : ni p ++ bytesOf (tx [32]) = ni (p ++ [32]) := by rw [bytesOf_tx, ni_append]
  show Runs (fun k => (strings_Builder_WriteString_v0.f k (tx c) (ni p ++ bytesOf (tx [32]))).bind _) _
  rw [e1]
  refine Runs.bind (ws_ok _ (ni (p ++ [32])) (by rw [ni_length]; simp; omega) (by rw [tx_size]; omega)) ?_
  have e2 : ni (p ++ [32]) ++ bytesOf (tx c) = ni (p ++ [32] ++ c) := by rw [bytesOf_tx, ni_append (p ++ [32])]
  show Runs (fun k => strings_Join.l1 k (tx [32]) (o.map tx) (o.length : Int) (IntKind.wrap .i64 ((a.length : Int) + 1)) (ni (p ++ [32]) ++ bytesOf (tx c))) _
  rw [e2, show IntKind.wrap .i64 ((a.length : Int) + 1) = ((a ++ [c]).length : Int) by rw [wrap_i64 (by omega) (by omega)]; simp]
  refine (ih (a ++ [c]) o _ (by rw [ho]; simp) (by simp) (by simp; omega) hol).of_eq ?_
  simp [joinR]
theorem join_l0 (x : Tx) (r : List Tx) (hb : lens (x :: r) + r.length ≤ 1000000) (hr : r ≠ []) (hx0 : x ≠ []) : ∀ (b a : List Tx), x :: r = a ++ b → ∀ n : Nat, n = r.length + lens a →
  Runs (fun k => strings_Join.l0 k ((x :: r).map tx) (tx [32]) (n : Int) ((x :: r).map tx) ((((x :: r).map tx).length : Nat) : Int) (a.length : Int)) ((tx (joinL (x :: r)), ()), ()) := by
 have lapp : ∀ a b : List Tx, lens (a ++ b) = lens a + lens b := by
  intro a b
  induction a with
  | nil => simp [lens]
  | cons y a ih => simp [lens, ih]; omega
 have hrl : 0 < r.length := List.length_pos_iff.mpr hr
 intro b
 induction b with
 | nil =>
  intro a ha n hn
  rw [List.append_nil] at ha
  subst ha
  have hn0 : 0 < n := by omega
  have g : Runs (fun k => growFresh.f k (n : Int)) ((), ((), [], ()), ()) := by
   refine ⟨0, fun k _ => ?_⟩
   show growB (n : Int) = _
   unfold growB
   rw [show (decide ((0 : Int) < (n : Int)) && decide ((n : Int) ≤ 281474976710656)) = true by simp only [Bool.and_eq_true, decide_eq_true_eq]; omega]
  refine Runs.step (fun k => rfl) (Runs.no (by apply decide_eq_false; simp) (Runs.bind g (Runs.opt (v := tx x) (by rfl) ?_)))
  have hx : x.length ≤ 1000000 := by simp [lens] at hb; omega
  refine Runs.bind (ws_ok _ [] (by simp) (by rw [tx_size]; omega)) ?_
  refine Runs.ck (by simp only [Bool.and_eq_true, decide_eq_true_eq, List.length_map, List.length_cons]; omega) ?_
  have hd : (((x :: r).map tx).take (((x :: r).map tx).length : Int).toNat).drop (1 : Int).toNat = r.map tx := by
   rw [Int.toNat_natCast, List.take_length]; rfl
  show Runs (fun k => strings_Join.l1 k (tx [32]) ((((x :: r).map tx).take (((x :: r).map tx).length : Int).toNat).drop (1 : Int).toNat) ((((((x :: r).map tx).take (((x :: r).map tx).length : Int).toNat).drop (1 : Int).toNat).length : Nat) : Int) 0 ([] ++ bytesOf (tx x))) _
  rw [hd, List.length_map, List.nil_append, bytesOf_tx]
  exact join_l1 x r [] r x rfl hx0 (by simp [lens] at hb; omega) (by simp [lens] at hb; omega)
 | cons c b ih =>
  intro a ha n hn
  have hmap : (x :: r).map tx = a.map tx ++ tx c :: b.map tx := by rw [ha]; simp
  have hlen : ((x :: r).map tx).length = a.length + (b.length + 1) := by rw [List.length_map, ha]; simp
  have hlen' : r.length + 1 = a.length + (b.length + 1) := by rw [List.length_map] at hlen; exact hlen
  have hl : lens (x :: r) = lens a + (c.length + lens b) := by rw [ha, lapp]; rfl
  refine Runs.step (fun k => rfl) (Runs.yes (by apply decide_eq_true; omega) (Runs.opt (rdo_middle hmap (by simp)) (Runs.no ?_ ?_)))
  ·apply decide_eq_false; rw [tx_size, wrap_i64 (by omega) (by omega)]; omega
  ·rw [tx_size, show IntKind.wrap .i64 ((n : Int) + (c.length : Int)) = ((n + c.length : Nat) : Int) by rw [wrap_i64 (by omega) (by omega)]; rfl, show IntKind.wrap .i64 ((a.length : Int) + 1) = ((a ++ [c]).length : Int) by rw [wrap_i64 (by omega) (by omega)]; simp]
   exact ih (a ++ [c]) (by rw [ha]; simp) _ (by rw [lapp, hn]; simp [lens]; omega)
theorem join_ok (x : Tx) (r : List Tx) (hb : lens (x :: r) + r.length ≤ 1000000) (hr : r ≠ []) (hx0 : x ≠ []) : Runs (fun k => strings_Join.f k ((x :: r).map tx) (tx [32])) ((tx (joinL (x :: r)), ()), ()) := by
 have hrl : 0 < r.length := List.length_pos_iff.mpr hr
 have hlen : (((x :: r).map tx).length : Int) = ((r.length + 1 : Nat) : Int) := by rw [List.length_map]; rfl
 have hw : IntKind.wrap .i64 ((((x :: r).map tx).length : Int) - 1) = (r.length : Int) := by rw [hlen, wrap_i64 (by omega) (by omega)]; omega
 refine Runs.step (fun k => rfl) (Runs.no (by rw [beq_eq_false_iff_ne]; omega) (Runs.yes rfl ?_))
 rw [hw]
 refine Runs.ck (by rw [Bool.not_eq_true']; apply decide_eq_false; omega) (Runs.no ?_ ?_)
 ·apply decide_eq_false
  rw [show (9223372036854775807 : Int) = ((9223372036854775807 : Nat) : Int) from rfl, tdiv_nn, wrap_i64n (Nat.div_le_self _ _)]
  have : 2 ≤ 9223372036854775807 / r.length := by rw [Nat.le_div_iff_mul_le hrl]; omega
  show ¬ ((1 : Int) ≥ _)
  omega
 ·refine Runs.step (body := fun k => strings_Join.j1 k ((x :: r).map tx) (tx [32]) (IntKind.wrap .i64 (0 + IntKind.wrap .i64 (((tx [32]).size : Int) * IntKind.wrap .i64 ((((x :: r).map tx).length : Int) - 1))))) (fun k => rfl) ?_
  rw [hw]
  have e : IntKind.wrap .i64 (0 + IntKind.wrap .i64 (((tx [32]).size : Int) * (r.length : Int))) = (r.length : Int) := by
   show IntKind.wrap .i64 (0 + IntKind.wrap .i64 (1 * (r.length : Int))) = _
   rw [Int.one_mul, wrap_i64n (by omega), Int.zero_add, wrap_i64n (by omega)]
  rw [e]
  refine Runs.step (fun k => rfl) ?_
  exact join_l0 x r hb hr hx0 (x :: r) [] rfl _ rfl
end Go.Proofs.Ytpidgdelfaidoaa.Pure
