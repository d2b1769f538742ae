/- Layer proof's proofs in plain lists: which may be, their bytes, and what is read. -/
import Derived.Test.YtfegehfdbcnepaaPProofb
import Derived.Test.YtfegehfdbcnepaaPProof
import Derived.Test.YtfegehfdbcnepaaQProofW
import Derived.Test.YtfegehfdbcnepaaQPaperWord
import Derived.Test.YtfegehfdbcnepaaQFlag
import Derived.Test.YtfegehfdbcnepaaQReader2
namespace Go.Proofs.Ytfegehfdbcnepaa.Q
open Go.RowKit Go.Proofs.Ytfegehfdbcnepaa.PAll Go.Proofs.YtfegehfdbcnepaaW.PrintWords Go.Proofs.YtfegehfdbcnepaaW.PrintLast
set_option linter.unusedVariables false
set_option linter.unusedSimpArgs false
abbrev It := S50
def flagL (b : Bool) : ByteArray := B [if b = true then 1 else 0]
/-- A field as it is laid. -/
def itemL (t : It) : ByteArray := numI t.f0 ++ (textB t.f1 ++ (flagL t.f2 ++ (if t.f2 = true then textB t.f5 else textB t.f3 ++ textB t.f4)))
def itemsL : List It → ByteArray
  | [] => B []
  | t :: l => itemL t ++ itemsL l
/-- A proof as it is laid. -/
def showL (id : ByteArray) (cl born cnt : Int) (l : List It) (nodes : List ByteArray) (seq size : Int) (path : List ByteArray) : ByteArray :=
  textB id ++ (numI cl ++ (numI born ++ (numI cnt ++ (numI l.length ++ (itemsL l ++ ((numI nodes.length ++ textsB nodes) ++ (numI seq ++ (numI size ++ (numI path.length ++ textsB path)))))))))
/-! ## Which may be -/
/-- May a field stand in a proof? -/
def itemB (t : It) (cnt : Int) : Bool := decide (¬ t.f0 < 0) && (decide (¬ t.f0 ≥ cnt) && (wordB t.f1 16 && (if t.f2 = true then decide (t.f5.size = 32) && (decide (L t.f3 = []) && (L t.f4).isEmpty)
  else decide (L t.f5 = []) && (decide (t.f3.size = 16) && decide (t.f4.size ≤ 208)))))
theorem rightItem_ok (k : Nat) (t : It) (cnt : Int) (hk : t.f1.size + 5 ≤ k) (h1 : t.f1.size ≤ 1152921504606846976) : proof_rightItem.f k t.f0 t.f1 t.f2 t.f3 t.f4 t.f5 cnt = some (itemB t cnt) := by
  obtain ⟨k, rfl⟩ : ∃ q, k = q + 1 := ⟨k - 1, by omega⟩
  have j0t : proof_rightItem.j0 (k + 1) true t.f0 t.f1 t.f2 t.f3 t.f4 t.f5 = some false := by rw [proof_rightItem.j0, if_pos rfl]
  unfold proof_rightItem.f itemB
  refine arm_no j0t (fun _ => arm_no j0t (fun _ => ?_))
  rw [isName_ok (k + 1) t.f1 (by omega) h1, bind_some', proof_rightItem.j0]
  cases wordB t.f1 16 with
  | false => rw [if_pos (by rfl)]; rfl
  | true =>
    rw [if_neg (by decide), Bool.true_and]
    by_cases h2 : t.f2 = true
    · rw [if_pos h2, if_pos h2, toList_eq, toList_eq]
      by_cases h : t.f5.size = 32
      · rw [if_pos (by omega), decide_eq_true h, Bool.true_and]
        by_cases g : L t.f3 = []
        · rw [if_pos g, decide_eq_true g, Bool.true_and]
        · rw [if_neg g, decide_eq_false g, Bool.false_and]
      · rw [if_neg (by omega), decide_eq_false h, Bool.false_and]
    · rw [if_neg h2, if_neg h2, toList_eq]
      by_cases h : L t.f5 = []
      · rw [if_pos h, decide_eq_true h, Bool.true_and]
        by_cases g : t.f3.size = 16
        · rw [if_pos (by omega), decide_eq_true g, Bool.true_and]
          by_cases u : t.f4.size ≤ 208
          · rw [decide_eq_true u, decide_eq_true (by omega)]
          · rw [decide_eq_false u, decide_eq_false (by omega)]
        · rw [if_neg (by omega), decide_eq_false g, Bool.false_and]
      · rw [if_neg h, decide_eq_false h, Bool.false_and]
/-- Do fields rise, and may they stand? -/
def riseI (cnt : Int) : Option It → List It → Bool
  | _, [] => true
  | p, t :: l => itemB t cnt && ((match p with | none => true | some q => decide (¬ q.f0 ≥ t.f0) && Op.bytesLess q.f1.toList t.f1.toList) && riseI cnt (some t) l)
theorem riseI_cons (cnt : Int) (p : Option It) (t : It) (l : List It) : riseI cnt p (t :: l) = (itemB t cnt && ((match p with | none => true | some q => decide (¬ q.f0 ≥ t.f0) && Op.bytesLess q.f1.toList t.f1.toList) && riseI cnt (some t) l)) := by cases p <;> rfl
def prevI (l : List It) (i : Nat) : Option It := if i = 0 then none else l[i - 1]?
theorem rd_item (l : List It) (i : Nat) (h : i < l.length) : rd_T50 l (i : Int) = l[i] := by
  unfold rd_T50
  simp [h]
/-- What a proof that may be has. -/
def rightS (id : ByteArray) (cl born cnt : Int) (l : List It) (nodes : List ByteArray) (seq size : Int) (path : List ByteArray) : Prop :=
  wordB id 24 = true ∧ (0 ≤ cl ∧ cl < 8) ∧ (0 ≤ born ∧ born ≤ 1099511627776) ∧ (1 ≤ cnt ∧ cnt ≤ 12) ∧ (1 ≤ size ∧ size ≤ 65536) ∧ (0 ≤ seq ∧ seq < size) ∧ (1 ≤ l.length ∧ (l.length : Int) ≤ cnt) ∧
    riseI cnt none l = true ∧ sumsB nodes 12 = true ∧ sumsB path 16 = true
theorem right_loop (cnt : Int) (l : List It) (hl : l.length ≤ 1000) (hs : ∀ t ∈ l, t.f1.size ≤ 1000) (id : ByteArray) (cl born : Int) (nodes path : List ByteArray) (seq size : Int) (hn : nodes.length ≤ 1000) (hp : path.length ≤ 1000) : ∀ (m k i : Nat), l.length - i = m → 2 * m + 2000 < k → i ≤ l.length →
    proof_Right.l0 k l (l.length : Int) (i : Int) id cl born cnt l nodes seq size path = some (riseI cnt (prevI l i) (l.drop i) && (sumsB nodes 12 && sumsB path 16)) := by
  intro m
  induction m with
  | zero =>
    intro k i hm hk hi
    obtain ⟨k, rfl⟩ : ∃ q, k = q + 1 := ⟨k - 1, by omega⟩
    rw [proof_Right.l0, if_neg (by omega), List.drop_of_length_le (by omega), proof_sums_ok k nodes 12 (by omega) (by omega), bind_some', proof_sums_ok k path 16 (by omega) (by omega)]
    show _ = some (true && _)
    rw [Bool.true_and]
    exact arm_bool rfl (fun _ => rfl)
  | succ m ih =>
    intro k i hm hk hi
    obtain ⟨k, rfl⟩ : ∃ q, k = q + 2 := ⟨k - 2, by omega⟩
    have hlt : i < l.length := by omega
    have hmem := List.getElem_mem hlt
    have hs1 := hs _ hmem
    have hw : wrap64 ((i : Int) + 1) = ((i + 1 : Nat) : Int) := by unfold wrap64; omega
    have hpv : prevI l (i + 1) = some l[i] := by unfold prevI; rw [if_neg (by omega)]; simp [hlt]
    have ihs := ih k (i + 1) (by omega) (by omega) (by omega)
    rw [hpv] at ihs
    have j3 : ∀ b : Bool, proof_Right.j3 (k + 1) l (l.length : Int) (i : Int) (!b) id cl born cnt l nodes seq size path = some (b && (riseI cnt (some l[i]) (l.drop (i + 1)) && (sumsB nodes 12 && sumsB path 16))) := by
      intro b
      rw [proof_Right.j3]
      cases b
      · rw [if_pos (by decide)]; rfl
      · rw [if_neg (by decide), hw, ihs]; rfl
    have j3t := j3 false
    have j3f := j3 true
    rw [Bool.not_false, Bool.false_and] at j3t
    rw [Bool.not_true, Bool.true_and] at j3f
    rw [proof_Right.l0, if_pos (by omega), if_pos (by omega), if_pos (by omega), rd_item l i hlt, rightItem_ok (k + 1) _ cnt (by omega) (by omega), bind_some', List.drop_eq_getElem_cons hlt, riseI_cons, Bool.and_assoc, Bool.and_assoc]
    refine arm_bool j3t (fun _ => ?_)
    rcases Nat.eq_zero_or_pos i with rfl | hi0
    · rw [if_neg (by omega), j3f]
      unfold prevI
      rw [if_pos rfl]
      rfl
    · have hw2 : wrap64 ((i : Int) - 1) = ((i - 1 : Nat) : Int) := by unfold wrap64; omega
      have hlt2 : i - 1 < l.length := by omega
      have hq : prevI l i = some l[i - 1] := by unfold prevI; rw [if_neg (by omega)]; simp [hlt2]
      rw [if_pos (by omega), hw2, if_pos (by omega), if_pos (by omega), rd_item l (i - 1) hlt2, hq]
      dsimp only
      rw [Bool.and_assoc]
      exact arm_no j3t (fun _ => j3 _)
theorem right_ok (k : Nat) (hk : 5000 ≤ k) (id : ByteArray) (cl born cnt : Int) (l : List It) (nodes : List ByteArray) (seq size : Int) (path : List ByteArray) (hid : id.size ≤ 1000) (hl : l.length ≤ 1000) (hs : ∀ t ∈ l, t.f1.size ≤ 1000)
    (hn : nodes.length ≤ 1000) (hp : path.length ≤ 1000) : ∃ b, proof_Right.f k id cl born cnt l nodes seq size path = some b ∧ (b = true → rightS id cl born cnt l nodes seq size path) := by
  obtain ⟨k, rfl⟩ : ∃ q, k = q + 3 := ⟨k - 3, by omega⟩
  have j0t : ∀ q, proof_Right.j0 (q + 1) true id cl born cnt l nodes seq size path = some false := fun q => by rw [proof_Right.j0, if_pos rfl]
  have j1t : ∀ q, proof_Right.j1 (q + 1) true id cl born cnt l nodes seq size path = some false := fun q => by rw [proof_Right.j1, if_pos rfl]
  have h := right_loop cnt l hl hs id cl born nodes path seq size hn hp l.length (k + 1) 0 rfl (by omega) (by omega)
  rw [List.drop_zero] at h
  have key : proof_Right.f (k + 3) id cl born cnt l nodes seq size path = some (wordB id 24 && (decide (¬ cl < 0) && (decide (¬ cl ≥ 8) && (decide (¬ born < 0) && (decide (¬ born > 1099511627776) && (decide (¬ cnt < 1) && (decide (¬ cnt > 12) &&
      (decide (¬ size < 1) && (decide (¬ size > 65536) && (decide (¬ seq < 0) && (decide (¬ seq ≥ size) && (decide (¬ (l.length : Int) < 1) && (decide (¬ (l.length : Int) > cnt) && (riseI cnt none l && (sumsB nodes 12 && sumsB path 16))))))))))))))) := by
    unfold proof_Right.f
    rw [isID_ok (k + 3) id (by omega) (by omega), bind_some']
    refine arm_bool (j0t _) (fun _ => arm_no (j0t _) (fun _ => arm_no (j0t _) (fun _ => arm_no (j0t _) (fun _ => arm_no (j0t _) (fun _ => arm_no (j0t _) (fun _ => ?_))))))
    rw [proof_Right.j0]
    by_cases hc : cnt > 12
    · rw [decide_eq_true hc, if_pos rfl, decide_eq_false (by simpa using hc)]; rfl
    · rw [decide_eq_false hc, if_neg (by decide), decide_eq_true hc, Bool.true_and]
      refine arm_no (j1t _) (fun _ => arm_no (j1t _) (fun _ => arm_no (j1t _) (fun _ => arm_no (j1t _) (fun _ => arm_no (j1t _) (fun _ => ?_)))))
      rw [proof_Right.j1]
      by_cases hc2 : (l.length : Int) > cnt
      · rw [decide_eq_true hc2, if_pos rfl, decide_eq_false (by simpa using hc2)]; rfl
      · rw [decide_eq_false hc2, if_neg (by decide), decide_eq_true hc2, Bool.true_and]
        exact h
  refine ⟨_, key, fun hb => ?_⟩
  simp only [Bool.and_eq_true, decide_eq_true_eq] at hb
  obtain ⟨a1, a2, a3, a4, a5, a6, a7, a8, a9, a10, a11, a12, a13, a14, a15, a16⟩ := hb
  exact ⟨a1, ⟨by omega, by omega⟩, ⟨by omega, by omega⟩, ⟨by omega, by omega⟩, ⟨by omega, by omega⟩, ⟨by omega, by omega⟩, ⟨by omega, by omega⟩, a14, a15, a16⟩
/-! ## Reading -/
/-- A field out of what is left. -/
def itemS (rest : List UInt8) (e : Int) : It × List UInt8 × Int :=
  let a := numS rest e 11
  let b := textS a.2.1 a.2.2 16
  let c := flagS b.2.1 b.2.2
  if c.1 = true then
    let d := textS c.2.1 c.2.2 32
    (⟨a.1, B b.1, c.1, ⟨#[]⟩, ⟨#[]⟩, B d.1⟩, d.2.1, d.2.2)
  else
    let d := textS c.2.1 c.2.2 16
    let f := textS d.2.1 d.2.2 208
    (⟨a.1, B b.1, c.1, B d.1, B f.1, ⟨#[]⟩⟩, f.2.1, f.2.2)
theorem item_chain (k : Nat) (s : ByteArray) (p0 e0 : Int) (n : Int) (p1 e1 : Int) (nm : ByteArray) (p2 e2 : Int) (fl : Bool) (p3 e3 : Int)
    (h1 : octet_Reader_Num.f k s p0 e0 11 = some (n, s, p1, e1)) (h2 : octet_Reader_Text.f k s p1 e1 16 = some (nm, s, p2, e2)) (h3 : octet_Reader_Flag.f s p2 e2 = some (fl, s, p3, e3)) :
    proof_readItem.f k s p0 e0 = if fl = true then (octet_Reader_Text.f k s p3 e3 32).bind fun b => some (n, nm, fl, ⟨#[]⟩, ⟨#[]⟩, b.1, b.2.1, b.2.2.1, b.2.2.2)
      else (octet_Reader_Text.f k s p3 e3 16).bind fun a => (octet_Reader_Text.f k a.2.1 a.2.2.1 a.2.2.2 208).bind fun b => some (n, nm, fl, a.1, b.1, ⟨#[]⟩, b.2.1, b.2.2.1, b.2.2.2) := by
  unfold proof_readItem.f
  rw [h1, bind_some']
  dsimp only
  rw [h2, bind_some']
  dsimp only
  rw [h3, bind_some']
theorem readItem_ok {s : ByteArray} {pos e : Int} {rest : List UInt8} (hs : s.size ≤ 4611686018427387904) (h : Rdr s pos e rest) (k : Nat) (hk : 12 ≤ k) :
    ∃ pos', proof_readItem.f k s pos e = some ((itemS rest e).1.f0, (itemS rest e).1.f1, (itemS rest e).1.f2, (itemS rest e).1.f3, (itemS rest e).1.f4, (itemS rest e).1.f5, s, pos', (itemS rest e).2.2) ∧ Rdr s pos' (itemS rest e).2.2 (itemS rest e).2.1 := by
  obtain ⟨p1, h1, r1⟩ := num_ok hs h k hk 11
  obtain ⟨p2, h2, r2⟩ := text_ok hs r1 k hk 16
  obtain ⟨p3, h3, r3⟩ := flag_ok hs r2
  rw [item_chain k s pos e _ p1 _ _ p2 _ _ p3 _ h1 h2 h3]
  unfold itemS
  dsimp only
  generalize flagS (textS (numS rest e 11).2.1 (numS rest e 11).2.2 16).2.1 (textS (numS rest e 11).2.1 (numS rest e 11).2.2 16).2.2 = c at *
  obtain ⟨fl, t3, e3⟩ := c
  dsimp only at *
  cases fl
  · obtain ⟨p4, h4, r4⟩ := text_ok hs r3 k hk 16
    obtain ⟨p5, h5, r5⟩ := text_ok hs r4 k hk 208
    rw [if_neg (by decide), if_neg (by decide), h4, bind_some']
    dsimp only
    rw [h5, bind_some']
    exact ⟨p5, rfl, r5⟩
  · obtain ⟨p4, h4, r4⟩ := text_ok hs r3 k hk 32
    rw [if_pos rfl, if_pos rfl, h4, bind_some']
    exact ⟨p4, rfl, r4⟩
theorem flagS_e0 {rest : List UInt8} {e : Int} (h : (flagS rest e).2.2 = 0) : e = 0 := by
  by_cases he : e = 0
  · exact he
  · rw [flagS_err rest e he] at h; exact absurd h he
theorem textS_e0 {rest : List UInt8} {e most : Int} (h : (textS rest e most).2.2 = 0) : e = 0 := by
  by_cases he : e = 0
  · exact he
  · rw [textS_err rest e most he] at h; exact absurd h he
theorem numS_e0 {rest : List UInt8} {e most : Int} (h : (numS rest e most).2.2 = 0) : e = 0 := by
  by_cases he : e = 0
  · exact he
  · rw [numS_err rest e most he] at h; exact absurd h he
theorem textsS_e0 {rest : List UInt8} {e many most : Int} (h : (textsS rest e many most).2.2 = 0) : e = 0 := by
  by_cases he : e = 0
  · exact he
  · rw [textsS_err rest e many most he] at h; exact absurd h he
/-- What was read as a text, told back. -/
theorem textS_L {rest : List UInt8} {most : Int} (hm : most < 72057594037927936) (h : (textS rest 0 most).2.2 = 0) : rest = L (textB (B (textS rest 0 most).1)) ++ (textS rest 0 most).2.1 ∧ ((B (textS rest 0 most).1).size : Int) ≤ most := by
  obtain ⟨h1, h2⟩ := textS_back rest most hm h
  refine ⟨?_, by rw [size_B]; exact h2⟩
  unfold textB
  rw [L_append, L_B, size_B]
  exact h1
theorem numS_L {rest : List UInt8} {most : Int} (hm : most < 72057594037927936) (h : (numS rest 0 most).2.2 = 0) : rest = L (numI (numS rest 0 most).1) ++ (numS rest 0 most).2.1 ∧ 0 ≤ (numS rest 0 most).1 ∧ (numS rest 0 most).1 ≤ most := by
  obtain ⟨n, g1, g2, g3, g4⟩ := numS_back rest most hm h
  rw [g1, g4, L_B]
  exact ⟨g3, by omega, g2⟩
theorem itemS_back (rest : List UInt8) (e : Int) (h : (itemS rest e).2.2 = 0) : e = 0 ∧ rest = L (itemL (itemS rest e).1) ++ (itemS rest e).2.1 ∧ (itemS rest e).1.f1.size ≤ 16 := by
  unfold itemS at h ⊢
  dsimp only at h ⊢
  generalize ha : numS rest e 11 = a at *
  obtain ⟨n, t1, e1⟩ := a
  dsimp only at *
  generalize hb : textS t1 e1 16 = b at *
  obtain ⟨nm, t2, e2⟩ := b
  dsimp only at *
  generalize hc : flagS t2 e2 = c at *
  obtain ⟨fl, t3, e3⟩ := c
  dsimp only at *
  have pre : e3 = 0 → e = 0 ∧ rest = L (numI n) ++ (L (textB (B nm)) ++ (L (flagL fl) ++ t3)) ∧ (B nm).size ≤ 16 := by
    intro z3
    have z2 : e2 = 0 := flagS_e0 (rest := t2) (by rw [hc]; exact z3)
    have z1 : e1 = 0 := textS_e0 (rest := t1) (most := 16) (by rw [hb]; exact z2)
    have z0 : e = 0 := numS_e0 (rest := rest) (most := 11) (by rw [ha]; exact z1)
    subst z0 z1 z2 z3
    have q1 := numS_L (rest := rest) (most := 11) (by omega) (by rw [ha])
    have q2 := textS_L (rest := t1) (most := 16) (by omega) (by rw [hb])
    have q3 := flagS_back t2 (by rw [hc])
    rw [ha] at q1; rw [hb] at q2; rw [hc] at q3
    dsimp only at q1 q2 q3
    refine ⟨rfl, ?_, by omega⟩
    rw [q1.1]
    congr 1
    rw [q2.1]
    congr 1
  cases fl
  · rw [if_neg (by decide)] at h ⊢
    generalize hd : textS t3 e3 16 = d at *
    obtain ⟨sa, t4, e4⟩ := d
    dsimp only at *
    generalize hf : textS t4 e4 208 = f at *
    obtain ⟨va, t5, e5⟩ := f
    dsimp only at *
    have z4 : e4 = 0 := textS_e0 (rest := t4) (most := 208) (by rw [hf]; exact h)
    have z3 : e3 = 0 := textS_e0 (rest := t3) (most := 16) (by rw [hd]; exact z4)
    obtain ⟨z0, hr, hz⟩ := pre z3
    subst z3 z4 h
    have q4 := textS_L (rest := t3) (most := 16) (by omega) (by rw [hd])
    have q5 := textS_L (rest := t4) (most := 208) (by omega) (by rw [hf])
    rw [hd] at q4; rw [hf] at q5
    dsimp only at q4 q5
    refine ⟨z0, ?_, hz⟩
    unfold itemL
    rw [hr, q4.1, q5.1]
    simp only [L_append, List.append_assoc, Bool.false_eq_true, if_false]
  · rw [if_pos rfl] at h ⊢
    generalize hd : textS t3 e3 32 = d at *
    obtain ⟨pl, t4, e4⟩ := d
    dsimp only at *
    have z3 : e3 = 0 := textS_e0 (rest := t3) (most := 32) (by rw [hd]; exact h)
    obtain ⟨z0, hr, hz⟩ := pre z3
    subst z3 h
    have q4 := textS_L (rest := t3) (most := 32) (by omega) (by rw [hd])
    rw [hd] at q4
    dsimp only at q4
    refine ⟨z0, ?_, hz⟩
    unfold itemL
    rw [hr, q4.1]
    simp only [L_append, List.append_assoc, if_true]
/-- So many fields; at the first fault those before it. -/
def itemsS : Nat → List UInt8 → List It → List It × List UInt8 × Int
  | 0, rest, acc => (acc, rest, 0)
  | m + 1, rest, acc => if (itemS rest 0).2.2 = 0 then itemsS m (itemS rest 0).2.1 (acc ++ [(itemS rest 0).1]) else (acc, (itemS rest 0).2.1, (itemS rest 0).2.2)
theorem itemsS_len : ∀ (m : Nat) (rest : List UInt8) (acc : List It), (itemsS m rest acc).1.length ≤ acc.length + m := by
  intro m
  induction m with
  | zero => intro rest acc; exact Nat.le_refl _
  | succ m ih =>
    intro rest acc
    unfold itemsS
    split
    · have := ih (itemS rest 0).2.1 (acc ++ [(itemS rest 0).1])
      rw [List.length_append] at this
      simp only [List.length_cons, List.length_nil] at this
      omega
    · dsimp only; omega
theorem itemsS_sizes : ∀ (m : Nat) (rest : List UInt8) (acc : List It), (∀ t ∈ acc, t.f1.size ≤ 16) → ∀ t ∈ (itemsS m rest acc).1, t.f1.size ≤ 16 := by
  intro m
  induction m with
  | zero => intro rest acc h; exact h
  | succ m ih =>
    intro rest acc h
    unfold itemsS
    by_cases he : (itemS rest 0).2.2 = 0
    · rw [if_pos he]
      refine ih _ _ (fun t ht => ?_)
      rcases List.mem_append.1 ht with q | q
      · exact h t q
      · rw [List.mem_singleton.1 q]; exact (itemS_back rest 0 he).2.2
    · rw [if_neg he]; exact h
theorem itemsS_back : ∀ (m : Nat) (rest : List UInt8) (acc : List It), (itemsS m rest acc).2.2 = 0 → ∃ l : List It, (itemsS m rest acc).1 = acc ++ l ∧ l.length = m ∧ rest = L (itemsL l) ++ (itemsS m rest acc).2.1 := by
  intro m
  induction m with
  | zero => intro rest acc _; exact ⟨[], by simp [itemsS], rfl, by simp [itemsS, itemsL, L_B]⟩
  | succ m ih =>
    intro rest acc h
    unfold itemsS at h ⊢
    by_cases he : (itemS rest 0).2.2 = 0
    · rw [if_pos he] at h ⊢
      obtain ⟨l, h1, h2, h3⟩ := ih _ _ h
      refine ⟨(itemS rest 0).1 :: l, by rw [h1]; simp, by simp [h2], ?_⟩
      have hb := (itemS_back rest 0 he).2.1
      unfold itemsL
      rw [L_append, List.append_assoc, ← h3]
      exact hb
    · rw [if_neg he] at h; exact absurd h he
end Go.Proofs.Ytfegehfdbcnepaa.Q
