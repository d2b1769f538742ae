/- Layer event in plain lists: which events may be, and their bytes. -/
import Derived.Test.YthedgoefiffogaaQWriter
import Derived.Test.YthedgoefiffogaaQPaperWord
import Derived.Test.YthedgoefiffogaaQWriter0
import Derived.Test.YthedgoefiffogaaPEvent
import Derived.Test.YthedgoefiffogaaPEventb
namespace Go.Proofs.Ythedgoefiffogaa.Q
open Go.RowKit Go.Proofs.Ythedgoefiffogaa.PAll Go.Proofs.YthedgoefiffogaaW.PrintWords Go.Proofs.YthedgoefiffogaaW.PrintLast
set_option linter.unusedVariables false
set_option linter.unusedSimpArgs false
theorem w_texts (k : Nat) (l : List ByteArray) (hk : l.length + 13 ≤ k) (s : ByteArray) (hs : s.size + room l ≤ 9223372036854773000) (hl : l.length ≤ 1152921504606846) :
    octet_Writer_Texts.f k s false l = some (s ++ numI l.length ++ textsB l, false) := by
  rw [writer_texts k l hk s false hs (by omega), (numI_some (n := (l.length : Int)) (by omega) (by omega)).2]
  rfl
/-- Do names rise, and may they be? -/
def riseB : Option ByteArray → List ByteArray → Bool
  | _, [] => true
  | p, a :: l => wordB a 16 && ((match p with | none => true | some q => Op.bytesLess q.toList a.toList) && riseB (some a) l)
theorem riseB_cons (p : Option ByteArray) (a : ByteArray) (l : List ByteArray) : riseB p (a :: l) = (wordB a 16 && ((match p with | none => true | some q => Op.bytesLess q.toList a.toList) && riseB (some a) l)) := by cases p <;> rfl
def prevOf (l : List ByteArray) (i : Nat) : Option ByteArray := if i = 0 then none else l[i - 1]?
theorem rising_loop (l : List ByteArray) (hl : l.length ≤ 1152921504606846976) (hs : ∀ a ∈ l, a.size ≤ 1152921504606846976) (K : Nat) (hK : ∀ a ∈ l, a.size + 3 ≤ K) : ∀ (m k i : Nat), l.length - i = m → m + K < k → i ≤ l.length →
    event_rising.l0 k l l (l.length : Int) (i : Int) = some (riseB (prevOf l i) (l.drop i)) := by
  intro m
  induction m with
  | zero =>
    intro k i hm hk hi
    obtain ⟨k, rfl⟩ : ∃ q, k = q + 1 := ⟨k - 1, by omega⟩
    rw [event_rising.l0, if_neg (by omega), List.drop_of_length_le (by omega)]
    rfl
  | succ m ih =>
    intro k i hm hk hi
    obtain ⟨k, rfl⟩ : ∃ q, k = q + 1 := ⟨k - 1, by omega⟩
    have hlt : i < l.length := by omega
    have hmem := List.getElem_mem hlt
    have hK1 := hK _ hmem
    have hw : wrap64 ((i : Int) + 1) = ((i + 1 : Nat) : Int) := by unfold wrap64; omega
    have hp : prevOf l (i + 1) = some l[i] := by unfold prevOf; rw [if_neg (by omega)]; simp [hlt]
    have ihs := ih k (i + 1) (by omega) (by omega) (by omega)
    rw [hp] at ihs
    rw [event_rising.l0, if_pos (by omega), if_pos (by omega), if_pos (by omega), rd_getElem l i hlt, isName_ok k _ (by omega) (hs _ hmem), bind_some', List.drop_eq_getElem_cons hlt, riseB_cons, hw]
    refine arm_bool rfl (fun _ => ?_)
    rcases Nat.eq_zero_or_pos i with rfl | hi0
    · rw [if_neg (by omega), ihs]
      unfold prevOf
      rw [if_pos rfl]
      rfl
    · have hw2 : wrap64 ((i : Int) - 1) = ((i - 1 : Nat) : Int) := by unfold wrap64; omega
      have hlt2 : i - 1 < l.length := by omega
      rw [if_pos (by omega), hw2, if_pos (by omega), if_pos (by omega), rd_getElem l (i - 1) hlt2, ihs]
      have hq : prevOf l i = some l[i - 1] := by unfold prevOf; rw [if_neg (by omega)]; simp [hlt2]
      rw [hq]
      exact arm_bool rfl (fun _ => rfl)
theorem rising_ok (k : Nat) (l : List ByteArray) (hl : l.length ≤ 1152921504606846976) (hs : ∀ a ∈ l, a.size ≤ 1152921504606846976) (K : Nat) (hK : ∀ a ∈ l, a.size + 3 ≤ K) (hk : l.length + K < k) :
    event_rising.f k l = some (riseB none l) := by
  have h := rising_loop l hl hs K hK l.length k 0 rfl hk (by omega)
  unfold event_rising.f
  rw [show (0 : Int) = ((0 : Nat) : Int) from rfl, h]
  rfl
/-- May a field as it is kept be? -/
def slipB (s : S60) : Bool := wordB s.f0 16 && (decide (s.f1.size = 32) && (if s.f3 = true then (L s.f2).isEmpty else decide (16 ≤ s.f2.size) && decide (s.f2.size ≤ 224)))
theorem slip_j0 (k : Nat) (a b c : ByteArray) (d : Bool) : event_rightSlip.j0 (k + 1) true a b c d = some false := by rw [event_rightSlip.j0, if_pos rfl]
theorem rightSlip_ok (k : Nat) (s : S60) (hk : s.f0.size + 4 ≤ k) (h0 : s.f0.size ≤ 1152921504606846976) : event_rightSlip.f k s.f0 s.f1 s.f2 s.f3 = some (slipB s) := by
  obtain ⟨k, rfl⟩ : ∃ q, k = q + 1 := ⟨k - 1, by omega⟩
  unfold event_rightSlip.f slipB
  rw [isName_ok (k + 1) _ (by omega) h0, bind_some']
  refine arm_bool (slip_j0 ..) (fun _ => ?_)
  rw [event_rightSlip.j0]
  by_cases h1 : s.f1.size = 32
  · rw [if_neg (by rw [h1]; decide), decide_eq_true h1, Bool.true_and]
    by_cases h3 : s.f3 = true
    · rw [if_pos h3, if_pos h3, toList_eq]
    · rw [if_neg h3, if_neg h3]
      by_cases h4 : 16 ≤ s.f2.size
      · rw [if_pos (by omega), decide_eq_true h4, Bool.true_and]
        by_cases h5 : s.f2.size ≤ 224
        · rw [decide_eq_true h5, decide_eq_true (by omega)]
        · rw [decide_eq_false h5, decide_eq_false (by omega)]
      · rw [if_neg (by omega), decide_eq_false h4, Bool.false_and]
  · rw [if_pos (by simp; omega), decide_eq_false h1, Bool.false_and]
theorem rd_slip (l : List S60) (i : Nat) (h : i < l.length) : rd_T60 l (i : Int) = l[i] := by
  unfold rd_T60
  simp [h]
/-- May fields be, each by itself? -/
def slipsB (gone : Bool) (l : List S60) : Bool := l.all (fun s => slipB s && (!gone || s.f3))
theorem entry_loop (l : List S60) (gone : Bool) (K : Nat) (hK : ∀ s ∈ l, s.f0.size + 4 ≤ K) (hs : ∀ s ∈ l, s.f0.size ≤ 1152921504606846976) (hl : l.length ≤ 8796093022200) (id : ByteArray) (a b c : Int) (holds : List ByteArray) :
    ∀ (m k i : Nat), l.length - i = m → m + (l.length + K + 2) < k → i ≤ l.length →
    event_RightEntry.l0 k ((l.take i).map (·.f0)) l (l.length : Int) (i : Int) id a b c l gone holds = some (slipsB gone (l.drop i) && riseB none (l.map (·.f0))) := by
  intro m
  induction m with
  | zero =>
    intro k i hm hk hi
    obtain ⟨k, rfl⟩ : ∃ q, k = q + 1 := ⟨k - 1, by omega⟩
    rw [event_RightEntry.l0, if_neg (by omega), List.drop_of_length_le (by omega), List.take_of_length_le (by omega)]
    rw [rising_ok k _ (by simp; omega) (by intro x hx; obtain ⟨y, hy, rfl⟩ := List.mem_map.1 hx; exact hs y hy) K (by intro x hx; obtain ⟨y, hy, rfl⟩ := List.mem_map.1 hx; have := hK y hy; omega) (by simp; omega)]
    rfl
  | succ m ih =>
    intro k i hm hk hi
    obtain ⟨k, rfl⟩ : ∃ q, k = q + 1 := ⟨k - 1, by omega⟩
    have hlt : i < l.length := by omega
    have hmem := List.getElem_mem hlt
    have hw : wrap64 ((i : Int) + 1) = ((i + 1 : Nat) : Int) := by unfold wrap64; omega
    have ihs := ih k (i + 1) (by omega) (by omega) (by omega)
    have ht : (l.take (i + 1)).map (·.f0) = (l.take i).map (·.f0) ++ [l[i].f0] := by rw [List.take_succ_eq_append_getElem hlt, List.map_append]; rfl
    rw [ht] at ihs
    have hK1 := hK _ hmem
    rw [event_RightEntry.l0, if_pos (by omega), if_pos (by omega), if_pos (by omega), rd_slip l i hlt, rightSlip_ok k _ (by omega) (hs _ hmem), bind_some', hw, ihs]
    unfold slipsB
    rw [List.drop_eq_getElem_cons hlt, List.all_cons, Bool.and_assoc, Bool.and_assoc]
    refine arm_bool rfl (fun _ => ?_)
    have hlen : ((l.take i).map (·.f0)).length < 8796093022208 := by simp; omega
    cases gone
    · rw [if_neg (by decide), if_pos hlen]; rfl
    · rw [if_pos rfl]
      rw [show (!true || l[i].f3) = l[i].f3 from by simp]
      exact arm_bool rfl (fun _ => by rw [if_pos hlen])
/-- May a paper as it is kept be? -/
def entryB (id : ByteArray) (a b c : Int) (l : List S60) (gone : Bool) (holds : List ByteArray) : Bool :=
  wordB id 24 && (decide (¬ a < 0) && (decide (¬ a ≥ 8) && (decide (¬ b < 0) && (decide (¬ b > 1099511627776) && (decide (¬ c < 0) && (decide (¬ c ≥ 64) &&
    (decide (¬ (l.length : Int) < 1) && (decide (¬ (l.length : Int) > 12) && (decide (¬ (holds.length : Int) > 4) && (riseB none holds && (slipsB gone l && riseB none (l.map (·.f0)))))))))))))
theorem rightEntry_ok (k : Nat) (id : ByteArray) (a b c : Int) (l : List S60) (gone : Bool) (holds : List ByteArray) (hk : 1000 ≤ k) (hid : id.size ≤ 300) (hl : l.length ≤ 20) (hh : holds.length ≤ 20)
    (hs : ∀ s ∈ l, s.f0.size ≤ 300) (hho : ∀ s ∈ holds, s.size ≤ 300) : event_RightEntry.f k id a b c l gone holds = some (entryB id a b c l gone holds) := by
  obtain ⟨k, rfl⟩ : ∃ q, k = q + 3 := ⟨k - 3, by omega⟩
  have j0t : ∀ q x, event_RightEntry.j0 (q + 1) true id a b c x gone holds = some false := fun q x => by rw [event_RightEntry.j0, if_pos rfl]
  have j1t : ∀ q x, event_RightEntry.j1 (q + 1) true id a b c x gone holds = some false := fun q x => by rw [event_RightEntry.j1, if_pos rfl]
  unfold event_RightEntry.f entryB
  rw [isID_ok (k + 3) id (by omega) (by omega), bind_some']
  refine arm_bool (j0t ..) (fun _ => arm_no (j0t ..) (fun _ => arm_no (j0t ..) (fun _ => arm_no (j0t ..) (fun _ => arm_no (j0t ..) (fun _ => arm_no (j0t ..) (fun _ => ?_))))))
  rw [event_RightEntry.j0]
  by_cases hc : c ≥ 64
  · rw [decide_eq_true hc, if_pos rfl, decide_eq_false (by simpa using hc)]; rfl
  · rw [decide_eq_false hc, if_neg (by decide), decide_eq_true hc, Bool.true_and]
    refine arm_no (j1t ..) (fun _ => arm_no (j1t ..) (fun _ => arm_no (j1t ..) (fun _ => ?_)))
    rw [rising_ok (k + 2) holds (by omega) (fun x hx => by have := hho x hx; omega) 303 (fun x hx => by have := hho x hx; omega) (by omega), bind_some', event_RightEntry.j1]
    cases riseB none holds with
    | false => rw [if_pos (by rfl)]; rfl
    | true =>
      rw [if_neg (by decide), Bool.true_and]
      have := entry_loop l gone 304 (fun x hx => by have := hs x hx; omega) (fun x hx => by have := hs x hx; omega) (by omega) id a b c holds l.length (k + 1) 0 rfl (by omega) (by omega)
      rw [List.drop_zero] at this
      exact this
/-- May an event be? -/
def eventB (kind : Int) (id : ByteArray) (a b c : Int) (l : List S60) (gone : Bool) (holds : List ByteArray) (seq idx : Int) (name : ByteArray) (size : Int) (root : ByteArray) (now : Int) : Bool :=
  if kind = 1 then entryB id a b c l gone holds
  else if kind = 2 then decide (0 ≤ seq ∧ seq < 64) && (decide (idx ≥ 0) && decide (idx < 12))
  else if kind = 3 then decide (0 ≤ seq ∧ seq < 64)
  else if kind = 4 ∨ kind = 5 then decide (0 ≤ seq ∧ seq < 64) && wordB name 16
  else if kind = 6 then decide (size ≥ 0) && (decide (size ≤ 64) && (decide (root.size = 32)))
  else if kind = 7 then decide (now ≥ 0) && decide (now ≤ 1099511627776)
  else false
theorem right_ok (k : Nat) (kind : Int) (id : ByteArray) (a b c : Int) (l : List S60) (gone : Bool) (holds : List ByteArray) (seq idx : Int) (name : ByteArray) (size : Int) (root : ByteArray) (now : Int)
    (hk : 1005 ≤ k) (hid : id.size ≤ 300) (hl : l.length ≤ 20) (hh : holds.length ≤ 20) (hs : ∀ s ∈ l, s.f0.size ≤ 300) (hho : ∀ s ∈ holds, s.size ≤ 300) (hn : name.size ≤ 300) :
    event_Right.f k kind id a b c l gone holds seq idx name size root now = some (eventB kind id a b c l gone holds seq idx name size root now) := by
  obtain ⟨k, rfl⟩ : ∃ q, k = q + 3 := ⟨k - 3, by omega⟩
  have e : event_Right.f (k + 3) kind id a b c l gone holds seq idx name size root now = event_Right.j0 (k + 3) (decide (0 ≤ seq ∧ seq < 64)) kind id a b c l gone holds seq idx name size root now := by
    unfold event_Right.f
    by_cases h : seq ≥ 0
    · rw [if_pos h]
      congr 1
      by_cases h2 : seq < 64
      · rw [decide_eq_true h2, decide_eq_true ⟨h, h2⟩]
      · rw [decide_eq_false h2, decide_eq_false (fun h3 => h2 h3.2)]
    · rw [if_neg h, decide_eq_false (fun h3 => h h3.1)]
  rw [e, event_Right.j0]
  unfold eventB
  generalize decide (0 ≤ seq ∧ seq < 64) = sq
  by_cases h1 : kind = 1
  · rw [if_pos h1, if_pos h1, rightEntry_ok (k + 2) id a b c l gone holds (by omega) hid hl hh hs hho]; rfl
  rw [if_neg h1, if_neg h1]
  by_cases h2 : kind = 2
  · rw [if_pos h2, if_pos h2]
    exact arm_bool rfl (fun _ => arm_yes rfl (fun _ => rfl))
  rw [if_neg h2, if_neg h2]
  by_cases h3 : kind = 3
  · rw [if_pos h3, if_pos h3]
  rw [if_neg h3, if_neg h3]
  have j1 : ∀ t : Bool, event_Right.j1 (k + 2) sq kind t kind id a b c l gone holds seq idx name size root now = some (if t = true then sq && wordB name 16 else if kind = 6 then decide (size ≥ 0) && (decide (size ≤ 64) && (decide (root.size = 32)))
      else if kind = 7 then decide (now ≥ 0) && decide (now ≤ 1099511627776) else false) := by
    intro t
    rw [event_Right.j1]
    cases t
    · simp only [Bool.false_eq_true, if_false]
      by_cases h6 : kind = 6
      · rw [if_pos h6, if_pos h6]
        refine arm_yes rfl (fun _ => arm_yes rfl (fun _ => ?_))
        by_cases hr : root.size = 32
        · rw [decide_eq_true hr, hr]; rfl
        · rw [decide_eq_false hr]; congr 1; exact beq_eq_false_iff_ne.2 (by omega)
      · rw [if_neg h6, if_neg h6]
        by_cases h7 : kind = 7
        · rw [if_pos h7, if_pos h7]
          exact arm_yes rfl (fun _ => rfl)
        · rw [if_neg h7, if_neg h7]
    · simp only [if_true]
      refine arm_bool rfl (fun _ => ?_)
      rw [isName_ok (k + 1) name (by omega) (by omega)]; rfl
  rw [j1, j1]
  by_cases h4 : kind = 4
  · subst h4; rfl
  · rw [if_neg h4]
    by_cases h5 : kind = 5
    · subst h5; rfl
    · rw [if_neg (show ¬ (kind = 4 ∨ kind = 5) from by omega), if_neg (by simpa using h5)]
/-- A field as it is laid. -/
def slipL (s : S60) : ByteArray := textB s.f0 ++ (textB s.f1 ++ (flagB s.f3 ++ (if s.f3 = true then B [] else textB s.f2)))
def slipsL : List S60 → ByteArray
  | [] => B []
  | s :: l => slipL s ++ slipsL l
def slipsRoom : List S60 → Nat
  | [] => 0
  | s :: l => s.f0.size + s.f1.size + s.f2.size + 25 + slipsRoom l
theorem slipL_size (s : S60) : (slipL s).size ≤ s.f0.size + s.f1.size + s.f2.size + 25 := by
  unfold slipL
  have h0 := textB_size s.f0
  have h1 := textB_size s.f1
  have h2 := textB_size s.f2
  have h3 := flagB_size s.f3
  rw [ByteArray.size_append, ByteArray.size_append, ByteArray.size_append]
  split
  · rw [size_B]; simp only [List.length_nil]; omega
  · omega
theorem slipsL_size (l : List S60) : (slipsL l).size ≤ slipsRoom l := by
  induction l with
  | nil => simp [slipsL, size_B]
  | cons s l ih =>
    simp only [slipsL, slipsRoom, ByteArray.size_append]
    have := slipL_size s
    omega
theorem slip_ok (k : Nat) (hk : 12 ≤ k) (w : ByteArray) (s : S60) (h : w.size + (s.f0.size + s.f1.size + s.f2.size + 25) ≤ 9223372036854770000) :
    event_slip.f k w false s.f0 s.f1 s.f2 s.f3 = some (w ++ slipL s, false) := by
  unfold event_slip.f slipL
  have h0 := textB_size s.f0
  have h1 := textB_size s.f1
  have h2 := textB_size s.f2
  have h3 := flagB_size s.f3
  rw [writer_text k hk w false _ (by omega), bind_some']
  dsimp only
  rw [writer_text k hk _ false _ (by rw [ByteArray.size_append]; omega), bind_some']
  dsimp only
  rw [w_flag _ _ _ (by rw [ByteArray.size_append, ByteArray.size_append]; omega), bind_some']
  dsimp only
  by_cases hf : s.f3 = true
  · rw [if_pos hf, if_pos hf, append_B_nil, BA_assoc, BA_assoc]
  · rw [if_neg hf, if_neg hf, writer_text k hk _ false _ (by rw [ByteArray.size_append, ByteArray.size_append, ByteArray.size_append]; omega), bind_some', BA_assoc, BA_assoc, BA_assoc]
theorem slips_loop (l : List S60) (hl : l.length ≤ 1152921504606846976) : ∀ (m k i : Nat) (w : ByteArray), l.length - i = m → m + 12 < k → i ≤ l.length → w.size + slipsRoom (l.drop i) ≤ 9223372036854770000 →
    event_entry.l0 k l (l.length : Int) (i : Int) w false = some (w ++ slipsL (l.drop i), false) := by
  intro m
  induction m with
  | zero =>
    intro k i w hm hk hi hs
    obtain ⟨k, rfl⟩ : ∃ q, k = q + 1 := ⟨k - 1, by omega⟩
    rw [event_entry.l0, if_neg (by omega), List.drop_of_length_le (by omega)]
    rw [show slipsL [] = B [] from rfl, append_B_nil]
  | succ m ih =>
    intro k i w hm hk hi hs
    obtain ⟨k, rfl⟩ : ∃ q, k = q + 1 := ⟨k - 1, by omega⟩
    have hlt : i < l.length := by omega
    rw [List.drop_eq_getElem_cons hlt] at hs ⊢
    simp only [slipsRoom] at hs
    have := slipL_size l[i]
    rw [event_entry.l0, if_pos (by omega), if_pos (by omega), if_pos (by omega), rd_slip l i hlt, slip_ok k (by omega) w _ (by omega), bind_some', wrap64_id (by omega) (by omega), show ((i : Int) + 1) = ((i + 1 : Nat) : Int) from by omega]
    rw [ih k (i + 1) _ (by omega) (by omega) (by omega) (by rw [ByteArray.size_append]; omega), BA_assoc]
    rfl
/-- A paper as it is laid. -/
def entryL (id : ByteArray) (a b c : Int) (l : List S60) (gone : Bool) (holds : List ByteArray) : ByteArray :=
  textB id ++ (numI a ++ (numI b ++ (numI c ++ (flagB gone ++ (numI holds.length ++ textsB holds ++ (numI l.length ++ slipsL l))))))
theorem entry_ok (k : Nat) (w : ByteArray) (id : ByteArray) (a b c : Int) (l : List S60) (gone : Bool) (holds : List ByteArray) (hk : 100 ≤ k) (ha : 0 ≤ a ∧ a < 72057594037927936) (hb : 0 ≤ b ∧ b < 72057594037927936) (hc : 0 ≤ c ∧ c < 72057594037927936)
    (hl : l.length ≤ 20) (hh : holds.length ≤ 20) (hsz : w.size + (id.size + room holds + slipsRoom l) ≤ 9223372036854760000) :
    event_entry.f k w false id a b c l gone holds = some (w ++ entryL id a b c l gone holds, false) := by
  have h0 := textB_size id
  have h1 := numI_size a
  have h2 := numI_size b
  have h3 := numI_size c
  have h4 := flagB_size gone
  have h5 := numI_size (holds.length : Int)
  have h6 := textsB_size holds
  have h7 := numI_size (l.length : Int)
  unfold event_entry.f entryL
  rw [writer_text k (by omega) w false _ (by omega), bind_some']
  dsimp only
  rw [w_num k (by omega) _ a (by rw [ByteArray.size_append]; omega) ha.1 ha.2, bind_some']
  dsimp only
  rw [w_num k (by omega) _ b (by rw [ByteArray.size_append, ByteArray.size_append]; omega) hb.1 hb.2, bind_some']
  dsimp only
  rw [w_num k (by omega) _ c (by rw [ByteArray.size_append, ByteArray.size_append, ByteArray.size_append]; omega) hc.1 hc.2, bind_some']
  dsimp only
  rw [w_flag _ _ _ (by rw [ByteArray.size_append, ByteArray.size_append, ByteArray.size_append, ByteArray.size_append]; omega), bind_some']
  dsimp only
  rw [w_texts k holds (by omega) _ (by rw [ByteArray.size_append, ByteArray.size_append, ByteArray.size_append, ByteArray.size_append, ByteArray.size_append]; omega) (by omega), bind_some']
  dsimp only
  rw [w_num k (by omega) _ (l.length : Int) (by rw [ByteArray.size_append, ByteArray.size_append, ByteArray.size_append, ByteArray.size_append, ByteArray.size_append, ByteArray.size_append, ByteArray.size_append]; omega) (by omega) (by omega), bind_some']
  dsimp only
  have := slips_loop l (by omega) l.length k 0 (w ++ textB id ++ numI a ++ numI b ++ numI c ++ flagB gone ++ numI holds.length ++ textsB holds ++ numI l.length) rfl (by omega) (by omega)
    (by rw [List.drop_zero, ByteArray.size_append, ByteArray.size_append, ByteArray.size_append, ByteArray.size_append, ByteArray.size_append, ByteArray.size_append, ByteArray.size_append, ByteArray.size_append]; omega)
  rw [List.drop_zero] at this
  refine this.trans ?_
  simp only [BA_assoc]
/-- An event as it is laid. -/
def eventL (kind : Int) (id : ByteArray) (a b c : Int) (l : List S60) (gone : Bool) (holds : List ByteArray) (seq idx : Int) (name : ByteArray) (size : Int) (root : ByteArray) (now : Int) : ByteArray :=
  numI kind ++ (if kind = 1 then entryL id a b c l gone holds
  else if kind = 2 then numI seq ++ numI idx
  else if kind = 3 then numI seq
  else if kind = 4 ∨ kind = 5 then numI seq ++ textB name
  else if kind = 6 then numI size ++ textB root
  else numI now)
theorem entryB_facts {id : ByteArray} {a b c : Int} {l : List S60} {gone : Bool} {holds : List ByteArray} (h : entryB id a b c l gone holds = true) :
    wordB id 24 = true ∧ (0 ≤ a ∧ a < 8) ∧ (0 ≤ b ∧ b ≤ 1099511627776) ∧ (0 ≤ c ∧ c < 64) ∧ (1 ≤ l.length ∧ l.length ≤ 12) ∧ holds.length ≤ 4 ∧ riseB none holds = true ∧ slipsB gone l = true ∧ riseB none (l.map (·.f0)) = true := by
  unfold entryB at h
  simp only [Bool.and_eq_true, decide_eq_true_eq] at h
  obtain ⟨h1, h2, h3, h4, h5, h6, h7, h8, h9, h10, h11, h12, h13⟩ := h
  exact ⟨h1, ⟨by omega, by omega⟩, ⟨by omega, by omega⟩, ⟨by omega, by omega⟩, ⟨by omega, by omega⟩, by omega, h11, h12, h13⟩
theorem riseB_sizes : ∀ (l : List ByteArray) (p : Option ByteArray), riseB p l = true → ∀ a ∈ l, a.size ≤ 16 := by
  intro l
  induction l with
  | nil => intro p _ a ha; cases ha
  | cons x l ih =>
    intro p h a ha
    simp only [riseB, Bool.and_eq_true] at h
    rcases List.mem_cons.1 ha with rfl | ha
    · have := (wordB_size h.1).1; omega
    · exact ih _ h.2.2 a ha
theorem slipB_sizes {s : S60} (h : slipB s = true) : s.f0.size ≤ 16 ∧ s.f1.size = 32 ∧ s.f2.size ≤ 224 := by
  unfold slipB at h
  simp only [Bool.and_eq_true, decide_eq_true_eq] at h
  obtain ⟨h1, h2, h3⟩ := h
  refine ⟨by have := (wordB_size h1).1; omega, h2, ?_⟩
  split at h3
  · have : L s.f2 = [] := by simpa using h3
    rw [size_L, this]; simp
  · simp only [Bool.and_eq_true, decide_eq_true_eq] at h3; exact h3.2
theorem slipsRoom_le (l : List S60) (h : ∀ s ∈ l, s.f0.size ≤ 16 ∧ s.f1.size = 32 ∧ s.f2.size ≤ 224) : slipsRoom l ≤ l.length * 297 := by
  induction l with
  | nil => simp [slipsRoom]
  | cons s l ih =>
    have h1 := h s (List.mem_cons_self ..)
    have h2 := ih (fun x hx => h x (List.mem_cons_of_mem _ hx))
    simp only [slipsRoom, List.length_cons]
    omega
theorem entry_room {id : ByteArray} {a b c : Int} {l : List S60} {gone : Bool} {holds : List ByteArray} (h : entryB id a b c l gone holds = true) : id.size ≤ 24 ∧ room holds ≤ 96 ∧ slipsRoom l ≤ 3564 := by
  obtain ⟨h1, h2, h3, h4, h5, h6, h7, h8, h9⟩ := entryB_facts h
  refine ⟨by have := (wordB_size h1).1; omega, ?_, ?_⟩
  · have := room_le holds 16 (riseB_sizes holds none h7)
    have : holds.length * (16 + 8) ≤ 4 * (16 + 8) := Nat.mul_le_mul h6 (Nat.le_refl _)
    omega
  · have := slipsRoom_le l (fun s hs => by
      unfold slipsB at h8
      have := List.all_eq_true.1 h8 s hs
      simp only [Bool.and_eq_true] at this
      exact slipB_sizes this.1)
    omega
theorem bytes_ok (k : Nat) (kind : Int) (id : ByteArray) (a b c : Int) (l : List S60) (gone : Bool) (holds : List ByteArray) (seq idx : Int) (name : ByteArray) (size : Int) (root : ByteArray) (now : Int)
    (hk : 1010 ≤ k) (hid : id.size ≤ 300) (hl : l.length ≤ 20) (hh : holds.length ≤ 20) (hs : ∀ s ∈ l, s.f0.size ≤ 300) (hho : ∀ s ∈ holds, s.size ≤ 300) (hn : name.size ≤ 300) :
    event_Bytes.f k kind id a b c l gone holds seq idx name size root now = some (if eventB kind id a b c l gone holds seq idx name size root now = true then eventL kind id a b c l gone holds seq idx name size root now else B []) := by
  unfold event_Bytes.f
  rw [right_ok k kind id a b c l gone holds seq idx name size root now (by omega) hid hl hh hs hho hn, bind_some']
  by_cases h : eventB kind id a b c l gone holds seq idx name size root now = true
  · rw [if_pos h, if_pos h]
    have hkind : 0 ≤ kind ∧ kind ≤ 7 ∧ (kind = 1 ∨ kind = 2 ∨ kind = 3 ∨ kind = 4 ∨ kind = 5 ∨ kind = 6 ∨ kind = 7) := by
      unfold eventB at h
      by_cases q1 : kind = 1
      · omega
      by_cases q2 : kind = 2
      · omega
      by_cases q3 : kind = 3
      · omega
      by_cases q4 : kind = 4
      · omega
      by_cases q5 : kind = 5
      · omega
      by_cases q6 : kind = 6
      · omega
      by_cases q7 : kind = 7
      · omega
      rw [if_neg q1, if_neg q2, if_neg q3, if_neg (by omega), if_neg q6, if_neg q7] at h
      exact absurd h (by decide)
    have hnk := numI_size kind
    rw [empty_B, w_num k (by omega) (B []) kind (by rw [size_B]; simp) (by omega) (by omega), bind_some', B_nil_append]
    dsimp only
    unfold eventL
    unfold eventB at h
    by_cases q1 : kind = 1
    · rw [if_pos q1] at h
      rw [if_pos q1, if_pos q1]
      obtain ⟨r1, r2, r3⟩ := entry_room h
      obtain ⟨_, g2, g3, g4, g5, _⟩ := entryB_facts h
      rw [entry_ok k (numI kind) id a b c l gone holds (by omega) ⟨by omega, by omega⟩ ⟨by omega, by omega⟩ ⟨by omega, by omega⟩ hl hh (by omega), bind_some', w_all]
      rfl
    rw [if_neg q1] at h
    rw [if_neg q1, if_neg q1]
    by_cases q2 : kind = 2
    · rw [if_pos q2] at h
      rw [if_pos q2, if_pos q2]
      simp only [Bool.and_eq_true, decide_eq_true_eq] at h
      have := numI_size seq
      rw [w_num k (by omega) _ seq (by omega) (by omega) (by omega), bind_some']
      dsimp only
      rw [w_num k (by omega) _ idx (by rw [ByteArray.size_append]; omega) (by omega) (by omega), bind_some', w_all, BA_assoc]
      rfl
    rw [if_neg q2] at h
    rw [if_neg q2, if_neg q2]
    by_cases q3 : kind = 3
    · rw [if_pos q3] at h
      rw [if_pos q3, if_pos q3]
      simp only [decide_eq_true_eq] at h
      rw [w_num k (by omega) _ seq (by omega) (by omega) (by omega), bind_some', w_all]
      rfl
    rw [if_neg q3] at h
    rw [if_neg q3, if_neg q3]
    obtain ⟨k, rfl⟩ : ∃ q, k = q + 1 := ⟨k - 1, by omega⟩
    have j0 : ∀ t : Bool, t = decide (kind = 4 ∨ kind = 5) → event_Bytes.j0 (k + 1) kind t kind id a b c l gone holds seq idx name size root now (numI kind) false = some (numI kind ++ (if kind = 4 ∨ kind = 5 then numI seq ++ textB name
        else if kind = 6 then numI size ++ textB root else numI now)) := by
      intro t ht
      rw [event_Bytes.j0, ht]
      by_cases q4 : kind = 4 ∨ kind = 5
      · rw [if_pos (decide_eq_true q4), if_pos q4]
        rw [if_pos q4] at h
        simp only [Bool.and_eq_true, decide_eq_true_eq] at h
        have := numI_size seq
        rw [w_num k (by omega) _ seq (by omega) (by omega) (by omega), bind_some']
        dsimp only
        rw [writer_text k (by omega) _ false _ (by rw [ByteArray.size_append]; omega), bind_some', w_all, BA_assoc]
        rfl
      rw [if_neg (by simpa using q4), if_neg q4]
      rw [if_neg q4] at h
      by_cases q6 : kind = 6
      · rw [if_pos q6, if_pos q6]
        rw [if_pos q6] at h
        simp only [Bool.and_eq_true, decide_eq_true_eq] at h
        have := numI_size size
        rw [w_num k (by omega) _ size (by omega) (by omega) (by omega), bind_some']
        dsimp only
        rw [writer_text k (by omega) _ false _ (by rw [ByteArray.size_append]; omega), bind_some', w_all, BA_assoc]
        rfl
      rw [if_neg q6, if_neg q6]
      rw [if_neg q6] at h
      have q7 : kind = 7 := by omega
      rw [if_pos q7]
      rw [if_pos q7] at h
      simp only [Bool.and_eq_true, decide_eq_true_eq] at h
      rw [w_num k (by omega) _ now (by omega) (by omega) (by omega), bind_some', w_all]
      rfl
    by_cases q4 : kind = 4
    · rw [if_pos q4]; exact j0 _ (by subst q4; rfl)
    · rw [if_neg q4]
      refine j0 _ ?_
      by_cases q5 : kind = 5
      · subst q5; rfl
      · rw [decide_eq_false (by omega)]; exact beq_eq_false_iff_ne.2 q5
  · rw [if_neg h, if_neg h]; rfl
theorem event_room {kind : Int} {id : ByteArray} {a b c : Int} {l : List S60} {gone : Bool} {holds : List ByteArray} {seq idx : Int} {name : ByteArray} {size : Int} {root : ByteArray} {now : Int}
    (h : eventB kind id a b c l gone holds seq idx name size root now = true) : (eventL kind id a b c l gone holds seq idx name size root now).size ≤ 6000 := by
  unfold eventL
  unfold eventB at h
  have n0 := numI_size kind
  rw [ByteArray.size_append]
  by_cases q1 : kind = 1
  · rw [if_pos q1] at h
    rw [if_pos q1]
    obtain ⟨r1, r2, r3⟩ := entry_room h
    have h0 := textB_size id
    have h1 := numI_size a
    have h2 := numI_size b
    have h3 := numI_size c
    have h4 := flagB_size gone
    have h5 := numI_size (holds.length : Int)
    have h6 := textsB_size holds
    have h7 := numI_size (l.length : Int)
    have h8 := slipsL_size l
    unfold entryL
    simp only [ByteArray.size_append]
    omega
  rw [if_neg q1] at h
  rw [if_neg q1]
  by_cases q2 : kind = 2
  · rw [if_pos q2, ByteArray.size_append]
    have := numI_size seq
    have := numI_size idx
    omega
  rw [if_neg q2] at h
  rw [if_neg q2]
  by_cases q3 : kind = 3
  · rw [if_pos q3]
    have := numI_size seq
    omega
  rw [if_neg q3] at h
  rw [if_neg q3]
  by_cases q4 : kind = 4 ∨ kind = 5
  · rw [if_pos q4] at h
    rw [if_pos q4, ByteArray.size_append]
    simp only [Bool.and_eq_true] at h
    have := (wordB_size h.2).1
    have := numI_size seq
    have := textB_size name
    omega
  rw [if_neg q4] at h
  rw [if_neg q4]
  by_cases q6 : kind = 6
  · rw [if_pos q6] at h
    rw [if_pos q6, ByteArray.size_append]
    simp only [Bool.and_eq_true, decide_eq_true_eq] at h
    have := numI_size size
    have := textB_size root
    omega
  rw [if_neg q6]
  have := numI_size now
  omega
end Go.Proofs.Ythedgoefiffogaa.Q
