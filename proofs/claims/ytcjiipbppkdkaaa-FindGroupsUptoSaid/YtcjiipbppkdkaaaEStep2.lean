/- The engine, part 5: each operation that reads, writes, makes memory. -/
import Derived.Test.YtcjiipbppkdkaaaEStep
import Derived.Laws.Tables
import Derived.Laws.AppendOwn
import Derived.Laws.BytesString
namespace Go.Proofs.Ytcjiipbppkdkaaa.Eng
open Go
set_option linter.unusedVariables false
set_option linter.unusedSimpArgs false
theorem add_none (b o n : Nat) : (⟨b, o, none⟩ : Addr).add n = ⟨b, o + n, none⟩ := by unfold Addr.add; split <;> simp_all
section
variable {P : Program} {B : Base} {M : Mem} {obj : List (Nat × Ob)} {a : Act} {w : World} {o : Oper} {K : Act → World → Prop} {Q : Exit → Act → World → Prop} {tt : TT} {env : List (Nat × CV)} {cr : List Nat}
theorem TDok.size_run {t : Nat} {d : TD} (h : TDok P t d) (w : World) : (sizeOf t).run P w = .ok d.size w := by
 obtain ⟨i, z, hi, hs, _⟩ := h.info
 simp [sizeOf, typeInfo, hi, hs]
theorem TDok.zero_run {t : Nat} {d : TD} (h : TDok P t d) (w : World) : ∃ z, (zeroValue t).run P w = .ok z w ∧ z.cells.size = d.size ∧ ∀ M, VRL M d.zero z.cells.toList := by
 obtain ⟨i, z, hi, hs, hb, hz, hzs, hv⟩ := h.info
 exact ⟨z, by simp [zeroValue, typeInfo, hi, hz], hzs, hv⟩
theorem cells_load {t : Nat} {d : TD} (h : TDok P t d) {vs : List Value} {b off : Nat} {c : CV} {l : List CV} (hlen : vs.length = d.size) (hv : VRL M l vs) (ha : asVal d.agg l = some c)
  (hc : ∀ j v, vs[j]? = some v → cellAt w.heap b (off + j) = some v) : ∃ v, (Instr.loadAt t (.pointer (some ⟨b, off, none⟩))).run P w = .ok v w ∧ VR M c v := by
 have hcell : ∀ j v, vs[j]? = some v → w.cell? ((⟨b, off, none⟩ : Addr).add j) = some v := fun j v hj => by rw [add_none, cell_eq]; exact hc j v hj
 rcases hv.asVal ha with ⟨hb, hr⟩ | ⟨hb, v, rfl, hr⟩
 ·have hl := run_loadCells_list (P := P) w ⟨b, off, none⟩ vs hcell
  rw [hlen] at hl
  refine ⟨.agg vs.toArray, ?_, hr⟩
  simp [Instr.loadAt, Instr.sureAddr, loadVar, h.agg, hb, h.size_run, hl]
 ·have h0 := hcell 0 v rfl
  rw [add_none] at h0
  refine ⟨v, ?_, hr⟩
  simp only [Instr.loadAt, Instr.sureAddr, loadVar, Sem.run_bind, Sem.run_pure, Result.andThen_ok, h.agg, hb, Bool.false_eq_true, if_false, run_load, Nat.add_zero] at h0 ⊢
  rw [h0]
theorem list_getElem?_toList {vs : Array Value} {n m j : Nat} {v : Value} (h : ((vs.toList.drop n).take m)[j]? = some v) : vs[n + j]? = some v := by
 have hj : j < m := by
  have := (List.getElem?_eq_some_iff.mp h).1; simp at this; omega
 rw [List.getElem?_take_of_lt hj, List.getElem?_drop] at h
 simpa using h
theorem intsK_ok {k : IntKind} : ∀ {cs : List CV} {ns : List Int} {vs : List Value}, intsK k cs = some ns → VRL M cs vs → vs = ns.map (fun n => Value.int k n)
 | [], ns, vs, h, hv => by simp only [intsK] at h; injection h with h; subst h; simpa [VRL] using hv
 | c :: r, ns, vs, h, hv => by
  cases c with
  | int k' n =>
   simp only [intsK] at h
   split at h
   ·rename_i hk
    cases hr : intsK k r with
    | none => rw [hr] at h; cases h
    | some l =>
     rw [hr] at h; injection h with h; subst h
     simp only [VRL] at hv
     obtain ⟨v, vr, rfl, h1, h2⟩ := hv
     rw [intsK_ok hr h2, h1.int, hk]; rfl
   ·cases h
  | _ => simp only [intsK] at h; cases h
theorem setK_ok {k : IntKind} {v : Int} : ∀ (ns : List Int) (m j : Nat), VRL M (setK k ((m + j : Nat) : Int) v m ns) ((ns.map fun n => Value.int k n).set j (.int k v))
 | [], m, j => by simp [setK, VRL]
 | n :: r, m, 0 => by
  simp only [setK, List.map_cons, List.set_cons_zero, Nat.add_zero, beq_self_eq_true]
  simp only [VRL]
  refine ⟨_, _, rfl, by simp only [VR], ?_⟩
  have : ∀ (r : List Int) (q : Nat), m < q → VRL M (setK k (m : Int) v q r) (r.map fun n => Value.int k n) := by
   intro r
   induction r with
   | nil => intro q _; simp [setK, VRL]
   | cons a r ih =>
    intro q hq
    have e : ((m : Int) == ((q : Nat) : Int)) = false := by rw [beq_eq_false_iff_ne]; omega
    simp only [setK, e, List.map_cons, VRL]
    exact ⟨_, _, rfl, by simp only [VR], ih (q + 1) (by omega)⟩
  exact this r (m + 1) (by omega)
 | n :: r, m, j + 1 => by
  have e : (((m + (j + 1) : Nat) : Int) == (m : Int)) = false := by rw [beq_eq_false_iff_ne]; omega
  simp only [setK, e, List.map_cons, List.set_cons_succ, VRL]
  refine ⟨_, _, rfl, by simp only [VR], ?_⟩
  have := setK_ok (k := k) (v := v) r (m + 1) j
  rw [show m + 1 + j = m + (j + 1) by omega] at this
  exact this
theorem set_part {α : Type} (l : List α) (off n j : Nat) (x : α) (hn : off + n ≤ l.length) (hj : j < n) :
  l.take off ++ ((l.drop off).take n).set j x ++ l.drop (off + n) = l.take (off + j) ++ [x] ++ l.drop (off + j + 1) := by
 have h1 : l.take (off + j) ++ [x] ++ l.drop (off + j + 1) = l.set (off + j) x := by
  rw [List.set_eq_take_append_cons_drop, if_pos (by omega)]; simp
 have h2 : l = l.take off ++ ((l.drop off).take n ++ l.drop (off + n)) := by
  rw [← List.drop_drop, List.take_append_drop, List.take_append_drop]
 rw [h1]
 conv => rhs; rw [h2]
 rw [List.set_append_right _ _ (by simp; omega), List.set_append_left _ _ (by simp; omega)]
 simp only [List.length_take, List.append_assoc]
 congr 3
 omega
theorem op_load (htt : TTok P tt) (ok : MOK B M) (hgo : M.go = lk obj) (hE : RelE M env a.tmps) (hw : w.heap = M.h) {t : Nat} {ad : Operand} (hop : o.op = .load t ad) {s : Stp}
  {Γ : Gam} (h : step tt Γ env (lk obj) o.dst (.load t ad) = some s) (hnm : ∀ p v i off, operand env ad ≠ .mptr p v i off) (x : s.α) (hx : s.o = some x) (hk : Cont w B M obj s.cr (s.f x) a o.dst K) : o.wp P a w K Q := by
 have hv := operand_ok hE ad
 simp only [step] at h
 cases hd : lk tt t with
 | none => rw [hd] at h; cases h
 | some d =>
  rw [hd] at h; simp only [] at h
  have td := htt t d hd
  have key : ∀ (c : CV) (vs : List Value) (l : List CV) (b off : Nat), vs.length = d.size → VRL M l vs → asVal d.agg l = some c → a.eval ad = .pointer (some ⟨b, off, none⟩) →
    (∀ j v, vs[j]? = some v → cellAt w.heap b (off + j) = some v) → ∀ rd, s = ⟨Unit, some (), fun _ => ⟨c, []⟩, rd, [], []⟩ → o.wp P a w K Q := by
   intro c vs l b off hl hvr ha he hc rd hs
   obtain ⟨v, h1, h2⟩ := cells_load (P := P) (w := w) td hl hvr ha hc
   subst hs
   refine wp_same (v := v) (w' := w) (d := ⟨c, []⟩) ?_ hw ok hgo h2 rfl hk
   simp [execOp, hop, he, h1]
  cases hc : operand env ad with
  | ptr ob off =>
   rw [hc] at h hv; simp only [] at h
   simp only [VR] at hv
   cases hg : lk obj ob with
   | none => rw [hg] at h; cases h
   | some x' =>
    rw [hg] at h
    cases x' with
    | row => cases h
    | cells t' l =>
     simp only [] at h
     cases hm : isMap l with
     | some => rw [hm] at h; cases h
     | none =>
     rw [hm] at h; simp only [] at h
     cases ht : takeL d.size (dropL off l) with
     | none => rw [ht] at h; cases h
     | some cs =>
      rw [ht] at h; simp only [] at h
      cases ha : asVal d.agg cs with
      | none => rw [ha] at h; cases h
      | some c =>
       rw [ha] at h; injection h with h
       have hor := ok.obj ob _ (by rw [hgo]; exact hg)
       simp only [OR] at hor
       obtain ⟨hn, hLies, _⟩ := hor
       obtain ⟨vs, hb, hl⟩ := hLies.cells hm
       obtain ⟨h1, h2⟩ := (hl.drop off).take _ ht
       refine key c _ cs (M.β ob).b off (by simp at h2 ⊢; omega) h1 ha hv.2 (fun j v hj => ?_) _ h.symm
       rw [hw]; unfold cellAt; rw [hb]
       exact list_getElem?_toList hj
  | elt T y off =>
   rw [hc] at h hv; simp only [] at h
   simp only [VR] at hv
   obtain ⟨b, oo, he, hel⟩ := hv
   cases ht : takeL d.size (dropL off (toC T y [])) with
   | none => rw [ht] at h; cases h
   | some cs =>
    rw [ht] at h; simp only [] at h
    cases ha : asVal d.agg cs with
    | none => rw [ha] at h; cases h
    | some c =>
     rw [ha] at h; injection h with h
     obtain ⟨vs, hlen, hcell, hvr⟩ := hel.cells rfl rfl
     have h0 := hvr [] [] (by simp [VRL])
     rw [List.append_nil] at h0
     obtain ⟨h1, h2⟩ := (h0.drop off).take _ ht
     refine key c _ cs b (oo + off) (by simp at h2 ⊢; omega) h1 ha he (fun j v hj => ?_) _ (by rw [← h]; rfl)
     rw [hw]
     have : vs[off + j]? = some v := by
      have := list_getElem?_toList (vs := vs.toArray) (by simpa using hj); simpa using this
     rw [Nat.add_assoc]; exact hcell _ _ this
  | pidx ob off n k j =>
   rw [hc] at h hv; simp only [] at h
   simp only [VR] at hv
   obtain ⟨hC, hj0, hjn, hve⟩ := hv
   cases hg : lk obj ob with
   | none => rw [hg] at h; cases h
   | some x' =>
    rw [hg] at h
    cases x' with
    | row => cases h
    | cells t' l =>
     simp only [] at h
     cases hm : isMap l with
     | some => rw [hm] at h; cases h
     | none =>
     rw [hm] at h; simp only [] at h
     cases ht : takeL n (dropL off l) with
     | none => rw [ht] at h; cases h
     | some cs =>
      rw [ht] at h; simp only [] at h
      cases hi : intsK k cs with
      | none => rw [hi] at h; cases h
      | some ns =>
       rw [hi] at h; simp only [] at h
       cases hb1 : (Nat.beq d.size 1 && !d.agg) with
       | false => rw [hb1] at h; cases h
       | true =>
        rw [hb1] at h; simp only [] at h; injection h with h; subst h
        simp only [Bool.and_eq_true, Bool.not_eq_true'] at hb1
        have hsz := beq_of hb1.1
        have hor := ok.obj ob _ (by rw [hgo]; exact hg)
        simp only [OR] at hor
        obtain ⟨hn, hLies, _⟩ := hor
        obtain ⟨vs, hb, hl⟩ := hLies.cells hm
        obtain ⟨h1, h2⟩ := (hl.drop off).take _ ht
        have he := intsK_ok hi h1
        simp only [rdo] at hx
        rw [if_pos hj0] at hx
        have hcell : vs[off + j.toNat]? = some (.int k x) := by
         have : ((vs.toList.drop off).take n)[j.toNat]? = some (.int k x) := by rw [he, List.getElem?_map, hx]; rfl
         exact list_getElem?_toList this
        obtain ⟨v, g1, g2⟩ := cells_load (P := P) (w := w) (M := M) (c := .int k x) (vs := [.int k x]) (l := [.int k x]) (b := (M.β ob).b) (off := off + j.toNat) td (by simp [hsz]) (by simp [VRL, VR]) (by rw [hb1.2]; rfl) (fun q v hq => by
         cases q with
         | zero => simp only [List.getElem?_cons_zero, Option.some.injEq] at hq; subst hq; rw [hw]; unfold cellAt; rw [hb]; exact hcell
         | succ q => simp at hq)
        exact wp_same (v := v) (w' := w) (d := ⟨.int k x, []⟩) (by simp [execOp, hop, hve, g1]) hw ok hgo g2 rfl hk
  | mptr p v i off => exact absurd hc (hnm p v i off)
  | _ => rw [hc] at h; cases h
theorem getElem?_modify' {h : Array Obj} {g k : Nat} {f : Obj → Obj} (hk : k ≠ g) : (h.modify g f)[k]? = h[k]? := by
 rw [Array.getElem?_modify]; simp [Ne.symm hk]
theorem op_store (htt : TTok P tt) (ok : MOK B M) (hgo : M.go = lk obj) (hE : RelE M env a.tmps) (hw : w.heap = M.h) {t : Nat} {ad y : Operand} (hop : o.op = .store t ad y) {s : Stp}
  {Γ : Gam} (h : step tt Γ env (lk obj) o.dst (.store t ad y) = some s) (hnm : ∀ p v i off, operand env ad ≠ .mptr p v i off) (x : s.α) (hro : ∀ d ∈ s.wr, ¬ B.ro d) (hk : Cont w B M obj s.cr (s.f x) a o.dst K) : o.wp P a w K Q := by
 have hv := operand_ok hE ad
 have hy := operand_ok hE y
 simp only [step] at h
 cases hd : lk tt t with
 | none => rw [hd] at h; cases h
 | some d =>
  rw [hd] at h; simp only [] at h
  have td := htt t d hd
  cases hc : operand env ad with
  | ptr ob off =>
   rw [hc] at h hv; simp only [] at h
   simp only [VR] at hv
   cases hg : lk obj ob with
   | none => rw [hg] at h; cases h
   | some x' =>
    rw [hg] at h
    cases x' with
    | row => cases h
    | cells t' l =>
     simp only [] at h
     cases hm : isMap l with
     | some => rw [hm] at h; cases h
     | none =>
     rw [hm] at h; simp only [] at h
     cases h1 : allOne (lk obj) (operand env y).cells with
     | false => rw [h1] at h; cases h
     | true =>
      rw [h1] at h; simp only [] at h
      cases h2 : Nat.beq (lenN (operand env y).cells) d.size with
      | false => rw [h2] at h; cases h
      | true =>
       rw [h2] at h; simp only [] at h
       cases h3 : putL off (operand env y).cells l with
       | none => rw [h3] at h; cases h
       | some l' =>
        rw [h3] at h; injection h with h; subst h
        have hor := ok.obj ob _ (by rw [hgo]; exact hg)
        simp only [OR] at hor
        obtain ⟨hn, hLies, _⟩ := hor
        obtain ⟨vs, hb, hl⟩ := hLies.cells hm
        have hyc := hy.cells (by rw [hgo]; exact h1)
        have hsz : (a.eval y).cells.size = d.size := by
         have := beq_of h2; rw [lenN_eq] at this
         rw [← this, hyc.length]; simp
        have hones := hyc.ones (by rw [hgo]; exact h1)
        obtain ⟨hp, hple⟩ := VRL.put off h3 hyc hl
        have hrun := run_storeCells_at (P := P) (M.β ob).b off t' (a.eval y).cells.toList 0 vs w (by rw [hw]; exact hb) (by simpa using hple) hones
        simp only [Nat.add_zero] at hrun
        have hsc := ok.setCells (t := t') (l := l) (l' := l') (vs' := (vs.toList.take off ++ (a.eval y).cells.toList ++ vs.toList.drop (off + (a.eval y).cells.toList.length)).toArray)
         (h' := (w.setRow (M.β ob).b (vs.toList.take off ++ (a.eval y).cells.toList ++ vs.toList.drop (off + (a.eval y).cells.toList.length)).toArray).heap)
         (go' := lk ((ob, .cells t' l') :: obj)) (d := ob) (hro ob (by simp)) (by rw [hgo]; exact hg) (fun i => by rw [lk_cons, hgo])
         (setRow_heap w _ vs _ t' (0, 0) (by rw [hw]; exact hb)) (fun b hne => by rw [setRow_other w _ b _ hne, hw]) (by rw [setRow_size, hw]) (by simpa using hp)
        refine wp_skip' (w' := w.setRow (M.β ob).b (vs.toList.take off ++ (a.eval y).cells.toList ++ vs.toList.drop (off + (a.eval y).cells.toList.length)).toArray) ?_ (hk _ _ _ ⟨rfl, rfl, rfl⟩ rfl hsc.1 hsc.2 ?_ rfl (fun _ h => .inr h))
        ·simp only [execOp, hop, hv.2, Instr.storeAt, Instr.sureAddr, storeVar, Sem.run_bind, Sem.run_pure, Result.andThen_ok, td.size_run, hsz, ne_eq, not_true_eq_false, if_false, hrun]
        ·simp [VR]
  | pidx ob off n k j =>
   rw [hc] at h hv; simp only [] at h
   simp only [VR] at hv
   obtain ⟨hC, hj0, hjn, hve⟩ := hv
   cases hcx : operand env y <;> rw [hcx] at h <;> simp only [] at h <;> first | (cases h; done) | skip
   rename_i k' v
   rw [hcx] at hy
   cases hg : lk obj ob with
   | none => rw [hg] at h; cases h
   | some x' =>
    rw [hg] at h
    cases x' with
    | row => cases h
    | cells t' l =>
     simp only [] at h
     cases hm : isMap l with
     | some => rw [hm] at h; cases h
     | none =>
     rw [hm] at h; simp only [] at h
     cases ht : takeL n (dropL off l) with
     | none => rw [ht] at h; cases h
     | some cs =>
      rw [ht] at h; simp only [] at h
      cases hi : intsK k cs with
      | none => rw [hi] at h; cases h
      | some ns =>
       rw [hi] at h; simp only [] at h
       cases h3 : putL off (setK k j v 0 ns) l with
       | none => rw [h3] at h; cases h
       | some l' =>
        rw [h3] at h; simp only [] at h
        split at h <;> first | (cases h; done) | skip
        rename_i hkk
        subst hkk
        split at h <;> first | (cases h; done) | skip
        rename_i hsz
        have hsz := beq_of hsz
        injection h with h; subst h
        have hor := ok.obj ob _ (by rw [hgo]; exact hg)
        simp only [OR] at hor
        obtain ⟨hn, hLies, _⟩ := hor
        obtain ⟨vs, hb, hl⟩ := hLies.cells hm
        obtain ⟨h1, h2⟩ := (hl.drop off).take _ ht
        have he := intsK_ok hi h1
        have hjt : ((j.toNat : Nat) : Int) = j := by omega
        have hset := setK_ok (M := M) (k := k') (v := v) ns 0 j.toNat
        rw [Nat.zero_add, hjt] at hset
        have hnl : ns.length = n := by
         have := congrArg List.length he
         simp at this h2; omega
        obtain ⟨hp, hple⟩ := VRL.put off h3 hset hl
        have hvlen : off + n ≤ vs.toList.length := by simp at h2 ⊢; omega
        have hpe := set_part vs.toList off n j.toNat (.int k' v) hvlen (by omega)
        rw [he] at hpe
        have hll : (((ns.map fun n => Value.int k' n).set j.toNat (.int k' v))).length = n := by simp [hnl]
        rw [hll, hpe] at hp
        have hrun := run_storeCells_at (P := P) (M.β ob).b (off + j.toNat) t' [Value.int k' v] 0 vs w (by rw [hw]; exact hb) (by simp at hvlen ⊢; omega) (by simp [Value.oneCell'])
        simp only [Nat.add_zero] at hrun
        have hsc := ok.setCells (t := t') (l := l) (l' := l') (vs' := (vs.toList.take (off + j.toNat) ++ [Value.int k' v] ++ vs.toList.drop (off + j.toNat + 1)).toArray)
         (h' := (w.setRow (M.β ob).b (vs.toList.take (off + j.toNat) ++ [Value.int k' v] ++ vs.toList.drop (off + j.toNat + 1)).toArray).heap)
         (go' := lk ((ob, .cells t' l') :: obj)) (d := ob) (hro ob (by simp)) (by rw [hgo]; exact hg) (fun i => by rw [lk_cons, hgo])
         (setRow_heap w _ vs _ t' (0, 0) (by rw [hw]; exact hb)) (fun b hne => by rw [setRow_other w _ b _ hne, hw]) (by rw [setRow_size, hw]) (by simpa using hp)
        refine wp_skip' (w' := w.setRow (M.β ob).b (vs.toList.take (off + j.toNat) ++ [Value.int k' v] ++ vs.toList.drop (off + j.toNat + 1)).toArray) ?_ (hk _ _ _ ⟨rfl, rfl, rfl⟩ rfl hsc.1 hsc.2 ?_ rfl (fun _ h => .inr h))
        ·have hvy : a.eval y = .int k' v := hy.int
         have hcz : (Value.int k' v).cells = #[Value.int k' v] := rfl
         simp only [execOp, hop, hve, hvy, Instr.storeAt, Instr.sureAddr, storeVar, Sem.run_bind, Sem.run_pure, Result.andThen_ok, td.size_run, hsz, hcz]
         simp only [List.length_cons, List.length_nil] at hrun
         simp [hrun]
        ·simp [VR]
  | mptr p v i off => exact absurd hc (hnm p v i off)
  | _ => rw [hc] at h; cases h
theorem add_sub {l : List Nat} {d : Nat} {U U' : Nat → Prop} (h : ∀ i, U' i → i = d ∨ U i) : ∀ i, U' i → i ∈ [d] ∨ U i := fun i hi => (h i hi).imp (fun h => by simp [h]) id
theorem op_alloc (htt : TTok P tt) (ok : MOK B M) (hgo : M.go = lk obj) (hw : w.heap = M.h) {t : Nat} (hop : o.op = .alloc t) {s : Stp}
  {Γ : Gam} (h : step tt Γ env (lk obj) o.dst (.alloc t) = some s) (x : s.α) (hcr : ∀ d ∈ s.cr, ¬ M.U d) (hk : Cont w B M obj s.cr (s.f x) a o.dst K) : o.wp P a w K Q := by
 simp only [step] at h
 cases hd : lk tt t with
 | none => rw [hd] at h; cases h
 | some d =>
  rw [hd] at h; try simp only [] at h
  cases hdst : o.dst with
  | none => rw [hdst] at h; cases h
  | some i =>
   rw [hdst] at h; injection h with h; subst h
   obtain ⟨z, hz, hzs, hzv⟩ := (htt t d hd).zero_run w
   have hm := ok.addCells (d := i) (t := t) (l := d.zero) (vs := z.cells) (go' := lk ((i, .cells t d.zero) :: obj)) (hcr i (by simp)) (fun q => by rw [lk_cons, hgo]) (hzv M)
   refine wp_value (v := .pointer (some ⟨w.heap.size, 0, none⟩)) (w' := { w with heap := w.heap.push (.cells z.cells t) }) ?_ (hk _ _ _ ⟨rfl, rfl, rfl⟩ (by simp [Mem.add, hw]) hm.1 hm.2 ?_ rfl (fun q hq => hq.imp (fun h => by simp [h]) id))
   ·simp [execOp, hop, Instr.alloc, hz, newVar, newRow]
   ·simp [VR, Mem.add, hw]
theorem op_box (htt : TTok P tt) (ok : MOK B M) (hgo : M.go = lk obj) (hE : RelE M env a.tmps) (hw : w.heap = M.h) {t : Nat} {y : Operand} (hop : o.op = .box t y) {s : Stp}
  {Γ : Gam} (h : step tt Γ env (lk obj) o.dst (.box t y) = some s) (x : s.α) (hcr : ∀ d ∈ s.cr, ¬ M.U d) (hk : Cont w B M obj s.cr (s.f x) a o.dst K) : o.wp P a w K Q := by
 have hy := operand_ok hE y
 simp only [step] at h
 cases hd : lk tt t with
 | none => rw [hd] at h; cases h
 | some d =>
  rw [hd] at h; try simp only [] at h
  cases hdst : o.dst with
  | none => rw [hdst] at h; cases h
  | some i =>
   rw [hdst] at h; simp only [] at h
   cases h1 : allOne (lk obj) (operand env y).cells with
   | false => rw [h1] at h; cases h
   | true =>
    rw [h1] at h; injection h with h; subst h
    have hyc := hy.cells (by rw [hgo]; exact h1)
    have hm := ok.addCells (d := i) (t := t) (l := (operand env y).cells) (vs := (a.eval y).cells) (go' := lk ((i, .cells t (operand env y).cells) :: obj)) (hcr i (by simp)) (fun q => by rw [lk_cons, hgo]) hyc
    refine wp_value (v := .pointer (some ⟨w.heap.size, 0, none⟩)) (w' := { w with heap := w.heap.push (.cells (a.eval y).cells t) }) ?_ (hk _ _ _ ⟨rfl, rfl, rfl⟩ (by simp [Mem.add, hw]) hm.1 hm.2 ?_ rfl (fun q hq => hq.imp (fun h => by simp [h]) id))
    ·simp [execOp, hop, Instr.box, newVar, newRow]
    ·simp [VR, Mem.add, hw]
theorem structOf_some {t : Nat} {d : TD} {fs : List (Nat × Nat × Nat)} (h : structOf tt t = some (d, fs)) : lk tt t = some d ∧ d.kind = .struct fs := by
 unfold structOf at h
 cases hd : lk tt t with
 | none => rw [hd] at h; cases h
 | some d' =>
  rw [hd] at h; simp only [] at h
  cases hk : d'.kind <;> rw [hk] at h <;> first | (cases h; done) | skip
  injection h with h; injection h with h1 h2; subst h1; subst h2; exact ⟨rfl, hk⟩
theorem sliceOf_some {t e : Nat} {de : TD} (h : sliceOf tt t = some (e, de)) : ∃ d, lk tt t = some d ∧ d.kind = .slice e ∧ lk tt e = some de ∧ de.size = de.ty.n ∧ 1 ≤ de.bytes ∧ de.ty.isMu = false := by
 unfold sliceOf at h
 cases hd : lk tt t with
 | none => rw [hd] at h; cases h
 | some d' =>
  rw [hd] at h; simp only [] at h
  cases hk : d'.kind <;> rw [hk] at h <;> first | (cases h; done) | skip
  rename_i e'
  simp only [] at h
  cases he : lk tt e' with
  | none => rw [he] at h; cases h
  | some de' =>
   rw [he] at h; simp only [] at h
   cases hb : (Nat.beq de'.size de'.ty.n && Nat.ble 1 de'.bytes && !de'.ty.isMu) with
   | false => rw [hb] at h; cases h
   | true =>
    rw [hb] at h; injection h with h; injection h with h1 h2; subst h1; subst h2
    simp only [Bool.and_eq_true, Bool.not_eq_true'] at hb
    exact ⟨d', rfl, hk, he, beq_of hb.1.1, Nat.le_of_ble_eq_true hb.1.2, hb.2⟩
theorem muAt_some {go : Nat → Option Ob} {e : Ty} {t p v : Nat} {l : List e.den} (h : muAt go e t p v = some l) : go p = some (.row v t (.mu e) l) := by
 unfold muAt at h
 split at h <;> first | (cases h; done) | skip
 rename_i v' t' e' l' hg
 split at h <;> first | (cases h; done) | skip
 rename_i hv
 split at h <;> first | (cases h; done) | skip
 rename_i ht
 split at h <;> first | (cases h; done) | skip
 rename_i he
 subst he
 injection h with h; subst h
 rw [beq_of hv, beq_of ht]; exact hg
theorem op_fieldAddr (htt : TTok P tt) (ok : MOK B M) (hgo : M.go = lk obj) (hE : RelE M env a.tmps) (hw : w.heap = M.h) {t f : Nat} {y : Operand} (hop : o.op = .fieldAddr t y f) {s : Stp}
  {Γ : Gam} (h : step tt Γ env (lk obj) o.dst (.fieldAddr t y f) = some s) (x : s.α) (hk : Cont w B M obj s.cr (s.f x) a o.dst K) : o.wp P a w K Q := by
 have hy := operand_ok hE y
 simp only [step] at h
 cases hst : structOf tt t with
 | none => rw [hst] at h; cases h
 | some df =>
  obtain ⟨d, fs⟩ := df
  rw [hst] at h; simp only [] at h
  obtain ⟨hd, hkd⟩ := structOf_some hst
  obtain ⟨F, hF, hf, _⟩ := (htt t d hd).st fs hkd
  cases hn : nth fs f with
  | none => rw [hn] at h; cases h
  | some q =>
   obtain ⟨off', ft, n⟩ := q
   rw [hn] at h; simp only [] at h
   obtain ⟨fl, h1, h2, h3, h4, h5⟩ := hf f off' ft n hn
   have hrun : ∀ b off, (Instr.fieldAt t (.pointer (some ⟨b, off, none⟩)) f).run P w = .ok (.pointer (some ⟨b, off + off', none⟩)) w := by
    intro b off
    have hs : (sizeOf fl.type).run P w = .ok n w := by
     rw [h3]
     cases hi : P.info? ft with
     | none => rw [hi] at h4; cases h4
     | some i => rw [hi] at h4; injection h4 with h4; simp [sizeOf, typeInfo, hi, h4]
    simp [Instr.fieldAt, run_underlying hF, h1, Instr.sureAddr, fieldPlace, hs, Nat.pos_iff_ne_zero.mp h5, h2, add_none]
   cases hc : operand env y with
   | ptr ob off =>
    rw [hc] at h hy; injection h with h; subst h
    simp only [VR] at hy
    exact wp_same (v := _) (w' := w) (d := ⟨.ptr ob (off + off'), []⟩) (by simp only [execOp, hop, hy.2, Sem.run_bind, hrun, Result.andThen_ok]; rfl) hw ok hgo (by simp only [VR]; exact ⟨hy.1, trivial⟩) rfl hk
   | elt T z off =>
    rw [hc] at h hy; injection h with h; subst h
    simp only [VR] at hy
    obtain ⟨b, oo, he, hel⟩ := hy
    exact wp_same (v := _) (w' := w) (d := ⟨.elt T z (off + off'), []⟩) (by simp only [execOp, hop, he, Sem.run_bind, hrun, Result.andThen_ok]; rfl) hw ok hgo (by simp only [VR]; exact ⟨b, oo, by rw [Nat.add_assoc], hel⟩) rfl hk
   | mptr p v i off =>
    rw [hc] at h hy; simp only [] at h
    cases hg : lk obj p with
    | none => rw [hg] at h; cases h
    | some ob =>
     rw [hg] at h
     cases ob with
     | cells => cases h
     | row v' t' T' l' =>
      simp only [] at h
      cases hb : Nat.beq v v' with
      | false => rw [hb] at h; cases h
      | true =>
       rw [hb] at h; injection h with h; subst h
       have hbe := beq_of hb; subst hbe
       simp only [VR] at hy
       have hg' : M.go p = some (.row v t' T' l') := by rw [hgo]; exact hg
       obtain ⟨_, hh⟩ := hy.2 _ _ _ _ hg'
       obtain ⟨q1, q2, q3, he⟩ := hh rfl
       exact wp_same (v := _) (w' := w) (d := ⟨.mptr p v i (off + off'), []⟩) (by simp only [execOp, hop, he, Sem.run_bind, hrun, Result.andThen_ok]; rfl) hw ok hgo (by
        simp only [VR]
        refine ⟨hy.1, fun v0 t0 T0 l0 hg0 => ?_⟩
        rw [hg'] at hg0; injection hg0 with hg0; injection hg0 with r1 r2 r3 r4
        subst r1; subst r3; have r4 := eq_of_heq r4; subst r4
        exact ⟨Nat.le_refl _, fun _ => ⟨q1, q2, q3, by rw [Nat.add_assoc]⟩⟩) rfl hk
   | _ => rw [hc] at h; cases h
theorem arrOf_some {t n e : Nat} {d de : TD} (h : arrOf tt t = some (d, n, e, de)) : lk tt t = some d ∧ d.kind = .array n e ∧ lk tt e = some de ∧ 1 ≤ de.size := by
 unfold arrOf at h
 split at h <;> first | (cases h; done) | skip
 rename_i d' hd
 split at h <;> first | (cases h; done) | skip
 rename_i n' e' hk
 split at h <;> first | (cases h; done) | skip
 rename_i de' hde
 split at h <;> first | (cases h; done) | skip
 rename_i hb
 injection h with h
 simp only [Prod.mk.injEq] at h
 obtain ⟨rfl, rfl, rfl, rfl⟩ := h
 exact ⟨hd, hk, hde, Nat.le_of_ble_eq_true hb⟩
theorem constIx_ok {env : List (Nat × CV)} {i : Operand} {m : Nat} (h : constIx i = some m) : ∃ k, a.eval i = Value.int k (m : Int) := by
 unfold constIx at h
 split at h
 ·rename_i k n
  cases n with
  | ofNat q => simp only [] at h; injection h with h; subst h; exact ⟨k, rfl⟩
  | negSucc q => cases h
 ·cases h
theorem index_arr {t n e : Nat} {d de : TD} (htt : TTok P tt) (h : arrOf tt t = some (d, n, e, de)) {b off : Nat} {k : IntKind} {j : Int} (h0 : 0 ≤ j) (h1 : j < (n : Int)) (w : World) :
  (Instr.indexAt t (Value.pointer (some ⟨b, off, none⟩)) (Value.int k j)).run P w = Result.ok (Value.pointer (some ⟨b, off + j.toNat * de.size, none⟩)) w := by
 obtain ⟨hd, hkd, hde, _⟩ := arrOf_some h
 have hu := (htt t d hd).arr n e hkd
 have hin : 0 ≤ j ∧ j < (n : Int) := ⟨h0, h1⟩
 simp [Instr.indexAt, asIntOf, run_underlying hu, Instr.sureAddr, if_pos hin, (htt e de hde).size_run, add_none]
theorem op_indexAddr (htt : TTok P tt) (ok : MOK B M) (hgo : M.go = lk obj) (hE : RelE M env a.tmps) (hw : w.heap = M.h) {t : Nat} {y i : Operand} (hop : o.op = .indexAddr t y i) {s : Stp}
  {Γ : Gam} (h : step tt Γ env (lk obj) o.dst (.indexAddr t y i) = some s) (x : s.α) (hx : s.o = some x) (hk : Cont w B M obj s.cr (s.f x) a o.dst K) : o.wp P a w K Q := by
 have hy := operand_ok hE y
 have hi := operand_ok hE i
 simp only [step] at h
 cases har : arrOf tt t with
 | some q =>
  obtain ⟨d, n, e, de⟩ := q
  rw [har] at h; simp only [] at h
  cases hc : operand env y <;> rw [hc] at h <;> simp only [] at h <;> first | (cases h; done) | skip
  rename_i ob off
  rw [hc] at hy
  simp only [VR] at hy
  cases hci : constIx i with
  | some m =>
   rw [hci] at h; simp only [] at h
   split at h <;> first | (cases h; done) | skip
   rename_i hlt
   have hlt : m < n := Nat.le_of_ble_eq_true hlt
   injection h with h; subst h
   obtain ⟨k, hk'⟩ := constIx_ok (a := a) (env := env) hci
   exact wp_same (v := _) (w' := w) (d := ⟨.ptr ob (off + m * de.size), []⟩) (by simp only [execOp, hop, hy.2, hk', Sem.run_bind, index_arr htt har (by omega : (0 : Int) ≤ (m : Int)) (by omega), Result.andThen_ok]; rfl) hw ok hgo (by simp only [VR]; exact ⟨hy.1, rfl⟩) rfl hk
  | none =>
   rw [hci] at h; simp only [] at h
   split at h <;> first | (cases h; done) | skip
   rename_i k j kk hc2 hkk
   rw [hc2] at hi
   split at h <;> first | (cases h; done) | skip
   rename_i hsz
   have hsz := beq_of hsz
   injection h with h; subst h
   have hck := ck_some hx
   simp only [Bool.and_eq_true, decide_eq_true_eq] at hck
   have hrun := index_arr (b := (M.β ob).b) (off := off) (k := k) htt har hck.1 hck.2 w
   rw [hsz, Nat.mul_one] at hrun
   exact wp_same (v := _) (w' := w) (d := ⟨.pidx ob off n kk j, []⟩) (by simp only [execOp, hop, hy.2, hi.int, Sem.run_bind, hrun, Result.andThen_ok]; rfl) hw ok hgo (by simp only [VR]; exact ⟨hy.1, hck.1, hck.2, trivial⟩) rfl hk
 | none =>
 rw [har] at h; simp only [] at h
 cases hst : sliceOf tt t with
 | none => rw [hst] at h; cases h
 | some q =>
  obtain ⟨e, de⟩ := q
  rw [hst] at h; simp only [] at h
  obtain ⟨d, hd, hkd, hde, hsz, hby, hmu⟩ := sliceOf_some hst
  cases hc : operand env i with
  | int k n =>
   rw [hc] at h hi; simp only [] at h
   cases hl : asL (lk obj) de.ty (operand env y) with
   | none =>
    rw [hl] at h; simp only [] at h
    cases hcy : operand env y <;> rw [hcy] at h <;> simp only [] at h <;> first | (cases h; done) | skip
    rename_i p ver
    cases hma : muAt (lk obj) de.ty e p ver with
    | none => rw [hma] at h; cases h
    | some l =>
     rw [hma] at h; injection h with h; subst h
     have hck := ck_some hx
     simp only [Bool.and_eq_true, decide_eq_true_eq] at hck
     have hg := muAt_some hma
     rw [← hgo] at hg
     rw [hcy] at hy
     have hv := hy.own hg
     have hor := ok.obj p _ hg
     cases hn : (M.β p).nil with
     | true =>
      simp only [OR, hn] at hor
      have h0 : l = [] := hor
      subst h0; simp at hck; omega
     | false =>
      simp only [Hd.slice, hn] at hv
      have hv : a.eval y = .slice (some ⟨(M.β p).b, (M.β p).off, none⟩) (List.length (α := de.ty.den) l) (M.β p).cap := hv
      refine wp_same (v := .pointer (some ⟨(M.β p).b, (M.β p).off + n.toNat * de.ty.n, none⟩)) (w' := w) (d := ⟨.mptr p ver n 0, []⟩) ?_ hw ok hgo (by
       simp only [VR]
       refine ⟨ok.used p (by rw [hg]; simp), fun v0 t0 T0 l0 hg0 => ?_⟩
       rw [hg] at hg0; injection hg0 with hg0; injection hg0 with q1 q2 q3 q4
       subst q1; subst q3; have q4 := eq_of_heq q4; subst q4
       exact ⟨Nat.le_refl _, fun _ => ⟨hn, hck.1, hck.2, by simp [Ty.n]⟩⟩) rfl hk
      have hu := (htt t d hd).slice e hkd
      have hin : 0 ≤ n ∧ n < (l.length : Int) := hck
      simp only [execOp, hop, hv, hi.int, Instr.indexAt, asIntOf, Sem.run_bind, Sem.run_pure, Result.andThen_ok, run_underlying hu, if_pos hin, (htt e de hde).size_run, add_none, hsz]
   | some l =>
    rw [hl] at h; injection h with h; subst h
    have hsl := asL_ok ok (by rw [hgo]; exact hl) hy
    simp only [rdo] at hx
    split at hx
    ·rename_i h0
     obtain ⟨hlt, hxe⟩ := List.getElem?_eq_some_iff.mp hx
     rcases hsl with ⟨rfl, _⟩ | ⟨b, oo, c, hv, _, hel⟩
     ·simp at hlt
     ·have h1 := hel n.toNat hlt
      rw [hxe] at h1
      refine wp_same (v := .pointer (some ⟨b, oo + n.toNat * de.ty.n, none⟩)) (w' := w) (d := ⟨.elt de.ty x 0, []⟩) ?_ hw ok hgo (by simp only [VR]; exact ⟨b, _, by rw [Nat.add_zero], h1⟩) rfl hk
      have hu := (htt t d hd).slice e hkd
      have hin : 0 ≤ n ∧ n < (l.length : Int) := ⟨h0, by omega⟩
      simp only [execOp, hop, hv, hi.int, Instr.indexAt, asIntOf, Sem.run_bind, Sem.run_pure, Result.andThen_ok, run_underlying hu, if_pos hin, (htt e de hde).size_run, add_none, hsz]
    ·cases hx
  | _ => rw [hc] at h; cases h
theorem nth_eq {α : Type} : ∀ (l : List α) (i : Nat), nth l i = l[i]?
 | [], _ => by simp [nth]
 | x :: _, 0 => rfl
 | _ :: r, n + 1 => by simp [nth, nth_eq r n]
theorem VRL.nth : ∀ {l : List CV} {vs : List Value} {i : Nat} {c : CV}, VRL M l vs → Eng.nth l i = some c → ∃ v, vs[i]? = some v ∧ VR M c v
 | [], _, _, _, _, h => by simp [Eng.nth] at h
 | c :: r, vs, 0, c', hl, h => by
  simp only [VRL] at hl
  obtain ⟨v, vr, rfl, h1, _⟩ := hl
  simp only [Eng.nth] at h; injection h with h; subst h
  exact ⟨v, rfl, h1⟩
 | c :: r, vs, i + 1, c', hl, h => by
  simp only [VRL] at hl
  obtain ⟨v, vr, rfl, _, h2⟩ := hl
  obtain ⟨u, h3, h4⟩ := VRL.nth h2 h
  exact ⟨u, by simpa using h3, h4⟩
theorem op_field (htt : TTok P tt) (ok : MOK B M) (hgo : M.go = lk obj) (hE : RelE M env a.tmps) (hw : w.heap = M.h) {t f : Nat} {y : Operand} (hop : o.op = .field t y f) {s : Stp}
  {Γ : Gam} (h : step tt Γ env (lk obj) o.dst (.field t y f) = some s) (x : s.α) (hk : Cont w B M obj s.cr (s.f x) a o.dst K) : o.wp P a w K Q := by
 have hy := operand_ok hE y
 simp only [step] at h
 cases hst : structOf tt t with
 | none => rw [hst] at h; cases h
 | some df =>
  obtain ⟨d, fs⟩ := df
  rw [hst] at h; simp only [] at h
  obtain ⟨hd, hkd⟩ := structOf_some hst
  obtain ⟨F, hF, hf, _⟩ := (htt t d hd).st fs hkd
  cases hn : nth fs f with
  | none => rw [hn] at h; cases h
  | some q =>
   obtain ⟨off, ft, n⟩ := q
   rw [hn] at h; simp only [] at h
   obtain ⟨fl, h1, h2, h3, h4, h5⟩ := hf f off ft n hn
   cases hft : lk tt ft with
   | none => rw [hft] at h; cases h
   | some dt =>
    rw [hft] at h; simp only [] at h
    cases hc : operand env y with
    | agg l =>
     rw [hc] at h hy; simp only [] at h
     simp only [VR] at hy
     obtain ⟨vs, he, hl⟩ := hy
     cases ht : takeL dt.size (dropL off l) with
     | none => rw [ht] at h; cases h
     | some cs =>
      rw [ht] at h; simp only [] at h
      cases ha : asVal dt.agg cs with
      | none => rw [ha] at h; cases h
      | some c =>
       rw [ha] at h; injection h with h; subst h
       obtain ⟨g1, g2⟩ := (hl.drop off).take _ ht
       rcases g1.asVal ha with ⟨hb, hr⟩ | ⟨hb, v, hv, hr⟩
       ·refine wp_same (v := .agg ((vs.toList.drop off).take dt.size).toArray) (w' := w) (d := ⟨c, []⟩) ?_ hw ok hgo hr rfl hk
        have e1 : vs.extract off (off + dt.size) = ((vs.toList.drop off).take dt.size).toArray := by
         apply Array.ext'; simp [Array.toList_extract, List.extract]
        simp [execOp, hop, he, Instr.field, run_underlying hF, h1, part, h3, (htt ft dt hft).agg, hb, asAgg, (htt ft dt hft).size_run, h2, e1]
       ·refine wp_same (v := v) (w' := w) (d := ⟨c, []⟩) ?_ hw ok hgo hr rfl hk
        have e1 : vs[off]? = some v := by
         have := list_getElem?_toList (vs := vs) (n := off) (m := dt.size) (j := 0) (v := v) (by rw [hv]; rfl)
         simpa using this
        simp [execOp, hop, he, Instr.field, run_underlying hF, h1, part, h3, (htt ft dt hft).agg, hb, asAgg, h2, e1]
    | _ => rw [hc] at h; cases h
theorem op_index (htt : TTok P tt) (ok : MOK B M) (hgo : M.go = lk obj) (hE : RelE M env a.tmps) (hw : w.heap = M.h) {t : Nat} {y i : Operand} (hop : o.op = .index t y i) {s : Stp}
  {Γ : Gam} (h : step tt Γ env (lk obj) o.dst (.index t y i) = some s) (x : s.α) (hx : s.o = some x) (hk : Cont w B M obj s.cr (s.f x) a o.dst K) : o.wp P a w K Q := by
 have hy := operand_ok hE y
 have hi := operand_ok hE i
 simp only [step] at h
 cases hkd : kindOf tt t with
 | none => rw [hkd] at h; cases h
 | some k =>
  rw [hkd] at h
  cases k <;> simp only [] at h <;> first | (cases h; done) | skip
  case str =>
   obtain ⟨d, hd, hkd'⟩ := kindOf_some hkd
   have hu := (htt t d hd).str hkd'
   cases hc : operand env y <;> rw [hc] at h <;> (try simp only [] at h) <;> first | (cases h; done) | skip
   rename_i st
   cases hc' : operand env i <;> rw [hc'] at h <;> simp only [] at h <;> first | (cases h; done) | skip
   rename_i k n
   injection h with h; subst h
   rw [hc] at hy; rw [hc'] at hi
   simp only [bto] at hx
   split at hx
   ·rename_i h0
    cases hb : st[n.toNat]? with
    | none => rw [hb] at hx; cases hx
    | some b =>
     rw [hb] at hx; simp only [Option.map_some] at hx; injection hx with hx
     refine wp_same (v := .int .u8 b.toNat) (w' := w) (d := ⟨.int .u8 x, []⟩) ?_ hw ok hgo (by rw [← hx]; simp [VR]) rfl hk
     simp [execOp, hop, hy.str, hi.int, Instr.index, asIntOf, run_underlying hu, h0, hb]
   ·cases hx
  case array n0 e0 =>
   cases har : arrOf tt t with
   | none => rw [har] at h; cases h
   | some q =>
    obtain ⟨d, n, e, de⟩ := q
    rw [har] at h; simp only [] at h
    obtain ⟨hd, hkd2, hde, _⟩ := arrOf_some har
    have hu := (htt t d hd).arr n e hkd2
    cases hc : operand env y <;> rw [hc] at h <;> simp only [] at h <;> first | (cases h; done) | skip
    rename_i l
    rw [hc] at hy
    simp only [VR] at hy
    obtain ⟨vs, he, hl⟩ := hy
    split at h <;> first | (cases h; done) | skip
    rename_i hbq
    have hlen : vs.size = n * de.size := by
     have := beq_of hbq; rw [lenN_eq, hl.length] at this; simpa using this
    cases hci : constIx i with
    | some m =>
     rw [hci] at h; simp only [] at h
     split at h <;> first | (cases h; done) | skip
     rename_i hlt
     have hlt : m < n := Nat.le_of_ble_eq_true hlt
     obtain ⟨k, hk'⟩ := constIx_ok (a := a) (env := env) hci
     have hin : (0 : Int) ≤ (m : Int) ∧ (m : Int) < (n : Int) := ⟨by omega, by omega⟩
     cases ht : takeL de.size (dropL (m * de.size) l) with
     | none => rw [ht] at h; cases h
     | some cs =>
      rw [ht] at h; simp only [] at h
      cases ha : asVal de.agg cs with
      | none => rw [ha] at h; cases h
      | some c =>
       rw [ha] at h; injection h with h; subst h
       obtain ⟨g1, g2⟩ := (hl.drop (m * de.size)).take _ ht
       rcases g1.asVal ha with ⟨hb, hr⟩ | ⟨hb, v, hv, hr⟩
       ·refine wp_same (v := .agg ((vs.toList.drop (m * de.size)).take de.size).toArray) (w' := w) (d := ⟨c, []⟩) ?_ hw ok hgo hr rfl hk
        have e1 : vs.extract (m * de.size) (m * de.size + de.size) = ((vs.toList.drop (m * de.size)).take de.size).toArray := by
         apply Array.ext'; simp [Array.toList_extract, List.extract]
        simp [execOp, hop, he, hk', Instr.index, asIntOf, run_underlying hu, part, (htt e de hde).agg, hb, (htt e de hde).size_run, e1]
        exact fun hn => absurd hn (by omega)
       ·refine wp_same (v := v) (w' := w) (d := ⟨c, []⟩) ?_ hw ok hgo hr rfl hk
        have e1 : vs[m * de.size]? = some v := by
         have := list_getElem?_toList (vs := vs) (n := m * de.size) (m := de.size) (j := 0) (v := v) (by rw [hv]; rfl)
         simpa using this
        simp [execOp, hop, he, hk', Instr.index, asIntOf, run_underlying hu, part, (htt e de hde).agg, hb, (htt e de hde).size_run, e1]
        exact fun hn => absurd hn (by omega)
    | none =>
     rw [hci] at h; simp only [] at h
     split at h <;> first | (cases h; done) | skip
     rename_i k j kk hc2 hkk
     rw [hc2] at hi
     split at h <;> first | (cases h; done) | skip
     rename_i hsz
     simp only [Bool.and_eq_true, Bool.not_eq_true'] at hsz
     have hs1 := beq_of hsz.1
     cases hik : intsK kk l with
     | none => rw [hik] at h; cases h
     | some ns =>
      rw [hik] at h; injection h with h; subst h
      have hvs := intsK_ok hik hl
      simp only [rdo] at hx
      split at hx <;> first | (cases hx; done) | skip
      rename_i h0
      have hcell : vs[j.toNat]? = some (.int kk x) := by
       have : vs.toList[j.toNat]? = some (.int kk x) := by rw [hvs, List.getElem?_map, hx]; rfl
       simpa using this
      have hjn : j < (n : Int) := by
       have := (Array.getElem?_eq_some_iff.mp hcell).1
       rw [hlen, hs1, Nat.mul_one] at this; omega
      have hin : 0 ≤ j ∧ j < (n : Int) := ⟨h0, hjn⟩
      refine wp_same (v := .int kk x) (w' := w) (d := ⟨.int kk x, []⟩) ?_ hw ok hgo (by simp [VR]) rfl hk
      simp [execOp, hop, he, hi.int, Instr.index, asIntOf, run_underlying hu, hin, part, (htt e de hde).agg, hsz.2, (htt e de hde).size_run, hs1, hcell]
theorem op_move (ok : MOK B M) (hgo : M.go = lk obj) (hE : RelE M env a.tmps) (hw : w.heap = M.h) {y : Operand} (hop : o.op = .move y ∨ o.op = .assign y) (hk : Cont w B M obj [] ⟨operand env y, []⟩ a o.dst K) : o.wp P a w K Q := by
 refine wp_same (v := a.eval y) (w' := w) (d := ⟨operand env y, []⟩) ?_ hw ok hgo (operand_ok hE y) rfl hk
 rcases hop with hop | hop <;> simp [execOp, hop]
theorem pickV_ok {b : Bool} {x y c : CV} {vx vy : Value} (h : pickV b x y = some c) (hx : VR M x vx) (hy : VR M y vy) : VR M c (if b then vx else vy) := by
 unfold pickV at h
 split at h
 ·injection h with h; subst h; rw [hx.bool, hy.bool]; cases b <;> simp [VR]
 ·split at h
  ·rename_i he; subst he; injection h with h; subst h; rw [hx.int, hy.int]; cases b <;> simp [VR]
  ·cases h
 ·injection h with h; subst h; rw [hx.str, hy.str]; cases b <;> simp [VR]
 ·cases h
theorem op_pick (ok : MOK B M) (hgo : M.go = lk obj) (hE : RelE M env a.tmps) (hw : w.heap = M.h) {c y z : Operand} (hop : o.op = .pick c y z) {s : Stp}
  {Γ : Gam} (h : step tt Γ env (lk obj) o.dst (.pick c y z) = some s) (x : s.α) (hk : Cont w B M obj s.cr (s.f x) a o.dst K) : o.wp P a w K Q := by
 have hc := operand_ok hE c
 have hy := operand_ok hE y
 have hz := operand_ok hE z
 simp only [step] at h
 cases hcc : operand env c <;> rw [hcc] at h <;> simp only [] at h <;> first | (cases h; done) | skip
 rename_i b
 rw [hcc] at hc
 have run : ∀ v, v = (if b then a.eval y else a.eval z) → (execOp a.eval o).run P w = .ok (.value v) w := by
  intro v hv; subst hv; cases b <;> simp [execOp, hop, hc.bool, asBool]
 cases hp : pickV b (operand env y) (operand env z) with
 | some v =>
  rw [hp] at h; injection h with h; subst h
  exact wp_same (d := ⟨v, []⟩) (run _ rfl) hw ok hgo (pickV_ok hp hy hz) rfl hk
 | none =>
  rw [hp] at h; simp only [] at h
  cases b with
  | true => injection h with h; subst h; exact wp_same (d := ⟨_, []⟩) (run _ rfl) hw ok hgo hy rfl hk
  | false => injection h with h; subst h; exact wp_same (d := ⟨_, []⟩) (run _ rfl) hw ok hgo hz rfl hk
theorem op_nilCheck (ok : MOK B M) (hgo : M.go = lk obj) (hE : RelE M env a.tmps) (hw : w.heap = M.h) {y : Operand} (hop : o.op = .nilCheck y) {s : Stp}
  {Γ : Gam} (h : step tt Γ env (lk obj) o.dst (.nilCheck y) = some s) (x : s.α) (hk : Cont w B M obj s.cr (s.f x) a o.dst K) : o.wp P a w K Q := by
 have hy := operand_ok hE y
 simp only [step] at h
 cases hc : operand env y <;> rw [hc] at h <;> simp only [] at h <;> first | (cases h; done) | skip
 ·rw [hc] at hy
  have hy' := hy
  simp only [VR] at hy
  obtain ⟨b, oo, he, _⟩ := hy
  injection h with h; subst h
  exact wp_same (v := a.eval y) (w' := w) (d := ⟨_, []⟩) (by simp [execOp, hop, he]) hw ok hgo hy' rfl hk
 ·rw [hc] at hy
  have hy' := hy
  simp only [VR] at hy
  injection h with h; subst h
  exact wp_same (v := a.eval y) (w' := w) (d := ⟨_, []⟩) (by simp [execOp, hop, hy.2]) hw ok hgo hy' rfl hk
 ·rw [hc] at hy
  have hy' := hy
  simp only [VR] at hy
  injection h with h; subst h
  exact wp_same (v := a.eval y) (w' := w) (d := ⟨_, []⟩) (by simp [execOp, hop, hy.2.2.2]) hw ok hgo hy' rfl hk
 ·rename_i p v i off
  rw [hc] at hy
  have hy' := hy
  simp only [VR] at hy
  cases hg : lk obj p with
  | none => rw [hg] at h; cases h
  | some ob =>
   rw [hg] at h
   cases ob with
   | cells => cases h
   | row v' t' T' l' =>
    simp only [] at h
    cases hb : Nat.beq v v' with
    | false => rw [hb] at h; cases h
    | true =>
     rw [hb] at h; injection h with h; subst h
     have hbe := beq_of hb; subst hbe
     obtain ⟨_, hh⟩ := hy.2 _ _ _ _ (by rw [hgo]; exact hg)
     obtain ⟨_, _, _, he⟩ := hh rfl
     exact wp_same (v := a.eval y) (w' := w) (d := ⟨_, []⟩) (by simp [execOp, hop, he]) hw ok hgo hy' rfl hk
theorem op_extract (ok : MOK B M) (hgo : M.go = lk obj) (hE : RelE M env a.tmps) (hw : w.heap = M.h) {y : Operand} {i : Nat} (hop : o.op = .extract y i) {s : Stp}
  {Γ : Gam} (h : step tt Γ env (lk obj) o.dst (.extract y i) = some s) (x : s.α) (hk : Cont w B M obj s.cr (s.f x) a o.dst K) : o.wp P a w K Q := by
 have hy := operand_ok hE y
 simp only [step] at h
 cases hc : operand env y <;> rw [hc] at h <;> simp only [] at h <;> first | (cases h; done) | skip
 rename_i l
 cases hn : nth l i with
 | none => rw [hn] at h; cases h
 | some v =>
  rw [hn] at h; injection h with h; subst h
  rw [hc] at hy
  simp only [VR] at hy
  obtain ⟨vs, he, hl⟩ := hy
  obtain ⟨u, h1, h2⟩ := hl.nth hn
  exact wp_same (v := u) (w' := w) (d := ⟨v, []⟩) (by simp at h1; simp [execOp, hop, he, Instr.extract, h1]) hw ok hgo h2 rfl hk
theorem op_unOp (ok : MOK B M) (hgo : M.go = lk obj) (hE : RelE M env a.tmps) (hw : w.heap = M.h) {u : UnOp} {t : Nat} {y : Operand} (hop : o.op = .unOp u t y) {s : Stp}
  {Γ : Gam} (h : step tt Γ env (lk obj) o.dst (.unOp u t y) = some s) (x : s.α) (hk : Cont w B M obj s.cr (s.f x) a o.dst K) : o.wp P a w K Q := by
 have hy := operand_ok hE y
 simp only [step] at h
 cases hc : operand env y <;> cases u <;> rw [hc] at h <;> simp only [] at h <;> first | (cases h; done) | skip
 case int.xor k n =>
  rw [hc] at hy
  simp only [intBin] at h
  injection h with h; subst h
  refine wp_same (v := _) (w' := w) (d := ⟨_, []⟩) (by simp only [execOp, hop, hy.int, Op.unary]; rfl) hw ok hgo ?_ rfl hk
  cases hs : k.signed <;> simp [VR, hs]
 all_goals
  rw [hc] at hy
  injection h with h; subst h
 ·exact wp_same (v := _) (w' := w) (d := ⟨_, []⟩) (by simp only [execOp, hop, hy.int, Op.unary, Op.intArith]; rfl) hw ok hgo (by simp [VR]) rfl hk
 ·exact wp_same (v := _) (w' := w) (d := ⟨_, []⟩) (by simp only [execOp, hop, hy.bool, Op.unary]; rfl) hw ok hgo (by simp [VR]) rfl hk
theorem op_binOp (htt : TTok P tt) (ok : MOK B M) (hgo : M.go = lk obj) (hE : RelE M env a.tmps) (hw : w.heap = M.h) {op : BinOp} {t t' : Nat} {y z : Operand} (hop : o.op = .binOp op t y z t') {s : Stp}
  {Γ : Gam} (h : step tt Γ env (lk obj) o.dst (.binOp op t y z t') = some s) (x : s.α) (hx : s.o = some x) (hk : Cont w B M obj s.cr (s.f x) a o.dst K) : o.wp P a w K Q := by
 have hr := run_bin htt (tt := tt) (by simpa only [step] using h) x hx (operand_ok hE y) (operand_ok hE z) ok y z w
 obtain ⟨v, w', this, ho, hheap, hvr⟩ := hr.run
 refine wp_same (v := v) (w' := w') (d := s.f x) ?_ (by rw [hheap]; exact hw) ok hgo (hvr M) hr.up hk ho
 simp only [Sem.run_bind] at this
 simp only [execOp, hop, Sem.run_bind]
 rw [this]; rfl
end
end Go.Proofs.Ytcjiipbppkdkaaa.Eng
