/- The engine, part 5: each operation that reads, writes, makes memory. -/
import Derived.Test.YthedgoefiffogaaEStep
import Derived.Laws.Tables
import Derived.Laws.AppendOwn
import Derived.Laws.BytesString
namespace Go.Proofs.Ythedgoefiffogaa.Eng
open Go
set_option linter.unusedVariables false
set_option linter.unusedSimpArgs false

theorem add_none (b o n : Nat) : (⟨b, o, none⟩ : Addr).add n = ⟨b, o + n, none⟩ := by unfold Addr.add; split <;> simp_all

section
variable {P : Program} {B : Base} {M : Mem} {obj : List (Nat × Ob)} {a : Act} {w : World} {o : Oper} {K : Act → World → Prop} {Q : Exit → Act → World → Prop} {tt : TT} {env : List (Nat × CV)} {cr : List Nat}

theorem TDok.size_run {t : Nat} {d : TD} (h : TDok P t d) (w : World) : (sizeOf t).run P w = .ok d.size w := by
  obtain ⟨i, z, hi, hs, _⟩ := h.info
  simp [sizeOf, typeInfo, hi, hs]
theorem TDok.zero_run {t : Nat} {d : TD} (h : TDok P t d) (w : World) : ∃ z, (zeroValue t).run P w = .ok z w ∧ z.cells.size = d.size ∧ ∀ M, VRL M d.zero z.cells.toList := by
  obtain ⟨i, z, hi, hs, hb, hz, hzs, hv⟩ := h.info
  exact ⟨z, by simp [zeroValue, typeInfo, hi, hz], hzs, hv⟩

theorem cells_load {t : Nat} {d : TD} (h : TDok P t d) {vs : List Value} {b off : Nat} {c : CV} {l : List CV} (hlen : vs.length = d.size) (hv : VRL M l vs) (ha : asVal d.agg l = some c)
    (hc : ∀ j v, vs[j]? = some v → cellAt w.heap b (off + j) = some v) : ∃ v, (Instr.loadAt t (.pointer (some ⟨b, off, none⟩))).run P w = .ok v w ∧ VR M c v := by
  have hcell : ∀ j v, vs[j]? = some v → w.cell? ((⟨b, off, none⟩ : Addr).add j) = some v := fun j v hj => by rw [add_none, cell_eq]; exact hc j v hj
  rcases hv.asVal ha with ⟨hb, hr⟩ | ⟨hb, v, rfl, hr⟩
  · have hl := run_loadCells_list (P := P) w ⟨b, off, none⟩ vs hcell
    rw [hlen] at hl
    refine ⟨.agg vs.toArray, ?_, hr⟩
    simp [Instr.loadAt, Instr.sureAddr, loadVar, h.agg, hb, h.size_run, hl]
  · have h0 := hcell 0 v rfl
    rw [add_none] at h0
    refine ⟨v, ?_, hr⟩
    simp only [Instr.loadAt, Instr.sureAddr, loadVar, Sem.run_bind, Sem.run_pure, Result.andThen_ok, h.agg, hb, Bool.false_eq_true, if_false, run_load, Nat.add_zero] at h0 ⊢
    rw [h0]

theorem list_getElem?_toList {vs : Array Value} {n m j : Nat} {v : Value} (h : ((vs.toList.drop n).take m)[j]? = some v) : vs[n + j]? = some v := by
  have hj : j < m := by
    have := (List.getElem?_eq_some_iff.mp h).1; simp at this; omega
  rw [List.getElem?_take_of_lt hj, List.getElem?_drop] at h
  simpa using h

/-- A load. -/
theorem op_load (htt : TTok P tt) (ok : MOK B M) (hgo : M.go = lk obj) (hE : RelE M env a.tmps) (hw : w.heap = M.h) {t : Nat} {ad : Operand} (hop : o.op = .load t ad) {s : Stp}
    {Γ : Gam} (h : step tt Γ env (lk obj) o.dst (.load t ad) = some s) (x : s.α) (hk : Cont w B M obj s.cr (s.f x) a o.dst K) : o.wp P a w K Q := by
  have hv := operand_ok hE ad
  simp only [step] at h
  cases hd : lk tt t with
  | none => rw [hd] at h; cases h
  | some d =>
    rw [hd] at h; simp only [] at h
    have td := htt t d hd
    have key : ∀ (c : CV) (vs : List Value) (l : List CV) (b off : Nat), vs.length = d.size → VRL M l vs → asVal d.agg l = some c → a.eval ad = .pointer (some ⟨b, off, none⟩) →
        (∀ j v, vs[j]? = some v → cellAt w.heap b (off + j) = some v) → ∀ rd, s = ⟨Unit, some (), fun _ => ⟨c, []⟩, rd, [], []⟩ → o.wp P a w K Q := by
      intro c vs l b off hl hvr ha he hc rd hs
      obtain ⟨v, h1, h2⟩ := cells_load (P := P) (w := w) td hl hvr ha hc
      subst hs
      refine wp_same (v := v) (w' := w) (d := ⟨c, []⟩) ?_ hw ok hgo h2 rfl hk
      simp [execOp, hop, he, h1]
    cases hc : operand env ad with
    | ptr ob off =>
      rw [hc] at h hv; simp only [] at h
      simp only [VR] at hv
      cases hg : lk obj ob with
      | none => rw [hg] at h; cases h
      | some x' =>
        rw [hg] at h
        cases x' with
        | row => cases h
        | cells t' l =>
          simp only [] at h
          cases ht : takeL d.size (dropL off l) with
          | none => rw [ht] at h; cases h
          | some cs =>
            rw [ht] at h; simp only [] at h
            cases ha : asVal d.agg cs with
            | none => rw [ha] at h; cases h
            | some c =>
              rw [ha] at h; injection h with h
              have hor := ok.obj ob _ (by rw [hgo]; exact hg)
              simp only [OR] at hor
              obtain ⟨hn, ⟨vs, hb, hl⟩, _⟩ := hor
              obtain ⟨h1, h2⟩ := (hl.drop off).take _ ht
              refine key c _ cs (M.β ob).b off (by simp at h2 ⊢; omega) h1 ha hv.2 (fun j v hj => ?_) _ h.symm
              rw [hw]; unfold cellAt; rw [hb]
              exact list_getElem?_toList hj
    | elt T y off =>
      rw [hc] at h hv; simp only [] at h
      simp only [VR] at hv
      obtain ⟨b, oo, he, hel⟩ := hv
      cases ht : takeL d.size (dropL off (toC T y [])) with
      | none => rw [ht] at h; cases h
      | some cs =>
        rw [ht] at h; simp only [] at h
        cases ha : asVal d.agg cs with
        | none => rw [ha] at h; cases h
        | some c =>
          rw [ha] at h; injection h with h
          obtain ⟨vs, hlen, hcell, hvr⟩ := hel.cells rfl rfl
          have h0 := hvr [] [] (by simp [VRL])
          rw [List.append_nil] at h0
          obtain ⟨h1, h2⟩ := (h0.drop off).take _ ht
          refine key c _ cs b (oo + off) (by simp at h2 ⊢; omega) h1 ha he (fun j v hj => ?_) _ (by rw [← h]; rfl)
          rw [hw]
          have : vs[off + j]? = some v := by
            have := list_getElem?_toList (vs := vs.toArray) (by simpa using hj); simpa using this
          rw [Nat.add_assoc]; exact hcell _ _ this
    | _ => rw [hc] at h; cases h

theorem getElem?_modify' {h : Array Obj} {g k : Nat} {f : Obj → Obj} (hk : k ≠ g) : (h.modify g f)[k]? = h[k]? := by
  rw [Array.getElem?_modify]; simp [Ne.symm hk]

/-- A store. -/
theorem op_store (htt : TTok P tt) (ok : MOK B M) (hgo : M.go = lk obj) (hE : RelE M env a.tmps) (hw : w.heap = M.h) {t : Nat} {ad y : Operand} (hop : o.op = .store t ad y) {s : Stp}
    {Γ : Gam} (h : step tt Γ env (lk obj) o.dst (.store t ad y) = some s) (x : s.α) (hro : ∀ d ∈ s.wr, ¬ B.ro d) (hk : Cont w B M obj s.cr (s.f x) a o.dst K) : o.wp P a w K Q := by
  have hv := operand_ok hE ad
  have hy := operand_ok hE y
  simp only [step] at h
  cases hd : lk tt t with
  | none => rw [hd] at h; cases h
  | some d =>
    rw [hd] at h; simp only [] at h
    have td := htt t d hd
    cases hc : operand env ad with
    | ptr ob off =>
      rw [hc] at h hv; simp only [] at h
      simp only [VR] at hv
      cases hg : lk obj ob with
      | none => rw [hg] at h; cases h
      | some x' =>
        rw [hg] at h
        cases x' with
        | row => cases h
        | cells t' l =>
          simp only [] at h
          cases h1 : allOne (lk obj) (operand env y).cells with
          | false => rw [h1] at h; cases h
          | true =>
            rw [h1] at h; simp only [] at h
            cases h2 : Nat.beq (lenN (operand env y).cells) d.size with
            | false => rw [h2] at h; cases h
            | true =>
              rw [h2] at h; simp only [] at h
              cases h3 : putL off (operand env y).cells l with
              | none => rw [h3] at h; cases h
              | some l' =>
                rw [h3] at h; injection h with h; subst h
                have hor := ok.obj ob _ (by rw [hgo]; exact hg)
                simp only [OR] at hor
                obtain ⟨hn, ⟨vs, hb, hl⟩, _⟩ := hor
                have hyc := hy.cells (by rw [hgo]; exact h1)
                have hsz : (a.eval y).cells.size = d.size := by
                  have := beq_of h2; rw [lenN_eq] at this
                  rw [← this, hyc.length]; simp
                have hones := hyc.ones (by rw [hgo]; exact h1)
                obtain ⟨hp, hple⟩ := VRL.put off h3 hyc hl
                have hrun := run_storeCells_at (P := P) (M.β ob).b off t' (a.eval y).cells.toList 0 vs w (by rw [hw]; exact hb) (by simpa using hple) hones
                simp only [Nat.add_zero] at hrun
                have hsc := ok.setCells (t := t') (l := l) (l' := l') (vs' := (vs.toList.take off ++ (a.eval y).cells.toList ++ vs.toList.drop (off + (a.eval y).cells.toList.length)).toArray)
                  (h' := (w.setRow (M.β ob).b (vs.toList.take off ++ (a.eval y).cells.toList ++ vs.toList.drop (off + (a.eval y).cells.toList.length)).toArray).heap)
                  (go' := lk ((ob, .cells t' l') :: obj)) (d := ob) (hro ob (by simp)) (by rw [hgo]; exact hg) (fun i => by rw [lk_cons, hgo])
                  (setRow_heap w _ vs _ t' (0, 0) (by rw [hw]; exact hb)) (fun b hne => by rw [setRow_other w _ b _ hne, hw]) (by rw [setRow_size, hw]) (by simpa using hp)
                refine wp_skip' (w' := w.setRow (M.β ob).b (vs.toList.take off ++ (a.eval y).cells.toList ++ vs.toList.drop (off + (a.eval y).cells.toList.length)).toArray) ?_ (hk _ _ _ ⟨rfl, rfl, rfl⟩ rfl hsc.1 hsc.2 ?_ rfl (fun _ h => .inr h))
                · simp only [execOp, hop, hv.2, Instr.storeAt, Instr.sureAddr, storeVar, Sem.run_bind, Sem.run_pure, Result.andThen_ok, td.size_run, hsz, ne_eq, not_true_eq_false, if_false, hrun]
                · simp [VR]
    | _ => rw [hc] at h; cases h

theorem add_sub {l : List Nat} {d : Nat} {U U' : Nat → Prop} (h : ∀ i, U' i → i = d ∨ U i) : ∀ i, U' i → i ∈ [d] ∨ U i := fun i hi => (h i hi).imp (fun h => by simp [h]) id

/-- A new object. -/
theorem op_alloc (htt : TTok P tt) (ok : MOK B M) (hgo : M.go = lk obj) (hw : w.heap = M.h) {t : Nat} (hop : o.op = .alloc t) {s : Stp}
    {Γ : Gam} (h : step tt Γ env (lk obj) o.dst (.alloc t) = some s) (x : s.α) (hcr : ∀ d ∈ s.cr, ¬ M.U d) (hk : Cont w B M obj s.cr (s.f x) a o.dst K) : o.wp P a w K Q := by
  simp only [step] at h
  cases hd : lk tt t with
  | none => rw [hd] at h; cases h
  | some d =>
    rw [hd] at h; try simp only [] at h
    cases hdst : o.dst with
    | none => rw [hdst] at h; cases h
    | some i =>
      rw [hdst] at h; injection h with h; subst h
      obtain ⟨z, hz, hzs, hzv⟩ := (htt t d hd).zero_run w
      have hm := ok.addCells (d := i) (t := t) (l := d.zero) (vs := z.cells) (go' := lk ((i, .cells t d.zero) :: obj)) (hcr i (by simp)) (fun q => by rw [lk_cons, hgo]) (hzv M)
      refine wp_value (v := .pointer (some ⟨w.heap.size, 0, none⟩)) (w' := { w with heap := w.heap.push (.cells z.cells t) }) ?_ (hk _ _ _ ⟨rfl, rfl, rfl⟩ (by simp [Mem.add, hw]) hm.1 hm.2 ?_ rfl (fun q hq => hq.imp (fun h => by simp [h]) id))
      · simp [execOp, hop, Instr.alloc, hz, newVar, newRow]
      · simp [VR, Mem.add, hw]

theorem op_box (htt : TTok P tt) (ok : MOK B M) (hgo : M.go = lk obj) (hE : RelE M env a.tmps) (hw : w.heap = M.h) {t : Nat} {y : Operand} (hop : o.op = .box t y) {s : Stp}
    {Γ : Gam} (h : step tt Γ env (lk obj) o.dst (.box t y) = some s) (x : s.α) (hcr : ∀ d ∈ s.cr, ¬ M.U d) (hk : Cont w B M obj s.cr (s.f x) a o.dst K) : o.wp P a w K Q := by
  have hy := operand_ok hE y
  simp only [step] at h
  cases hd : lk tt t with
  | none => rw [hd] at h; cases h
  | some d =>
    rw [hd] at h; try simp only [] at h
    cases hdst : o.dst with
    | none => rw [hdst] at h; cases h
    | some i =>
      rw [hdst] at h; simp only [] at h
      cases h1 : allOne (lk obj) (operand env y).cells with
      | false => rw [h1] at h; cases h
      | true =>
        rw [h1] at h; injection h with h; subst h
        have hyc := hy.cells (by rw [hgo]; exact h1)
        have hm := ok.addCells (d := i) (t := t) (l := (operand env y).cells) (vs := (a.eval y).cells) (go' := lk ((i, .cells t (operand env y).cells) :: obj)) (hcr i (by simp)) (fun q => by rw [lk_cons, hgo]) hyc
        refine wp_value (v := .pointer (some ⟨w.heap.size, 0, none⟩)) (w' := { w with heap := w.heap.push (.cells (a.eval y).cells t) }) ?_ (hk _ _ _ ⟨rfl, rfl, rfl⟩ (by simp [Mem.add, hw]) hm.1 hm.2 ?_ rfl (fun q hq => hq.imp (fun h => by simp [h]) id))
        · simp [execOp, hop, Instr.box, newVar, newRow]
        · simp [VR, Mem.add, hw]

theorem structOf_some {t : Nat} {d : TD} {fs : List (Nat × Nat × Nat)} (h : structOf tt t = some (d, fs)) : lk tt t = some d ∧ d.kind = .struct fs := by
  unfold structOf at h
  cases hd : lk tt t with
  | none => rw [hd] at h; cases h
  | some d' =>
    rw [hd] at h; simp only [] at h
    cases hk : d'.kind <;> rw [hk] at h <;> first | (cases h; done) | skip
    injection h with h; injection h with h1 h2; subst h1; subst h2; exact ⟨rfl, hk⟩
theorem sliceOf_some {t e : Nat} {de : TD} (h : sliceOf tt t = some (e, de)) : ∃ d, lk tt t = some d ∧ d.kind = .slice e ∧ lk tt e = some de ∧ de.size = de.ty.n ∧ 1 ≤ de.bytes := by
  unfold sliceOf at h
  cases hd : lk tt t with
  | none => rw [hd] at h; cases h
  | some d' =>
    rw [hd] at h; simp only [] at h
    cases hk : d'.kind <;> rw [hk] at h <;> first | (cases h; done) | skip
    rename_i e'
    simp only [] at h
    cases he : lk tt e' with
    | none => rw [he] at h; cases h
    | some de' =>
      rw [he] at h; simp only [] at h
      cases hb : (Nat.beq de'.size de'.ty.n && Nat.ble 1 de'.bytes) with
      | false => rw [hb] at h; cases h
      | true =>
        rw [hb] at h; injection h with h; injection h with h1 h2; subst h1; subst h2
        simp only [Bool.and_eq_true] at hb
        exact ⟨d', rfl, hk, he, beq_of hb.1, Nat.le_of_ble_eq_true hb.2⟩

/-- A field's address. -/
theorem op_fieldAddr (htt : TTok P tt) (ok : MOK B M) (hgo : M.go = lk obj) (hE : RelE M env a.tmps) (hw : w.heap = M.h) {t f : Nat} {y : Operand} (hop : o.op = .fieldAddr t y f) {s : Stp}
    {Γ : Gam} (h : step tt Γ env (lk obj) o.dst (.fieldAddr t y f) = some s) (x : s.α) (hk : Cont w B M obj s.cr (s.f x) a o.dst K) : o.wp P a w K Q := by
  have hy := operand_ok hE y
  simp only [step] at h
  cases hst : structOf tt t with
  | none => rw [hst] at h; cases h
  | some df =>
    obtain ⟨d, fs⟩ := df
    rw [hst] at h; simp only [] at h
    obtain ⟨hd, hkd⟩ := structOf_some hst
    obtain ⟨F, hF, hf, _⟩ := (htt t d hd).st fs hkd
    cases hn : nth fs f with
    | none => rw [hn] at h; cases h
    | some q =>
      obtain ⟨off', ft, n⟩ := q
      rw [hn] at h; simp only [] at h
      obtain ⟨fl, h1, h2, h3, h4, h5⟩ := hf f off' ft n hn
      have hrun : ∀ b off, (Instr.fieldAt t (.pointer (some ⟨b, off, none⟩)) f).run P w = .ok (.pointer (some ⟨b, off + off', none⟩)) w := by
        intro b off
        have hs : (sizeOf fl.type).run P w = .ok n w := by
          rw [h3]
          cases hi : P.info? ft with
          | none => rw [hi] at h4; cases h4
          | some i => rw [hi] at h4; injection h4 with h4; simp [sizeOf, typeInfo, hi, h4]
        simp [Instr.fieldAt, run_underlying hF, h1, Instr.sureAddr, fieldPlace, hs, Nat.pos_iff_ne_zero.mp h5, h2, add_none]
      cases hc : operand env y with
      | ptr ob off =>
        rw [hc] at h hy; injection h with h; subst h
        simp only [VR] at hy
        exact wp_same (v := _) (w' := w) (d := ⟨.ptr ob (off + off'), []⟩) (by simp only [execOp, hop, hy.2, Sem.run_bind, hrun, Result.andThen_ok]; rfl) hw ok hgo (by simp only [VR]; exact ⟨hy.1, trivial⟩) rfl hk
      | elt T z off =>
        rw [hc] at h hy; injection h with h; subst h
        simp only [VR] at hy
        obtain ⟨b, oo, he, hel⟩ := hy
        exact wp_same (v := _) (w' := w) (d := ⟨.elt T z (off + off'), []⟩) (by simp only [execOp, hop, he, Sem.run_bind, hrun, Result.andThen_ok]; rfl) hw ok hgo (by simp only [VR]; exact ⟨b, oo, by rw [Nat.add_assoc], hel⟩) rfl hk
      | _ => rw [hc] at h; cases h

/-- A list's element's address. -/
theorem op_indexAddr (htt : TTok P tt) (ok : MOK B M) (hgo : M.go = lk obj) (hE : RelE M env a.tmps) (hw : w.heap = M.h) {t : Nat} {y i : Operand} (hop : o.op = .indexAddr t y i) {s : Stp}
    {Γ : Gam} (h : step tt Γ env (lk obj) o.dst (.indexAddr t y i) = some s) (x : s.α) (hx : s.o = some x) (hk : Cont w B M obj s.cr (s.f x) a o.dst K) : o.wp P a w K Q := by
  have hy := operand_ok hE y
  have hi := operand_ok hE i
  simp only [step] at h
  cases hst : sliceOf tt t with
  | none => rw [hst] at h; cases h
  | some q =>
    obtain ⟨e, de⟩ := q
    rw [hst] at h; simp only [] at h
    obtain ⟨d, hd, hkd, hde, hsz, hby⟩ := sliceOf_some hst
    cases hc : operand env i with
    | int k n =>
      rw [hc] at h hi; simp only [] at h
      cases hl : asL (lk obj) de.ty (operand env y) with
      | none => rw [hl] at h; cases h
      | some l =>
        rw [hl] at h; injection h with h; subst h
        have hsl := asL_ok ok (by rw [hgo]; exact hl) hy
        simp only [rdo] at hx
        split at hx
        · rename_i h0
          obtain ⟨hlt, hxe⟩ := List.getElem?_eq_some_iff.mp hx
          rcases hsl with ⟨rfl, _⟩ | ⟨b, oo, c, hv, _, hel⟩
          · simp at hlt
          · have h1 := hel n.toNat hlt
            rw [hxe] at h1
            refine wp_same (v := .pointer (some ⟨b, oo + n.toNat * de.ty.n, none⟩)) (w' := w) (d := ⟨.elt de.ty x 0, []⟩) ?_ hw ok hgo (by simp only [VR]; exact ⟨b, _, by rw [Nat.add_zero], h1⟩) rfl hk
            have hu := (htt t d hd).slice e hkd
            have hin : 0 ≤ n ∧ n < (l.length : Int) := ⟨h0, by omega⟩
            simp only [execOp, hop, hv, hi.int, Instr.indexAt, asIntOf, Sem.run_bind, Sem.run_pure, Result.andThen_ok, run_underlying hu, if_pos hin, (htt e de hde).size_run, add_none, hsz]
        · cases hx
    | _ => rw [hc] at h; cases h

theorem nth_eq {α : Type} : ∀ (l : List α) (i : Nat), nth l i = l[i]?
  | [], _ => by simp [nth]
  | x :: _, 0 => rfl
  | _ :: r, n + 1 => by simp [nth, nth_eq r n]
theorem VRL.nth : ∀ {l : List CV} {vs : List Value} {i : Nat} {c : CV}, VRL M l vs → Eng.nth l i = some c → ∃ v, vs[i]? = some v ∧ VR M c v
  | [], _, _, _, _, h => by simp [Eng.nth] at h
  | c :: r, vs, 0, c', hl, h => by
    simp only [VRL] at hl
    obtain ⟨v, vr, rfl, h1, _⟩ := hl
    simp only [Eng.nth] at h; injection h with h; subst h
    exact ⟨v, rfl, h1⟩
  | c :: r, vs, i + 1, c', hl, h => by
    simp only [VRL] at hl
    obtain ⟨v, vr, rfl, _, h2⟩ := hl
    obtain ⟨u, h3, h4⟩ := VRL.nth h2 h
    exact ⟨u, by simpa using h3, h4⟩

/-- A field of a value. -/
theorem op_field (htt : TTok P tt) (ok : MOK B M) (hgo : M.go = lk obj) (hE : RelE M env a.tmps) (hw : w.heap = M.h) {t f : Nat} {y : Operand} (hop : o.op = .field t y f) {s : Stp}
    {Γ : Gam} (h : step tt Γ env (lk obj) o.dst (.field t y f) = some s) (x : s.α) (hk : Cont w B M obj s.cr (s.f x) a o.dst K) : o.wp P a w K Q := by
  have hy := operand_ok hE y
  simp only [step] at h
  cases hst : structOf tt t with
  | none => rw [hst] at h; cases h
  | some df =>
    obtain ⟨d, fs⟩ := df
    rw [hst] at h; simp only [] at h
    obtain ⟨hd, hkd⟩ := structOf_some hst
    obtain ⟨F, hF, hf, _⟩ := (htt t d hd).st fs hkd
    cases hn : nth fs f with
    | none => rw [hn] at h; cases h
    | some q =>
      obtain ⟨off, ft, n⟩ := q
      rw [hn] at h; simp only [] at h
      obtain ⟨fl, h1, h2, h3, h4, h5⟩ := hf f off ft n hn
      cases hft : lk tt ft with
      | none => rw [hft] at h; cases h
      | some dt =>
        rw [hft] at h; simp only [] at h
        cases hc : operand env y with
        | agg l =>
          rw [hc] at h hy; simp only [] at h
          simp only [VR] at hy
          obtain ⟨vs, he, hl⟩ := hy
          cases ht : takeL dt.size (dropL off l) with
          | none => rw [ht] at h; cases h
          | some cs =>
            rw [ht] at h; simp only [] at h
            cases ha : asVal dt.agg cs with
            | none => rw [ha] at h; cases h
            | some c =>
              rw [ha] at h; injection h with h; subst h
              obtain ⟨g1, g2⟩ := (hl.drop off).take _ ht
              rcases g1.asVal ha with ⟨hb, hr⟩ | ⟨hb, v, hv, hr⟩
              · refine wp_same (v := .agg ((vs.toList.drop off).take dt.size).toArray) (w' := w) (d := ⟨c, []⟩) ?_ hw ok hgo hr rfl hk
                have e1 : vs.extract off (off + dt.size) = ((vs.toList.drop off).take dt.size).toArray := by
                  apply Array.ext'; simp [Array.toList_extract, List.extract]
                simp [execOp, hop, he, Instr.field, run_underlying hF, h1, part, h3, (htt ft dt hft).agg, hb, asAgg, (htt ft dt hft).size_run, h2, e1]
              · refine wp_same (v := v) (w' := w) (d := ⟨c, []⟩) ?_ hw ok hgo hr rfl hk
                have e1 : vs[off]? = some v := by
                  have := list_getElem?_toList (vs := vs) (n := off) (m := dt.size) (j := 0) (v := v) (by rw [hv]; rfl)
                  simpa using this
                simp [execOp, hop, he, Instr.field, run_underlying hF, h1, part, h3, (htt ft dt hft).agg, hb, asAgg, h2, e1]
        | _ => rw [hc] at h; cases h

/-- A text's byte. -/
theorem op_index (htt : TTok P tt) (ok : MOK B M) (hgo : M.go = lk obj) (hE : RelE M env a.tmps) (hw : w.heap = M.h) {t : Nat} {y i : Operand} (hop : o.op = .index t y i) {s : Stp}
    {Γ : Gam} (h : step tt Γ env (lk obj) o.dst (.index t y i) = some s) (x : s.α) (hx : s.o = some x) (hk : Cont w B M obj s.cr (s.f x) a o.dst K) : o.wp P a w K Q := by
  have hy := operand_ok hE y
  have hi := operand_ok hE i
  simp only [step] at h
  cases hkd : kindOf tt t with
  | none => rw [hkd] at h; cases h
  | some k =>
    rw [hkd] at h
    cases k <;> simp only [] at h <;> first | (cases h; done) | skip
    obtain ⟨d, hd, hkd'⟩ := kindOf_some hkd
    have hu := (htt t d hd).str hkd'
    cases hc : operand env y <;> rw [hc] at h <;> (try simp only [] at h) <;> first | (cases h; done) | skip
    rename_i st
    cases hc' : operand env i <;> rw [hc'] at h <;> simp only [] at h <;> first | (cases h; done) | skip
    rename_i k n
    injection h with h; subst h
    rw [hc] at hy; rw [hc'] at hi
    simp only [bto] at hx
    split at hx
    · rename_i h0
      cases hb : st[n.toNat]? with
      | none => rw [hb] at hx; cases hx
      | some b =>
        rw [hb] at hx; simp only [Option.map_some] at hx; injection hx with hx
        refine wp_same (v := .int .u8 b.toNat) (w' := w) (d := ⟨.int .u8 x, []⟩) ?_ hw ok hgo (by rw [← hx]; simp [VR]) rfl hk
        simp [execOp, hop, hy.str, hi.int, Instr.index, asIntOf, run_underlying hu, h0, hb]
    · cases hx

/-- Operations that compute. -/
theorem op_move (ok : MOK B M) (hgo : M.go = lk obj) (hE : RelE M env a.tmps) (hw : w.heap = M.h) {y : Operand} (hop : o.op = .move y ∨ o.op = .assign y) (hk : Cont w B M obj [] ⟨operand env y, []⟩ a o.dst K) : o.wp P a w K Q := by
  refine wp_same (v := a.eval y) (w' := w) (d := ⟨operand env y, []⟩) ?_ hw ok hgo (operand_ok hE y) rfl hk
  rcases hop with hop | hop <;> simp [execOp, hop]

theorem pickV_ok {b : Bool} {x y c : CV} {vx vy : Value} (h : pickV b x y = some c) (hx : VR M x vx) (hy : VR M y vy) : VR M c (if b then vx else vy) := by
  unfold pickV at h
  split at h
  · injection h with h; subst h; rw [hx.bool, hy.bool]; cases b <;> simp [VR]
  · split at h
    · rename_i he; subst he; injection h with h; subst h; rw [hx.int, hy.int]; cases b <;> simp [VR]
    · cases h
  · injection h with h; subst h; rw [hx.str, hy.str]; cases b <;> simp [VR]
  · cases h

theorem op_pick (ok : MOK B M) (hgo : M.go = lk obj) (hE : RelE M env a.tmps) (hw : w.heap = M.h) {c y z : Operand} (hop : o.op = .pick c y z) {s : Stp}
    {Γ : Gam} (h : step tt Γ env (lk obj) o.dst (.pick c y z) = some s) (x : s.α) (hk : Cont w B M obj s.cr (s.f x) a o.dst K) : o.wp P a w K Q := by
  have hc := operand_ok hE c
  have hy := operand_ok hE y
  have hz := operand_ok hE z
  simp only [step] at h
  cases hcc : operand env c <;> rw [hcc] at h <;> simp only [] at h <;> first | (cases h; done) | skip
  rename_i b
  rw [hcc] at hc
  have run : ∀ v, v = (if b then a.eval y else a.eval z) → (execOp a.eval o).run P w = .ok (.value v) w := by
    intro v hv; subst hv; cases b <;> simp [execOp, hop, hc.bool, asBool]
  cases hp : pickV b (operand env y) (operand env z) with
  | some v =>
    rw [hp] at h; injection h with h; subst h
    exact wp_same (d := ⟨v, []⟩) (run _ rfl) hw ok hgo (pickV_ok hp hy hz) rfl hk
  | none =>
    rw [hp] at h; simp only [] at h
    cases b with
    | true => injection h with h; subst h; exact wp_same (d := ⟨_, []⟩) (run _ rfl) hw ok hgo hy rfl hk
    | false => injection h with h; subst h; exact wp_same (d := ⟨_, []⟩) (run _ rfl) hw ok hgo hz rfl hk

theorem op_nilCheck (ok : MOK B M) (hgo : M.go = lk obj) (hE : RelE M env a.tmps) (hw : w.heap = M.h) {y : Operand} (hop : o.op = .nilCheck y) {s : Stp}
    {Γ : Gam} (h : step tt Γ env (lk obj) o.dst (.nilCheck y) = some s) (x : s.α) (hk : Cont w B M obj s.cr (s.f x) a o.dst K) : o.wp P a w K Q := by
  have hy := operand_ok hE y
  simp only [step] at h
  cases hc : operand env y <;> rw [hc] at h <;> simp only [] at h <;> first | (cases h; done) | skip
  · rw [hc] at hy
    have hy' := hy
    simp only [VR] at hy
    obtain ⟨b, oo, he, _⟩ := hy
    injection h with h; subst h
    exact wp_same (v := a.eval y) (w' := w) (d := ⟨_, []⟩) (by simp [execOp, hop, he]) hw ok hgo hy' rfl hk
  · rw [hc] at hy
    have hy' := hy
    simp only [VR] at hy
    injection h with h; subst h
    exact wp_same (v := a.eval y) (w' := w) (d := ⟨_, []⟩) (by simp [execOp, hop, hy.2]) hw ok hgo hy' rfl hk

theorem op_extract (ok : MOK B M) (hgo : M.go = lk obj) (hE : RelE M env a.tmps) (hw : w.heap = M.h) {y : Operand} {i : Nat} (hop : o.op = .extract y i) {s : Stp}
    {Γ : Gam} (h : step tt Γ env (lk obj) o.dst (.extract y i) = some s) (x : s.α) (hk : Cont w B M obj s.cr (s.f x) a o.dst K) : o.wp P a w K Q := by
  have hy := operand_ok hE y
  simp only [step] at h
  cases hc : operand env y <;> rw [hc] at h <;> simp only [] at h <;> first | (cases h; done) | skip
  rename_i l
  cases hn : nth l i with
  | none => rw [hn] at h; cases h
  | some v =>
    rw [hn] at h; injection h with h; subst h
    rw [hc] at hy
    simp only [VR] at hy
    obtain ⟨vs, he, hl⟩ := hy
    obtain ⟨u, h1, h2⟩ := hl.nth hn
    exact wp_same (v := u) (w' := w) (d := ⟨v, []⟩) (by simp at h1; simp [execOp, hop, he, Instr.extract, h1]) hw ok hgo h2 rfl hk

theorem op_unOp (ok : MOK B M) (hgo : M.go = lk obj) (hE : RelE M env a.tmps) (hw : w.heap = M.h) {u : UnOp} {t : Nat} {y : Operand} (hop : o.op = .unOp u t y) {s : Stp}
    {Γ : Gam} (h : step tt Γ env (lk obj) o.dst (.unOp u t y) = some s) (x : s.α) (hk : Cont w B M obj s.cr (s.f x) a o.dst K) : o.wp P a w K Q := by
  have hy := operand_ok hE y
  simp only [step] at h
  cases hc : operand env y <;> cases u <;> rw [hc] at h <;> simp only [] at h <;> first | (cases h; done) | skip
  all_goals
    rw [hc] at hy
    injection h with h; subst h
  · exact wp_same (v := _) (w' := w) (d := ⟨_, []⟩) (by simp only [execOp, hop, hy.int, Op.unary, Op.intArith]; rfl) hw ok hgo (by simp [VR]) rfl hk
  · exact wp_same (v := _) (w' := w) (d := ⟨_, []⟩) (by simp only [execOp, hop, hy.bool, Op.unary]; rfl) hw ok hgo (by simp [VR]) rfl hk

theorem op_binOp (htt : TTok P tt) (ok : MOK B M) (hgo : M.go = lk obj) (hE : RelE M env a.tmps) (hw : w.heap = M.h) {op : BinOp} {t t' : Nat} {y z : Operand} (hop : o.op = .binOp op t y z t') {s : Stp}
    {Γ : Gam} (h : step tt Γ env (lk obj) o.dst (.binOp op t y z t') = some s) (x : s.α) (hx : s.o = some x) (hk : Cont w B M obj s.cr (s.f x) a o.dst K) : o.wp P a w K Q := by
  have hr := run_bin htt (tt := tt) (by simpa only [step] using h) x hx (operand_ok hE y) (operand_ok hE z) ok y z w
  refine wp_same (v := _) (w' := w) (d := s.f x) ?_ hw ok hgo (VR.of_sc hr.sc M) hr.up hk
  have := hr.run
  simp only [Sem.run_bind] at this
  simp only [execOp, hop, Sem.run_bind]
  rw [this]; rfl

end
end Go.Proofs.Ythedgoefiffogaa.Eng
