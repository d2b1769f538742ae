/- The engine, part 6: structs and lists built, texts turned, lists cut, lengths, lists that grow. -/
import Derived.Test.YtcjiipbppkdkaaaEStep2
import Derived.Great.BuildSlice
import Derived.Laws.MakeOwn
import Derived.MapKept
namespace Go.Proofs.Ytcjiipbppkdkaaa.Eng
open Go
set_option linter.unusedVariables false
set_option linter.unusedSimpArgs false
section
variable {P : Program} {B : Base} {M : Mem} {obj : List (Nat × Ob)} {a : Act} {w : World} {o : Oper} {K : Act → World → Prop} {Q : Exit → Act → World → Prop} {tt : TT} {env : List (Nat × CV)} {cr : List Nat}
theorem set_list (off : Nat) (xs : List Value) (cs : Array Value) (h : off + xs.length ≤ cs.size) :
  ((xs.zipIdx 0).foldl (fun cs (x : Value × Nat) => cs.setIfInBounds (off + x.2) x.1) cs).toList = cs.toList.take off ++ xs ++ cs.toList.drop (off + xs.length) := by
 obtain ⟨h1, h2⟩ := Great.foldl_set off xs 0 cs
 apply List.ext_getElem?
 intro k
 rw [Array.getElem?_toList, h2 k]
 simp only [Nat.add_zero]
 have l1 : (cs.toList.take off).length = off := by simp; omega
 by_cases ha : off ≤ k ∧ k < off + xs.length ∧ k < cs.size
 ·rw [if_pos ha, List.getElem?_append_left (by simp; omega), List.getElem?_append_right (by omega), l1]
 ·rw [if_neg ha]
  by_cases hk : k < off
  ·rw [List.getElem?_append_left (by simp; omega), List.getElem?_append_left (by omega), List.getElem?_take_of_lt hk]; simp
  ·by_cases hk2 : k < cs.size
   ·rw [List.getElem?_append_right (by simp; omega), List.getElem?_drop]
    simp only [List.length_append, l1]
    have : off + xs.length + (k - (off + xs.length)) = k := by omega
    rw [this]; simp
   ·rw [List.getElem?_append_right (by simp; omega), List.getElem?_drop]
    rw [List.getElem?_eq_none (by simp [l1]; omega), Array.getElem?_eq_none (by omega)]
theorem fill_cons {place : Nat → Option (Nat × Nat)} {cells : Array Value} {i off n : Nat} {v : Value} {rest : List (Nat × Value)} (hp : place i = some (off, n)) (hn : v.cells.size = n) (hf : off + n ≤ cells.size) :
  ∃ cells' : Array Value, Instr.fill place cells ((i, v) :: rest) = Instr.fill place cells' rest ∧ cells'.toList = cells.toList.take off ++ v.cells.toList ++ cells.toList.drop (off + v.cells.toList.length) := by
 refine ⟨_, ?_, set_list off v.cells.toList cells (by simp; omega)⟩
 have e : (v.cells.zipIdx.foldl (fun cs (c, j) => cs.setIfInBounds (off + j) c) cells) = (v.cells.toList.zipIdx 0).foldl (fun cs (x : Value × Nat) => cs.setIfInBounds (off + x.2) x.1) cells := by
  rw [← Array.foldl_toList, Array.toList_zipIdx]
 conv => lhs; unfold Instr.fill
 rw [hp]
 simp only []
 rw [if_neg (by simp; omega), e]
theorem buildC_ok {fs : List (Nat × Nat × Nat)} {pl : Nat → Option (Nat × Nat)} (hfs : ∀ i off ft n, nth fs i = some (off, ft, n) → pl i = some (off, n)) (hE : RelE M env a.tmps) : ∀ (ps : List (Nat × Operand)) (cs cs' : List CV) (vs : Array Value), buildC M.go fs env ps cs = some cs' → VRL M cs vs.toList →
  ∃ vs' : Array Value, Instr.fill pl vs (ps.map fun x => (x.1, a.eval x.2)) = some vs' ∧ VRL M cs' vs'.toList
 | [], cs, cs', vs, h, hl => by simp only [buildC] at h; injection h with h; subst h; exact ⟨vs, rfl, hl⟩
 | (i, y) :: r, cs, cs', vs, h, hl => by
  have hy := operand_ok hE y
  simp only [buildC] at h
  cases hn : nth fs i with
  | none => rw [hn] at h; cases h
  | some q =>
   obtain ⟨off, ft, n⟩ := q
   rw [hn] at h; simp only [] at h
   cases h1 : Nat.beq (lenN (operand env y).cells) n with
   | false => rw [h1] at h; cases h
   | true =>
    rw [h1] at h; simp only [] at h
    cases h2 : allOne M.go (operand env y).cells with
    | false => rw [h2] at h; cases h
    | true =>
     rw [h2] at h; simp only [] at h
     cases h3 : putL off (operand env y).cells cs with
     | none => rw [h3] at h; cases h
     | some cs1 =>
      rw [h3] at h; simp only [] at h
      have hyc := hy.cells h2
      have hsz : (a.eval y).cells.size = n := by
       have := beq_of h1; rw [lenN_eq] at this
       rw [← this, hyc.length]; simp
      obtain ⟨hp, hple⟩ := VRL.put off h3 hyc hl
      have hpl : pl i = some (off, n) := hfs i off ft n hn
      obtain ⟨vs1, e1, e2⟩ := fill_cons (rest := r.map fun x => (x.1, a.eval x.2)) hpl hsz (by simpa [hsz] using hple)
      obtain ⟨vs', g1, g2⟩ := buildC_ok hfs hE r cs1 cs' vs1 h (by rw [e2]; exact hp)
      exact ⟨vs', by simp only [List.map_cons]; rw [e1]; exact g1, g2⟩
theorem arrFs_nth {e size : Nat} : ∀ {n off0 i off ft n' : Nat}, nth (arrFs e size n off0) i = some (off, ft, n') → off = off0 + i * size ∧ n' = size
 | 0, _, _, _, _, _, h => by simp [arrFs, nth] at h
 | n + 1, off0, 0, off, ft, n', h => by
  simp only [arrFs, nth] at h; injection h with h
  simp only [Prod.mk.injEq] at h
  exact ⟨by rw [Nat.zero_mul, Nat.add_zero]; exact h.1.symm, h.2.2.symm⟩
 | n + 1, off0, i + 1, off, ft, n', h => by
  simp only [arrFs, nth] at h
  obtain ⟨h1, h2⟩ := arrFs_nth h
  exact ⟨by rw [h1, Nat.add_mul, Nat.one_mul]; omega, h2⟩
theorem op_build (htt : TTok P tt) (ok : MOK B M) (hgo : M.go = lk obj) (hE : RelE M env a.tmps) (hw : w.heap = M.h) {t : Nat} {parts : Array (Nat × Operand)} (hop : o.op = .build t parts) {s : Stp}
  {Γ : Gam} (h : step tt Γ env (lk obj) o.dst (.build t parts) = some s) (x : s.α) (hk : Cont w B M obj s.cr (s.f x) a o.dst K) : o.wp P a w K Q := by
 simp only [step, placesOf] at h
 cases hst : structOf tt t with
 | none =>
  rw [hst] at h; simp only [] at h
  cases har : arrOf tt t with
  | none => rw [har] at h; cases h
  | some q =>
   obtain ⟨d, n, e, de⟩ := q
   rw [har] at h; simp only [] at h
   obtain ⟨hd, hkd, hde, _⟩ := arrOf_some har
   obtain ⟨ti, z, hi, hs, hb, hz, hzs, hzv⟩ := (htt t d hd).info
   obtain ⟨te, ze, hie, hse, _⟩ := (htt e de hde).info
   have hF := (htt t d hd).arr n e hkd
   rw [← hgo] at h
   cases hbc : buildC M.go (arrFs e de.size n 0) env parts.toList d.zero with
   | none => rw [hbc] at h; cases h
   | some cs =>
    rw [hbc] at h; injection h with h; subst h
    obtain ⟨vs', g1, g2⟩ := buildC_ok (pl := fun i => some (i * te.size, te.size)) (fun i off ft n' hh => by
     obtain ⟨rfl, rfl⟩ := arrFs_nth hh
     rw [hse, Nat.zero_add]) hE parts.toList d.zero cs z.cells hbc (hzv M)
    have hbt : P.built t (parts.map fun (i, x) => (i, a.eval x)).toList = some vs' := by
     unfold Program.built
     simp only [hi, hF, hz, hie]
     rw [← g1]; simp
    refine wp_same (v := .agg vs') (w' := w) (d := ⟨.agg cs, []⟩) ?_ hw ok hgo (by simp only [VR]; exact ⟨vs', rfl, g2⟩) rfl hk
    simp only [execOp, hop, Sem.run_bind, run_build w t _ vs' hbt, Result.andThen_ok]; rfl
 | some df =>
  obtain ⟨d, fs⟩ := df
  rw [hst] at h; simp only [] at h
  obtain ⟨hd, hkd⟩ := structOf_some hst
  obtain ⟨F, hF, _, hpl⟩ := (htt t d hd).st fs hkd
  obtain ⟨ti, z, hi, hs, hb, hz, hzs, hzv⟩ := (htt t d hd).info
  rw [← hgo] at h
  cases hbc : buildC M.go fs env parts.toList d.zero with
  | none => rw [hbc] at h; cases h
  | some cs =>
   rw [hbc] at h; injection h with h; subst h
   obtain ⟨vs', g1, g2⟩ := buildC_ok (pl := (((fs.map fun x => (x.1, x.2.2)).toArray)[·]?)) (fun i off ft n hn => by rw [nth_eq] at hn; simp [hn]) hE parts.toList d.zero cs z.cells hbc (hzv M)
   have hbt : P.built t (parts.map fun (i, x) => (i, a.eval x)).toList = some vs' := by
    unfold Program.built
    simp only [hi, hF, hz, hpl]
    rw [← g1]; simp
   refine wp_same (v := .agg vs') (w' := w) (d := ⟨.agg cs, []⟩) ?_ hw ok hgo (by simp only [VR]; exact ⟨vs', rfl, g2⟩) rfl hk
   simp only [execOp, hop, Sem.run_bind, run_build w t _ vs' hbt, Result.andThen_ok]; rfl
theorem seqParts_ok {size : Nat} (hE : RelE M env a.tmps) : ∀ (ps : List (Nat × Operand)) (i : Nat) (cs : List CV), seqParts M.go size env i ps = some cs →
  VRL M cs (ps.flatMap fun x => (a.eval x.2).cells.toList) ∧ (∀ x ∈ ps, (a.eval x.2).cells.size = size) ∧ ps.map (fun x => (x.1, a.eval x.2)) = ((ps.map fun x => a.eval x.2).zipIdx i).map fun x => (x.2, x.1)
 | [], i, cs, h => by simp only [seqParts] at h; injection h with h; subst h; exact ⟨by simp [VRL], by simp, rfl⟩
 | (j, y) :: r, i, cs, h => by
  have hy := operand_ok hE y
  simp only [seqParts] at h
  cases h0 : Nat.beq j i with
  | false => rw [h0] at h; cases h
  | true =>
   rw [h0] at h; simp only [] at h
   have := beq_of h0; subst this
   cases h1 : Nat.beq (lenN (operand env y).cells) size with
   | false => rw [h1] at h; cases h
   | true =>
    rw [h1] at h; simp only [] at h
    cases h2 : allOne M.go (operand env y).cells with
    | false => rw [h2] at h; cases h
    | true =>
     rw [h2] at h; simp only [] at h
     cases h3 : seqParts M.go size env (j + 1) r with
     | none => rw [h3] at h; cases h
     | some l =>
      rw [h3] at h; injection h with h; subst h
      have hyc := hy.cells h2
      have hsz : (a.eval y).cells.size = size := by
       have := beq_of h1; rw [lenN_eq] at this
       rw [← this, hyc.length]; simp
      obtain ⟨g1, g2, g3⟩ := seqParts_ok hE r (j + 1) l h3
      refine ⟨by rw [List.flatMap_cons]; exact hyc.append g1, fun x hx => ?_, by simp only [List.map_cons, List.zipIdx_cons]; rw [g3]⟩
      cases hx with
      | head => exact hsz
      | tail _ hx => exact g2 x hx
theorem denL_ok (ok : MOK B M) {T : Ty} : ∀ (m : Nat) (cs : List CV) (l : List T.den) (vs : List Value), denL M.go T m cs = some l → VRL M cs vs →
  l.length = m ∧ vs.length = m * T.n ∧
   ∀ (S' : Seal) (h' : Array Obj) (b o : Nat), (∀ b x, M.S b x → S' b x) → (∀ b x, M.S b x → cellAt h' b x = cellAt M.h b x) → (∀ j, j < m * T.n → S' b (o + j)) →
    (∀ j v, vs[j]? = some v → cellAt h' b (o + j) = some v) → ∀ (i : Nat) (hi : i < l.length), ElR S' h' T l[i] b (o + i * T.n)
 | 0, [], l, vs, h, hl => by
  simp only [denL] at h; injection h with h; subst h
  simp only [VRL] at hl; subst hl
  exact ⟨rfl, by simp, fun _ _ _ _ _ _ _ _ i hi => by simp at hi⟩
 | 0, c :: cs, l, vs, h, hl => by simp [denL] at h
 | m + 1, cs, l, vs, h, hl => by
  simp only [denL] at h
  cases h1 : ofC M.go T cs with
  | none => rw [h1] at h; cases h
  | some q =>
   obtain ⟨y, r⟩ := q
   rw [h1] at h; simp only [] at h
   cases h2 : denL M.go T m r with
   | none => rw [h2] at h; cases h
   | some l' =>
    rw [h2] at h; injection h with h; subst h
    obtain ⟨v1, v2, e, n1, k1, m1⟩ := ofC_ok ok T cs r y vs h1 hl
    obtain ⟨g1, g2, g3⟩ := denL_ok ok m r l' v2 h2 k1
    subst e
    refine ⟨by simp [g1], by simp [n1, g2, Nat.add_mul]; omega, fun S' h' b o hS hc hb hv i hi => ?_⟩
    have em : (m + 1) * T.n = T.n + m * T.n := by rw [Nat.add_mul]; omega
    cases i with
    | zero =>
     simp only [List.getElem_cons_zero, Nat.zero_mul, Nat.add_zero]
     refine m1 S' h' b o hS hc (fun j hj => hb j (by omega)) (fun j v hj => hv j v ?_)
     have : j < v1.length := (List.getElem?_eq_some_iff.mp hj).1
     rw [List.getElem?_append_left this]; exact hj
    | succ i =>
     simp only [List.getElem_cons_succ]
     have := g3 S' h' b (o + T.n) hS hc (fun j hj => by have := hb (T.n + j) (by omega); rwa [← Nat.add_assoc] at this) (fun j v hj => by
      have := hv (T.n + j) v (by rw [List.getElem?_append_right (by omega), n1]; simpa using hj)
      rwa [← Nat.add_assoc] at this) i (by simpa using hi)
     have e2 : o + (i + 1) * T.n = o + T.n + i * T.n := by rw [Nat.add_mul]; omega
     rw [e2]; exact this
theorem cellAt_push_new {h : Array Obj} {cs : Array Value} {t : Nat} {f : Nat × Nat} (j : Nat) : cellAt (h.push (.cells cs t f)) h.size j = cs[j]? := by
 unfold cellAt; simp
theorem op_buildSlice (htt : TTok P tt) (ok : MOK B M) (hgo : M.go = lk obj) (hE : RelE M env a.tmps) (hw : w.heap = M.h) {t len : Nat} {parts : Array (Nat × Operand)} (hop : o.op = .buildSlice t len parts) {s : Stp}
  {Γ : Gam} (h : step tt Γ env (lk obj) o.dst (.buildSlice t len parts) = some s) (x : s.α) (hcr : ∀ d ∈ s.cr, ¬ M.U d) (hk : Cont w B M obj s.cr (s.f x) a o.dst K) : o.wp P a w K Q := by
 simp only [step] at h
 cases h0 : (Nat.beq len 0 && Nat.beq (lenN parts.toList) 0) with
 | true =>
  rw [h0] at h; simp only [] at h
  simp only [Bool.and_eq_true] at h0
  have hl0 := beq_of h0.1
  have hp0 := beq_of h0.2
  rw [lenN_eq] at hp0
  have hp : parts = #[] := by have := List.eq_nil_of_length_eq_zero hp0; simpa using this
  subst hl0; subst hp
  cases hst : sliceOf tt t with
  | none => rw [hst] at h; cases h
  | some q =>
   obtain ⟨e, de⟩ := q
   rw [hst] at h; try simp only [] at h
   obtain ⟨d, hd, hkd, hde, hsz, hby, hmu⟩ := sliceOf_some hst
   cases hdst : o.dst with
   | none => rw [hdst] at h; cases h
   | some i =>
    rw [hdst] at h; injection h with h; subst h
    obtain ⟨ie, z, hi, his, hib, hz, hzs, _⟩ := (htt e de hde).info
    have hm := ok.addRow (d := i) (t := e) (v := 0) (T := de.ty) (l := []) (cs := #[]) (f := (0, 0)) (cap := 0) (go' := lk ((i, .row 0 e de.ty []) :: obj))
     (hcr i (by simp)) hmu (fun q => by rw [lk_cons, hgo]) (Nat.le_refl _) (by simp) (fun j _ => by omega) (fun S' hS hS2 j hj => by simp at hj)
    refine wp_value (v := .slice (some ⟨w.heap.size, 0, none⟩) 0 0) (w' := w.alloc (.cells #[] e)) ?_ (hk _ _ _ ⟨rfl, rfl, rfl⟩ (by simp [Mem.add, World.alloc, hw]) hm.1 hm.2 ?_ rfl (fun q hq => hq.imp (fun h => by simp [h]) id))
    ·have hu := (htt t d hd).slice e hkd
     have hs : (sizeOf e).run P w = .ok ie.size w := by simp [sizeOf, typeInfo, hi]
     simp [execOp, hop, Instr.buildSlice, run_underlying hu, hs, Instr.fill, newRow, show Array.range 0 = #[] from by simp]
    ·simp only [VR]
     refine ⟨.inl rfl, fun v0 t0 T0 l0 hg => ?_⟩
     simp only [Mem.add, lk_cons, if_pos] at hg
     injection hg with hg; injection hg with h1 h2 h3 h4
     subst h1; subst h3
     have h4 := eq_of_heq h4
     subst h4
     exact ⟨Nat.le_refl _, fun _ => by simp [Mem.add, Hd.slice, hw]⟩
 | false =>
 rw [h0] at h; simp only [] at h
 cases hst : sliceOf tt t with
 | none => rw [hst] at h; cases h
 | some q =>
  obtain ⟨e, de⟩ := q
  rw [hst] at h; try simp only [] at h
  obtain ⟨d, hd, hkd, hde, hsz, hby, hmu⟩ := sliceOf_some hst
  cases hdst : o.dst with
  | none => rw [hdst] at h; cases h
  | some i =>
   rw [hdst] at h; try simp only [] at h
   rw [← hgo] at h
   cases hsp : seqParts M.go de.size env 0 parts.toList with
   | none => rw [hsp] at h; cases h
   | some cs =>
    rw [hsp] at h; simp only [] at h
    cases hdl : denL M.go de.ty len cs with
    | none => rw [hdl] at h; cases h
    | some l =>
     rw [hdl] at h; simp only [] at h
     cases hb : (Nat.beq (lenN parts.toList) len && Nat.ble (len * de.size) 16777216 && Nat.ble 1 (len * de.size)) with
     | false => rw [hb] at h; cases h
     | true =>
      rw [hb] at h; injection h with h; subst h
      simp only [Bool.and_eq_true] at hb
      have hb1 := beq_of hb.1.1
      have hb2 := Nat.le_of_ble_eq_true hb.1.2
      have hb3 := Nat.le_of_ble_eq_true hb.2
      rw [lenN_eq] at hb1
      have hds : 0 < de.size := by rcases Nat.eq_zero_or_pos de.size with h0 | h0; rw [h0] at hb3; simp at hb3; exact h0
      obtain ⟨g1, g2, g3⟩ := seqParts_ok hE parts.toList 0 cs hsp
      obtain ⟨k1, k2, k3⟩ := denL_ok ok len cs l _ hdl g1
      obtain ⟨ie, z, hi, his, hib, hz, hzs, _⟩ := (htt e de hde).info
      have hfill := Great.fill_whole hds (parts.toList.map fun x => a.eval x.2) ((Array.range (len * ie.size)).map (z.cells[· % z.cells.size]!)) (fun v hv => by
       obtain ⟨y, hy, rfl⟩ := List.mem_map.mp hv; exact g2 y hy) (by simp [hb1, his])
      rw [← g3] at hfill
      have hrun := run_buildSlice (P := P) w t e len (parts.map fun (i, x) => (i, a.eval x)) _ ie z ((htt t d hd).slice e hkd) hi hz (by rw [his]; omega) (by rw [his]; omega)
       (by rw [his]; rw [his] at hfill; rw [← hfill]; congr 1; simp)
      have hfm : (List.flatMap (fun v : Value => v.cells.toList) (List.map (fun x : Nat × Operand => a.eval x.2) parts.toList)) = parts.toList.flatMap fun x => (a.eval x.2).cells.toList := by rw [List.flatMap_map]
      rw [hfm] at hrun
      have hm := ok.addRow (d := i) (t := e) (v := 0) (T := de.ty) (l := l) (cs := (parts.toList.flatMap fun x => (a.eval x.2).cells.toList).toArray) (f := (0, 0)) (cap := len) (go' := lk ((i, .row 0 e de.ty l) :: obj))
       (hcr i (by simp)) hmu (fun q => by rw [lk_cons, hgo]) (by omega) (by rw [List.size_toArray, k2]; exact Nat.le_refl _) (fun j _ => by omega)
       (fun S' hS hS2 j hj => by
        have := k3 S' (M.h.push (.cells (parts.toList.flatMap fun x => (a.eval x.2).cells.toList).toArray e (0, 0))) M.h.size 0 hS (fun b y hy => cellAt_push (ok.lt b y hy)) (fun j hj => by rw [Nat.zero_add]; exact hS2 j (by rw [k1]; exact hj))
         (fun j v hj => by rw [Nat.zero_add, cellAt_push_new]; simpa using hj) j hj
        simpa using this)
      refine wp_value (v := .slice (some ⟨w.heap.size, 0, none⟩) len len) (w' := w.alloc (.cells (parts.toList.flatMap fun x => (a.eval x.2).cells.toList).toArray e)) ?_ (hk _ _ _ ⟨rfl, rfl, rfl⟩ (by simp [Mem.add, World.alloc, hw]) hm.1 hm.2 ?_ rfl (fun q hq => hq.imp (fun h => by simp [h]) id))
      ·simp only [execOp, hop, Sem.run_bind, hrun, Result.andThen_ok]; rfl
      ·simp only [VR]
       refine ⟨.inl rfl, fun v0 t0 T0 l0 hg => ?_⟩
       simp only [Mem.add, lk_cons, if_pos] at hg
       injection hg with hg; injection hg with h1 h2 h3 h4
       subst h1; subst h3
       have h4 := eq_of_heq h4
       subst h4
       exact ⟨Nat.le_refl _, fun _ => by simp [Mem.add, Hd.slice, hw, k1]⟩
theorem op_makeSlice (htt : TTok P tt) (ok : MOK B M) (hgo : M.go = lk obj) (hE : RelE M env a.tmps) (hw : w.heap = M.h) {t : Nat} {y z : Operand} (hop : o.op = .makeSlice t y z) {s : Stp}
  {Γ : Gam} (h : step tt Γ env (lk obj) o.dst (.makeSlice t y z) = some s) (x : s.α) (hx : s.o = some x) (hcr : ∀ d ∈ s.cr, ¬ M.U d) (hk : Cont w B M obj s.cr (s.f x) a o.dst K) : o.wp P a w K Q := by
 have hy := operand_ok hE y
 have hz := operand_ok hE z
 simp only [step] at h
 cases hst : sliceOf tt t with
 | none => rw [hst] at h; cases h
 | some q =>
  obtain ⟨e, de⟩ := q
  rw [hst] at h; try simp only [] at h
  obtain ⟨d, hd, hkd, hde, hsz, hby, hmu⟩ := sliceOf_some hst
  cases hdst : o.dst with
  | none => rw [hdst] at h; cases h
  | some i =>
   rw [hdst] at h; try simp only [] at h
   split at h <;> first | (cases h; done) | skip
   rename_i k kz zz hty hzero
   split at h <;> first | (cases h; done) | skip
   rename_i k1 n k2 m hcy hcz
   rw [hcy] at hy; rw [hcz] at hz
   split at h <;> first | (cases h; done) | skip
   rename_i hkz
   subst hkz
   split at h <;> first | (cases h; done) | skip
   rename_i hs1
   have hs1 := beq_of hs1
   injection h with h; subst h
   have hck := ck_some hx
   simp only [Bool.and_eq_true, decide_eq_true_eq] at hck
   obtain ⟨⟨⟨h0, h1⟩, h2⟩, h3⟩ := hck
   subst h1
   obtain ⟨ie, ze, hi, his, hib, hze, hzs, hzv⟩ := (htt e de hde).info
   have hzc : ze.cells = #[.int kz zz] := by
    have := hzv M
    rw [hzero] at this
    simp only [VRL] at this
    obtain ⟨v, vr, h4, h5, h6⟩ := this
    subst h6
    rw [h5.int] at h4
    apply Array.ext'; simpa using h4
   have hrun := run_make (P := P) w t e ie ze ((htt t d hd).slice e hkd) hi hze k1 k2 n n h0 (Int.le_refl _) (by rw [hib, Int.mul_comm]; exact h2) h3
   rw [his, hs1, Nat.mul_one, hzc] at hrun
   have hcells : ∀ j, j < n.toNat → (madeCells #[Value.int kz zz] n.toNat)[j]? = some (.int kz zz) := fun j hj => by
    unfold madeCells
    rw [Array.getElem?_map, Array.getElem?_range, if_pos hj]
    show some ((#[Value.int kz zz])[j % 1]!) = _
    rw [Nat.mod_one]; rfl
   have hlen : (List.replicate n.toNat zz : List (Ty.int kz).den).length = n.toNat := List.length_replicate
   have hrep : ∀ (j : Nat) (hj : j < (List.replicate n.toNat zz : List (Ty.int kz).den).length), (List.replicate n.toNat zz : List (Ty.int kz).den)[j] = zz := fun j hj => List.getElem_replicate hj
   have hm := ok.addMu (d := i) (t := e) (v := 0) (T := .int kz) (l := List.replicate n.toNat zz) (cs := madeCells #[Value.int kz zz] n.toNat) (f := (0, 0)) (cap := n.toNat) (go' := lk ((i, .row 0 e (.mu (.int kz)) (List.replicate n.toNat zz)) :: obj))
    (hcr i (by simp)) rfl (fun q => by rw [lk_cons, hgo]; rfl) (Nat.le_of_eq hlen) (by rw [size_madeCells]; exact Nat.le_of_eq (Nat.mul_one _)) (fun j _ => by omega)
    (fun j hj => by
     have hj' : j < n.toNat := by rw [hlen] at hj; exact hj
     rw [hrep j hj]
     have e1 : j * (Ty.int kz).n = j := Nat.mul_one j
     rw [e1]
     refine ⟨trivial, ?_⟩
     rw [cellAt_push_new, hcells j hj'])
   refine wp_value (v := .slice (some ⟨w.heap.size, 0, none⟩) n.toNat n.toNat) (w' := w.alloc (.cells (madeCells #[Value.int kz zz] n.toNat) e)) ?_ (hk _ _ _ ⟨rfl, rfl, rfl⟩ (by simp [Mem.add, World.alloc, hw]) hm.1 hm.2 ?_ rfl (fun q hq => hq.imp (fun h => by simp [h]) id))
   ·simp only [execOp, hop, hy.int, hz.int, Sem.run_bind, hrun, Result.andThen_ok]; rfl
   ·simp only [VR]
    refine ⟨.inl rfl, fun v0 t0 T0 l0 hg => ?_⟩
    simp only [Mem.add, lk_cons, if_pos] at hg
    injection hg with hg; injection hg with h1 h2 h3 h4
    subst h1; subst h3
    have h4 := eq_of_heq h4
    subst h4
    have hlen2 : List.length (α := (Ty.mu (.int kz)).den) (List.replicate n.toNat zz) = n.toNat := hlen
    exact ⟨Nat.le_refl _, fun _ => by rw [hlen2]; simp [Mem.add, Hd.slice, hw]⟩
theorem EntR.length : ∀ {l : List MapEntry} {d : List (ByteArray × ByteArray)}, EntR l d → l.length = d.length
 | [], d, h => by simp only [EntR] at h; rw [h]; rfl
 | e :: r, d, h => by
  simp only [EntR] at h
  obtain ⟨s, v, q, rfl, _, _, h⟩ := h
  simp only [List.length_cons, h.length]
theorem op_len (htt : TTok P tt) (ok : MOK B M) (hgo : M.go = lk obj) (hE : RelE M env a.tmps) (hw : w.heap = M.h) {t : Nat} {y : Operand} {n : Int} {c : Call} (hop : o.op = .call c)
  (hc : c.callee = .builtin .len) (ha : c.args.toList = [y]) (ht : c.argTypes.toList = [t]) (hl : lenV (lk obj) (kindOf tt t) (operand env y) = some n) {d : Dl} (hd : d = ⟨.int .i64 n, []⟩)
  (hk : Cont w B M obj cr d a o.dst K) : o.wp P a w K Q := by
 have hy := operand_ok hE y
 subst hd
 have hargs : c.args = #[y] := by rw [← Array.toArray_toList (xs := c.args), ha]
 have htys : c.argTypes = #[t] := by rw [← Array.toArray_toList (xs := c.argTypes), ht]
 have run : ∀ v, (Builtin.len_ #[t] o.type #[a.eval y]).run P w = .ok v w → (execOp a.eval o).run P w = .ok (.value v) w := by
  intro v hv
  simp [execOp, hop, resolve, hc, hargs, htys, invoke, builtin, hv]
 have slice : ∀ (e : Nat) (m : Nat), kindOf tt t = some (.slice e) → (∃ b c, a.eval y = .slice b m c) → n = (m : Int) → o.wp P a w K Q := by
  intro e m hkd hv hn
  obtain ⟨dd, hdd, hkd'⟩ := kindOf_some hkd
  obtain ⟨b, c, hv⟩ := hv
  exact wp_same (v := .int .i64 n) (w' := w) (d := ⟨.int .i64 n, []⟩) (run _ (by rw [hv, hn]; simp [Builtin.len_, run_underlying ((htt t dd hdd).slice e hkd'), goInt])) hw ok hgo (by simp [VR]) rfl hk
 cases hcv : operand env y <;> rw [hcv] at hl <;> simp only [lenV] at hl <;> first | (cases hl; done) | skip
 case map o1 =>
  cases hkd : kindOf tt t with
  | none => rw [hkd] at hl; cases hl
  | some k =>
   rw [hkd] at hl
   cases k <;> simp only [] at hl <;> first | (cases hl; done) | skip
   rename_i kk ee
   obtain ⟨dd, hdd, hkd'⟩ := kindOf_some hkd
   rw [hcv] at hy
   simp only [VR] at hy
   cases hg : lk obj o1 with
   | none => rw [hg] at hl; cases hl
   | some ob =>
    rw [hg] at hl
    cases ob with
    | row => cases hl
    | cells t' l =>
     simp only [] at hl
     cases hm : isMap l with
     | none => rw [hm] at hl; cases hl
     | some d =>
      rw [hm] at hl; injection hl with hl
      have hor := ok.obj o1 _ (by rw [hgo]; exact hg)
      simp only [OR] at hor
      obtain ⟨es, c, hb, he⟩ := hor.2.1.map hm
      have hlen : es.size = d.length := by have := he.length; simpa using this
      exact wp_same (v := .int .i64 n) (w' := w) (d := ⟨.int .i64 n, []⟩) (run _ (by rw [hy.2, ← hl]; simp [Builtin.len_, run_underlying ((htt t dd hdd).map _ _ hkd'), Go.MapKept.run_getObj_map (w := w) (by rw [hw]; exact hb), hlen, goInt])) hw ok hgo (by simp [VR]) rfl hk
 case str st =>
  cases hkd : kindOf tt t with
  | none => rw [hkd] at hl; cases hl
  | some k =>
   rw [hkd] at hl
   cases k <;> simp only [] at hl <;> first | (cases hl; done) | skip
   injection hl with hl
   obtain ⟨dd, hdd, hkd'⟩ := kindOf_some hkd
   rw [hcv] at hy
   exact wp_same (v := .int .i64 n) (w' := w) (d := ⟨.int .i64 n, []⟩) (run _ (by rw [hy.str, ← hl]; simp [Builtin.len_, run_underlying ((htt t dd hdd).str hkd'), goInt])) hw ok hgo (by simp [VR]) rfl hk
 case sl T l =>
  cases hkd : kindOf tt t with
  | none => rw [hkd] at hl; cases hl
  | some k =>
   rw [hkd] at hl
   cases k <;> simp only [] at hl <;> first | (cases hl; done) | skip
   injection hl with hl
   rw [hcv] at hy
   simp only [VR, SlR] at hy
   refine slice _ l.length hkd ?_ hl.symm
   rcases hy with ⟨h2, b, c, h1, _⟩ | ⟨b, o', c, h1, _⟩
   ·exact ⟨b, c, by rw [h1, h2]; rfl⟩
   ·exact ⟨_, c, h1⟩
 case nils =>
  cases hkd : kindOf tt t with
  | none => rw [hkd] at hl; cases hl
  | some k =>
   rw [hkd] at hl
   cases k <;> simp only [] at hl <;> first | (cases hl; done) | skip
   injection hl with hl
   rw [hcv] at hy
   exact slice _ 0 hkd ⟨none, 0, hy.nils⟩ (by rw [← hl]; rfl)
 case own p ver =>
  cases hkd : kindOf tt t with
  | none => rw [hkd] at hl; cases hl
  | some k =>
   rw [hkd] at hl
   cases k <;> simp only [] at hl <;> first | (cases hl; done) | skip
   cases hg : lk obj p with
   | none => rw [hg] at hl; cases hl
   | some ob =>
    rw [hg] at hl
    cases ob with
    | cells => cases hl
    | row v' t' T l =>
     simp only [] at hl
     cases hbq : Nat.beq ver v' with
     | false => rw [hbq] at hl; cases hl
     | true =>
      rw [hbq] at hl; injection hl with hl
      have := beq_of hbq; subst this
      rw [hcv] at hy
      have hv := hy.own (by rw [hgo]; exact hg)
      have hor := ok.obj p _ (by rw [hgo]; exact hg)
      refine slice _ l.length hkd ?_ hl.symm
      cases hn : (M.β p).nil with
      | true =>
       simp only [OR, hn] at hor; subst hor
       exact ⟨none, 0, by rw [hv]; simp [Hd.slice, hn]⟩
      | false => exact ⟨some ⟨(M.β p).b, (M.β p).off, none⟩, (M.β p).cap, by rw [hv]; simp only [Hd.slice, hn]⟩
 case part p ver a0 n0 =>
  cases hkd : kindOf tt t with
  | none => rw [hkd] at hl; cases hl
  | some k =>
   rw [hkd] at hl
   cases k <;> simp only [] at hl <;> first | (cases hl; done) | skip
   cases hg : lk obj p with
   | none => rw [hg] at hl; cases hl
   | some ob =>
    rw [hg] at hl
    cases ob with
    | cells => cases hl
    | row v' t' T l =>
     simp only [] at hl
     cases hbq : Nat.beq ver v' with
     | false => rw [hbq] at hl; cases hl
     | true =>
      rw [hbq] at hl; injection hl with hl
      have := beq_of hbq; subst this
      rw [hcv] at hy
      simp only [VR] at hy
      obtain ⟨hlen, hv⟩ := (hy.2 _ _ _ _ (by rw [hgo]; exact hg)).2 rfl
      have hor := ok.obj p _ (by rw [hgo]; exact hg)
      refine slice _ n0 hkd ?_ hl.symm
      cases hn : (M.β p).nil with
      | true =>
       simp only [OR, hn] at hor; subst hor
       have h0 : n0 = 0 := by simp at hlen; omega
       subst h0
       exact ⟨none, 0, by rw [hv]; simp [Hd.part, hn]⟩
      | false => exact ⟨_, _, by rw [hv]; simp only [Hd.part, hn]; rfl⟩
theorem strOf_eq (ns : List Int) : ns.foldl (fun r n => r.push (UInt8.ofNat n.toNat)) ByteArray.empty = strOf ns := by
 have : ∀ (ns : List Int) (s : ByteArray), ns.foldl (fun r n => r.push (UInt8.ofNat n.toNat)) s = ⟨s.data ++ (ns.map fun n => UInt8.ofNat n.toNat).toArray⟩ := by
  intro ns
  induction ns with
  | nil => intro s; simp
  | cons n r ih =>
   intro s
   rw [List.foldl_cons, ih]
   simp [ByteArray.push]
 rw [this]; simp [strOf, ByteArray.empty, ByteArray.emptyWithCapacity]; rfl
theorem SlR.loads {e : Ty} {l : List e.den} {v : Value} (h : SlR M.S M.h e l v) (hw : w.heap = M.h) : (l = [] ∧ ∃ a c, v = .slice a 0 c ∧ (a = none → c = 0)) ∨ ∃ b o c, v = .slice (some ⟨b, o, none⟩) l.length c ∧ l.length ≤ c ∧
  ∃ vs : List Value, vs.length = l.length * e.n ∧ (∀ j v, vs[j]? = some v → w.cell? ((⟨b, o, none⟩ : Addr).add j) = some v) ∧ ∀ m, m ≤ l.length → ∃ cs : List CV, VRL M cs (vs.take (m * e.n)) ∧ cs = (l.take m).flatMap (fun x => toC e x []) := by
 rcases h with h | ⟨b, o, c, hv, hle, hel⟩
 ·exact .inl h
 ·refine .inr ⟨b, o, c, hv, hle, ?_⟩
  have key : ∀ (l : List e.den) (o : Nat), (∀ (i : Nat) (hi : i < l.length), ElR M.S M.h e l[i] b (o + i * e.n)) → ∃ vs : List Value, vs.length = l.length * e.n ∧ (∀ j v, vs[j]? = some v → cellAt M.h b (o + j) = some v) ∧
    ∀ m, m ≤ l.length → ∃ cs : List CV, VRL M cs (vs.take (m * e.n)) ∧ cs = (l.take m).flatMap (fun x => toC e x []) := by
   intro l
   induction l with
   | nil => intro o _; exact ⟨[], by simp, by simp, fun m hm => ⟨[], by simp [VRL], by simp⟩⟩
   | cons y r ih =>
    intro o hel
    obtain ⟨v1, n1, c1, k1⟩ := (hel 0 (by simp)).cells rfl rfl
    obtain ⟨v2, n2, c2, k2⟩ := ih (o + e.n) (fun i hi => by
     have := hel (i + 1) (by simpa using hi)
     have e2 : o + (i + 1) * e.n = o + e.n + i * e.n := by rw [Nat.add_mul]; omega
     rw [e2] at this; simpa using this)
    refine ⟨v1 ++ v2, by simp [n1, n2, Nat.add_mul]; omega, fun j v hj => ?_, fun m hm => ?_⟩
    ·rw [List.getElem?_append] at hj
     split at hj
     ·simpa using c1 j v hj
     ·have := c2 _ v hj; rw [← this, n1]; congr 1; omega
    ·cases m with
     | zero => exact ⟨[], by simp [VRL], by simp⟩
     | succ m =>
      obtain ⟨cs, h1, h2⟩ := k2 m (by simpa using hm)
      have hk := k1 [] [] (by simp [VRL])
      rw [List.append_nil] at hk
      refine ⟨toC e y [] ++ cs, ?_, by simp [h2]⟩
      have e3 : (m + 1) * e.n = v1.length + m * e.n := by rw [n1, Nat.add_mul]; omega
      rw [e3, List.take_length_add_append]
      exact VRL.append hk h1
  obtain ⟨vs, h1, h2, h3⟩ := key l o hel
  exact ⟨vs, h1, fun j v hj => by rw [add_none, cell_eq, hw]; exact h2 j v hj, h3⟩
theorem SlR.loadsF {S : Seal} {e : Ty} (hf : e.flat = true) {l : List e.den} {v : Value} (h : SlR S M.h e l v) (hw : w.heap = M.h) : (l = [] ∧ ∃ a c, v = .slice a 0 c ∧ (a = none → c = 0)) ∨ ∃ b o c, v = .slice (some ⟨b, o, none⟩) l.length c ∧ l.length ≤ c ∧
  ∃ vs : List Value, vs.length = l.length * e.n ∧ (∀ j v, vs[j]? = some v → w.cell? ((⟨b, o, none⟩ : Addr).add j) = some v) ∧ ∀ m, m ≤ l.length → ∃ cs : List CV, VRL M cs (vs.take (m * e.n)) ∧ cs = (l.take m).flatMap (fun x => toC e x []) := by
 rcases h with h | ⟨b, o, c, hv, hle, hel⟩
 ·exact .inl h
 ·refine .inr ⟨b, o, c, hv, hle, ?_⟩
  have key : ∀ (l : List e.den) (o : Nat), (∀ (i : Nat) (hi : i < l.length), ElR S M.h e l[i] b (o + i * e.n)) → ∃ vs : List Value, vs.length = l.length * e.n ∧ (∀ j v, vs[j]? = some v → cellAt M.h b (o + j) = some v) ∧
    ∀ m, m ≤ l.length → ∃ cs : List CV, VRL M cs (vs.take (m * e.n)) ∧ cs = (l.take m).flatMap (fun x => toC e x []) := by
   intro l
   induction l with
   | nil => intro o _; exact ⟨[], by simp, by simp, fun m hm => ⟨[], by simp [VRL], by simp⟩⟩
   | cons y r ih =>
    intro o hel
    obtain ⟨v1, n1, c1, k1⟩ := (hel 0 (by simp)).cellsF rfl _ _ _ _ hf
    obtain ⟨v2, n2, c2, k2⟩ := ih (o + e.n) (fun i hi => by
     have := hel (i + 1) (by simpa using hi)
     have e2 : o + (i + 1) * e.n = o + e.n + i * e.n := by rw [Nat.add_mul]; omega
     rw [e2] at this; simpa using this)
    refine ⟨v1 ++ v2, by simp [n1, n2, Nat.add_mul]; omega, fun j v hj => ?_, fun m hm => ?_⟩
    ·rw [List.getElem?_append] at hj
     split at hj
     ·simpa using c1 j v hj
     ·have := c2 _ v hj; rw [← this, n1]; congr 1; omega
    ·cases m with
     | zero => exact ⟨[], by simp [VRL], by simp⟩
     | succ m =>
      obtain ⟨cs, h1, h2⟩ := k2 m (by simpa using hm)
      have hk := k1 [] [] (by simp [VRL])
      rw [List.append_nil] at hk
      refine ⟨toC e y [] ++ cs, ?_, by simp [h2]⟩
      have e3 : (m + 1) * e.n = v1.length + m * e.n := by rw [n1, Nat.add_mul]; omega
      rw [e3, List.take_length_add_append]
      exact VRL.append hk h1
  obtain ⟨vs, h1, h2, h3⟩ := key l o hel
  exact ⟨vs, h1, fun j v hj => by rw [add_none, cell_eq, hw]; exact h2 j v hj, h3⟩
theorem muV_ok (ok : MOK B M) {e : Ty} {t : Nat} {c : CV} {v : Value} {l : List e.den} (h : muV M.go e t c = some l) (hv : VR M c v) : SlR (fun _ _ => True) M.h e l v := by
 cases c <;> simp only [muV] at h <;> first | (cases h; done) | skip
 case own p ver =>
  have hg := muAt_some h
  have hv := hv.own hg
  have hor := ok.obj p _ hg
  simp only [OR] at hor
  cases hn : (M.β p).nil with
  | true =>
   rw [hn] at hor
   have h0 : l = [] := hor
   subst h0
   exact .inl ⟨rfl, none, 0, by rw [hv]; simp [Hd.slice, hn], fun _ => rfl⟩
  | false =>
   rw [hn] at hor
   have hv : v = .slice (some ⟨(M.β p).b, (M.β p).off, none⟩) (List.length (α := e.den) l) (M.β p).cap := by rw [hv]; simp only [Hd.slice, hn]; rfl
   exact .inr ⟨_, _, _, hv, hor.1, hor.2.1⟩
 case part p ver a0 n0 =>
  cases hl : muAt M.go e t p ver with
  | none => rw [hl] at h; cases h
  | some l0 =>
   rw [hl] at h; injection h with h; subst h
   simp only [VR] at hv
   have hg := muAt_some hl
   obtain ⟨hlen, hv⟩ := (hv.2 _ _ _ _ hg).2 rfl
   have hlen : a0 + n0 ≤ List.length (α := e.den) l0 := hlen
   have hor := ok.obj p _ hg
   simp only [OR] at hor
   cases hn : (M.β p).nil with
   | true =>
    rw [hn] at hor
    have h0 : l0 = [] := hor
    subst h0
    exact .inl ⟨by simp, none, 0, by rw [hv]; simp [Hd.part, hn], fun _ => rfl⟩
   | false =>
    rw [hn] at hor
    obtain ⟨q1, q2, _⟩ := hor
    have q1 : List.length (α := e.den) l0 ≤ (M.β p).cap := q1
    have hl2 : ((l0.drop a0).take n0).length = n0 := by rw [List.length_take, List.length_drop]; omega
    simp only [Hd.part, hn] at hv
    by_cases hca : (M.β p).cap = a0
    ·rw [if_pos hca] at hv
     have hn0 : n0 = 0 := by omega
     subst hn0
     exact .inl ⟨by simp, _, _, hv, fun h => by cases h⟩
    ·rw [if_neg hca] at hv
     refine .inr ⟨_, _, _, by rw [hl2]; exact hv, by rw [hl2]; omega, fun i hi => ?_⟩
     rw [hl2] at hi
     have := q2 (a0 + i) (by show _ < List.length (α := e.den) l0; omega)
     have e1 : (Ty.mu e).n = e.n := rfl
     rw [e1, Nat.add_mul, ← Nat.add_assoc] at this
     simp only [List.getElem_take, List.getElem_drop]
     exact this
theorem modify_push (h : Array Obj) (x : Obj) (f : Obj → Obj) : (h.push x).modify h.size f = h.push (f x) := by
 apply Array.ext_getElem?
 intro i
 rw [Array.getElem?_modify, Array.getElem?_push, Array.getElem?_push]
 by_cases hi : h.size = i
 ·simp [hi]
 ·have hi' : ¬ i = h.size := fun e => hi e.symm
  simp [hi, hi']
theorem VRL.ints {k : IntKind} : ∀ {l : List (Ty.int k).den} {vs : List Value}, VRL M (l.flatMap fun x => toC (.int k) x []) vs → vs = l.map (fun n : (Ty.int k).den => Value.int k n)
 | [], vs, h => by change VRL M [] vs at h; simp only [VRL] at h; exact h
 | n :: r, vs, h => by
  simp only [List.flatMap_cons, toC, List.singleton_append, VRL] at h
  obtain ⟨v, vr, rfl, h1, h2⟩ := h
  rw [h1.int, VRL.ints h2]; rfl
theorem toInt_fcan (b : Nat) (k : IntKind) : floatToIntVal .f64 (fcan b) k = floatToIntVal .f64 b k := by
 rcases fcan_cases b with h | ⟨h1, h2⟩
 ·rw [h]
 ·have e : ∀ d : Ieee.Datum, d.isNaN = true → d.toInt .zero = none := by intro d hd; cases d <;> first | (cases hd; done) | rfl
  unfold floatToIntVal
  rw [show FloatKind.f64.decode (fcan b) = Ieee.double.read (fcan b) from rfl, show FloatKind.f64.decode b = Ieee.double.read b from rfl, e _ h1, e _ h2]
theorem op_convert (htt : TTok P tt) (ok : MOK B M) (hgo : M.go = lk obj) (hE : RelE M env a.tmps) (hw : w.heap = M.h) {t t' : Nat} {y : Operand} (hop : o.op = .convert t t' y) {s : Stp}
  {Γ : Gam} (h : step tt Γ env (lk obj) o.dst (.convert t t' y) = some s) (x : s.α) (hx : s.o = some x) (hcr : ∀ d ∈ s.cr, ¬ M.U d) (hk : Cont w B M obj s.cr (s.f x) a o.dst K) : o.wp P a w K Q := by
 have hy := operand_ok hE y
 simp only [step, convStep] at h
 cases hks : kindOf tt t with
 | none => rw [hks] at h; cases h
 | some ks =>
  cases hkd : kindOf tt t' with
  | none => rw [hks, hkd] at h; cases h
  | some kd =>
   rw [hks, hkd] at h; simp only [] at h
   obtain ⟨d1, hd1, hk1⟩ := kindOf_some hks
   obtain ⟨d2, hd2, hk2⟩ := kindOf_some hkd
   obtain ⟨u1, hu1⟩ := (htt t d1 hd1).und
   split at h
   ·rename_i k kk n hcv
    injection h with h; subst h
    rw [hcv] at hy
    have hu2 := (htt t' d2 hd2).int k hk2
    exact wp_same (v := .int k (k.wrap n)) (w' := w) (d := ⟨_, []⟩) (by simp only [execOp, hop, hy.int, Sem.run_bind]; simp [convert, run_underlying hu1, run_underlying hu2, Conv.intToInt]) hw ok hgo (by simp [VR]) rfl hk
   ·rename_i k b hcv
    injection h with h; subst h
    rw [hcv] at hy
    obtain ⟨b', hv, hb⟩ := hy.flt
    have hu2 := (htt t' d2 hd2).int k hk2
    have hx : floatToIntVal .f64 b k = some x := hx
    have hx : floatToIntVal .f64 b' k = some x := by rw [← hx, ← hb]; exact (toInt_fcan b' k).symm
    exact wp_same (v := .int k x) (w' := w) (d := ⟨_, []⟩) (by simp only [execOp, hop, hv, Sem.run_bind, run_convert_float_int w t t' .f64 k b' x (by rw [hu1]; rfl) hu2 hx]; rfl) hw ok hgo (by simp [VR]) rfl hk
   ·rename_i kk n hcv
    injection h with h; subst h
    rw [hcv] at hy
    have hu2 := (htt t' d2 hd2).flt hk2
    exact wp_same (v := .float .f64 (FloatKind.f64.nearest n)) (w' := w) (d := ⟨_, []⟩) (by simp only [execOp, hop, hy.int, Sem.run_bind]; simp [convert, run_underlying hu1, run_underlying hu2, Conv.intToFloat]) hw ok hgo (by simp only [VR]; exact ⟨_, rfl, rfl⟩) rfl hk
   ·rename_i st hcv
    injection h with h; subst h
    rw [hcv] at hy
    have hu2 := (htt t' d2 hd2).str hk2
    exact wp_same (v := .string st) (w' := w) (d := ⟨_, []⟩) (by simp only [execOp, hop, hy.str, Sem.run_bind]; simp [convert, run_underlying hu1, run_underlying hu2]) hw ok hgo (by simp [VR]) rfl hk
   ·have hu2 := (htt t' d2 hd2).str hk2
    cases ks <;> simp only [] at h <;> first | (cases h; done) | skip
    rename_i e
    cases hke : kindOf tt e with
    | none => rw [hke] at h; cases h
    | some ke =>
     rw [hke] at h
     split at h
     ·rename_i he
      obtain ⟨d3, hd3, hk3⟩ := kindOf_some hke
      injection he with he; subst he
      have hu3 := (htt e d3 hd3).int .u8 hk3
      have hu1' := (htt t d1 hd1).slice e hk1
      have core : ∀ (l : List Int) (rd : List Nat), ((l = [] ∧ ∃ a0 c, a.eval y = .slice a0 0 c ∧ (a0 = none → c = 0)) ∨ ∃ b o c, a.eval y = .slice (some ⟨b, o, none⟩) l.length c ∧ l.length ≤ c ∧
        ∃ vs : List Value, vs.length = l.length * (Ty.int .u8).n ∧ (∀ j v, vs[j]? = some v → w.cell? ((⟨b, o, none⟩ : Addr).add j) = some v) ∧ ∀ m, m ≤ l.length → ∃ cs : List CV, VRL M cs (vs.take (m * (Ty.int .u8).n)) ∧ cs = (l.take m).flatMap (fun x => toC (.int .u8) x [])) →
        Cont w B M obj [] ⟨.str (strOf l), []⟩ a o.dst K → o.wp P a w K Q := by
       intro l rd hsl hk
       refine wp_same (v := .string (strOf l)) (w' := w) (d := ⟨_, []⟩) ?_ hw ok hgo (by simp [VR]) rfl hk
       rcases hsl with ⟨h2, b, c, h1, _⟩ | ⟨b, o', c, h1, hle, vs, h2, h3, h4⟩
       ·subst h2
        have hb : (Conv.bytesToString (.slice b 0 c)).run P w = .ok (.string (strOf [])) w := by
         cases b with
         | none => simp [Conv.bytesToString, strOf, ByteArray.empty, ByteArray.emptyWithCapacity]; rfl
         | some b => exact (run_bytesToString w _ _ c [] (by simp [loadCells, loadCellsFrom])).trans (by rw [← strOf_eq []])
        simp only [execOp, hop, Sem.run_bind, h1, run_convert_bytes_string w t t' e _ _ _ hu1' hu3 hu2, hb]; rfl
       ·obtain ⟨cs, h5, h6⟩ := h4 l.length (Nat.le_refl _)
        rw [List.take_length] at h6
        have e0 : vs.take (l.length * (Ty.int .u8).n) = vs := by rw [← h2]; exact List.take_length
        rw [e0, h6] at h5
        have hvs := VRL.ints (k := .u8) h5
        have hld := run_loadCells_list (P := P) w ⟨b, o', none⟩ vs h3
        have e1 : vs.length = l.length := by rw [h2]; simp [Ty.n]
        rw [e1, hvs] at hld
        have hb : (Conv.bytesToString (.slice (some ⟨b, o', none⟩) l.length c)).run P w = .ok (.string (strOf l)) w := (run_bytesToString w _ _ c l hld).trans (by rw [← strOf_eq l])
        simp only [execOp, hop, Sem.run_bind, h1, run_convert_bytes_string w t t' e _ _ _ hu1' hu3 hu2, hb]; rfl
      cases hl : asL (lk obj) (.int .u8) (operand env y) with
      | none =>
       rw [hl] at h; simp only [] at h
       cases hl2 : muV (lk obj) (.int .u8) e (operand env y) with
       | none => rw [hl2] at h; cases h
       | some l =>
        rw [hl2] at h; injection h with h; subst h
        exact core l [] ((muV_ok ok (by rw [hgo]; exact hl2) hy).loadsF rfl hw) hk
      | some l =>
       rw [hl] at h; injection h with h; subst h
       exact core l [] ((asL_ok ok (by rw [hgo]; exact hl) hy).loads hw) hk
     ·cases h
   ·rename_i e st hcv
    cases hle : lk tt e with
    | none => rw [hle] at h; cases h
    | some de =>
     cases hdst : o.dst with
     | none => rw [hle, hdst] at h; cases h
     | some i =>
      rw [hle, hdst] at h; simp only [] at h
      split at h
      ·rename_i hke
       injection h with h; subst h
       rw [hcv] at hy
       have hu2 := (htt t' d2 hd2).slice e hk2
       have hu3 := (htt e de hle).int .u8 hke
       have hrun : ∃ (cs : Array Value) (cap : Nat) (dr : Nat), st.size ≤ cap ∧ cap ≤ cs.size ∧ (∀ j, j < st.size → cs[j]? = some (.int .u8 ((st.data.toList.getD j 0).toNat : Int))) ∧
         (convert t t' (.string st)).run P w = .ok (.slice (some ⟨w.heap.size, 0, none⟩) st.size cap) { w with heap := w.heap.push (.cells cs e (cs.size, cs.size + 1)), drawn := dr } := by
        have hge := grownCap_ge w st.size 0 e
        have hs0 : st.data.size = st.size := rfl
        refine ⟨(st.data.map fun b => Value.int .u8 b.toNat) ++ Array.replicate (grownCap w st.size 0 e - st.size) (.int .u8 0), grownCap w st.size 0 e, w.drawn + 1, hge, by simp [hs0]; omega, fun j hj => ?_, ?_⟩
        ·have hj' : j < st.data.size := hj
         have hj2 : j < st.data.toList.length := by simpa using hj'
         rw [Array.getElem?_append_left (by simpa using hj')]
         simp only [Array.getElem?_map, Array.getElem?_eq_getElem hj', Option.map_some, List.getD, Array.getElem?_toList, Option.getD_some]
        ·have e1 : (choose (.appendCap st.size 0 e)).run P w = .ok (grownCap w st.size 0 e) { w with drawn := w.drawn + 1 } := by
          simp [Question.forced, grownCap]
         simp only [convert, Sem.run_bind, run_underlying hu1, run_underlying hu2, run_underlying hu3, Result.andThen_ok]
         cases u1 <;> simp only [Conv.stringToBytes, Sem.run_bind, e1, Result.andThen_ok, newRow, run_newObj, markStringish, run_shape, World.shape?, run_freeze, Sem.run_pure] <;>
          simp [World.freeze, modify_push]
       obtain ⟨cs, cap, dr, h1, h2, h3, h4⟩ := hrun
       have hlen : (bytesOf st).length = st.size := by unfold bytesOf; simp
       have hm := ok.addRow (d := i) (t := e) (v := 0) (T := .int .u8) (l := bytesOf st) (cs := cs) (f := (cs.size, cs.size + 1)) (cap := cap) (go' := lk ((i, .row 0 e (.int .u8) (bytesOf st)) :: obj))
        (hcr i (by simp)) rfl (fun q => by rw [lk_cons, hgo]) (Nat.le_trans (Nat.le_of_eq hlen) h1) (by simp [Ty.n]; exact h2) (fun j hj => by simp [Ty.n] at hj; omega)
        (fun S' hS hS2 j hj => by
         have hj : j < st.size := Nat.lt_of_lt_of_eq hj hlen
         refine ⟨hS2 _ (Nat.lt_of_lt_of_eq (by simp [Ty.n]; exact hj) (congrArg (· * (Ty.int .u8).n) hlen).symm), ?_⟩
         rw [cellAt_push_new]; simp only [Ty.n, Nat.mul_one]; rw [h3 j hj]
         congr 2
         have hj2 : j < st.data.toList.length := hj
         show ((st.data.toList.getD j 0).toNat : Int) = (bytesOf st)[j]
         have hj' : j < st.data.size := hj
         simp only [bytesOf, List.getD, Array.getElem?_toList, Array.getElem?_eq_getElem hj', Option.getD_some, List.getElem_map, Array.getElem_toList])
       refine wp_value (v := .slice (some ⟨w.heap.size, 0, none⟩) st.size cap) (w' := { w with heap := w.heap.push (.cells cs e (cs.size, cs.size + 1)), drawn := dr }) ?_ (hk _ _ _ ⟨rfl, rfl, rfl⟩ (by simp [Mem.add, hw]) hm.1 hm.2 ?_ rfl (fun q hq => hq.imp (fun h => by simp [h]) id))
       ·simp only [execOp, hop, hy.str, Sem.run_bind, h4, Result.andThen_ok]; rfl
       ·simp only [VR]
        refine ⟨.inl rfl, fun v0 t0 T0 l0 hg => ?_⟩
        simp only [Mem.add, lk_cons, if_pos] at hg
        injection hg with hg; injection hg with g1 g2 g3 g4
        subst g1; subst g3
        have g4 := eq_of_heq g4
        subst g4
        exact ⟨Nat.le_refl _, fun _ => by simp only [Mem.add, if_pos, Hd.slice, hw]; exact congrArg (fun n => Value.slice (some ⟨M.h.size, 0, none⟩) n cap) hlen.symm⟩
      ·cases h
   ·cases h
end
end Go.Proofs.Ytcjiipbppkdkaaa.Eng
