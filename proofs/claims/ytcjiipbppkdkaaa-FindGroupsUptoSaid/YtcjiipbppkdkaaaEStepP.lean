/- The engine, part 8b: lists of known pointers. -/
import Derived.Test.YtcjiipbppkdkaaaESub
namespace Go.Proofs.Ytcjiipbppkdkaaa.Eng
open Go
set_option linter.unusedVariables false
set_option linter.unusedSimpArgs false
section
variable {P : Program} {B : Base} {M : Mem} {obj : List (Nat × Ob)} {a : Act} {w : World} {o : Oper} {K : Act → World → Prop} {Q : Exit → Act → World → Prop} {tt : TT} {env : List (Nat × CV)}
def ptrV (M : Mem) (q : Nat × Nat) : Value := .pointer (some ⟨(M.β q.1).b, q.2, none⟩)
theorem unitsT (n : Nat) : List.length (α := Ty.pt.den) (units n) = n := units_len n
theorem appP_eq : ∀ l m : List (Nat × Nat), appP l m = l ++ m
 | [], _ => rfl
 | x :: r, m => by simp only [appP, appP_eq r m, List.cons_append]
theorem takeP_eq : ∀ (n : Nat) (l : List (Nat × Nat)), takeP n l = l.take n
 | 0, _ => rfl
 | _ + 1, [] => rfl
 | n + 1, x :: r => by simp only [takeP, takeP_eq n r, List.take_succ_cons]
theorem PsR.len {l : List (Nat × Nat)} {v : Value} (h : PsR M l v) : ∃ b c, v = .slice b l.length c := by
 rcases h with ⟨rfl, h⟩ | ⟨b, o, c, h, _⟩
 ·exact ⟨_, _, h⟩
 ·exact ⟨_, _, h⟩
theorem PsR.C {l : List (Nat × Nat)} {v : Value} (h : PsR M l v) (i : Nat) (hi : i < l.length) : M.C l[i].1 := by
 rcases h with ⟨rfl, h⟩ | ⟨b, o, c, _, _, h⟩
 ·simp at hi
 ·exact (h i hi).2.2
theorem ptrV_ext {M' : Mem} (e : Ext M M') {q : Nat × Nat} (h : M.C q.1) : ptrV M' q = ptrV M q := by unfold ptrV; rw [(e.cells _ h).2]
theorem psR_of {M' : Mem} (e : Ext M M') {l : List (Nat × Nat)} (hC : ∀ (i : Nat) (hi : i < l.length), M.C l[i].1) {b o c : Nat} (hc : l.length ≤ c) (h : ∀ (i : Nat) (hi : i < l.length), M'.S b (o + i) ∧ cellAt M'.h b (o + i) = some (ptrV M l[i])) :
  PsR M' l (.slice (some ⟨b, o, none⟩) l.length c) :=
 .inr ⟨b, o, c, rfl, hc, fun i hi => ⟨(h i hi).1, by rw [(h i hi).2, ← ptrV_ext e (hC i hi)]; rfl, (e.cells _ (hC i hi)).1⟩⟩
theorem ptrSl_some {t e : Nat} {de : TD} (h : ptrSl tt t = some (e, de)) : sliceOf tt t = some (e, de) ∧ de.ty = .pt := by
 unfold ptrSl at h
 cases hst : sliceOf tt t with
 | none => rw [hst] at h; cases h
 | some q =>
  obtain ⟨e', de'⟩ := q
  rw [hst] at h; simp only [] at h
  split at h <;> first | (cases h; done) | skip
  rename_i hty
  injection h with h; injection h with h1 h2
  subst h1; subst h2
  exact ⟨rfl, hty⟩
theorem ptrL_ok {c : CV} {v : Value} {l : List (Nat × Nat)} (h : ptrL c = some l) (hv : VR M c v) : PsR M l v := by
 cases c <;> simp only [ptrL] at h <;> first | (cases h; done) | skip
 ·injection h with h; subst h; simpa only [VR] using hv
 ·injection h with h; subst h; simp only [VR] at hv; exact hv.1
theorem src_ptr {l : List (Nat × Nat)} {v : Value} (h : PsR M l v) (hw : w.heap = M.h) : ∃ s : Src P M .pt (units l.length) v 1 w, s.vs = l.map (ptrV M) := by
 rcases h with ⟨rfl, rfl⟩ | ⟨b, o, c, rfl, hc, h⟩
 ·obtain ⟨s⟩ := src_nil (P := P) (M := M) (w := w) (T := .pt) (a := none) (c := 0) (size := 1) (fun _ => rfl)
  refine ⟨s, ?_⟩
  have := s.len
  simp at this
  simpa using this
 ·refine ⟨⟨l.map (ptrV M), by rw [unitsT]; simp [Ty.n], by rw [unitsT]; simp [Builtin.lenOf], fun w' hw' => ?_, fun u hu => ?_, fun S' h' b' o' hS hcl hb hcv i hi => ?_⟩, rfl⟩
  ·rw [unitsT]
   refine run_firstCells_some (P := P) w' 1 l.length ⟨b, o, none⟩ l.length c (l.map (ptrV M)) (by simp) (fun j v hj => ?_)
   rw [List.getElem?_map] at hj
   cases hl : l[j]? with
   | none => rw [hl] at hj; cases hj
   | some q =>
    rw [hl] at hj; simp only [Option.map_some] at hj; injection hj with hj
    obtain ⟨hj2, hq⟩ := List.getElem?_eq_some_iff.mp hl
    rw [add_none, cell_eq, hw', (h j hj2).2.1, hq, ← hj]; rfl
  ·obtain ⟨q, _, rfl⟩ := List.mem_map.mp hu; rfl
  ·rw [unitsT] at hi hb
   simp only [Ty.n, Nat.mul_one] at hb ⊢
   refine ⟨hb i hi, ptrV M l[i], hcv i _ (by simp [hi]), ⟨_, rfl⟩⟩
theorem ptrsAt {l m : List (Nat × Nat)} {i : Nat} (hi : i < (l ++ m).length) : ((l.map (ptrV M)) ++ (m.map (ptrV M)))[i]? = some (ptrV M (l ++ m)[i]) := by
 rw [← List.map_append, List.getElem?_map, List.getElem?_eq_getElem hi]; rfl
theorem pt_row {S : Seal} {h : Array Obj} {b o n : Nat} (hh : ∀ i, i < n → S b (o + i) ∧ ∃ v, cellAt h b (o + i) = some v ∧ PtV v) : ∀ (i : Nat) (hi : i < List.length (α := Ty.pt.den) (units n)), ElR S h .pt (units n)[i] b (o + i * Ty.pt.n) := by
 intro i hi
 have : List.length (α := Ty.pt.den) (units n) = n := unitsT n
 simp only [Ty.n, Nat.mul_one]
 exact hh i (by omega)
theorem op_pappend (htt : TTok P tt) (ok : MOK B M) (hgo : M.go = lk obj) (hE : RelE M env a.tmps) (hw : w.heap = M.h) {t : Nat} {ys yx : Operand} {c : Call} (hop : o.op = .call c) (hc : c.callee = .builtin .append)
  (ht : c.argTypes.toList = [t, t]) (ha : c.args.toList = [ys, yx]) {s : Stp} (h : pappend tt (lk obj) o.dst t (operand env ys) (operand env yx) = some s) (x : s.α)
  (hcr : ∀ d ∈ s.cr, ¬ M.U d) (hro : ∀ d ∈ s.wr, ¬ B.ro d) (hk : Cont w B M obj s.cr (s.f x) a o.dst K) : o.wp P a w K Q := by
 have hys := operand_ok hE ys
 have hyx := operand_ok hE yx
 have hargs : c.args = #[ys, yx] := by rw [← Array.toArray_toList (xs := c.args), ha]
 have htys : c.argTypes = #[t, t] := by rw [← Array.toArray_toList (xs := c.argTypes), ht]
 have run : ∀ v w', (Builtin.append_ #[t, t] o.type #[a.eval ys, a.eval yx]).run P w = .ok v w' → (execOp a.eval o).run P w = .ok (.value v) w' := by
  intro v w' hv
  simp [execOp, hop, resolve, hc, hargs, htys, invoke, builtin, hv]
 unfold pappend at h
 cases hst : ptrSl tt t with
 | none => rw [hst] at h; cases h
 | some q =>
  obtain ⟨e, de⟩ := q
  cases hdst : o.dst with
  | none => rw [hst, hdst] at h; cases h
  | some i =>
   cases hm : ptrL (operand env yx) with
   | none => rw [hst, hdst, hm] at h; cases h
   | some m =>
    rw [hst, hdst, hm] at h; simp only [] at h
    obtain ⟨hst', hty⟩ := ptrSl_some hst
    obtain ⟨d, hd, hkd, hde, hsz, hby, hmu⟩ := sliceOf_some hst'
    have hu := (htt t d hd).slice e hkd
    have h2 : P.underlying t = some .string ∨ ∃ e', P.underlying t = some (.slice e') := .inr ⟨_, hu⟩
    obtain ⟨ie, z, hi, his, hib, hz, hzs, _⟩ := (htt e de hde).info
    have hs1 : de.size = 1 := by rw [hsz, hty]; rfl
    have hisz : ie.size = 1 := his.trans hs1
    have hpm := ptrL_ok hm hyx
    obtain ⟨src0, hsv⟩ := src_ptr (P := P) (w := w) hpm hw
    obtain ⟨src, hsv⟩ : ∃ s : Src P M .pt (units m.length) (a.eval yx) ie.size w, s.vs = m.map (ptrV M) := by rw [hisz]; exact ⟨src0, hsv⟩
    have hml : List.length (α := Ty.pt.den) (units m.length) = m.length := unitsT _
    -- a new block with the cells of both
    have fresh : ∀ (l : List (Nat × Nat)) (base : Option Addr) (cc : Nat), PsR M l (.slice base l.length cc) → cc < l.length + m.length → de.bytes = 8 → l.length + m.length ≤ 1000 →
      ∃ (cs : Array Value) (cap : Nat) (w' : World), l.length + m.length ≤ cap ∧ cap ≤ cs.size ∧ (w'.heap = M.h.push (.cells cs e (0, 0)) ∧ Outer w w') ∧
       (Builtin.append_ #[t, t] o.type #[.slice base l.length cc, a.eval yx]).run P w = .ok (.slice (some ⟨M.h.size, 0, none⟩) (l.length + m.length) cap) w' ∧
       ∀ (i : Nat) (hi : i < (l ++ m).length), cellAt (M.h.push (.cells cs e (0, 0))) M.h.size i = some (ptrV M (l ++ m)[i]) := by
     intro l base cc hpl hlt hb8 hbd
     obtain ⟨s1, hs1v⟩ := src_ptr (P := P) (w := w) hpl hw
     have hll : List.length (α := Ty.pt.den) (units l.length) = l.length := unitsT _
     obtain ⟨cap, hcap, hr⟩ := append_more (P := P) (ty := o.type) hu hi h2 src hw (base := base) (n := l.length) (c := cc) (by rw [hml]; exact hlt) (by rw [hml]; omega)
      (by rw [hib, hb8, hml]; exact growslice_fits hlt (by omega)) hz (olds := s1.vs)
      (fun w' hw' => by have := s1.first w' (by rw [hw', hw]); rw [hll] at this; rw [hisz]; exact this)
     rw [hml] at hcap hr
     refine ⟨s1.vs.toArray ++ src.vs.toArray ++ Builtin.zeroCells z.cells (cap - (l.length + m.length)), cap, w.drew.alloc (.cells (s1.vs.toArray ++ src.vs.toArray ++ Builtin.zeroCells z.cells (cap - (l.length + m.length))) e), hcap, ?_, ?_, by rw [hr, hw], fun i hi => ?_⟩
     ·simp only [Array.size_append, List.size_toArray, size_zero, hzs, hs1, hs1v, hsv, List.length_map]
      omega
     ·exact ⟨by simp [World.alloc, World.drew, hw], rfl, rfl, rfl⟩
     ·rw [cellAt_push_new]
      have hj2 : i < (s1.vs ++ src.vs).length := by rw [hs1v, hsv]; simpa using hi
      rw [Array.getElem?_append_left (by simpa using hj2)]
      have := ptrsAt (M := M) hi
      rw [← hs1v, ← hsv] at this
      simpa using this
    cases hcs : operand env ys <;> rw [hcs] at h <;> simp only [] at h <;> first | (cases h; done) | skip
    case nils =>
     rw [hcs] at hys
     have hvs := hys.nils
     cases hb : (Nat.ble 1 (lenP m) && Nat.ble (lenP m) 1000 && Nat.beq de.bytes 8) with
     | false => rw [hb] at h; cases h
     | true =>
      rw [hb] at h; injection h with h; subst h
      simp only [Bool.and_eq_true] at hb
      have hb1 := Nat.le_of_ble_eq_true hb.1.1
      have hb2 := Nat.le_of_ble_eq_true hb.1.2
      have hb3 := beq_of hb.2
      rw [lenP_eq] at hb1 hb2
      obtain ⟨cs, cap, w', hcap, hcs', ⟨hw', ho⟩, hr, hel⟩ := fresh [] none 0 (.inl ⟨rfl, rfl⟩) (by simp only [List.length_nil, Nat.zero_add]; omega) hb3 (by simpa using hb2)
      simp only [List.nil_append, List.length_nil, Nat.zero_add] at hel hcap hr
      have hmm := ok.addRow (d := i) (t := e) (v := 0) (T := .pt) (l := units (lenP m)) (cs := cs) (f := (0, 0)) (cap := cap) (go' := lk ((i, .row 0 e .pt (units (lenP m))) :: obj)) (hcr i (by simp)) rfl (fun q => by rw [lk_cons, hgo])
       (by rw [lenP_eq, hml]; exact hcap) (by simpa [Ty.n] using hcs') (fun j _ => by omega) (fun S' hS hS2 => by
        rw [lenP_eq] at hS2 ⊢
        rw [hml] at hS2
        have := pt_row (S := S') (h := M.h.push (.cells cs e (0, 0))) (b := M.h.size) (o := 0) (n := m.length) (fun j hj => by
         rw [Nat.zero_add]
         exact ⟨hS2 j (by simpa [Ty.n] using hj), _, hel j hj, ⟨_, rfl⟩⟩)
        intro j hj
        have := this j hj
        rwa [Nat.zero_add] at this)
      refine wp_value (v := .slice (some ⟨M.h.size, 0, none⟩) m.length cap) (w' := w') (run _ _ (by rw [hvs, hr])) (hk _ _ _ ho (by simp [Mem.add, hw']) hmm.1 hmm.2 ?_ rfl (fun q hq => hq.imp (fun h => by simp [h]) id))
      simp only [VR]
      refine ⟨psR_of hmm.2 hpm.C hcap (fun j hj => ⟨.inr ⟨rfl, ?_⟩, ?_⟩), .inl rfl, fun v0 t0 T0 l0 hg => ?_⟩
      ·rw [lenP_eq, hml]; simpa [Ty.n] using hj
      ·rw [Nat.zero_add]; exact hel j hj
      ·simp only [Mem.add, lk_cons, if_pos] at hg
       injection hg with hg; injection hg with h1 h2 h3 h4
       subst h1; subst h3
       have h4 := eq_of_heq h4
       subst h4
       exact ⟨Nat.le_refl _, fun _ => by simp only [Mem.add, Hd.slice, if_pos]; rw [lenP_eq, hml]⟩
    case prow p ver l =>
     rw [hcs] at hys
     simp only [VR] at hys
     obtain ⟨hpl, hUp, hver⟩ := hys
     cases hg : lk obj p with
     | none => rw [hg] at h; cases h
     | some ob =>
      rw [hg] at h
      rw [← hgo] at hg
      cases ob with
      | cells => cases h
      | row v' t' T lu =>
       simp only [] at h
       cases hbq : (Nat.beq ver v' && Nat.beq t' e && Nat.ble (lenP l + lenP m) 1000 && Nat.beq de.bytes 8 && Nat.ble 1 (lenP m)) with
       | false => rw [hbq] at h; cases h
       | true =>
        rw [hbq] at h; simp only [] at h
        simp only [Bool.and_eq_true] at hbq
        have e1 := beq_of hbq.1.1.1.1
        have e2 := beq_of hbq.1.1.1.2
        have e3 := Nat.le_of_ble_eq_true hbq.1.1.2
        have e4 := beq_of hbq.1.2
        have e5 := Nat.le_of_ble_eq_true hbq.2
        rw [lenP_eq, lenP_eq] at e3
        rw [lenP_eq] at e5
        subst e1; subst e2
        split at h <;> first | (cases h; done) | skip
        rename_i hT
        subst hT
        injection h with h; subst h
        have hvs := (hver ver t' .pt lu hg).2 rfl
        have hor := ok.obj p _ hg
        have hpro : ¬ B.ro p := hro p (by simp)
        have hlu : lu.length = l.length := by
         obtain ⟨b0, c0, hv0⟩ := hpl.len
         cases hn : (M.β p).nil with
         | true =>
          simp only [OR, hn] at hor
          have hor : lu = [] := hor
          rw [hv0] at hvs; simp only [Hd.slice, hn] at hvs
          injection hvs with _ hvs _
          rw [hor, hvs]; rfl
         | false =>
          rw [hv0] at hvs; simp only [Hd.slice, hn] at hvs
          injection hvs with _ hvs _
          exact hvs.symm
        have hlm : lenP (appP l m) = l.length + m.length := by rw [lenP_eq, appP_eq, List.length_append]
        have hll : List.length (α := Ty.pt.den) (units (lenP (appP l m))) = l.length + m.length := by rw [hlm]; exact unitsT _
        have hCC : ∀ (i : Nat) (hi : i < (l ++ m).length), M.C (l ++ m)[i].1 := fun i hi => by
         by_cases h1 : i < l.length
         ·rw [List.getElem_append_left h1]; exact hpl.C i h1
         ·rw [List.getElem_append_right (by omega)]; exact hpm.C _ _
        have hgo' : ∀ q, lk ((p, Ob.row (ver + 1) t' .pt (units (lenP (appP l m)))) :: obj) q = if p = q then some (.row (ver + 1) t' .pt (units (lenP (appP l m)))) else M.go q := fun q => by rw [lk_cons, hgo]
        -- the row's new head
        have done : ∀ (x : Hd) (S' : Seal) (h' : Array Obj) (w' : World), Outer w w' → w'.heap = h' → x.nil = false → l.length + m.length ≤ x.cap → (Builtin.append_ #[t, t] o.type #[a.eval ys, a.eval yx]).run P w = .ok (x.slice (l.length + m.length)) w' →
          (MOK B ⟨S', h', fun o => if p = o then x else M.β o, lk ((p, .row (ver + 1) t' .pt (units (lenP (appP l m)))) :: obj), M.U, M.C⟩ ∧ Ext M ⟨S', h', fun o => if p = o then x else M.β o, lk ((p, .row (ver + 1) t' .pt (units (lenP (appP l m)))) :: obj), M.U, M.C⟩) →
          (∀ (i : Nat) (hi : i < (l ++ m).length), S' x.b (x.off + i) ∧ cellAt h' x.b (x.off + i) = some (ptrV M (l ++ m)[i])) → o.wp P a w K Q := by
         intro x S' h' w' ho hw' hxn hxc hr hmm hcell
         refine wp_value (v := x.slice (l.length + m.length)) (w' := w') (run _ _ hr) (hk _ _ _ ho hw' hmm.1 hmm.2 ?_ rfl (fun q hq => .inr hq))
         simp only [VR]
         refine ⟨?_, hUp, fun v0 t0 T0 l0 hg' => ?_⟩
         ·rw [appP_eq]
          have := psR_of hmm.2 hCC (c := x.cap) (by simpa using hxc) hcell
          simp only [Hd.slice, hxn]
          rw [List.length_append] at this
          exact this
         ·simp only [lk_cons, if_pos] at hg'
          injection hg' with hg'; injection hg' with h1 h2 h3 h4
          subst h1; subst h3
          have h4 := eq_of_heq h4
          subst h4
          exact ⟨Nat.le_refl _, fun _ => by simp only [if_true]; rw [hll]⟩
        -- elsewhere
        have elsewhere : ∀ (base : Option Addr) (cc : Nat), a.eval ys = .slice base l.length cc → cc < l.length + m.length → o.wp P a w K Q := by
         intro base cc hv hlt
         obtain ⟨cs, cap, w', hcap, hcs', ⟨hw', ho⟩, hr, hel⟩ := fresh l base cc (by rw [← hv]; exact hpl) hlt e4 e3
         refine done ⟨false, M.h.size, 0, cap⟩ (fun b x => M.S b x ∨ (b = M.h.size ∧ x < l.length + m.length)) _ w' ho hw' rfl hcap (by rw [hv, hr]; simp [Hd.slice]) ?_ (fun i hi => ⟨.inr ⟨rfl, ?_⟩, ?_⟩)
         ·refine ok.grow (x := ⟨false, M.h.size, 0, cap⟩) hpro hg hgo' (fun b y hy => .inl hy) (fun b y hy => hy.imp id (fun h => ⟨rfl, h.1⟩)) (fun b y hy => cellAt_push (ok.lt b y hy)) (fun _ => .inl rfl)
           (fun b hb _ => by rw [Array.getElem?_push, if_neg (by omega)]) (by simp) (by simp) ?_
          simp only [OR, if_pos, Ty.seal_of (show (Ty.pt).isMu = false from rfl)]
          refine ⟨by rw [hll]; exact hcap, ?_, ⟨cs, (0, 0), by simp, by simpa [Ty.n] using hcs', fun j _ => by simp⟩, Ty.muOk_of rfl, fun y hy => ⟨rfl, ?_⟩⟩
          ·refine pt_row (n := lenP (appP l m)) (fun j hj => ?_)
           rw [hlm] at hj
           rw [Nat.zero_add]
           exact ⟨.inr ⟨rfl, hj⟩, _, hel j (by simpa using hj), ⟨_, rfl⟩⟩
          ·rcases hy with hy | hy
           ·have := ok.lt _ _ hy; omega
           ·have := hy.2; rw [hll]; simp only [Ty.n]; omega
         ·simpa using hi
         ·rw [Nat.zero_add]; exact hel i hi
        cases hn : (M.β p).nil with
        | true =>
         simp only [OR, hn] at hor
         have hor : lu = [] := hor
         have hl0 : l.length = 0 := by rw [← hlu, hor]; rfl
         have hv : a.eval ys = .slice none l.length 0 := by rw [hvs, hl0]; simp only [Hd.slice, hn]
         exact elsewhere none 0 hv (by omega)
        | false =>
         have hv : a.eval ys = .slice (some ⟨(M.β p).b, (M.β p).off, none⟩) l.length (M.β p).cap := by rw [hvs, hlu]; simp only [Hd.slice, hn]
         by_cases hroom : l.length + m.length ≤ (M.β p).cap
         ·simp only [OR, hn, Ty.seal_of (show (Ty.pt).isMu = false from rfl)] at hor
          obtain ⟨hlc, hel, ⟨cs, f, hb, hcsz, hfz⟩, _, hS0⟩ := hor
          have hS := fun x hx => (hS0 x hx).2
          simp only [Ty.n, Nat.mul_one] at hcsz hfz hS
          rw [hlu] at hS hlc
          have hvl : src.vs.length = m.length := by rw [hsv]; simp
          have hcell : ∀ j, j < src.vs.length → (w.cell? ⟨(M.β p).b, (M.β p).off + l.length + 0 + j, none⟩).isSome = true := fun j hj => by
           rw [cell_eq, hw]; unfold cellAt; rw [hb]
           simp only []
           rw [Array.getElem?_eq_getElem (by omega)]; rfl
          have hfro : ∀ j, j < src.vs.length → w.frozen? ⟨(M.β p).b, (M.β p).off + l.length + 0 + j, none⟩ = false := fun j hj => by
           have := hfz ((M.β p).off + l.length + 0 + j) (.inl (by omega))
           obtain ⟨flo, fhi⟩ := f
           simp only [World.frozen?, hw, hb]
           simp only [Bool.and_eq_false_iff, decide_eq_false_iff_not]
           simp only [] at this
           omega
          have hst := run_storeCells_cells (P := P) (M.β p).b ((M.β p).off + l.length) src.vs 0 w hcell hfro src.one
          simp only [Nat.add_zero] at hst hcell
          have hr := append_room (P := P) (ty := o.type) hu hi h2 src hw (base := some ⟨(M.β p).b, (M.β p).off, none⟩) (n := l.length) (c := (M.β p).cap) (by rw [hml]; exact hroom)
           (w' := w.setCells (M.β p).b ((M.β p).off + l.length) src.vs) (fun ad had => by injection had with had; subst had; rw [show l.length * ie.size = l.length from by rw [hisz, Nat.mul_one], add_none]; exact hst) (fun h => by cases h)
          rw [hml] at hr
          obtain ⟨g1, g2, g3⟩ := setCells_heap (M.β p).b src.vs ((M.β p).off + l.length) w
          have hold : ∀ b y, M.S b y → cellAt (w.setCells (M.β p).b ((M.β p).off + l.length) src.vs).heap b y = cellAt M.h b y := fun b y hy => by
           rw [← cell_eq, World.cell?_setCells_out (M.β p).b src.vs _ w ⟨b, y, none⟩ (fun hbb _ => .inl (by have := hS y (hbb ▸ hy); exact this)), cell_eq, hw]
          have hpl' : ∀ (j : Nat) (hj : j < l.length), M.S (M.β p).b ((M.β p).off + j) ∧ cellAt M.h (M.β p).b ((M.β p).off + j) = some (ptrV M l[j]) := fun j hj => by
           rcases hpl with ⟨rfl, _⟩ | ⟨b0, o0, c0, hv0, _, h0⟩
           ·simp at hj
           ·rw [hv] at hv0
            injection hv0 with hv0 _ _
            injection hv0 with hv0; injection hv0 with hb0 ho0 _
            subst hb0; subst ho0
            exact ⟨(h0 j hj).1, (h0 j hj).2.1⟩
          have hnew : ∀ (i : Nat) (hi : i < (l ++ m).length), (M.S (M.β p).b ((M.β p).off + i) ∨ ((M.β p).b = (M.β p).b ∧ (M.β p).off + i < (M.β p).off + (l.length + m.length) ∧ (M.β p).off + l.length ≤ (M.β p).off + i)) ∧
            cellAt (w.setCells (M.β p).b ((M.β p).off + l.length) src.vs).heap (M.β p).b ((M.β p).off + i) = some (ptrV M (l ++ m)[i]) := fun i hi => by
           by_cases h1 : i < l.length
           ·rw [List.getElem_append_left h1]
            obtain ⟨k1, k2⟩ := hpl' i h1
            exact ⟨.inl k1, by rw [hold _ _ k1]; exact k2⟩
           ·rw [List.getElem_append_right (by omega)]
            rw [List.length_append] at hi
            have hj2 : i - l.length < src.vs.length := by omega
            refine ⟨.inr ⟨rfl, by omega, by omega⟩, ?_⟩
            have := World.cell?_setCells_in (M.β p).b src.vs _ w hcell (i - l.length) hj2
            rw [cell_eq] at this
            have e5 : (M.β p).off + l.length + (i - l.length) = (M.β p).off + i := by omega
            rw [e5] at this
            rw [this]
            congr 1
            have : src.vs[i - l.length]? = some (ptrV M m[i - l.length]) := by rw [hsv]; simp [show i - l.length < m.length by omega]
            rw [List.getElem?_eq_getElem hj2] at this
            injection this
          refine done (M.β p) (fun b x => M.S b x ∨ (b = (M.β p).b ∧ x < (M.β p).off + (l.length + m.length) ∧ (M.β p).off + l.length ≤ x)) _ (w.setCells (M.β p).b ((M.β p).off + l.length) src.vs) (setCells_outer _ _ _ _) rfl hn hroom (by rw [hv, hr]; simp only [Hd.slice, hn]) ?_ (fun i hi => hnew i hi)
          refine ok.grow (x := M.β p) hpro hg hgo' (fun b y hy => .inl hy) (fun b y hy => hy.imp id (fun h => ⟨hn, h.1⟩)) hold (fun _ => .inr ⟨hn, rfl⟩) (fun b hb' hne => by rw [g2 b (hne hn hn rfl), hw]) (by rw [g1, hw]; exact Nat.le_refl _)
           (fun _ => by rw [g1, hw]; exact (Array.getElem?_eq_some_iff.mp hb).1) ?_
          obtain ⟨cs', g4, g5⟩ := g3 cs t' f (by rw [hw]; exact hb)
          simp only [OR, if_pos, hn, Ty.seal_of (show (Ty.pt).isMu = false from rfl)]
          refine ⟨by rw [hll]; exact hroom, ?_, ⟨cs', f, g4, by simp only [Ty.n]; omega, fun j hj => hfz j (by simpa [Ty.n] using hj)⟩, Ty.muOk_of rfl, fun y hy => ⟨rfl, ?_⟩⟩
          ·refine pt_row (n := lenP (appP l m)) (fun j hj => ?_)
           rw [hlm] at hj
           obtain ⟨k1, k2⟩ := hnew j (by simpa using hj)
           exact ⟨k1, _, k2, ⟨_, rfl⟩⟩
          ·rw [hll]; simp only [Ty.n, Nat.mul_one]
           rcases hy with hy | hy
           ·have := hS y hy; omega
           ·exact hy.2.1
         ·exact elsewhere _ _ hv (by omega)
theorem ptrParts_ok (hE : RelE M env a.tmps) : ∀ (ps : List (Nat × Operand)) (i : Nat) (l : List (Nat × Nat)), ptrParts env i ps = some l →
  l.length = ps.length ∧ ps.map (fun x => a.eval x.2) = l.map (ptrV M) ∧ (∀ (j : Nat) (hj : j < l.length), M.C l[j].1) ∧ ps.map (fun x => (x.1, a.eval x.2)) = ((ps.map fun x => a.eval x.2).zipIdx i).map fun x => (x.2, x.1)
 | [], i, l, h => by simp only [ptrParts] at h; injection h with h; subst h; exact ⟨rfl, rfl, fun j hj => by simp at hj, rfl⟩
 | (j, y) :: r, i, l, h => by
  have hy := operand_ok hE y
  simp only [ptrParts] at h
  cases h0 : Nat.beq j i with
  | false => rw [h0] at h; cases h
  | true =>
   rw [h0] at h; simp only [] at h
   have := beq_of h0; subst this
   cases hc : operand env y <;> rw [hc] at h <;> simp only [] at h <;> first | (cases h; done) | skip
   rename_i p off
   cases h3 : ptrParts env (j + 1) r with
   | none => rw [h3] at h; cases h
   | some l' =>
    rw [h3] at h; injection h with h; subst h
    rw [hc] at hy
    simp only [VR] at hy
    obtain ⟨g1, g2, g3, g4⟩ := ptrParts_ok hE r (j + 1) l' h3
    refine ⟨by simp [g1], by simp only [List.map_cons, g2, hy.2]; rfl, fun k hk => ?_, by simp only [List.map_cons, List.zipIdx_cons]; rw [g4]⟩
    cases k with
    | zero => exact hy.1
    | succ k => simp only [List.getElem_cons_succ]; exact g3 k (by simpa using hk)
theorem ptr_flat : ∀ l : List (Nat × Nat), (l.map (ptrV M)).flatMap (fun v : Value => v.cells.toList) = l.map (ptrV M)
 | [] => rfl
 | q :: r => by rw [List.map_cons, List.flatMap_cons, ptr_flat r]; simp [ptrV, Value.cells]
theorem op_pbuild (htt : TTok P tt) (ok : MOK B M) (hgo : M.go = lk obj) (hE : RelE M env a.tmps) (hw : w.heap = M.h) {t len : Nat} {parts : Array (Nat × Operand)} (hop : o.op = .buildSlice t len parts) {s : Stp}
  (h : pstep tt env (lk obj) o.dst (.buildSlice t len parts) = some s) (x : s.α) (hcr : ∀ d ∈ s.cr, ¬ M.U d) (hk : Cont w B M obj s.cr (s.f x) a o.dst K) : o.wp P a w K Q := by
 simp only [pstep] at h
 split at h <;> first | (cases h; done) | skip
 rename_i e de l i hst hps hdst
 cases hb : (Nat.beq (lenP l) len && Nat.ble 1 len && Nat.ble len 1000) with
 | false => rw [hb] at h; cases h
 | true =>
  rw [hb] at h; injection h with h; subst h
  simp only [Bool.and_eq_true] at hb
  have hb1 := beq_of hb.1.1
  have hb2 := Nat.le_of_ble_eq_true hb.1.2
  have hb3 := Nat.le_of_ble_eq_true hb.2
  rw [lenP_eq] at hb1
  obtain ⟨hst', hty⟩ := ptrSl_some hst
  obtain ⟨d, hd, hkd, hde, hsz, hby, hmu⟩ := sliceOf_some hst'
  obtain ⟨ie, z, hi, his, hib, hz, hzs, _⟩ := (htt e de hde).info
  have hs1 : de.size = 1 := by rw [hsz, hty]; rfl
  have hisz : ie.size = 1 := his.trans hs1
  obtain ⟨g1, g2, g3, g4⟩ := ptrParts_ok hE parts.toList 0 l hps
  have hfm := ptr_flat (M := M) l
  have hfill := Great.fill_whole (s := 1) (by decide) (parts.toList.map fun x => a.eval x.2) ((Array.range (len * ie.size)).map (z.cells[· % z.cells.size]!)) (fun v hv => by
   rw [g2] at hv; obtain ⟨q, _, rfl⟩ := List.mem_map.mp hv; rfl) (by rw [List.length_map, ← g1, hb1]; simp [hisz])
  rw [← g4, g2, hfm] at hfill
  have hrun := run_buildSlice (P := P) w t e len (parts.map fun (i, x) => (i, a.eval x)) _ ie z ((htt t d hd).slice e hkd) hi hz (by rw [hisz]; omega) (by rw [hisz]; omega)
   (by rw [hisz]; rw [hisz] at hfill; rw [← hfill]; congr 1; simp)
  have hun : List.length (α := Ty.pt.den) (units len) = len := unitsT _
  have hm := ok.addRow (d := i) (t := e) (v := 0) (T := .pt) (l := units len) (cs := (l.map (ptrV M)).toArray) (f := (0, 0)) (cap := len) (go' := lk ((i, .row 0 e .pt (units len)) :: obj))
   (hcr i (by simp)) rfl (fun q => by rw [lk_cons, hgo]) (by rw [hun]; exact Nat.le_refl _) (by simp [Ty.n, hb1]) (fun j _ => by omega)
   (fun S' hS hS2 j hj => by
    rw [hun] at hS2
    have := pt_row (S := S') (h := M.h.push (.cells (l.map (ptrV M)).toArray e (0, 0))) (b := M.h.size) (o := 0) (n := len) (fun k hk => by
     rw [Nat.zero_add]
     exact ⟨hS2 k (by simpa [Ty.n] using hk), ptrV M (l[k]'(by omega)), by rw [cellAt_push_new]; simp [show k < l.length by omega], ⟨_, rfl⟩⟩) j hj
    rwa [Nat.zero_add] at this)
  refine wp_value (v := .slice (some ⟨w.heap.size, 0, none⟩) len len) (w' := w.alloc (.cells (l.map (ptrV M)).toArray e)) ?_ (hk _ _ _ ⟨rfl, rfl, rfl⟩ (by simp [Mem.add, World.alloc, hw]) hm.1 hm.2 ?_ rfl (fun q hq => hq.imp (fun h => by simp [h]) id))
  ·simp only [execOp, hop, Sem.run_bind, hrun, Result.andThen_ok]; rfl
  ·simp only [VR]
   refine ⟨?_, .inl rfl, fun v0 t0 T0 l0 hg => ?_⟩
   ·have := psR_of (b := M.h.size) (o := 0) (c := len) hm.2 g3 (by omega) (fun j hj => ⟨.inr ⟨rfl, by rw [hun]; simp [Ty.n]; omega⟩, by rw [Nat.zero_add]; simp only [Mem.add]; rw [cellAt_push_new]; simp [hj]⟩)
    rw [hb1] at this; rw [hw]; exact this
   ·simp only [Mem.add, lk_cons, if_pos] at hg
    injection hg with hg; injection hg with h1 h2 h3 h4
    subst h1; subst h3
    have h4 := eq_of_heq h4
    subst h4
    exact ⟨Nat.le_refl _, fun _ => by simp only [Mem.add, Hd.slice, if_pos, hw]; rw [hun]⟩
theorem nthZ_some {l : List (Nat × Nat)} {j : Int} {q : Nat × Nat} (h : nthZ l j = some q) : 0 ≤ j ∧ ∃ hi : j.toNat < l.length, l[j.toNat] = q := by
 cases j with
 | ofNat n =>
  simp only [nthZ, nth_eq] at h
  obtain ⟨h1, h2⟩ := List.getElem?_eq_some_iff.mp h
  exact ⟨Int.natCast_nonneg n, h1, h2⟩
 | negSucc n => cases h
theorem pstep_ok (htt : TTok P tt) (ok : MOK B M) (hgo : M.go = lk obj) (hE : RelE M env a.tmps) (hw : w.heap = M.h) {s : Stp} (h : pstep tt env (lk obj) o.dst o.op = some s) (x : s.α) (hx : s.o = some x)
  (hcr : ∀ d ∈ s.cr, ¬ M.U d) (hro : ∀ d ∈ s.wr, ¬ B.ro d) (hk : Cont w B M obj s.cr (s.f x) a o.dst K) : o.wp P a w K Q := by
 cases hop : o.op <;> rw [hop] at h <;> first | (simp only [pstep] at h; cases h; done) | skip
 case buildSlice t n ps => exact op_pbuild htt ok hgo hE hw hop h x hcr hk
 case indexAddr t y i =>
  simp only [pstep] at h
  cases hst : ptrSl tt t with
  | none => rw [hst] at h; cases h
  | some q =>
   obtain ⟨e, de⟩ := q
   rw [hst] at h; simp only [] at h
   have hi := operand_ok hE i
   have hy := operand_ok hE y
   split at h <;> first | (cases h; done) | skip
   rename_i k j l hci hcl
   cases hn : nthZ l j with
   | none => rw [hn] at h; cases h
   | some q =>
    obtain ⟨p, off⟩ := q
    rw [hn] at h; injection h with h; subst h
    obtain ⟨h0, hlt, hq⟩ := nthZ_some hn
    rw [hci] at hi
    have hp := ptrL_ok hcl hy
    obtain ⟨hst', hty⟩ := ptrSl_some hst
    obtain ⟨d, hd, hkd, hde, hsz, hby, hmu⟩ := sliceOf_some hst'
    have hs1 : de.size = 1 := by rw [hsz, hty]; rfl
    have hu := (htt t d hd).slice e hkd
    rcases hp with ⟨rfl, _⟩ | ⟨b, oo, c, hv, _, hel⟩
    ·simp at hlt
    ·obtain ⟨k1, k2, k3⟩ := hel j.toNat hlt
     rw [hq] at k2 k3
     refine wp_same (v := .pointer (some ⟨b, oo + j.toNat, none⟩)) (w' := w) (d := ⟨.pelt p off, []⟩) ?_ hw ok hgo (by simp only [VR]; exact ⟨b, _, rfl, k1, k2, k3⟩) rfl hk
     have hin : 0 ≤ j ∧ j < (l.length : Int) := ⟨h0, by omega⟩
     simp only [execOp, hop, hv, hi.int, Instr.indexAt, asIntOf, Sem.run_bind, Sem.run_pure, Result.andThen_ok, run_underlying hu, if_pos hin, (htt e de hde).size_run, add_none, hs1, Nat.mul_one]
 case load t y =>
  simp only [pstep] at h
  have hy := operand_ok hE y
  split at h <;> first | (cases h; done) | skip
  rename_i p off hc
  cases hl : lk tt t with
  | none => rw [hl] at h; cases h
  | some d =>
   rw [hl] at h; simp only [] at h
   cases hb : (Nat.beq d.size 1 && !d.agg) with
   | false => rw [hb] at h; cases h
   | true =>
    rw [hb] at h; injection h with h; subst h
    simp only [Bool.and_eq_true, Bool.not_eq_true'] at hb
    have hb1 := beq_of hb.1
    rw [hc] at hy
    simp only [VR] at hy
    obtain ⟨b, oo, hv, k1, k2, k3⟩ := hy
    have hvr : VR M (.ptr p off) (.pointer (some ⟨(M.β p).b, off, none⟩)) := by simp only [VR]; exact ⟨k3, trivial⟩
    obtain ⟨v, hrun, hr⟩ := cells_load (htt t d hl) (vs := [.pointer (some ⟨(M.β p).b, off, none⟩)]) (l := [.ptr p off]) (b := b) (off := oo) (c := .ptr p off) (by rw [hb1]; rfl) (by simp only [VRL]; exact ⟨_, _, rfl, hvr, rfl⟩) (by rw [hb.2]; rfl) (w := w) (M := M) (fun j v hj => by
     cases j with
     | zero => simp only [List.getElem?_cons_zero] at hj; injection hj with hj; subst hj; rw [hw]; exact k2
     | succ j => simp at hj)
    refine wp_same (v := v) (w' := w) (d := ⟨.ptr p off, []⟩) ?_ hw ok hgo hr rfl hk
    simp [execOp, hop, hv, hrun]
 case slice t y lo hi mx =>
  simp only [pstep] at h
  have hy := operand_ok hE y
  split at h <;> first | (cases h; done) | skip
  rename_i q l h1 hst hcl
  have hh := operand_ok hE h1
  split at h <;> first | (cases h; done) | skip
  rename_i k n hc1
  cases hb : Nat.ble n (lenP l) with
  | false => rw [hb] at h; cases h
  | true =>
   rw [hb] at h; injection h with h; subst h
   obtain ⟨e, de⟩ := q
   have hb1 := Nat.le_of_ble_eq_true hb
   rw [lenP_eq] at hb1
   have hp := ptrL_ok hcl hy
   obtain ⟨hst', hty⟩ := ptrSl_some hst
   obtain ⟨d, hd, hkd, hde, hsz, hby, hmu⟩ := sliceOf_some hst'
   have hu := (htt t d hd).slice e hkd
   rw [hc1] at hh
   have hs0 : sliceBd ((none : Option Operand).map (operand env)) 0 = some 0 := rfl
   rcases hp with ⟨rfl, hv⟩ | ⟨b, oo, c, hv, hle, hel⟩
   ·have hn0 : n = 0 := by simpa using hb1
    subst hn0
    have hs1 : sliceBd ((some h1).map (operand env)) ((0 : Nat) : Int) = some 0 := by simp [sliceBd, hc1]
    have hbr := bounds_run (P := P) (sl := true) (len := 0) (cap := 0) hE hs0 hs1 (Int.le_refl _) (Int.le_refl _) (Int.le_refl _) (Nat.le_refl _) w
    simp only [Option.map_none, Option.map_some] at hbr
    refine wp_same (v := .slice none 0 0) (w' := w) (d := ⟨_, []⟩) ?_ hw ok hgo (by simp only [VR]; exact .inl ⟨rfl, rfl⟩) rfl hk
    simp only [execOp, hop, hv, Instr.sliceAt, Sem.run_bind, run_underlying hu, Result.andThen_ok, Instr.slice, Option.map_none, Option.map_some, hbr, (htt e de hde).size_run, Sem.run_pure]; rfl
   ·have hs1 : sliceBd ((some h1).map (operand env)) ((l.length : Nat) : Int) = some (n : Int) := by simp [sliceBd, hc1]
    have hbr := bounds_run (P := P) (sl := true) (len := l.length) (cap := c) hE hs0 hs1 (Int.le_refl _) (Int.natCast_nonneg n) (by omega) hle w
    simp only [Option.map_none, Option.map_some] at hbr
    refine wp_same (v := .slice (some ⟨b, oo, none⟩) n c) (w' := w) (d := ⟨_, []⟩) ?_ hw ok hgo (by
     simp only [VR]
     rw [takeP_eq]
     have hl2 : (l.take n).length = n := by rw [List.length_take]; omega
     refine .inr ⟨b, oo, c, by rw [hl2], by rw [hl2]; omega, fun i hi => ?_⟩
     have hi2 : i < l.length := by rw [hl2] at hi; omega
     have := hel i hi2
     rwa [List.getElem_take]) rfl hk
    simp only [execOp, hop, hv, Instr.sliceAt, Sem.run_bind, run_underlying hu, Result.andThen_ok, Instr.slice, Option.map_none, Option.map_some, hbr, (htt e de hde).size_run, Sem.run_pure]
    simp [add_none]
 case call c =>
  simp only [pstep] at h
  split at h <;> first | (cases h; done) | skip
  ·rename_i hc
   split at h <;> first | (cases h; done) | skip
   rename_i y t ha ht
   split at h <;> first | (cases h; done) | skip
   rename_i q l hst hcl
   obtain ⟨e, de⟩ := q
   injection h with h; subst h
   have hy := operand_ok hE y
   obtain ⟨b, cc, hv⟩ := (ptrL_ok hcl hy).len
   obtain ⟨hst', hty⟩ := ptrSl_some hst
   obtain ⟨d, hd, hkd, hde, hsz, hby, hmu⟩ := sliceOf_some hst'
   have hu := (htt t d hd).slice e hkd
   have hargs : c.args = #[y] := by rw [← Array.toArray_toList (xs := c.args), ha]
   have htys : c.argTypes = #[t] := by rw [← Array.toArray_toList (xs := c.argTypes), ht]
   refine wp_same (v := .int .i64 (l.length : Int)) (w' := w) (d := ⟨.int .i64 (lenP l), []⟩) ?_ hw ok hgo (by simp only [VR]; rw [lenP_eq]) rfl hk
   simp [execOp, hop, resolve, hc, hargs, htys, invoke, builtin, hv, Builtin.len_, run_underlying hu, goInt]
  ·rename_i hc
   split at h <;> first | (cases h; done) | skip
   rename_i t t2 ys yx ht ha
   split at h <;> first | (cases h; done) | skip
   rename_i hb
   have := beq_of hb; subst this
   exact op_pappend htt ok hgo hE hw hop hc ht ha h x hcr hro hk
end
end Go.Proofs.Ytcjiipbppkdkaaa.Eng
