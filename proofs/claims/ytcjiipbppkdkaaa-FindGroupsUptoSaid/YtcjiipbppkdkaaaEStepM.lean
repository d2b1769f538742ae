/- The engine, part 8b: elements of a row that may be written anew: one is read, one is written. -/
import Derived.Test.YtcjiipbppkdkaaaEStep5
namespace Go.Proofs.Ytcjiipbppkdkaaa.Eng
open Go
set_option linter.unusedVariables false
set_option linter.unusedSimpArgs false
section
variable {P : Program} {B : Base} {M : Mem} {obj : List (Nat × Ob)} {a : Act} {w : World} {o : Oper} {K : Act → World → Prop} {Q : Exit → Act → World → Prop} {tt : TT} {env : List (Nat × CV)} {cr : List Nat}
theorem takeL_some : ∀ (n : Nat) (l : List CV), n ≤ l.length → ∃ r, takeL n l = some r
 | 0, _, _ => ⟨[], rfl⟩
 | n + 1, [], h => by simp at h
 | n + 1, c :: l, h => by
  obtain ⟨r, hr⟩ := takeL_some n l (by simpa using h)
  exact ⟨c :: r, by simp only [takeL, hr]⟩
theorem dropL_eq : ∀ (n : Nat) (l : List CV), dropL n l = l.drop n
 | 0, _ => rfl
 | n + 1, [] => by simp [dropL]
 | n + 1, _ :: l => by simp only [dropL, dropL_eq n l, List.drop_succ_cons]
theorem mu_elem {p v t : Nat} {e : Ty} {l : List e.den} (ok : MOK B M) (hg : M.go p = some (.row v t (.mu e) l)) (hn : (M.β p).nil = false) : e.flat = true ∧ List.length (α := e.den) l ≤ (M.β p).cap ∧
  (∀ (i : Nat) (y : e.den), l[i]? = some y → ElR (fun _ _ => True) M.h e y (M.β p).b ((M.β p).off + i * e.n)) ∧
  (∃ cs f, M.h[(M.β p).b]? = some (.cells cs t f) ∧ (M.β p).off + (M.β p).cap * e.n ≤ cs.size ∧ ∀ i, (i < (M.β p).off + (M.β p).cap * e.n ∨ 1 < e.n) → ¬ (f.1 ≤ i ∧ i < f.2)) ∧ ∀ x, ¬ M.S (M.β p).b x := by
 have hor := ok.obj p _ hg
 simp only [OR, hn] at hor
 obtain ⟨h1, h2, h3, h4, h5⟩ := hor
 refine ⟨h4, h1, fun i y hy => ?_, h3, fun x hx => by have := (h5 x hx).1; cases this⟩
 obtain ⟨hi, he⟩ := List.getElem?_eq_some_iff.mp hy
 have := h2 i hi
 rw [← he]; exact this
theorem op_load_mu (htt : TTok P tt) (ok : MOK B M) (hgo : M.go = lk obj) (hE : RelE M env a.tmps) (hw : w.heap = M.h) {t : Nat} {ad : Operand} (hop : o.op = .load t ad) {s : Stp}
  {Γ : Gam} (h : step tt Γ env (lk obj) o.dst (.load t ad) = some s) {p v off : Nat} {i : Int} (hc : operand env ad = .mptr p v i off) (x : s.α) (hx : s.o = some x) (hk : Cont w B M obj s.cr (s.f x) a o.dst K) : o.wp P a w K Q := by
 have hv := operand_ok hE ad
 simp only [step] at h
 cases hd : lk tt t with
 | none => rw [hd] at h; cases h
 | some d =>
  rw [hd] at h; simp only [] at h
  have td := htt t d hd
  rw [hc] at h hv; simp only [] at h
  simp only [VR] at hv
  split at h <;> first | (cases h; done) | skip
  rename_i v' t' e l hg
  split at h <;> first | (cases h; done) | skip
  rename_i hcond
  injection h with h; subst h
  simp only [Bool.and_eq_true, Bool.or_eq_true] at hcond
  obtain ⟨⟨⟨c1, c2⟩, c3⟩, c4⟩ := hcond
  have hb1 := beq_of c1; subst hb1
  have c3 := Nat.le_of_ble_eq_true c3
  rw [← hgo] at hg
  obtain ⟨_, hh⟩ := hv.2 _ _ _ _ hg
  obtain ⟨hn, h0, h1, he⟩ := hh rfl
  obtain ⟨hfl, hlc, hel, _, _⟩ := mu_elem ok hg hn
  simp only [rdo] at hx
  rw [if_pos h0] at hx
  have hex := hel i.toNat x hx
  obtain ⟨vs, hlen, hcell, hvr⟩ := hex.cellsF rfl _ _ _ _ hfl
  have hv0 := hvr [] [] (by simp [VRL])
  rw [List.append_nil] at hv0
  have hlc2 : (toC e x []).length = e.n := by rw [hv0.length, hlen]
  obtain ⟨cs, hcs⟩ := takeL_some d.size (dropL off (toC e x [])) (by rw [dropL_eq, List.length_drop, hlc2]; omega)
  obtain ⟨g1, g2⟩ := (hv0.drop off).take _ hcs
  have hcsl : cs.length = d.size := by rw [g1.length]; simp at g2 ⊢; omega
  have hav : ∃ c, asVal d.agg cs = some c := by
   cases hag : d.agg with
   | true => exact ⟨_, rfl⟩
   | false =>
    rw [hag] at c4
    have hs1 : d.size = 1 := by rcases c4 with c4 | c4; cases c4; exact beq_of c4
    rw [hs1] at hcsl
    obtain ⟨c, hc⟩ := List.length_eq_one_iff.mp hcsl
    exact ⟨c, by rw [hc]; rfl⟩
  obtain ⟨c, hav⟩ := hav
  have hcut : cutV d.size d.agg off e x = c := by simp only [cutV, hcs, hav]
  obtain ⟨u, k1, k2⟩ := cells_load (P := P) (w := w) td (vs := (vs.drop off).take d.size) (b := (M.β p).b) (off := (M.β p).off + i.toNat * e.n + off) (by simp at g2 ⊢; omega) g1 hav (fun j u hj => by
   rw [hw]
   have : vs[off + j]? = some u := by
    rw [List.getElem?_take] at hj
    split at hj
    ·simpa using hj
    ·cases hj
   rw [Nat.add_assoc]; exact hcell _ _ this)
  have e1 : (Ty.mu e).n = e.n := rfl
  rw [e1] at he
  exact wp_same (v := u) (w' := w) (d := ⟨cutV d.size d.agg off e x, []⟩) (by simp [execOp, hop, he, k1]) hw ok hgo (by rw [hcut]; exact k2) rfl hk
theorem store_or {p ver t i : Nat} {e : Ty} {l : List e.den} {z : e.den} {h' : Array Obj} {go' : Nat → Option Ob} {cs' : Array Value} {f : Nat × Nat} (hn : (M.β p).nil = false) (hfl : e.flat = true) (hlc : l.length ≤ (M.β p).cap)
  (hel : ∀ (i : Nat) (y : e.den), l[i]? = some y → ElR (fun _ _ => True) M.h e y (M.β p).b ((M.β p).off + i * e.n)) (hS : ∀ x, ¬ M.S (M.β p).b x) (hil : i < l.length)
  (hb : h'[(M.β p).b]? = some (.cells cs' t f)) (hcs : (M.β p).off + (M.β p).cap * e.n ≤ cs'.size) (hfz : ∀ i, (i < (M.β p).off + (M.β p).cap * e.n ∨ 1 < e.n) → ¬ (f.1 ≤ i ∧ i < f.2))
  (hz : ElR (fun _ _ => True) h' e z (M.β p).b ((M.β p).off + i * e.n)) (hold : ∀ x, x < (M.β p).off + i * e.n ∨ (M.β p).off + i * e.n + e.n ≤ x → cellAt h' (M.β p).b x = cellAt M.h (M.β p).b x) :
  OR ⟨M.S, h', M.β, go', M.U, M.C⟩ p (.row ver t (.mu e) (l.set i z)) := by
 simp only [OR, hn]
 have hlen : (l.set i z).length = l.length := List.length_set
 refine ⟨by show (l.set i z).length ≤ _; rw [hlen]; exact hlc, fun j hj => ?_, ⟨cs', f, hb, hcs, hfz⟩, hfl, fun x hx => absurd hx (hS x)⟩
 have hj : j < (l.set i z).length := hj
 have hj2 : j < l.length := by rw [hlen] at hj; exact hj
 show ElR (fun _ _ => True) h' e ((l.set i z)[j]) (M.β p).b ((M.β p).off + j * e.n)
 by_cases hji : i = j
 ·subst hji
  rw [List.getElem_set_self]; exact hz
 ·rw [List.getElem_set_ne hji]
  refine ElR.moveF e _ _ _ _ _ hfl (hel j _ (List.getElem?_eq_getElem hj2)) (fun _ _ => trivial) (fun q hq => hold _ ?_)
  rcases Nat.lt_or_gt_of_ne hji with hlt | hgt
  ·right
   have : (i + 1) * e.n ≤ j * e.n := Nat.mul_le_mul_right _ hlt
   rw [Nat.add_mul] at this; omega
  ·left
   have : (j + 1) * e.n ≤ i * e.n := Nat.mul_le_mul_right _ hgt
   rw [Nat.add_mul] at this; omega
theorem fitD_cons (p q : Ty) (off : Nat) (c : CV) : fitD (.cons p q) off c = match Nat.blt off p.n with | true => fitD p off c | false => fitD q (off - p.n) c := rfl
theorem fitD_one {M : Mem} {c : CV} {v : Value} (hv : VR M c v) : ∀ (T : Ty) (off : Nat), fitD T off c = true → v.cells = #[v] ∧ v.oneCell' = true := by
 intro T
 induction T with
 | int k =>
  intro off hf
  cases c <;> first | (cases hf; done) | skip
  simp only [VR] at hv; subst hv; exact ⟨rfl, rfl⟩
 | bool =>
  intro off hf
  cases c <;> first | (cases hf; done) | skip
  simp only [VR] at hv; subst hv; exact ⟨rfl, rfl⟩
 | str =>
  intro off hf
  cases c <;> first | (cases hf; done) | skip
  simp only [VR] at hv; subst hv; exact ⟨rfl, rfl⟩
 | flt => intro off hf; cases c <;> cases hf
 | pt => intro off hf; cases c <;> cases hf
 | sl e ih => intro off hf; cases c <;> cases hf
 | nil => intro off hf; cases c <;> cases hf
 | mu e ih => intro off hf; cases c <;> cases hf
 | cons p q ihp ihq =>
  intro off hf
  rw [fitD_cons] at hf
  split at hf
  ·exact ihp off hf
  ·exact ihq _ hf
theorem putD_cons (p q : Ty) (off : Nat) (c : CV) (x : (Ty.cons p q).den) : putD (.cons p q) off c x = match Nat.blt off p.n with | true => (putD p off c x.1, x.2) | false => (x.1, putD q (off - p.n) c x.2) := rfl
theorem fitD_lt {c : CV} : ∀ (T : Ty) (off : Nat), fitD T off c = true → off < T.n := by
 intro T
 induction T with
 | int k =>
  intro off hf
  cases c <;> first | (cases hf; done) | skip
  simp only [fitD, Bool.and_eq_true, decide_eq_true_eq] at hf
  have := beq_of hf.1; subst this; simp [Ty.n]
 | bool =>
  intro off hf
  cases c <;> first | (cases hf; done) | skip
  have := beq_of hf; subst this; simp [Ty.n]
 | str =>
  intro off hf
  cases c <;> first | (cases hf; done) | skip
  have := beq_of hf; subst this; simp [Ty.n]
 | flt => intro off hf; cases c <;> cases hf
 | pt => intro off hf; cases c <;> cases hf
 | sl e ih => intro off hf; cases c <;> cases hf
 | nil => intro off hf; cases c <;> cases hf
 | mu e ih => intro off hf; cases c <;> cases hf
 | cons p q ihp ihq =>
  intro off hf
  rw [fitD_cons] at hf
  split at hf
  ·have := ihp off hf; simp only [Ty.n]; omega
  ·rename_i hlt
   have hge : ¬ off < p.n := fun h => by have : Nat.blt off p.n = true := Nat.ble_eq_true_of_le h; rw [hlt] at this; cases this
   have := ihq _ hf; simp only [Ty.n]; omega
theorem putD_ok {M : Mem} {h h' : Array Obj} {b : Nat} {c : CV} {v : Value} (hv : VR M c v) : ∀ (T : Ty) (off : Nat) (x : T.den) (o : Nat), T.flat = true → fitD T off c = true → ElR (fun _ _ => True) h T x b o →
  (∀ j, j < T.n → j ≠ off → cellAt h' b (o + j) = cellAt h b (o + j)) → cellAt h' b (o + off) = some v → ElR (fun _ _ => True) h' T (putD T off c x) b o := by
 intro T
 induction T with
 | int k =>
  intro off x o _ hf hh ho hn
  cases c <;> first | (cases hf; done) | skip
  rename_i k' n
  simp only [fitD, Bool.and_eq_true, decide_eq_true_eq] at hf
  obtain ⟨h0, rfl⟩ := hf
  have := beq_of h0; subst this
  simp only [VR] at hv; subst hv
  exact ⟨trivial, hn⟩
 | bool =>
  intro off x o _ hf hh ho hn
  cases c <;> first | (cases hf; done) | skip
  have := beq_of hf; subst this
  simp only [VR] at hv; subst hv
  exact ⟨trivial, hn⟩
 | str =>
  intro off x o _ hf hh ho hn
  cases c <;> first | (cases hf; done) | skip
  have := beq_of hf; subst this
  simp only [VR] at hv; subst hv
  exact ⟨trivial, hn⟩
 | flt => intro off x o _ hf; cases c <;> cases hf
 | pt => intro off x o _ hf; cases c <;> cases hf
 | sl e ih => intro off x o hl; cases hl
 | nil => intro off x o _ hf; cases c <;> cases hf
 | mu e ih => intro off x o hl; cases hl
 | cons p q ihp ihq =>
  intro off x o hfl hf hh ho hn
  simp only [Ty.flat] at hfl
  have hfp : p.flat = true := by cases hx : p.flat with | true => rfl | false => rw [hx] at hfl; cases hfl
  rw [hfp] at hfl
  have hfq : q.flat = true := hfl
  cases hlt : Nat.blt off p.n with
  | true =>
   have hlt' : off < p.n := Nat.le_of_ble_eq_true hlt
   have hf : fitD p off c = true := by rw [fitD_cons, hlt] at hf; exact hf
   have e : putD (.cons p q) off c x = (putD p off c x.1, x.2) := by rw [putD_cons, hlt]
   rw [e]
   have k1 := ihp off x.1 o hfp hf hh.1 (fun j hj hne => ho j (by simp only [Ty.n]; omega) hne) hn
   refine ⟨k1, ElR.moveF q _ b _ b _ hfq hh.2 (fun _ _ => trivial) (fun j hj => ?_)⟩
   rw [Nat.add_assoc]; exact ho (p.n + j) (by simp only [Ty.n]; omega) (by omega)
  | false =>
   have hge : ¬ off < p.n := fun h => by have : Nat.blt off p.n = true := Nat.ble_eq_true_of_le h; rw [hlt] at this; cases this
   have hf : fitD q (off - p.n) c = true := by rw [fitD_cons, hlt] at hf; exact hf
   have e : putD (.cons p q) off c x = (x.1, putD q (off - p.n) c x.2) := by rw [putD_cons, hlt]
   rw [e]
   have k1 := ihq (off - p.n) x.2 (o + p.n) hfq hf hh.2 (fun j hj hne => by rw [Nat.add_assoc]; exact ho (p.n + j) (by simp only [Ty.n]; omega) (by omega)) (by rw [show o + p.n + (off - p.n) = o + off by omega]; exact hn)
   refine ⟨ElR.moveF p _ b _ b _ hfp hh.1 (fun _ _ => trivial) (fun j hj => ?_), k1⟩
   exact ho j (by simp only [Ty.n]; omega) (by omega)
theorem op_store_mu (htt : TTok P tt) (ok : MOK B M) (hgo : M.go = lk obj) (hE : RelE M env a.tmps) (hw : w.heap = M.h) {t : Nat} {ad y : Operand} (hop : o.op = .store t ad y) {s : Stp}
  {Γ : Gam} (h : step tt Γ env (lk obj) o.dst (.store t ad y) = some s) {p v off : Nat} {i : Int} (hc : operand env ad = .mptr p v i off) (x : s.α) (hx : s.o = some x) (hro : ∀ d ∈ s.wr, ¬ B.ro d) (hk : Cont w B M obj s.cr (s.f x) a o.dst K) : o.wp P a w K Q := by
 have hv := operand_ok hE ad
 have hy := operand_ok hE y
 simp only [step] at h
 cases hd : lk tt t with
 | none => rw [hd] at h; cases h
 | some d =>
  rw [hd] at h; simp only [] at h
  have td := htt t d hd
  rw [hc] at h hv; simp only [] at h
  simp only [VR] at hv
  split at h <;> first | (cases h; done) | skip
  rename_i v' t' e l hg
  unfold stMu at h
  split at h
  ·rename_i hcond
   injection h with h; subst h
   simp only [Bool.and_eq_true] at hcond
   obtain ⟨⟨⟨⟨c1, c2⟩, c3⟩, c4⟩, c5⟩ := hcond
   have hb1 := beq_of c1; subst hb1
   have hsz := beq_of c3
   rw [← hgo] at hg
   obtain ⟨_, hh⟩ := hv.2 _ _ _ _ hg
   obtain ⟨hn, h0, h1, he⟩ := hh rfl
   have h1 : i < (List.length (α := e.den) l : Int) := h1
   obtain ⟨hfl, hlc, hel, ⟨cs, f, hb, hcsz, hfz⟩, hS⟩ := mu_elem ok hg hn
   have e2 : (Ty.mu e).n = e.n := rfl
   rw [e2] at he
   have hil : i.toNat < List.length (α := e.den) l := by omega
   have hx : rdo l i = some x := hx
   simp only [rdo] at hx
   rw [if_pos h0] at hx
   have hex := hel i.toNat x hx
   -- the place
   obtain ⟨N, hN⟩ : ∃ N, N = (M.β p).off + i.toNat * e.n := ⟨_, rfl⟩
   rw [← hN] at he hex
   have hin : i.toNat * e.n + e.n ≤ (M.β p).cap * e.n := by
    have : (i.toNat + 1) * e.n ≤ (M.β p).cap * e.n := Nat.mul_le_mul_right _ (by omega)
    rw [Nat.add_mul] at this; omega
   have hcells : ∀ q, q < cs.size → cellAt M.h (M.β p).b q = cs[q]? := fun q hq => by unfold cellAt; rw [hb]
   have hoffn := fitD_lt e off c5
   obtain ⟨hvc, hv1⟩ := fitD_one hy e off c5
   have hcl : (a.eval y).cells.toList = [a.eval y] := by rw [hvc]
   have hcell : ∀ j, j < (a.eval y).cells.toList.length → (w.cell? ⟨(M.β p).b, N + off + 0 + j, none⟩).isSome = true := fun j hj => by
    rw [hcl] at hj
    have hj : j < 1 := hj
    rw [cell_eq, hw]; unfold cellAt; rw [hb]
    simp only []
    rw [Array.getElem?_eq_getElem (by omega)]; rfl
   have hfro : ∀ j, j < (a.eval y).cells.toList.length → w.frozen? ⟨(M.β p).b, N + off + 0 + j, none⟩ = false := fun j hj => by
    rw [hcl] at hj
    have hj : j < 1 := hj
    have := hfz (N + off + 0 + j) (.inl (by omega))
    obtain ⟨flo, fhi⟩ := f
    simp only [World.frozen?, hw, hb]
    simp only [Bool.and_eq_false_iff, decide_eq_false_iff_not]
    simp only [] at this
    omega
   have hones : ∀ v ∈ (a.eval y).cells.toList, v.oneCell' = true := fun v hv' => by
    rw [hcl, List.mem_singleton] at hv'; rw [hv']; exact hv1
   have hst := run_storeCells_cells (P := P) (M.β p).b (N + off) (a.eval y).cells.toList 0 w hcell hfro hones
   simp only [Nat.add_zero] at hst hcell
   obtain ⟨g1, g2, g3⟩ := setCells_heap (M.β p).b (a.eval y).cells.toList (N + off) w
   obtain ⟨cs', g4, g5⟩ := g3 cs t' f (by rw [hw]; exact hb)
   have hkeep : ∀ x, x ≠ N + off → cellAt (w.setCells (M.β p).b (N + off) (a.eval y).cells.toList).heap (M.β p).b x = cellAt M.h (M.β p).b x := fun x hx => by
    rw [← cell_eq, World.cell?_setCells_out (M.β p).b _ _ w ⟨(M.β p).b, x, none⟩ (fun _ _ => ?_), cell_eq, hw]
    rw [hcl]; show x < N + off ∨ N + off + 1 ≤ x; omega
   have hnew : cellAt (w.setCells (M.β p).b (N + off) (a.eval y).cells.toList).heap (M.β p).b (N + off) = some (a.eval y) := by
    have hq : 0 < (a.eval y).cells.toList.length := by rw [hcl]; exact Nat.one_pos
    have := World.cell?_setCells_in (M.β p).b (a.eval y).cells.toList (N + off) w hcell 0 hq
    rw [Nat.add_zero, cell_eq] at this
    rw [this]; congr 1
    simp only [hcl]; rfl
   have hput := putD_ok (h := M.h) (h' := (w.setCells (M.β p).b (N + off) (a.eval y).cells.toList).heap) (b := (M.β p).b) hy e off x N c2 c5 hex (fun j hj hne => hkeep _ (by omega)) hnew
   have hset := store_or (e := e) (z := putD e off (operand env y) x) (l := l) (h' := (w.setCells (M.β p).b (N + off) (a.eval y).cells.toList).heap) (go' := lk ((p, .row v t' (.mu e) (l.set i.toNat (putD e off (operand env y) x))) :: obj)) hn hfl hlc hel hS hil g4 (by omega) hfz (by rw [← hN]; exact hput) (fun z hz => hkeep z (by rw [← hN] at hz; omega)) (ver := v) (t := t')
   have hsc := ok.setRow (d := p) (t := t') (v := v) (T := .mu e) (l := l) (l' := l.set i.toNat (putD e off (operand env y) x)) (h' := (w.setCells (M.β p).b (N + off) (a.eval y).cells.toList).heap)
    (go' := lk ((p, .row v t' (.mu e) (l.set i.toNat (putD e off (operand env y) x))) :: obj)) (hro p (by simp)) rfl hn hg (fun q => by rw [lk_cons, hgo]) List.length_set (fun b hne => by rw [g2 b hne, hw]) (by rw [g1, hw]) hset
   refine wp_skip' (w' := w.setCells (M.β p).b (N + off) (a.eval y).cells.toList) ?_ (hk _ _ _ (setCells_outer _ _ _ _) rfl hsc.1 hsc.2 ?_ rfl (fun _ h => .inr h))
   ·have hsz2 : (a.eval y).cells.size = d.size := by rw [hsz, hvc]; rfl
    simp only [execOp, hop, he, Instr.storeAt, Instr.sureAddr, storeVar, Sem.run_bind, Sem.run_pure, Result.andThen_ok, td.size_run, hsz2, ne_eq, not_true_eq_false, if_false, hst]
   ·simp [VR]
  split at h <;> first | (cases h; done) | skip
  rename_i hcond
  split at h <;> first | (cases h; done) | skip
  rename_i z hof
  injection h with h; subst h
  simp only [Bool.and_eq_true] at hcond
  obtain ⟨⟨⟨⟨c1, c2⟩, c3⟩, c4⟩, c5⟩ := hcond
  have hb1 := beq_of c1; subst hb1
  have hb3 := beq_of c3; subst hb3
  have hsz := beq_of c4
  rw [← hgo] at hg hof c5
  obtain ⟨_, hh⟩ := hv.2 _ _ _ _ hg
  obtain ⟨hn, h0, h1, he⟩ := hh rfl
  have h1 : i < (List.length (α := e.den) l : Int) := h1
  obtain ⟨hfl, hlc, hel, ⟨cs, f, hb, hcsz, hfz⟩, hS⟩ := mu_elem ok hg hn
  have hyc := hy.cells c5
  have hones := hyc.ones c5
  obtain ⟨v1, v2, e1, n1, k1, m1⟩ := ofC_ok ok e _ [] z _ hof hyc
  simp only [VRL] at k1
  subst k1
  rw [List.append_nil] at e1
  have e2 : (Ty.mu e).n = e.n := rfl
  rw [e2, Nat.add_zero] at he
  have hil : i.toNat < List.length (α := e.den) l := by omega
  have hin : i.toNat * e.n + e.n ≤ (M.β p).cap * e.n := by
   have : (i.toNat + 1) * e.n ≤ (M.β p).cap * e.n := Nat.mul_le_mul_right _ (by omega)
   rw [Nat.add_mul] at this; omega
  have hvl : (a.eval y).cells.toList.length = e.n := by rw [e1]; exact n1
  have hcell : ∀ j, j < (a.eval y).cells.toList.length → (w.cell? ⟨(M.β p).b, (M.β p).off + i.toNat * e.n + 0 + j, none⟩).isSome = true := fun j hj => by
   rw [cell_eq, hw]; unfold cellAt; rw [hb]
   simp only []
   rw [Array.getElem?_eq_getElem (by omega)]; rfl
  have hfro : ∀ j, j < (a.eval y).cells.toList.length → w.frozen? ⟨(M.β p).b, (M.β p).off + i.toNat * e.n + 0 + j, none⟩ = false := fun j hj => by
   have := hfz ((M.β p).off + i.toNat * e.n + 0 + j) (.inl (by omega))
   obtain ⟨flo, fhi⟩ := f
   simp only [World.frozen?, hw, hb]
   simp only [Bool.and_eq_false_iff, decide_eq_false_iff_not]
   simp only [] at this
   omega
  have hst := run_storeCells_cells (P := P) (M.β p).b ((M.β p).off + i.toNat * e.n) (a.eval y).cells.toList 0 w hcell hfro hones
  simp only [Nat.add_zero] at hst hcell
  obtain ⟨g1, g2, g3⟩ := setCells_heap (M.β p).b (a.eval y).cells.toList ((M.β p).off + i.toNat * e.n) w
  obtain ⟨cs', g4, g5⟩ := g3 cs t' f (by rw [hw]; exact hb)
  have hset := store_or (e := e) (z := z) (l := l) (h' := (w.setCells (M.β p).b ((M.β p).off + i.toNat * e.n) (a.eval y).cells.toList).heap) (go' := lk ((p, .row v t' (.mu e) (l.set i.toNat z)) :: obj)) hn hfl hlc hel hS hil g4 (by omega) hfz (by
   refine m1 (fun _ _ => True) _ _ _ (fun _ _ _ => trivial) (fun b x hx => ?_) (fun _ _ => trivial) (fun q u hq => ?_)
   ·rw [← cell_eq, World.cell?_setCells_out (M.β p).b _ _ w ⟨b, x, none⟩ (fun hbb _ => absurd (hbb ▸ hx) (hS x)), cell_eq, hw]
   ·have hq2 : q < (a.eval y).cells.toList.length := by rw [e1]; exact (List.getElem?_eq_some_iff.mp hq).1
    rw [← cell_eq, World.cell?_setCells_in (M.β p).b _ _ w hcell q hq2]
    have hq3 : (a.eval y).cells.toList[q]? = some u := by rw [e1]; exact hq
    rw [List.getElem?_eq_getElem hq2] at hq3; exact hq3) (fun x hx => by
    rw [← cell_eq, World.cell?_setCells_out (M.β p).b _ _ w ⟨(M.β p).b, x, none⟩ (fun _ _ => ?_), cell_eq, hw]
    rw [hvl]; exact hx) (ver := v) (t := t')
  have hsc := ok.setRow (d := p) (t := t') (v := v) (T := .mu e) (l := l) (l' := l.set i.toNat z) (h' := (w.setCells (M.β p).b ((M.β p).off + i.toNat * e.n) (a.eval y).cells.toList).heap)
   (go' := lk ((p, .row v t' (.mu e) (l.set i.toNat z)) :: obj)) (hro p (by simp)) rfl hn hg (fun q => by rw [lk_cons, hgo]) List.length_set (fun b hne => by rw [g2 b hne, hw]) (by rw [g1, hw]) hset
  refine wp_skip' (w' := w.setCells (M.β p).b ((M.β p).off + i.toNat * e.n) (a.eval y).cells.toList) ?_ (hk _ _ _ (setCells_outer _ _ _ _) rfl hsc.1 hsc.2 ?_ rfl (fun _ h => .inr h))
  ·have hsz2 : (a.eval y).cells.size = d.size := by rw [hsz, ← hvl]; simp
   simp only [execOp, hop, he, Instr.storeAt, Instr.sureAddr, storeVar, Sem.run_bind, Sem.run_pure, Result.andThen_ok, td.size_run, hsz2, ne_eq, not_true_eq_false, if_false, hst]
  ·simp [VR]
end
end Go.Proofs.Ytcjiipbppkdkaaa.Eng
