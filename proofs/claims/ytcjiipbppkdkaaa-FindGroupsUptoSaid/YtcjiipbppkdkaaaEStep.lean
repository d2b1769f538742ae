/- The engine, part 4: one operation of the evaluator is what the program's operation does. -/
import Derived.Test.YtcjiipbppkdkaaaEMem
import Derived.Laws.Entries
import Derived.Laws.Cells
import Derived.Laws.CopyRow
import Derived.Laws.Append
import Derived.ChangeKeysEq
namespace Go.Proofs.Ytcjiipbppkdkaaa.Eng
open Go
set_option linter.unusedVariables false
set_option linter.unusedSimpArgs false
structure TDok (P : Program) (t : Nat) (d : TD) : Prop where
  info : ∃ i z, P.info? t = some i ∧ i.size = d.size ∧ i.bytes = d.bytes ∧ i.zero = some z ∧ z.cells.size = d.size ∧ ∀ M, VRL M d.zero z.cells.toList
  agg : ∀ w, (isAgg t).run P w = .ok d.agg w
  st : ∀ fs, d.kind = .struct fs → ∃ F : Array Field, P.underlying t = some (.struct F) ∧ (∀ i off ft n, nth fs i = some (off, ft, n) → ∃ f, F[i]? = some f ∧ f.offset = off ∧ f.type = ft ∧ (P.info? ft).map (·.size) = some n ∧ 0 < n) ∧
    F.toList.mapM (fun f => (P.info? f.type).map fun i => (f.offset, i.size)) = some (fs.map fun x => (x.1, x.2.2))
  und : ∃ u, P.underlying t = some u
  slice : ∀ e, d.kind = .slice e → P.underlying t = some (.slice e)
  int : ∀ k, d.kind = .int k → P.underlying t = some (.int k)
  str : d.kind = .str → P.underlying t = some .string
  bool : d.kind = .bool → P.underlying t = some .bool
  flt : d.kind = .flt → P.underlying t = some (.float .f64)
  ptr : ∀ e, d.kind = .ptr e → P.underlying t = some (.pointer e)
  arr : ∀ n e, d.kind = .array n e → P.underlying t = some (.array n e)
  map : ∀ k e, d.kind = .map k e → P.underlying t = some (.map k e)
  strz : d.kind = .str → ∃ i, P.info? t = some i ∧ i.zero = some (.string ByteArray.empty)
  cmp : d.cmp = true → ∀ (M : Mem) (l l' : List CV) (r : Bool) (vs vs' : Array Value) (w : World), sameK d.zero l = true → eqC l l' = some r → VRL M l vs.toList → VRL M l' vs'.toList →
    (Op.equal t (.agg vs) (.agg vs')).run P w = .ok r w ∧ ∀ op x y, (eqGuard op t x y (.agg vs) (.agg vs')).run P w = .ok () w
def TTok (P : Program) (tt : TT) : Prop := ∀ t d, lk tt t = some d → TDok P t d
section
variable {P : Program} {B : Base} {M : Mem} {obj : List (Nat × Ob)} {a : Act} {w : World} {o : Oper} {K : Act → World → Prop} {Q : Exit → Act → World → Prop}
def Cont (w : World) (B : Base) (M : Mem) (obj : List (Nat × Ob)) (cr : List Nat) (d : Dl) (a : Act) (dst : Option Nat) (K : Act → World → Prop) : Prop :=
  ∀ v w' M', Outer w w' → w'.heap = M'.h → MOK B M' → Ext M M' → VR M' d.v v → M'.go = lk (upO d.up obj) → (∀ i, M'.U i → i ∈ cr ∨ M.U i) → K (a.put dst v) w'
theorem wp_value {v : Value} {w' : World} (h : (execOp a.eval o).run P w = .ok (.value v) w') (hk : K (a.put o.dst v) w') : o.wp P a w K Q := by
  unfold Oper.wp; rw [h]; exact hk
theorem wp_skip' {w' : World} (h : (execOp a.eval o).run P w = .ok .skip w') (hk : K (a.put o.dst undef) w') : o.wp P a w K Q := by
  unfold Oper.wp; rw [h]; exact hk
theorem wp_same {v : Value} {w' : World} {cr : List Nat} {d : Dl} (h : (execOp a.eval o).run P w = .ok (.value v) w') (hw : w'.heap = M.h) (ok : MOK B M) (hgo : M.go = lk obj)
    (hv : VR M d.v v) (hu : d.up = []) (hk : Cont w B M obj cr d a o.dst K) (ho : Outer w w' := by exact Outer.rfl) : o.wp P a w K Q :=
  wp_value h (hk v w' M ho hw ok (Ext.refl M) hv (by rw [hu]; exact hgo) (fun _ h => .inr h))
-- what a value of a known form is
theorem VR.int {k : IntKind} {n : Int} {v : Value} (h : VR M (.int k n) v) : v = .int k n := by simpa [VR] using h
theorem VR.bool {b : Bool} {v : Value} (h : VR M (.bool b) v) : v = .bool b := by simpa [VR] using h
theorem VR.str {s : ByteArray} {v : Value} (h : VR M (.str s) v) : v = .string s := by simpa [VR] using h
theorem VR.flt {n : Nat} {v : Value} (h : VR M (.flt n) v) : ∃ b, v = .float .f64 b ∧ fcan b = n := by simpa [VR, FR] using h
theorem VR.nilp {v : Value} (h : VR M .nilp v) : v = .pointer none := by simpa [VR] using h
theorem VR.nils {v : Value} (h : VR M .nils v) : v = .slice none 0 0 := by simpa [VR] using h
theorem VR.fn {f : Nat} {v : Value} (h : VR M (.fn f) v) : v = .func (.func f) #[] #[] := by simpa [VR] using h
theorem ite_eq_some {α : Type} {c : Prop} [Decidable c] {x y : α} (h : (if c then some x else none) = some y) : c ∧ x = y := by
  split at h
  · injection h with h; exact ⟨by assumption, h⟩
  · cases h
theorem ck_some {b : Bool} {x : Unit} (h : ck b = some x) : b = true := by cases b <;> simp [ck] at h ⊢
def cvVal : CV → Value
  | .int k n => .int k n
  | .bool b => .bool b
  | .str s => .string s
  | _ => undef
def CV.sc : CV → Bool
  | .int _ _ => true
  | .bool _ => true
  | .str _ => true
  | _ => false
theorem VR.of_sc {c : CV} (h : c.sc = true) (M : Mem) : VR M c (cvVal c) := by cases c <;> simp [CV.sc, cvVal, VR] at h ⊢
structure ScRun (P : Program) (e : Sem Value) (s : Stp) (u : s.α) (w : World) : Prop where
  run : e.run P w = .ok (cvVal (s.f u).v) w
  sc : (s.f u).v.sc = true
  up : (s.f u).up = []
theorem run_intBin {k : IntKind} {x y : Int} {op : BinOp} {s : Stp} (t : TypeId) (h : intBin op k x y = some s) (u : s.α) (hu : s.o = some u) (w : World) :
    ScRun P (binOp op t (.int k x) (.int k y)) s u w := by
  cases op <;> simp only [intBin] at h <;> first | (cases h; done) | skip
  all_goals (injection h with h; subst h)
  all_goals first
    | (have hb := ck_some (b := !decide (y = 0)) hu
       have hy : ¬ y = 0 := by simpa using hb
       exact ⟨by simp [binOp, Op.intDiv, hy, cvVal, Stp.if], rfl, rfl⟩)
    | exact ⟨by simp [binOp, Op.intArith, Op.intBits, Op.intCmp, cvVal, Stp.val], rfl, rfl⟩
theorem run_strBin {x y : ByteArray} {op : BinOp} {s : Stp} (t : TypeId) (h : strBin op x y = some s) (u : s.α) (hu : s.o = some u) (w : World) :
    ScRun P (binOp op t (.string x) (.string y)) s u w := by
  cases op <;> simp only [strBin] at h <;> first | (cases h; done) | skip
  all_goals (injection h with h; subst h)
  all_goals first
    | (have hb := ck_some (b := decide (x.size + y.size ≤ 9223372036854775807)) hu
       have hy : x.size + y.size ≤ 9223372036854775807 := by simpa using hb
       refine ⟨?_, rfl, rfl⟩
       simp only [binOp, Op.stringOp]
       rw [if_neg (by simp [IntKind.max, IntKind.signed, IntKind.bits]; omega)]; rfl)
    | exact ⟨by simp [binOp, Op.stringOp, cvVal, Stp.val], rfl, rfl⟩
theorem run_shift {tt : TT} {t' : Nat} {k k' : IntKind} {x y : Int} {op : BinOp} {s : Stp} (t : TypeId) (hop : op = .shl ∨ op = .shr) (h : bin tt op t' (.int k x) (.int k' y) = some s) (u : s.α) (hu : s.o = some u) (w : World) :
    ScRun P (binOp op t (.int k x) (.int k' y)) s u w := by
  rcases hop with rfl | rfl <;> simp only [bin] at h <;> (injection h with h; subst h)
  all_goals
    have hb := ck_some (b := !decide (y < 0)) hu
    have hy : ¬ y < 0 := by simpa using hb
    exact ⟨by simp [binOp, Op.shift, hy, cvVal, Stp.if], rfl, rfl⟩
theorem run_eqRes {op : BinOp} {r : Bool} {s : Stp} (t : TypeId) {x y : Value} (h : eqRes op r = some s) (u : s.α) (hu : s.o = some u) (w : World)
    (h1 : (binOp .eql t x y).run P w = .ok (.bool r) w) (h2 : (binOp .neq t x y).run P w = .ok (.bool (!r)) w) : ScRun P (binOp op t x y) s u w := by
  cases op <;> simp only [eqRes] at h <;> first | (cases h; done) | skip
  all_goals (injection h with h; subst h)
  · exact ⟨h1, rfl, rfl⟩
  · exact ⟨h2, rfl, rfl⟩
theorem kindOf_some {tt : TT} {t : Nat} {k : TK} (h : kindOf tt t = some k) : ∃ d, lk tt t = some d ∧ d.kind = k := by
  unfold kindOf at h
  cases hl : lk tt t with
  | none => rw [hl] at h; cases h
  | some d => rw [hl] at h; injection h with h; exact ⟨d, rfl, h⟩
def vEq : Value → Value → Bool
  | .bool _, .bool _ => true
  | .pointer _, .pointer _ => true
  | .map _, .map _ => true
  | .slice _ _ _, .slice _ _ _ => true
  | .agg _, .agg _ => true
  | _, _ => false
theorem eqIn_bool (d : Nat) (t : TypeId) (a b : Bool) (h : P.underlying t = some .bool) (w : World) : (Op.equalIn (d + 1) t (.bool a) (.bool b)).run P w = .ok (a == b) w := by simp [Op.equalIn, run_underlying h]
theorem eq_bool (t : TypeId) (a b : Bool) (h : P.underlying t = some .bool) (w : World) : (Op.equal t (.bool a) (.bool b)).run P w = .ok (a == b) w := eqIn_bool 9999 t a b h w
theorem eqIn_ptr (d : Nat) (t e : TypeId) (a : Option Addr) (h : P.underlying t = some (.pointer e)) (w : World) : (Op.equalIn (d + 1) t (.pointer a) (.pointer none)).run P w = .ok a.isNone w := by
  cases a <;> simp [Op.equalIn, run_underlying h]
theorem eq_ptr (t e : TypeId) (a : Option Addr) (h : P.underlying t = some (.pointer e)) (w : World) : (Op.equal t (.pointer a) (.pointer none)).run P w = .ok a.isNone w := eqIn_ptr 9999 t e a h w
theorem eqIn_map (d : Nat) (t k e : TypeId) (a : Option Nat) (h : P.underlying t = some (.map k e)) (w : World) : (Op.equalIn (d + 1) t (.map a) (.map none)).run P w = .ok a.isNone w := by
  cases a <;> simp [Op.equalIn, run_underlying h]
theorem eq_map (t k e : TypeId) (a : Option Nat) (h : P.underlying t = some (.map k e)) (w : World) : (Op.equal t (.map a) (.map none)).run P w = .ok a.isNone w := eqIn_map 9999 t k e a h w
theorem eqIn_slice (d : Nat) (t e : TypeId) (a : Option Addr) (n c : Nat) (h : P.underlying t = some (.slice e)) (w : World) : (Op.equalIn (d + 1) t (.slice a n c) (.slice none 0 0)).run P w = .ok a.isNone w := by
  cases a <;> simp [Op.equalIn, run_underlying h]
theorem eq_slice (t e : TypeId) (a : Option Addr) (n c : Nat) (h : P.underlying t = some (.slice e)) (w : World) : (Op.equal t (.slice a n c) (.slice none 0 0)).run P w = .ok a.isNone w := eqIn_slice 9999 t e a n c h w
theorem binOp_eql (t : TypeId) (x y : Value) (r : Bool) (h : vEq x y = true) (w : World) (hr : (Op.equal t x y).run P w = .ok r w) : (binOp .eql t x y).run P w = .ok (.bool r) w ∧ (binOp .neq t x y).run P w = .ok (.bool (!r)) w := by
  cases x <;> cases y <;> first | (cases h; done) | (simp only [binOp, Sem.run_bind, hr, Result.andThen_ok, Sem.run_pure]; exact ⟨trivial, trivial⟩)
def _root_.Go.Value.plain' : Value → Bool
  | .agg _ => false
  | .nilIface => false
  | _ => true
theorem eqGuard_plain (op : BinOp) (t : TypeId) (X Y : Operand) (vx vy : Value) (h : vx.plain' = true) (w : World) : (eqGuard op t X Y vx vy).run P w = .ok () w := by
  cases vx <;> first | (cases h; done) | (cases op <;> rfl)
structure BinRun (P : Program) (e : Sem Value) (s : Stp) (u : s.α) (w : World) : Prop where
  run : ∃ v w', e.run P w = .ok v w' ∧ Outer w w' ∧ w'.heap = w.heap ∧ ∀ M, VR M (s.f u).v v
  up : (s.f u).up = []
theorem ScRun.bin {e : Sem Value} {s : Stp} {u : s.α} {w : World} (h : ScRun P e s u w) : BinRun P e s u w := ⟨⟨_, w, h.run, .rfl, rfl, fun M => VR.of_sc h.sc M⟩, h.up⟩
-- floats: what is no number is one
theorem fnan_iff (b : Nat) : fnan b = true ↔ 9218868437227405312 < b % 9223372036854775808 := by unfold fnan; rw [Nat.blt_eq]
theorem fnan_not {b : Nat} (h : fnan b = false) : b % 9223372036854775808 ≤ 9218868437227405312 := by
  apply Nat.le_of_not_lt; intro hh; rw [(fnan_iff b).2 hh] at h; cases h
theorem nan_read {b : Nat} (h : fnan b = true) : (Ieee.double.read b).isNaN = true := by
  have h := (fnan_iff b).1 h
  unfold Ieee.Format.read
  have e1 : Ieee.double.signWeight = 9223372036854775808 := by decide
  have e2 : Ieee.double.binade = 4503599627370496 := by decide
  have e3 : Ieee.double.infRung = 9218868437227405312 := by decide
  simp only [e1, e2, e3]
  rw [if_neg (by omega), if_neg (by omega), if_neg (by omega)]; rfl
theorem nan_quiet : (Ieee.double.read 9221120237041090561).isNaN = true := by decide
theorem nan_order {d : Ieee.Datum} (h : d.isNaN = true) (y : Ieee.Datum) : d.order y = none ∧ y.order d = none := by
  cases d <;> first | (cases h; done) | skip
  exact ⟨by cases y <;> rfl, by cases y <;> rfl⟩
theorem nan_sum {d : Ieee.Datum} (h : d.isNaN = true) (y : Ieee.Datum) : d.sum y = none ∧ y.sum d = none ∧ y.sum d.opposite = none := by
  cases d <;> first | (cases h; done) | skip
  exact ⟨by cases y <;> rfl, by cases y <;> rfl, by cases y <;> rfl⟩
theorem nan_product {d : Ieee.Datum} (h : d.isNaN = true) (y : Ieee.Datum) : d.product y = none ∧ y.product d = none := by
  cases d <;> first | (cases h; done) | skip
  exact ⟨by cases y <;> rfl, by cases y <;> rfl⟩
theorem nan_quotient {d : Ieee.Datum} (h : d.isNaN = true) (n : Nat) (y : Ieee.Datum) : d.quotient n y = none ∧ y.quotient n d = none := by
  cases d <;> first | (cases h; done) | skip
  exact ⟨by cases y <;> rfl, by cases y <;> rfl⟩
theorem fcan_cases (b : Nat) : fcan b = b ∨ ((Ieee.double.read b).isNaN = true ∧ (Ieee.double.read (fcan b)).isNaN = true) := by
  unfold fcan
  cases h : fnan b with
  | true => exact .inr ⟨nan_read h, nan_quiet⟩
  | false => exact .inl rfl
theorem order_fcan (a b : Nat) : Ieee.double.order (fcan a) (fcan b) = Ieee.double.order a b := by
  unfold Ieee.Format.order
  rcases fcan_cases a with h | ⟨h1, h2⟩
  · rw [h]
    rcases fcan_cases b with h | ⟨h1, h2⟩
    · rw [h]
    · rw [(nan_order h1 _).2, (nan_order h2 _).2]
  · rw [(nan_order h1 _).1, (nan_order h2 _).1]
theorem add_fcan (a b : Nat) : Ieee.double.add (fcan a) (fcan b) = Ieee.double.add a b := by
  unfold Ieee.Format.add
  rcases fcan_cases a with h | ⟨h1, h2⟩
  · rw [h]
    rcases fcan_cases b with h | ⟨h1, h2⟩
    · rw [h]
    · rw [(nan_sum h1 _).2.1, (nan_sum h2 _).2.1]
  · rw [(nan_sum h1 _).1, (nan_sum h2 _).1]
theorem sub_fcan (a b : Nat) : Ieee.double.sub (fcan a) (fcan b) = Ieee.double.sub a b := by
  unfold Ieee.Format.sub
  rcases fcan_cases a with h | ⟨h1, h2⟩
  · rw [h]
    rcases fcan_cases b with h | ⟨h1, h2⟩
    · rw [h]
    · rw [(nan_sum h1 _).2.2, (nan_sum h2 _).2.2]
  · rw [(nan_sum h1 _).1, (nan_sum h2 _).1]
theorem mul_fcan (a b : Nat) : Ieee.double.mul (fcan a) (fcan b) = Ieee.double.mul a b := by
  unfold Ieee.Format.mul
  rcases fcan_cases a with h | ⟨h1, h2⟩
  · rw [h]
    rcases fcan_cases b with h | ⟨h1, h2⟩
    · rw [h]
    · rw [(nan_product h1 _).2, (nan_product h2 _).2]
  · rw [(nan_product h1 _).1, (nan_product h2 _).1]
theorem div_fcan (a b : Nat) : Ieee.double.div (fcan a) (fcan b) = Ieee.double.div a b := by
  unfold Ieee.Format.div
  rcases fcan_cases a with h | ⟨h1, h2⟩
  · rw [h]
    rcases fcan_cases b with h | ⟨h1, h2⟩
    · rw [h]
    · rw [(nan_quotient h1 _ _).2, (nan_quotient h2 _ _).2]
  · rw [(nan_quotient h1 _ _).1, (nan_quotient h2 _ _).1]
theorem fcan_quiet (r : Nat) (h : (Ieee.double.read r).isNaN = true) : fcan r = 9221120237041090561 := by
  unfold fcan
  cases hn : fnan r with
  | true => rfl
  | false =>
    exfalso
    have hn := fnan_not hn
    unfold Ieee.Format.read at h
    have e1 : Ieee.double.signWeight = 9223372036854775808 := by decide
    have e2 : Ieee.double.binade = 4503599627370496 := by decide
    have e3 : Ieee.double.infRung = 9218868437227405312 := by decide
    simp only [e1, e2, e3] at h
    split at h
    · cases h
    · split at h
      · cases h
      · split at h
        · cases h
        · omega
theorem nan_cut' (s r : Nat) (hr : r < 4503599627370495) : 9218868437227405312 < (s * 9223372036854775808 + 9218868437227405312 + 1 + r) % 9223372036854775808 := by
  have e : s * 9223372036854775808 + 9218868437227405312 + 1 + r = 9223372036854775808 * s + (9218868437227405312 + 1 + r) := by omega
  rw [e, Nat.mul_add_mod, Nat.mod_eq_of_lt (by omega)]; omega
theorem cut1 (x y t : Nat) : (Question.nanBits .f64 x y).cut t = (t % 2) * 2 ^ 63 + 0x7ff0000000000000 + 1 + (t / 2) % (2 ^ 52 - 1) := rfl
theorem cut2 (t : Nat) : (t % 2) * 2 ^ 63 + 0x7ff0000000000000 + 1 + (t / 2) % (2 ^ 52 - 1) = (t % 2) * 9223372036854775808 + 9218868437227405312 + 1 + t / 2 % 4503599627370495 := by
  rw [show (2 ^ 63 : Nat) = 9223372036854775808 by decide, show (2 ^ 52 - 1 : Nat) = 4503599627370495 by decide]
theorem cut3 (t : Nat) : t / 2 % 4503599627370495 < 4503599627370495 := Nat.mod_lt _ (by decide)
theorem fcan_of {b : Nat} (h : fnan b = true) : fcan b = 9221120237041090561 := by unfold fcan; rw [h]
theorem cut4 (t : Nat) : 9218868437227405312 < (t % 2 * 9223372036854775808 + 9218868437227405312 + 1 + t / 2 % 4503599627370495) % 9223372036854775808 := nan_cut' (t % 2) _ (cut3 t)
theorem cut5 (t b : Nat) (hb : b = (t % 2) * 9223372036854775808 + 9218868437227405312 + 1 + t / 2 % 4503599627370495) : fcan b = 9221120237041090561 := by
  apply fcan_of; rw [fnan_iff, hb]; exact cut4 t
theorem nan_cut (x y t : Nat) : fcan ((Question.nanBits .f64 x y).cut t) = 9221120237041090561 := cut5 t _ ((cut1 x y t).trans (cut2 t))
theorem run_arith {op : BinOp} {x y : Nat} (t : TypeId) (hop : op = .add ∨ op = .sub ∨ op = .mul ∨ op = .quo) {res : Option Nat} (hr : floatBits op .f64 x y = res) (w : World) :
    ∃ v w', (binOp op t (.float .f64 x) (.float .f64 y)).run P w = .ok v w' ∧ Outer w w' ∧ w'.heap = w.heap ∧ ∀ M, VR M (.flt (fres res)) v := by
  cases res with
  | some r => exact ⟨_, w, run_float_arith w op t .f64 x y r hr, .rfl, rfl, fun M => by simp only [VR]; exact ⟨r, rfl, rfl⟩⟩
  | none =>
    have e : (binOp op t (.float .f64 x) (.float .f64 y)).run P w = .ok (.float .f64 ((Question.nanBits .f64 x y).cut (w.tape w.drawn (.nanBits .f64 x y)))) w.drew := by
      unfold floatBits at hr
      rcases hop with rfl | rfl | rfl | rfl <;> simp only at hr <;> simp [binOp, Op.floatArith, hr, Question.forced]
    exact ⟨_, _, e, ⟨rfl, rfl, rfl⟩, rfl, fun M => by simp only [VR]; exact ⟨_, rfl, nan_cut _ _ _⟩⟩
theorem run_fltBin {x y a b : Nat} (hx : fcan x = a) (hy : fcan y = b) {op : BinOp} {s : Stp} (t : TypeId) (h : fltBin op a b = some s) (u : s.α) (hu : s.o = some u) (w : World) :
    BinRun P (binOp op t (.float .f64 x) (.float .f64 y)) s u w := by
  have ho := order_fcan x y
  have ha := add_fcan x y
  have hs := sub_fcan x y
  have hm := mul_fcan x y
  have hq := div_fcan x y
  rw [hx, hy] at ho ha hs hm hq
  have cmp : ∀ (r : Bool), (binOp op t (.float .f64 x) (.float .f64 y)).run P w = .ok (.bool r) w → s = .val (.bool r) → BinRun P (binOp op t (.float .f64 x) (.float .f64 y)) s u w := by
    intro r h1 h2
    subst h2
    exact ⟨⟨_, w, h1, .rfl, rfl, fun M => by simp [VR, Stp.val]⟩, rfl⟩
  cases op <;> simp only [fltBin] at h <;> first | (cases h; done) | skip
  case add => injection h with h; subst h; exact ⟨by simp only [Stp.val, fadd]; exact run_arith t (.inl rfl) (by simp only [floatBits]; exact ha.symm) w, rfl⟩
  case sub => injection h with h; subst h; exact ⟨by simp only [Stp.val, fsub]; exact run_arith t (.inr (.inl rfl)) (by simp only [floatBits]; exact hs.symm) w, rfl⟩
  case mul => injection h with h; subst h; exact ⟨by simp only [Stp.val, fmul]; exact run_arith t (.inr (.inr (.inl rfl))) (by simp only [floatBits]; exact hm.symm) w, rfl⟩
  case quo => injection h with h; subst h; exact ⟨by simp only [Stp.val, fdiv]; exact run_arith t (.inr (.inr (.inr rfl))) (by simp only [floatBits]; exact hq.symm) w, rfl⟩
  all_goals
    injection h with h
    refine cmp _ ?_ h.symm
    simp only [binOp, Op.floatCmp, FloatKind.format, feq, flt', fgt, ho]
    rfl
theorem run_bin {tt : TT} (htt : TTok P tt) {op : BinOp} {t : Nat} {x y : CV} {vx vy : Value} {s : Stp} (h : bin tt op t x y = some s) (u : s.α) (hu : s.o = some u) (hx : VR M x vx) (hy : VR M y vy)
    (ok : MOK B M) (X Y : Operand) (w : World) :
    BinRun P (do eqGuard op t X Y vx vy; binOp op t vx vy) s u w := by
  have finB : ∀ {vx vy : Value}, BinRun P (binOp op t vx vy) s u w → vx.plain' = true → BinRun P (do eqGuard op t X Y vx vy; binOp op t vx vy) s u w :=
    fun hs h1 => by
      obtain ⟨⟨v, w', r1, r2⟩, r3⟩ := hs
      exact ⟨⟨v, w', by simp only [Sem.run_bind, eqGuard_plain op t X Y _ _ h1 w, Result.andThen_ok]; exact r1, r2⟩, r3⟩
  have fin : ∀ {vx vy : Value}, ScRun P (binOp op t vx vy) s u w → vx.plain' = true → BinRun P (do eqGuard op t X Y vx vy; binOp op t vx vy) s u w :=
    fun hs h1 => finB hs.bin h1
  unfold bin at h
  split at h
  · rename_i k a k' b
    rw [hx.int, hy.int]
    refine fin ?_ rfl
    by_cases h1 : op = .shl ∨ op = .shr
    · exact run_shift (tt := tt) (t' := t) t h1 (by simp only [bin]; exact h) u hu w
    · have hk : (if k = k' then intBin op k a b else none) = some s := by
        cases op <;> first | exact h | exact absurd (.inl rfl) h1 | exact absurd (.inr rfl) h1
      by_cases he : k = k'
      · rw [if_pos he] at hk; subst he
        exact run_intBin t hk u hu w
      · rw [if_neg he] at hk; cases hk
  · rename_i a b
    rw [hx.str, hy.str]; exact fin (run_strBin t h u hu w) rfl
  · rename_i a b
    obtain ⟨xa, rfl, ha⟩ := hx.flt
    obtain ⟨xb, rfl, hb⟩ := hy.flt
    exact finB (run_fltBin ha hb t h u hu w) rfl
  · rename_i a b
    rw [hx.bool, hy.bool]
    cases hk : kindOf tt t with
    | none => rw [hk] at h; cases h
    | some k =>
      rw [hk] at h
      cases k <;> simp only [] at h <;> first | (cases h; done) | skip
      obtain ⟨d, hd, hk⟩ := kindOf_some hk
      have he := binOp_eql t _ _ _ rfl w (eq_bool t a b ((htt t d hd).bool hk) w)
      exact fin (run_eqRes t h u hu w he.1 he.2) rfl
  · rename_i a b
    simp only [VR] at hx
    rw [hx.2, hy.nilp]
    cases hk : kindOf tt t with
    | none => rw [hk] at h; cases h
    | some k =>
      rw [hk] at h
      cases k <;> simp only [] at h <;> first | (cases h; done) | skip
      obtain ⟨d, hd, hk⟩ := kindOf_some hk
      have he := binOp_eql t _ _ _ rfl w (eq_ptr t _ (some ⟨(M.β a).b, b, none⟩) ((htt t d hd).ptr _ hk) w)
      exact fin (run_eqRes t h u hu w he.1 he.2) rfl
  · rw [hx.nilp, hy.nilp]
    cases hk : kindOf tt t with
    | none => rw [hk] at h; cases h
    | some k =>
      rw [hk] at h
      cases k <;> simp only [] at h <;> first | (cases h; done) | skip
      obtain ⟨d, hd, hk⟩ := kindOf_some hk
      have he := binOp_eql t _ _ _ rfl w (eq_ptr t _ none ((htt t d hd).ptr _ hk) w)
      exact fin (run_eqRes t h u hu w he.1 he.2) rfl
  · rename_i a
    simp only [VR] at hx hy
    rw [hx.2, hy]
    cases hk : kindOf tt t with
    | none => rw [hk] at h; cases h
    | some k =>
      rw [hk] at h
      cases k <;> simp only [] at h <;> first | (cases h; done) | skip
      obtain ⟨d, hd, hk⟩ := kindOf_some hk
      have he := binOp_eql t _ _ _ rfl w (eq_map t _ _ (some (M.β a).b) ((htt t d hd).map _ _ hk) w)
      exact fin (run_eqRes t h u hu w he.1 he.2) rfl
  · simp only [VR] at hx hy
    rw [hx, hy]
    cases hk : kindOf tt t with
    | none => rw [hk] at h; cases h
    | some k =>
      rw [hk] at h
      cases k <;> simp only [] at h <;> first | (cases h; done) | skip
      obtain ⟨d, hd, hk⟩ := kindOf_some hk
      have he := binOp_eql t _ _ _ rfl w (eq_map t _ _ none ((htt t d hd).map _ _ hk) w)
      exact fin (run_eqRes t h u hu w he.1 he.2) rfl
  · rename_i T l
    rw [hy.nils]
    cases hk : kindOf tt t with
    | none => rw [hk] at h; cases h
    | some k =>
      rw [hk] at h
      cases k <;> simp only [] at h <;> first | (cases h; done) | skip
      obtain ⟨d, hd, hk⟩ := kindOf_some hk
      have hut := (htt t d hd).slice _ hk
      cases op <;> simp only [] at h <;> first | (cases h; done) | skip
      injection h with h; subst h
      simp only [VR, SlR] at hx
      have go : ∀ (ad : Option Addr) (n c : Nat), vx = .slice ad n c → (l ≠ [] → ad.isNone = false) → BinRun P (do eqGuard .eql t X Y vx (.slice none 0 0); binOp .eql t vx (.slice none 0 0)) (Stp.val (.qnil (nilE l))) u w := by
        intro ad n c hv hn
        subst hv
        have he := binOp_eql t _ _ _ rfl w (eq_slice t _ ad n c hut w)
        refine ⟨⟨.bool ad.isNone, w, by simp only [Sem.run_bind, eqGuard_plain .eql t X Y (.slice ad n c) (.slice none 0 0) rfl w, Result.andThen_ok]; exact he.1, .rfl, rfl, fun M' => ?_⟩, rfl⟩
        simp only [Stp.val, VR]
        refine ⟨_, rfl, fun h => hn fun hl => ?_⟩
        rw [hl] at h; cases h
      rcases hx with ⟨h1, ad, c, hv, _⟩ | ⟨b, o, c, hv, _⟩
      · exact go ad 0 c hv fun hne => absurd h1 hne
      · exact go _ _ c hv fun _ => rfl
  · rename_i a b
    simp only [VR] at hx hy
    obtain ⟨vs, rfl, hl⟩ := hx
    obtain ⟨vs', rfl, hl'⟩ := hy
    cases hd : lk tt t with
    | none => rw [hd] at h; cases h
    | some d =>
      rw [hd] at h
      simp only [] at h
      cases hc : (d.cmp && sameK d.zero a) with
      | false => rw [hc] at h; cases h
      | true =>
        rw [hc] at h
        simp only [] at h
        rw [Bool.and_eq_true] at hc
        cases he : eqC a b with
        | none => rw [he] at h; cases h
        | some r =>
          rw [he] at h
          obtain ⟨hr, hgd⟩ := (htt t d hd).cmp hc.1 M a b r vs vs' w hc.2 he hl hl'
          have he := binOp_eql t _ _ _ rfl w hr
          have := run_eqRes (P := P) t h u hu w he.1 he.2
          exact (⟨by simp only [Sem.run_bind, hgd, Result.andThen_ok]; exact this.run, this.sc, this.up⟩ : ScRun P (do eqGuard op t X Y _ _; binOp op t _ _) s u w).bin
  · cases h
-- lists of cells
theorem lenN_eq {α : Type} (l : List α) : lenN l = l.length := by induction l with
  | nil => rfl
  | cons x r ih => simp [lenN, ih]
theorem VRL.length : ∀ {l : List CV} {vs : List Value}, VRL M l vs → l.length = vs.length
  | [], vs, h => by simp only [VRL] at h; simp [h]
  | c :: r, vs, h => by
    simp only [VRL] at h
    obtain ⟨v, vr, rfl, _, h2⟩ := h
    simp [h2.length]
theorem VRL.append : ∀ {l : List CV} {vs : List Value} {l' : List CV} {vs' : List Value}, VRL M l vs → VRL M l' vs' → VRL M (l ++ l') (vs ++ vs')
  | [], vs, _, _, h, h' => by simp only [VRL] at h; subst h; exact h'
  | c :: r, vs, _, _, h, h' => by
    simp only [VRL] at h
    obtain ⟨v, vr, rfl, h1, h2⟩ := h
    simp only [List.cons_append, VRL]
    exact ⟨v, _, rfl, h1, h2.append h'⟩
theorem VRL.drop : ∀ (n : Nat) {l : List CV} {vs : List Value}, VRL M l vs → VRL M (dropL n l) (vs.drop n)
  | 0, _, _, h => h
  | n + 1, [], vs, h => by simp only [VRL] at h; subst h; simp [dropL, VRL]
  | n + 1, c :: r, vs, h => by
    simp only [VRL] at h
    obtain ⟨v, vr, rfl, _, h2⟩ := h
    simp only [dropL, List.drop_succ_cons]; exact h2.drop n
theorem VRL.take : ∀ (n : Nat) {l r : List CV} {vs : List Value}, takeL n l = some r → VRL M l vs → VRL M r (vs.take n) ∧ n ≤ vs.length
  | 0, l, r, vs, ht, h => by simp only [takeL] at ht; injection ht with ht; subst ht; exact ⟨by simp [VRL], Nat.zero_le _⟩
  | n + 1, [], r, vs, ht, h => by simp [takeL] at ht
  | n + 1, c :: l, r, vs, ht, h => by
    simp only [VRL] at h
    obtain ⟨v, vr, rfl, h1, h2⟩ := h
    simp only [takeL] at ht
    cases hh : takeL n l with
    | none => rw [hh] at ht; cases ht
    | some r' =>
      rw [hh] at ht; injection ht with ht; subst ht
      obtain ⟨a, b⟩ := VRL.take n hh h2
      exact ⟨by simp only [List.take_succ_cons, VRL]; exact ⟨v, _, rfl, h1, a⟩, by simp; omega⟩
theorem VRL.put : ∀ (n : Nat) {cs l l' : List CV} {xs vs : List Value}, putL n cs l = some l' → VRL M cs xs → VRL M l vs →
    VRL M l' (vs.take n ++ xs ++ vs.drop (n + xs.length)) ∧ n + xs.length ≤ vs.length
  | 0, [], l, l', xs, vs, hp, hc, hl => by
    simp only [putL] at hp; injection hp with hp; subst hp
    simp only [VRL] at hc; subst hc
    simpa using hl
  | 0, c :: cs, [], l', xs, vs, hp, hc, hl => by simp [putL] at hp
  | 0, c :: cs, x :: l, l', xs, vs, hp, hc, hl => by
    simp only [putL] at hp
    simp only [VRL] at hc hl
    obtain ⟨u, ur, rfl, h1, h2⟩ := hc
    obtain ⟨v, vr, rfl, h3, h4⟩ := hl
    cases hh : putL 0 cs l with
    | none => rw [hh] at hp; cases hp
    | some r =>
      rw [hh] at hp; injection hp with hp; subst hp
      obtain ⟨a, b⟩ := VRL.put 0 hh h2 h4
      simp only [Nat.zero_add, List.take_zero, List.nil_append] at a b
      refine ⟨?_, by simp; omega⟩
      simp only [List.take_zero, List.nil_append, List.length_cons, Nat.zero_add, List.drop_succ_cons, List.cons_append, VRL]
      exact ⟨u, _, rfl, h1, a⟩
  | n + 1, cs, [], l', xs, vs, hp, hc, hl => by simp [putL] at hp
  | n + 1, cs, x :: l, l', xs, vs, hp, hc, hl => by
    simp only [putL] at hp
    simp only [VRL] at hl
    obtain ⟨v, vr, rfl, h3, h4⟩ := hl
    cases hh : putL n cs l with
    | none => rw [hh] at hp; cases hp
    | some r =>
      rw [hh] at hp; injection hp with hp; subst hp
      obtain ⟨a, b⟩ := VRL.put n hh hc h4
      refine ⟨?_, by simp; omega⟩
      have e : n + 1 + xs.length = (n + xs.length) + 1 := by omega
      simp only [List.take_succ_cons, e, List.drop_succ_cons, List.cons_append, VRL]
      exact ⟨v, _, rfl, h3, a⟩
theorem VR.own {x ver : Nat} {v : Value} (h : VR M (.own x ver) v) {t : Nat} {T : Ty} {l : List T.den} (hg : M.go x = some (.row ver t T l)) : v = (M.β x).slice l.length := by
  simp only [VR] at h; exact (h.2 ver t T l hg).2 rfl
theorem Hd.slice_one (x : Hd) (n : Nat) : (x.slice n).oneCell' = true ∧ (x.slice n).cells = #[x.slice n] := by
  cases hn : x.nil <;> simp [Hd.slice, hn, Value.oneCell', Value.cells]
theorem VR.one {c : CV} {v : Value} (h : VR M c v) (h1 : okC M.go c = true) : v.oneCell' = true ∧ v.cells = #[v] := by
  cases c <;> simp only [okC, CV.one] at h1 <;> first | (cases h1; done) | skip
  case int => rw [h.int]; exact ⟨rfl, rfl⟩
  case bool => rw [h.bool]; exact ⟨rfl, rfl⟩
  case str => rw [h.str]; exact ⟨rfl, rfl⟩
  case flt => obtain ⟨b, rfl, _⟩ := h.flt; exact ⟨rfl, rfl⟩
  case psl => simp only [VR] at h; rcases h with ⟨_, rfl⟩ | ⟨_, _, _, rfl, _⟩ <;> exact ⟨rfl, rfl⟩
  case prow => simp only [VR] at h; rcases h.1 with ⟨_, rfl⟩ | ⟨_, _, _, rfl, _⟩ <;> exact ⟨rfl, rfl⟩
  case pelt => simp only [VR] at h; obtain ⟨_, _, rfl, _⟩ := h; exact ⟨rfl, rfl⟩
  case sl => simp only [VR, SlR] at h; rcases h with ⟨_, _, _, rfl, _⟩ | ⟨_, _, _, rfl, _⟩ <;> exact ⟨rfl, rfl⟩
  case elt => simp only [VR] at h; obtain ⟨_, _, rfl, _⟩ := h; exact ⟨rfl, rfl⟩
  case own x ver =>
    cases hg : M.go x with
    | none => rw [hg] at h1; cases h1
    | some ob =>
      rw [hg] at h1
      cases ob with
      | cells t l => cases h1
      | row v' t T l =>
        have := beq_of h1; subst this
        rw [h.own hg]; exact Hd.slice_one _ _
  case ptr o off => simp only [VR] at h; rw [h.2]; exact ⟨rfl, rfl⟩
  case nilp => rw [h.nilp]; exact ⟨rfl, rfl⟩
  case nils => rw [h.nils]; exact ⟨rfl, rfl⟩
  case map => simp only [VR] at h; rw [h.2]; exact ⟨rfl, rfl⟩
  case nilm => simp only [VR] at h; rw [h]; exact ⟨rfl, rfl⟩
  case pidx => simp only [VR] at h; rw [h.2.2.2]; exact ⟨rfl, rfl⟩
  case asl => simp only [VR] at h; obtain ⟨_, _, rfl⟩ := h; exact ⟨rfl, rfl⟩
  case fn => rw [h.fn]; exact ⟨rfl, rfl⟩
  case clo => simp only [VR] at h; obtain ⟨vs, rfl, _⟩ := h; exact ⟨rfl, rfl⟩
theorem VRL.ones : ∀ {l : List CV} {vs : List Value}, VRL M l vs → allOne M.go l = true → ∀ v ∈ vs, v.oneCell' = true
  | [], vs, h, _, v, hv => by simp only [VRL] at h; subst h; cases hv
  | c :: r, vs, h, h1, v, hv => by
    simp only [VRL] at h
    obtain ⟨u, vr, rfl, h2, h3⟩ := h
    simp only [allOne] at h1
    cases hc : okC M.go c with
    | false => rw [hc] at h1; cases h1
    | true =>
      rw [hc] at h1
      cases hv with
      | head => exact (h2.one hc).1
      | tail _ hv => exact h3.ones h1 v hv
theorem VR.cells {c : CV} {v : Value} (h : VR M c v) (h1 : allOne M.go c.cells = true) : VRL M c.cells v.cells.toList := by
  cases c
  case agg l => simp only [VR] at h; obtain ⟨vs, rfl, hl⟩ := h; exact hl
  all_goals
    simp only [CV.cells, allOne] at h1
    split at h1
    · rename_i hc
      rw [(h.one hc).2]
      simp only [CV.cells, VRL]
      exact ⟨v, [], rfl, h, rfl⟩
    · cases h1
theorem VRL.asVal {b : Bool} {l : List CV} {vs : List Value} {c : CV} (h : VRL M l vs) (ha : asVal b l = some c) : (b = true ∧ VR M c (.agg vs.toArray)) ∨ (b = false ∧ ∃ v, vs = [v] ∧ VR M c v) := by
  cases b with
  | true => simp only [Eng.asVal] at ha; injection ha with ha; subst ha; exact .inl ⟨rfl, by simp only [VR]; exact ⟨_, rfl, h⟩⟩
  | false =>
    cases l with
    | nil => simp [Eng.asVal] at ha
    | cons x r =>
      cases r with
      | cons y r => simp [Eng.asVal] at ha
      | nil =>
        simp only [Eng.asVal] at ha; injection ha with ha; subst ha
        simp only [VRL] at h
        obtain ⟨v, vr, rfl, h1, rfl⟩ := h
        exact .inr ⟨rfl, v, rfl, h1⟩
theorem ElR.cells {S : Seal} {h : Array Obj} (hM : M.S = S) (hh : M.h = h) : ∀ (T : Ty) (x : T.den) (b o : Nat), ElR S h T x b o →
    ∃ vs : List Value, vs.length = T.n ∧ (∀ j v, vs[j]? = some v → cellAt h b (o + j) = some v) ∧ ∀ r vr, VRL M r vr → VRL M (toC T x r) (vs ++ vr) := by
  subst hM; subst hh
  have one : ∀ (c : CV) (v : Value) (b o : Nat) (T : Ty), T.n = 1 → VR M c v → cellAt M.h b o = some v → ∃ vs : List Value, vs.length = T.n ∧ (∀ j u, vs[j]? = some u → cellAt M.h b (o + j) = some u) ∧ ∀ r vr, VRL M r vr → VRL M (c :: r) (vs ++ vr) := by
    intro c v b o T hn hv hc
    refine ⟨[v], by simp [hn], fun j u hj => ?_, fun r vr hr => by simp only [VRL, List.singleton_append]; exact ⟨v, vr, rfl, hv, hr⟩⟩
    cases j with
    | zero => simp at hj; subst hj; exact hc
    | succ j => simp at hj
  intro T
  induction T with
  | int k => intro x b o hx; exact one _ _ b o (.int k) rfl (by simp [VR]) hx.2
  | bool => intro x b o hx; exact one _ _ b o .bool rfl (by simp [VR]) hx.2
  | str => intro x b o hx; exact one _ _ b o .str rfl (by simp [VR]) hx.2
  | flt => intro x b o hx; obtain ⟨v, h1, h2⟩ := hx.2; exact one _ _ b o .flt rfl (by simp only [VR]; exact h2) h1
  | pt => intro x b o hx; obtain ⟨v, h1, h2⟩ := hx.2; exact one _ _ b o .pt rfl (by simp [VR]) h1
  | sl e ih =>
    intro x b o hx
    obtain ⟨_, v, h1, h2⟩ := hx
    exact one (.sl e x) v b o (.sl e) rfl (by simp only [VR, SlR]; exact h2) h1
  | nil => intro x b o _; exact ⟨[], rfl, fun j v hj => by simp at hj, fun r vr hr => by simpa [toC] using hr⟩
  | cons p q ihp ihq =>
    intro x b o hx
    obtain ⟨v1, l1, c1, k1⟩ := ihp x.1 b o hx.1
    obtain ⟨v2, l2, c2, k2⟩ := ihq x.2 b (o + p.n) hx.2
    refine ⟨v1 ++ v2, by simp [l1, l2, Ty.n], fun j v hj => ?_, fun r vr hr => ?_⟩
    · rw [List.getElem?_append] at hj
      split at hj
      · exact c1 j v hj
      · have := c2 _ v hj
        rw [l1] at this
        rw [← this]; congr 1; omega
    · rw [List.append_assoc]; exact k1 _ _ (k2 r vr hr)
  | mu e ih => intro x b o hx; exact ih x b o hx
theorem ElR.cellsF {S : Seal} {h : Array Obj} (hh : M.h = h) : ∀ (T : Ty) (x : T.den) (b o : Nat), T.flat = true → ElR S h T x b o →
    ∃ vs : List Value, vs.length = T.n ∧ (∀ j v, vs[j]? = some v → cellAt h b (o + j) = some v) ∧ ∀ r vr, VRL M r vr → VRL M (toC T x r) (vs ++ vr) := by
  subst hh
  have one : ∀ (c : CV) (v : Value) (b o : Nat) (T : Ty), T.n = 1 → VR M c v → cellAt M.h b o = some v → ∃ vs : List Value, vs.length = T.n ∧ (∀ j u, vs[j]? = some u → cellAt M.h b (o + j) = some u) ∧ ∀ r vr, VRL M r vr → VRL M (c :: r) (vs ++ vr) := by
    intro c v b o T hn hv hc
    refine ⟨[v], by simp [hn], fun j u hj => ?_, fun r vr hr => by simp only [VRL, List.singleton_append]; exact ⟨v, vr, rfl, hv, hr⟩⟩
    cases j with
    | zero => simp at hj; subst hj; exact hc
    | succ j => simp at hj
  intro T
  induction T with
  | int k => intro x b o _ hx; exact one _ _ b o (.int k) rfl (by simp [VR]) hx.2
  | bool => intro x b o _ hx; exact one _ _ b o .bool rfl (by simp [VR]) hx.2
  | str => intro x b o _ hx; exact one _ _ b o .str rfl (by simp [VR]) hx.2
  | flt => intro x b o _ hx; obtain ⟨v, h1, h2⟩ := hx.2; exact one _ _ b o .flt rfl (by simp only [VR]; exact h2) h1
  | pt => intro x b o hf; cases hf
  | sl e ih => intro x b o hf; cases hf
  | nil => intro x b o _ _; exact ⟨[], rfl, fun j v hj => by simp at hj, fun r vr hr => by simpa [toC] using hr⟩
  | cons p q ihp ihq =>
    intro x b o hf hx
    simp only [Ty.flat] at hf
    cases hp : p.flat with
    | false => rw [hp] at hf; cases hf
    | true =>
      rw [hp] at hf
      obtain ⟨v1, l1, c1, k1⟩ := ihp x.1 b o hp hx.1
      obtain ⟨v2, l2, c2, k2⟩ := ihq x.2 b (o + p.n) hf hx.2
      refine ⟨v1 ++ v2, by simp [l1, l2, Ty.n], fun j v hj => ?_, fun r vr hr => ?_⟩
      · rw [List.getElem?_append] at hj
        split at hj
        · exact c1 j v hj
        · have := c2 _ v hj
          rw [l1] at this
          rw [← this]; congr 1; omega
      · rw [List.append_assoc]; exact k1 _ _ (k2 r vr hr)
  | mu e ih => intro x b o hf; cases hf
theorem asL_ok (ok : MOK B M) {T : Ty} {c : CV} {v : Value} {l : List T.den} (h : asL M.go T c = some l) (hv : VR M c v) : SlR M.S M.h T l v := by
  cases c <;> simp only [asL] at h <;> first | (cases h; done) | skip
  case sl T' l' =>
    split at h
    · rename_i he
      subst he
      injection h with h; subst h
      simpa [VR] using hv
    · cases h
  case nils => injection h with h; subst h; rw [hv.nils]; exact .inl ⟨rfl, none, 0, rfl, fun _ => rfl⟩
  case own x ver =>
    cases hg : M.go x with
    | none => rw [hg] at h; cases h
    | some ob =>
      rw [hg] at h
      cases ob with
      | cells t l => cases h
      | row v' t T' l' =>
        simp only [] at h
        cases hb : Nat.beq ver v' with
        | false => rw [hb] at h; cases h
        | true =>
          rw [hb] at h
          have := beq_of hb; subst this
          simp only [] at h
          cases hT : T'.isMu with
          | true => rw [hT] at h; cases h
          | false =>
          rw [hT] at h; simp only [] at h
          split at h
          · rename_i he
            subst he
            injection h with h; subst h
            rw [hv.own hg]
            have hor := ok.obj x _ hg
            simp only [OR, Ty.seal_of hT] at hor
            cases hn : (M.β x).nil with
            | true => rw [hn] at hor; simp only [Hd.slice, hn]; exact .inl ⟨hor, none, 0, rfl, fun _ => rfl⟩
            | false =>
              rw [hn] at hor
              simp only [Hd.slice, hn]
              exact .inr ⟨_, _, _, rfl, hor.1, hor.2.1⟩
          · cases h
  case part x ver a n =>
    cases hg : M.go x with
    | none => rw [hg] at h; cases h
    | some ob =>
      rw [hg] at h
      cases ob with
      | cells t l => cases h
      | row v' t T' l' =>
        simp only [] at h
        cases hb : Nat.beq ver v' with
        | false => rw [hb] at h; cases h
        | true =>
          rw [hb] at h
          have := beq_of hb; subst this
          simp only [] at h
          cases hT : T'.isMu with
          | true => rw [hT] at h; cases h
          | false =>
          rw [hT] at h; simp only [] at h
          split at h
          · rename_i he
            subst he
            injection h with h; subst h
            simp only [VR] at hv
            obtain ⟨hlen, hv⟩ := (hv.2 _ _ _ _ hg).2 rfl
            rw [hv]
            have hor := ok.obj x _ hg
            simp only [OR, Ty.seal_of hT] at hor
            cases hn : (M.β x).nil with
            | true => rw [hn] at hor; simp only [] at hor; subst hor; simp only [Hd.part, hn]; exact .inl ⟨by simp, none, 0, rfl, fun _ => rfl⟩
            | false =>
              rw [hn] at hor
              simp only [Hd.part, hn]
              obtain ⟨h1, h2, _⟩ := hor
              have hl : ((l'.drop a).take n).length = n := by rw [List.length_take, List.length_drop]; omega
              by_cases hca : (M.β x).cap = a
              · rw [if_pos hca]
                have hn0 : n = 0 := by omega
                subst hn0
                exact .inl ⟨by simp, _, _, rfl, fun h => by cases h⟩
              rw [if_neg hca]
              refine .inr ⟨_, _, _, by rw [hl], by rw [hl]; omega, fun i hi => ?_⟩
              rw [hl] at hi
              have := h2 (a + i) (by omega)
              rw [Nat.add_mul, ← Nat.add_assoc] at this
              simpa using this
          · cases h
theorem ofC_ok (ok : MOK B M) : ∀ (T : Ty) (cs r : List CV) (x : T.den) (vs : List Value), ofC M.go T cs = some (x, r) → VRL M cs vs →
    ∃ v1 v2, vs = v1 ++ v2 ∧ v1.length = T.n ∧ VRL M r v2 ∧
      ∀ (S' : Seal) (h' : Array Obj) (b o : Nat), (∀ b x, M.S b x → S' b x) → (∀ b x, M.S b x → cellAt h' b x = cellAt M.h b x) → (∀ j, j < T.n → S' b (o + j)) →
        (∀ j v, v1[j]? = some v → cellAt h' b (o + j) = some v) → ElR S' h' T x b o := by
  intro T
  induction T with
  | nil =>
    intro cs r x vs h hl
    simp only [ofC] at h; injection h with h; injection h with h1 h2; subst h2
    exact ⟨[], vs, rfl, rfl, hl, fun _ _ _ _ _ _ _ _ => trivial⟩
  | cons p q ihp ihq =>
    intro cs r x vs h hl
    simp only [ofC] at h
    cases h1 : ofC M.go p cs with
    | none => rw [h1] at h; cases h
    | some y =>
      obtain ⟨x1, r1⟩ := y
      rw [h1] at h; simp only [] at h
      cases h2 : ofC M.go q r1 with
      | none => rw [h2] at h; cases h
      | some z =>
        obtain ⟨x2, r2⟩ := z
        rw [h2] at h; simp only [] at h
        injection h with h; injection h with ha hb
        subst ha; subst hb
        obtain ⟨v1, w1, e1, n1, k1, m1⟩ := ihp cs r1 x1 vs h1 hl
        obtain ⟨v2, w2, e2, n2, k2, m2⟩ := ihq r1 r2 x2 w1 h2 k1
        refine ⟨v1 ++ v2, w2, by rw [e1, e2, List.append_assoc], by simp [n1, n2, Ty.n], k2, fun S' h' b o hS hc hb hv => ⟨?_, ?_⟩⟩
        · refine m1 S' h' b o hS hc (fun j hj => hb j (by simp only [Ty.n]; omega)) (fun j v hj => hv j v ?_)
          rw [List.getElem?_append]
          have : j < v1.length := (List.getElem?_eq_some_iff.mp hj).1
          rw [if_pos this]; exact hj
        · refine m2 S' h' b (o + p.n) hS hc (fun j hj => by have := hb (p.n + j) (by simp only [Ty.n]; omega); rwa [← Nat.add_assoc] at this) (fun j v hj => ?_)
          have := hv (p.n + j) v (by rw [List.getElem?_append, if_neg (by omega)]; rw [n1]; simpa using hj)
          rwa [← Nat.add_assoc] at this
  | sl e ih =>
    intro cs r x vs h hl
    cases cs with
    | nil => simp [ofC] at h
    | cons c cs =>
      simp only [VRL] at hl
      obtain ⟨v, vr, rfl, hv, hr⟩ := hl
      have h' : (match asL M.go e c with | some l => some (l, cs) | none => none) = some (x, r) := by cases c <;> exact h
      cases ha : asL M.go e c with
      | none => rw [ha] at h'; cases h'
      | some l =>
        rw [ha] at h'; simp only [] at h'
        injection h' with h'; injection h' with hx hr'
        subst hx; subst hr'
        refine ⟨[v], vr, rfl, rfl, hr, fun S' h' b o hS hc hb hv' => ⟨by simpa using hb 0 (by simp [Ty.n]), v, by simpa using hv' 0 v (by simp), ?_⟩⟩
        exact (asL_ok ok ha hv).mono hS hc
  | int k =>
    intro cs r x vs h hl
    cases cs with
    | nil => simp [ofC] at h
    | cons c cs =>
      simp only [VRL] at hl
      obtain ⟨v, vr, rfl, hv, hr⟩ := hl
      cases c <;> simp only [ofC] at h <;> first | (cases h; done) | skip
      split at h
      · rename_i he; subst he
        injection h with h; injection h with hx hr'
        subst hx; subst hr'
        refine ⟨[v], vr, rfl, rfl, hr, fun S' h' b o hS hc hb hv' => ⟨by simpa using hb 0 (by simp [Ty.n]), ?_⟩⟩
        have := hv' 0 v (by simp)
        rw [hv.int] at this; simpa using this
      · cases h
  | bool =>
    intro cs r x vs h hl
    cases cs with
    | nil => simp [ofC] at h
    | cons c cs =>
      simp only [VRL] at hl
      obtain ⟨v, vr, rfl, hv, hr⟩ := hl
      cases c <;> simp only [ofC] at h <;> first | (cases h; done) | skip
      injection h with h; injection h with hx hr'
      subst hx; subst hr'
      refine ⟨[v], vr, rfl, rfl, hr, fun S' h' b o hS hc hb hv' => ⟨by simpa using hb 0 (by simp [Ty.n]), ?_⟩⟩
      have := hv' 0 v (by simp)
      rw [hv.bool] at this; simpa using this
  | str =>
    intro cs r x vs h hl
    cases cs with
    | nil => simp [ofC] at h
    | cons c cs =>
      simp only [VRL] at hl
      obtain ⟨v, vr, rfl, hv, hr⟩ := hl
      cases c <;> simp only [ofC] at h <;> first | (cases h; done) | skip
      injection h with h; injection h with hx hr'
      subst hx; subst hr'
      refine ⟨[v], vr, rfl, rfl, hr, fun S' h' b o hS hc hb hv' => ⟨by simpa using hb 0 (by simp [Ty.n]), ?_⟩⟩
      have := hv' 0 v (by simp)
      rw [hv.str] at this; simpa using this
  | flt =>
    intro cs r x vs h hl
    cases cs with
    | nil => simp [ofC] at h
    | cons c cs =>
      simp only [VRL] at hl
      obtain ⟨v, vr, rfl, hv, hr⟩ := hl
      cases c <;> simp only [ofC] at h <;> first | (cases h; done) | skip
      injection h with h; injection h with hx hr'
      subst hx; subst hr'
      exact ⟨[v], vr, rfl, rfl, hr, fun S' h' b o hS hc hb hv' => ⟨by simpa using hb 0 (by simp [Ty.n]), v, by simpa using hv' 0 v (by simp), by simpa only [VR] using hv⟩⟩
  | pt => intro cs r x vs h hl; cases cs <;> simp [ofC] at h
  | mu e ih => intro cs r x vs h hl; cases cs <;> simp [ofC] at h
end
end Go.Proofs.Ytcjiipbppkdkaaa.Eng
