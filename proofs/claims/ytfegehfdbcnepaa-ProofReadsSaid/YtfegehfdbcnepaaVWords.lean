import Derived.Test.YtfegehfdbcnepaaWMore
import Derived.Laws.Cover1
namespace Go.Proofs.YtfegehfdbcnepaaW.PrintWords
open Go.RowKit
set_option linter.unusedVariables false
set_option linter.unusedSimpArgs false
theorem toList_loop_ (s : ByteArray) : ∀ (n i : Nat) (r : List UInt8), s.size - i = n → ByteArray.toList.loop s i r = r.reverse ++ s.data.toList.drop i := by
  intro n
  induction n with
  | zero =>
    intro i r h
    rw [ByteArray.toList.loop, if_neg (by omega)]
    have : s.data.toList.length = s.size := by simp
    rw [List.drop_of_length_le (by omega), List.append_nil]
  | succ n ih =>
    intro i r h
    rw [ByteArray.toList.loop, if_pos (by omega), ih (i + 1) _ (by omega)]
    have hi : i < s.data.toList.length := by simp; omega
    rw [List.drop_eq_getElem_cons hi]
    have : s.get! i = s.data.toList[i] := by
      show s.data.get!Internal i = _
      rw [Array.get!Internal_eq_getElem!, getElem!_pos s.data i (by have : s.size = s.data.size := rfl; omega)]
      simp
    simp [this]
theorem toList_mk (a : Array UInt8) : (⟨a⟩ : ByteArray).toList = a.toList := by
  unfold ByteArray.toList
  rw [toList_loop_ _ _ 0 [] rfl]
  rfl
theorem cz_ {W : World} {g : Nat} {cs : Array Value} {t : TypeId} (h : W.heap[g]? = some (.cells cs t (0, 0))) (i : Nat) {v : Value} (hv : cs[i]? = some v) : W.cell? ⟨g, i, none⟩ = some v := (blk_cell h i).trans hv
theorem bytes_grown (W : World) (e : TypeId) (s : ByteArray) : W.grownBy (Lib.bytesWorld W e s) none :=
  ⟨rfl, rfl, rfl, by rw [Lib.bytesWorld_size]; omega, fun k hk _ => Lib.bytesWorld_at_old W e s k hk⟩
namespace Kd
theorem R_via {α : Type} {d : Kd α} {e base : Nat} {w0 w1 : World} {ok ok' : Nat → Prop} {v : Value} {xs : List α} (b : d.R e w0 base ok v xs) (h : d.R e w0 base ok v xs → d.R e w1 base ok v xs) (hok : ∀ k, ok k → ok' k) : d.R e w1 base ok' v xs := R_mono (h b) hok
theorem F_bytes (W : World) (e : TypeId) (s : ByteArray) (hs : s.size ≤ 9223372036854775807) (ok : Nat → Prop) (hfresh : ok W.heap.size) :
    F (Kd.int .u8) (Lib.bytesWorld W e s) ok (some ⟨W.heap.size, 0, none⟩) (bytesOf s).length (bytesOf s) := by
  intro W' hW
  have h := bytes_reads W e s hs
  have hb := hW W.heap.size hfresh (by rw [Lib.bytesWorld_size]; omega)
  refine C_of_reads (d := (0 : Int)) (h1 := fun _ => rfl) ⟨rfl, by rw [bytesOf_length]; exact hs, fun hn => ?_⟩
  rw [bytesOf_length] at hn
  obtain ⟨ad, e1, hc⟩ := h.2.2 hn
  injection e1 with e1
  subst e1
  refine ⟨_, rfl, fun j hj => ?_⟩
  rw [bytesOf_length] at hj
  have h2 := hc j hj
  rw [← h2]
  apply World.cell?_of_block
  rw [add_plain]
  exact hb
section
variable {P : Program} {ops : Array Oper} {rest : List Oper} {o : Oper} {a : Act} {Q : Exit → Act → World → Prop} {W : World}
theorem V_bytes {w0 : World} (base e : Nat) (hgd : o.guard = none) {N : Tmp} (_hd : o.dst = some N) (src t : TypeId) (x : Operand) (ho : o.op = .convert src t x) (s : ByteArray) (hx : a.eval x = .string s)
    {u : TypeDesc} (hs : P.underlying src = some u) (ht : P.underlying t = some (.slice e)) (he : P.underlying e = some (.int .u8)) {ok : Nat → Prop} (hfresh : ok W.heap.size) (hsz : s.size ≤ 9223372036854775807)
    (HB : Below base w0 W) (hbase : base ≤ W.heap.size)
    (h : ∀ v1 w1, Kd.V (Kd.int .u8) e w1 base ok v1 (bytesOf s) → Below base w0 w1 → W.grownBy w1 none → (∃ b, v1.ownBlock = some b ∧ W.heap.size ≤ b) → wpList P ops Q rest (a.put o.dst v1) w1) : wpList P ops Q (o :: rest) a W := by
  have hrun : (execOp a.eval o).run P W = .ok (.value (.slice (some ⟨W.heap.size, 0, none⟩) s.size (grownCap W s.size 0 e))) (Lib.bytesWorld W e s) := by
    have := Lib.run_convert_string_bytes W src t e s hs ht he
    simp [execOp, ho, hx, this]
  refine event_run hgd hrun (h _ _ ?_ (bytes_below HB hbase e s) (bytes_grown W e s) ⟨W.heap.size, by simp [Value.ownBlock], Nat.le_refl _⟩)
  have := V_mk (e := e) (base := base) (c := grownCap W s.size 0 e) (by rw [bytesOf_length]; exact grownCap_ge W s.size 0 e) (F_bytes W e s hsz ok hfresh)
  rw [bytesOf_length] at this
  exact this
end
end Kd
end Go.Proofs.YtfegehfdbcnepaaW.PrintWords
