-- Laid by programs of this session (myprint.py, post.py) out of the translation.
import Derived.Test.YthedgoefiffogaaPBase
import Derived.Test.YthedgoefiffogaaPEvent
import Derived.Test.YthedgoefiffogaaPOctet
import Derived.Test.YthedgoefiffogaaPSt
namespace Go.Proofs.Ythedgoefiffogaa.PAll
open Go.RowKit Go.Proofs.YthedgoefiffogaaW.PrintWords Go.Proofs.YthedgoefiffogaaW.PrintLast Go.Proofs.YthedgoefiffogaaW.PrintMore
attribute [local go_sem] max2_int min2_int max_two min_two max_three min_three max_four min_four   -- for this text's walks alone
set_option linter.unusedVariables false
set_option linter.unusedSimpArgs false
section
/-! ### event_Bytes: function 8 -/
def event_Bytes.j0 : Nat → Int → Bool → Int → ByteArray → Int → Int → Int → List (S60) → Bool → List ByteArray → Int → Int → ByteArray → Int → ByteArray → Int → ByteArray → Bool → Option (ByteArray)
 | 0, _, _, _, _, _, _, _, _, _, _, _, _, _, _, _, _, _, _ => none
 | k + 1, x16, x39, x200000, x200001, x200002, x200003, x200004, x200005, x200006, x200007, x200008, x200009, x200010, x200011, x200012, x200013, x202000, x202001 => if x39 = true then ((octet_Writer_Num.f k x202000 x202001 x200008).bind fun bt224 => ((octet_Writer_Text.f k bt224.1 bt224.2 x200010).bind fun bt226 => ((octet_Writer_All.f bt226.1 bt226.2).bind fun bt228 => (some bt228.1)))) else (if x16 = 6 then ((octet_Writer_Num.f k x202000 x202001 x200011).bind fun bt232 => ((octet_Writer_Text.f k bt232.1 bt232.2 x200012).bind fun bt234 => ((octet_Writer_All.f bt234.1 bt234.2).bind fun bt236 => (some bt236.1)))) else (if x16 = 7 then ((octet_Writer_Num.f k x202000 x202001 x200013).bind fun bt240 => ((octet_Writer_All.f bt240.1 bt240.2).bind fun bt242 => (some bt242.1))) else ((octet_Writer_All.f x202000 x202001).bind fun bt246 => (some bt246.1))))
def event_Bytes.f (k : Nat) (a0_0 : Int) (a0_1 : ByteArray) (a0_2 : Int) (a0_3 : Int) (a0_4 : Int) (l0_5 : List (S60)) (a0_6 : Bool) (l0_7 : List ByteArray) (a0_8 : Int) (a0_9 : Int) (a0_10 : ByteArray) (a0_11 : Int) (a0_12 : ByteArray) (a0_13 : Int) : Option (ByteArray) := (event_Right.f k a0_0 a0_1 a0_2 a0_3 a0_4 l0_5 a0_6 l0_7 a0_8 a0_9 a0_10 a0_11 a0_12 a0_13).bind fun t200 => (if t200 = true then ((octet_Writer_Num.f k (⟨#[]⟩ : ByteArray) false a0_0).bind fun bt202 => (if a0_0 = 1 then ((event_entry.f k bt202.1 bt202.2 a0_1 a0_2 a0_3 a0_4 l0_5 a0_6 l0_7).bind fun bt204 => ((octet_Writer_All.f bt204.1 bt204.2).bind fun bt206 => (some bt206.1))) else (if a0_0 = 2 then ((octet_Writer_Num.f k bt202.1 bt202.2 a0_8).bind fun bt210 => ((octet_Writer_Num.f k bt210.1 bt210.2 a0_9).bind fun bt212 => ((octet_Writer_All.f bt212.1 bt212.2).bind fun bt214 => (some bt214.1)))) else (if a0_0 = 3 then ((octet_Writer_Num.f k bt202.1 bt202.2 a0_8).bind fun bt218 => ((octet_Writer_All.f bt218.1 bt218.2).bind fun bt220 => (some bt220.1))) else (if a0_0 = 4 then (event_Bytes.j0 k a0_0 (a0_0 == 4) a0_0 a0_1 a0_2 a0_3 a0_4 l0_5 a0_6 l0_7 a0_8 a0_9 a0_10 a0_11 a0_12 a0_13 bt202.1 bt202.2) else (event_Bytes.j0 k a0_0 (a0_0 == 5) a0_0 a0_1 a0_2 a0_3 a0_4 l0_5 a0_6 l0_7 a0_8 a0_9 a0_10 a0_11 a0_12 a0_13 bt202.1 bt202.2)))))) else (some (⟨#[]⟩ : ByteArray)))
theorem event_Bytes.mono_l : ∀ k, (∀ y0 y1 y2 y3 y4 y5 y6 y7 y8 y9 y10 y11 y12 y13 y14 y15 y16 y17, LeO (event_Bytes.j0 k y0 y1 y2 y3 y4 y5 y6 y7 y8 y9 y10 y11 y12 y13 y14 y15 y16 y17) (event_Bytes.j0 (k + 1) y0 y1 y2 y3 y4 y5 y6 y7 y8 y9 y10 y11 y12 y13 y14 y15 y16 y17))
 | 0 => fun _ _ _ _ _ _ _ _ _ _ _ _ _ _ _ _ _ _ r h => by simp [event_Bytes.j0] at h
 | k + 1 => by
  have ih0 := event_Bytes.mono_l k
  ·intro y0 y1 y2 y3 y4 y5 y6 y7 y8 y9 y10 y11 y12 y13 y14 y15 y16 y17
   unfold event_Bytes.j0
   repeat' first
   | (with_reducible exact ih0 _ _ _ _ _ _ _ _ _ _ _ _ _ _ _ _ _ _)
   | (with_reducible exact event_Right.mono _ _ _ _ _ _ _ _ _ _ _ _ _ _ _)
   | (with_reducible exact event_entry.mono _ _ _ _ _ _ _ _ _ _)
   | (with_reducible exact octet_Writer_Num.mono _ _ _ _)
   | (with_reducible exact octet_Writer_Text.mono _ _ _ _)
   | (with_reducible exact LeO.refl _)
   | (with_reducible exact LeO.none _)
   | (with_reducible refine LeO.ite ?_ ?_)
   | (with_reducible refine LeO.bind ?_ (fun _ => ?_))
   | exact ih0 _ _ _ _ _ _ _ _ _ _ _ _ _ _ _ _ _ _
   | exact event_Right.mono _ _ _ _ _ _ _ _ _ _ _ _ _ _ _
   | exact event_entry.mono _ _ _ _ _ _ _ _ _ _
   | exact octet_Writer_Num.mono _ _ _ _
   | exact octet_Writer_Text.mono _ _ _ _
   | exact LeO.none _
   | refine LeO.ite ?_ ?_
   | refine LeO.bind ?_ (fun _ => ?_)
theorem event_Bytes.mono : ∀ a0 a1 a2 a3 a4 a5 a6 a7 a8 a9 a10 a11 a12 a13 k, LeO (event_Bytes.f k a0 a1 a2 a3 a4 a5 a6 a7 a8 a9 a10 a11 a12 a13) (event_Bytes.f (k + 1) a0 a1 a2 a3 a4 a5 a6 a7 a8 a9 a10 a11 a12 a13) := by
 intro a0 a1 a2 a3 a4 a5 a6 a7 a8 a9 a10 a11 a12 a13 k
 have ih0 := event_Bytes.mono_l k
 unfold event_Bytes.f
 repeat' first
   | (with_reducible exact ih0 _ _ _ _ _ _ _ _ _ _ _ _ _ _ _ _ _ _)
   | (with_reducible exact event_Right.mono _ _ _ _ _ _ _ _ _ _ _ _ _ _ _)
   | (with_reducible exact event_entry.mono _ _ _ _ _ _ _ _ _ _)
   | (with_reducible exact octet_Writer_Num.mono _ _ _ _)
   | (with_reducible exact octet_Writer_Text.mono _ _ _ _)
   | (with_reducible exact LeO.refl _)
   | (with_reducible exact LeO.none _)
   | (with_reducible refine LeO.ite ?_ ?_)
   | (with_reducible refine LeO.bind ?_ (fun _ => ?_))
   | exact ih0 _ _ _ _ _ _ _ _ _ _ _ _ _ _ _ _ _ _
   | exact event_Right.mono _ _ _ _ _ _ _ _ _ _ _ _ _ _ _
   | exact event_entry.mono _ _ _ _ _ _ _ _ _ _
   | exact octet_Writer_Num.mono _ _ _ _
   | exact octet_Writer_Text.mono _ _ _ _
   | exact LeO.none _
   | refine LeO.ite ?_ ?_
   | refine LeO.bind ?_ (fun _ => ?_)
theorem Zevent_Bytes.z0 {P_ : Prop} (h_ : P_ := by (try simp only [List.map_toArray, List.map_cons, List.map_nil]); first | done | rfl | (simp only [List.length_drop, List.length_take]; rfl)) : P_ := h_
theorem Zevent_Bytes.z1 {P_ : Prop} (h_ : P_ := by repeat (first | (with_reducible first | exact HB.out | apply below_alloc | apply pw_below_drewN | apply below_drew1) | exact HB.out)) : P_ := h_
theorem Zevent_Bytes.z2 {P_ : Prop} (h_ : P_ := by rw [hg]; exact (below_size (by repeat (first | (with_reducible first | exact HB.out | apply below_alloc | apply pw_below_drewN | apply below_drew1) | exact HB.out)))) : P_ := h_
theorem Zevent_Bytes.z3 {P_ : Prop} (h_ : P_ := by first | rfl | (simp [errW_none, errW_some] <;> rfl) | (simp [*, errW_none, errW_some] <;> rfl)) : P_ := h_
set_option maxHeartbeats 8000000 in
set_option maxRecDepth 100000 in
theorem event_Bytes.calls (k : Nat) (a0_0 : Int) (a0_1 : ByteArray) (a0_2 : Int) (a0_3 : Int) (a0_4 : Int) (A0_5 : Option Addr) (c0_5 : Nat) (l0_5 : List (S60)) (a0_6 : Bool) (A0_7 : Option Addr) (c0_7 : Nat) (l0_7 : List ByteArray) (a0_8 : Int) (a0_9 : Int) (a0_10 : ByteArray) (a0_11 : Int) (a0_12 : ByteArray) (a0_13 : Int) (r : ByteArray) (w : World) (hr0_5 : Kd.C k60 w A0_5 l0_5.length l0_5) (hc0_5 : l0_5.length ≤ c0_5) (hr0_7 : Kd.C Kd.string w A0_7 l0_7.length l0_7) (hc0_7 : l0_7.length ≤ c0_7) (h : event_Bytes.f k a0_0 a0_1 a0_2 a0_3 a0_4 l0_5 a0_6 l0_7 a0_8 a0_9 a0_10 a0_11 a0_12 a0_13 = some r) :
  Calls Try.prog 8 #[.agg #[.int .i64 a0_0, .string a0_1, .int .i64 a0_2, .int .i64 a0_3, .int .i64 a0_4, .slice A0_5 l0_5.length c0_5, .bool a0_6, .slice A0_7 l0_7.length c0_7, .int .i64 a0_8, .int .i64 a0_9, .string a0_10, .int .i64 a0_11, .string a0_12, .int .i64 a0_13]] w fun e w' => e = .returned (.string r) ∧ Below w.heap.size w w' := by
 have hu29 := Try.underlying29
 have hu43 := Try.underlying43
 have hu25 := Try.underlying25
 have HR0_5 := Aside0.mk hr0_5
 have HC0_5 := Aside0.mk hc0_5
 clear hr0_5 hc0_5
 have HR0_7 := Aside0.mk hr0_7
 have HC0_7 := Aside0.mk hc0_7
 clear hr0_7 hc0_7
 have HB := Aside0.mk (Below.refl w.heap.size w)
 have H : ((event_Right.f k a0_0 a0_1 a0_2 a0_3 a0_4 l0_5 a0_6 l0_7 a0_8 a0_9 a0_10 a0_11 a0_12 a0_13).bind fun t200 => (if t200 = true then ((octet_Writer_Num.f k (⟨#[]⟩ : ByteArray) false a0_0).bind fun bt202 => (if a0_0 = 1 then ((event_entry.f k bt202.1 bt202.2 a0_1 a0_2 a0_3 a0_4 l0_5 a0_6 l0_7).bind fun bt204 => ((octet_Writer_All.f bt204.1 bt204.2).bind fun bt206 => (some bt206.1))) else (if a0_0 = 2 then ((octet_Writer_Num.f k bt202.1 bt202.2 a0_8).bind fun bt210 => ((octet_Writer_Num.f k bt210.1 bt210.2 a0_9).bind fun bt212 => ((octet_Writer_All.f bt212.1 bt212.2).bind fun bt214 => (some bt214.1)))) else (if a0_0 = 3 then ((octet_Writer_Num.f k bt202.1 bt202.2 a0_8).bind fun bt218 => ((octet_Writer_All.f bt218.1 bt218.2).bind fun bt220 => (some bt220.1))) else (if a0_0 = 4 then (event_Bytes.j0 k a0_0 (a0_0 == 4) a0_0 a0_1 a0_2 a0_3 a0_4 l0_5 a0_6 l0_7 a0_8 a0_9 a0_10 a0_11 a0_12 a0_13 bt202.1 bt202.2) else (event_Bytes.j0 k a0_0 (a0_0 == 5) a0_0 a0_1 a0_2 a0_3 a0_4 l0_5 a0_6 l0_7 a0_8 a0_9 a0_10 a0_11 a0_12 a0_13 bt202.1 bt202.2)))))) else (some (⟨#[]⟩ : ByteArray)))) = some r := h
 clear h
 replace H := Option.bind_eq_some_iff.mp H
 obtain ⟨t200, A20, H⟩ := H
 replace H : (if t200 = true then ((octet_Writer_Num.f k (⟨#[]⟩ : ByteArray) false a0_0).bind fun bt202 => (if a0_0 = 1 then ((event_entry.f k bt202.1 bt202.2 a0_1 a0_2 a0_3 a0_4 l0_5 a0_6 l0_7).bind fun bt204 => ((octet_Writer_All.f bt204.1 bt204.2).bind fun bt206 => (some bt206.1))) else (if a0_0 = 2 then ((octet_Writer_Num.f k bt202.1 bt202.2 a0_8).bind fun bt210 => ((octet_Writer_Num.f k bt210.1 bt210.2 a0_9).bind fun bt212 => ((octet_Writer_All.f bt212.1 bt212.2).bind fun bt214 => (some bt214.1)))) else (if a0_0 = 3 then ((octet_Writer_Num.f k bt202.1 bt202.2 a0_8).bind fun bt218 => ((octet_Writer_All.f bt218.1 bt218.2).bind fun bt220 => (some bt220.1))) else (if a0_0 = 4 then (event_Bytes.j0 k a0_0 (a0_0 == 4) a0_0 a0_1 a0_2 a0_3 a0_4 l0_5 a0_6 l0_7 a0_8 a0_9 a0_10 a0_11 a0_12 a0_13 bt202.1 bt202.2) else (event_Bytes.j0 k a0_0 (a0_0 == 5) a0_0 a0_1 a0_2 a0_3 a0_4 l0_5 a0_6 l0_7 a0_8 a0_9 a0_10 a0_11 a0_12 a0_13 bt202.1 bt202.2)))))) else (some (⟨#[]⟩ : ByteArray))) = some r := H
 have A2 := Aside0.mk A20
 clear A20
 by_cases c3 : t200 = true
 ·subst c3
  have H1 : ((octet_Writer_Num.f k (⟨#[]⟩ : ByteArray) false a0_0).bind fun bt202 => (if a0_0 = 1 then ((event_entry.f k bt202.1 bt202.2 a0_1 a0_2 a0_3 a0_4 l0_5 a0_6 l0_7).bind fun bt204 => ((octet_Writer_All.f bt204.1 bt204.2).bind fun bt206 => (some bt206.1))) else (if a0_0 = 2 then ((octet_Writer_Num.f k bt202.1 bt202.2 a0_8).bind fun bt210 => ((octet_Writer_Num.f k bt210.1 bt210.2 a0_9).bind fun bt212 => ((octet_Writer_All.f bt212.1 bt212.2).bind fun bt214 => (some bt214.1)))) else (if a0_0 = 3 then ((octet_Writer_Num.f k bt202.1 bt202.2 a0_8).bind fun bt218 => ((octet_Writer_All.f bt218.1 bt218.2).bind fun bt220 => (some bt220.1))) else (if a0_0 = 4 then (event_Bytes.j0 k a0_0 (a0_0 == 4) a0_0 a0_1 a0_2 a0_3 a0_4 l0_5 a0_6 l0_7 a0_8 a0_9 a0_10 a0_11 a0_12 a0_13 bt202.1 bt202.2) else (event_Bytes.j0 k a0_0 (a0_0 == 5) a0_0 a0_1 a0_2 a0_3 a0_4 l0_5 a0_6 l0_7 a0_8 a0_9 a0_10 a0_11 a0_12 a0_13 bt202.1 bt202.2)))))) = some r := by rw [if_pos rfl] at H; exact H
  clear H
  have H := H1
  clear H1
  replace H := Option.bind_eq_some_iff.mp H
  obtain ⟨⟨t202, t203⟩, A40, H⟩ := H
  replace H : (if a0_0 = 1 then ((event_entry.f k t202 t203 a0_1 a0_2 a0_3 a0_4 l0_5 a0_6 l0_7).bind fun bt204 => ((octet_Writer_All.f bt204.1 bt204.2).bind fun bt206 => (some bt206.1))) else (if a0_0 = 2 then ((octet_Writer_Num.f k t202 t203 a0_8).bind fun bt210 => ((octet_Writer_Num.f k bt210.1 bt210.2 a0_9).bind fun bt212 => ((octet_Writer_All.f bt212.1 bt212.2).bind fun bt214 => (some bt214.1)))) else (if a0_0 = 3 then ((octet_Writer_Num.f k t202 t203 a0_8).bind fun bt218 => ((octet_Writer_All.f bt218.1 bt218.2).bind fun bt220 => (some bt220.1))) else (if a0_0 = 4 then (event_Bytes.j0 k a0_0 (a0_0 == 4) a0_0 a0_1 a0_2 a0_3 a0_4 l0_5 a0_6 l0_7 a0_8 a0_9 a0_10 a0_11 a0_12 a0_13 t202 t203) else (event_Bytes.j0 k a0_0 (a0_0 == 5) a0_0 a0_1 a0_2 a0_3 a0_4 l0_5 a0_6 l0_7 a0_8 a0_9 a0_10 a0_11 a0_12 a0_13 t202 t203))))) = some r := H
  have A4 := Aside0.mk A40
  clear A40
  by_cases c5 : a0_0 = 1
  ·rw [if_pos c5] at H
   have c5b0 : (a0_0 == 1) = true := beq_iff_eq.mpr c5
   have c5b1 : (a0_0 != 1) = false := bne_eq_false_iff_eq.mpr c5
   clear c5
   replace H := Option.bind_eq_some_iff.mp H
   obtain ⟨⟨t204, t205⟩, A60, H⟩ := H
   replace H : ((octet_Writer_All.f t204 t205).bind fun bt206 => (some bt206.1)) = some r := H
   have A6 := Aside0.mk A60
   clear A60
   replace H := Option.bind_eq_some_iff.mp H
   obtain ⟨⟨t206, t207, t208, t209⟩, A70, H⟩ := H
   replace H : (some t206) = some r := H
   have A7 := Aside0.mk A70
   clear A70
   obtain rfl := Option.some.inj H
   go_enter Try.func8, Try.ntmps8
   go_wp2_with (first | ((with_reducible refine gate_dst (N := 1) rfl ?_); refine box_event ?hg (N := 1) ?hd (cs := #[.int .i64 a0_0, .string a0_1, .int .i64 a0_2, .int .i64 a0_3, .int .i64 a0_4, .slice A0_5 l0_5.length c0_5, .bool a0_6, .slice A0_7 l0_7.length c0_7, .int .i64 a0_8, .int .i64 a0_9, .string a0_10, .int .i64 a0_11, .string a0_12, .int .i64 a0_13]) (t := 29) ?hr ?_; (case hd => rfl); (case hg => rfl); (case hr => first | (go_simp; done) | (go_simp; rfl)); intro gb199 hg w8 hbox hb; have n0_ := Aside0.mk (below_step (Zevent_Bytes.z1) hb); have n1_ := Aside0.mk (hbox); have n2_ := Aside0.mk ((Zevent_Bytes.z2 : w.heap.size ≤ gb199)); have n3_ := Aside0.mk ((Zevent_Bytes.z2 : w.heap.size ≤ gb199)); clear HB; have HB := n0_; have BK199 := n1_; have GW199 := n2_; have GE199 := n3_; clear n0_ n1_ n2_ n3_; clear hb hbox hg; have hcz9_0 : w8.cell? ⟨gb199, 0, none⟩ = some (.int .i64 a0_0) := (blk_cell BK199.out 0).trans rfl; have hcz9_1 : w8.cell? ⟨gb199, 1, none⟩ = some (.string a0_1) := (blk_cell BK199.out 1).trans rfl; have hcz9_2 : w8.cell? ⟨gb199, 2, none⟩ = some (.int .i64 a0_2) := (blk_cell BK199.out 2).trans rfl; have hcz9_3 : w8.cell? ⟨gb199, 3, none⟩ = some (.int .i64 a0_3) := (blk_cell BK199.out 3).trans rfl; have hcz9_4 : w8.cell? ⟨gb199, 4, none⟩ = some (.int .i64 a0_4) := (blk_cell BK199.out 4).trans rfl; have hcz9_5 : w8.cell? ⟨gb199, 5, none⟩ = some (.slice A0_5 l0_5.length c0_5) := (blk_cell BK199.out 5).trans rfl; have hcz9_6 : w8.cell? ⟨gb199, 6, none⟩ = some (.bool a0_6) := (blk_cell BK199.out 6).trans rfl; have hcz9_7 : w8.cell? ⟨gb199, 7, none⟩ = some (.slice A0_7 l0_7.length c0_7) := (blk_cell BK199.out 7).trans rfl; have hcz9_8 : w8.cell? ⟨gb199, 8, none⟩ = some (.int .i64 a0_8) := (blk_cell BK199.out 8).trans rfl; have hcz9_9 : w8.cell? ⟨gb199, 9, none⟩ = some (.int .i64 a0_9) := (blk_cell BK199.out 9).trans rfl; have hcz9_10 : w8.cell? ⟨gb199, 10, none⟩ = some (.string a0_10) := (blk_cell BK199.out 10).trans rfl; have hcz9_11 : w8.cell? ⟨gb199, 11, none⟩ = some (.int .i64 a0_11) := (blk_cell BK199.out 11).trans rfl; have hcz9_12 : w8.cell? ⟨gb199, 12, none⟩ = some (.string a0_12) := (blk_cell BK199.out 12).trans rfl; have hcz9_13 : w8.cell? ⟨gb199, 13, none⟩ = some (.int .i64 a0_13) := (blk_cell BK199.out 13).trans rfl; have hfz9_0 := blk_frozen BK199.out 0; have hfz9_1 := blk_frozen BK199.out 1; have hfz9_2 := blk_frozen BK199.out 2; have hfz9_3 := blk_frozen BK199.out 3; have hfz9_4 := blk_frozen BK199.out 4; have hfz9_5 := blk_frozen BK199.out 5; have hfz9_6 := blk_frozen BK199.out 6; have hfz9_7 := blk_frozen BK199.out 7; have hfz9_8 := blk_frozen BK199.out 8; have hfz9_9 := blk_frozen BK199.out 9; have hfz9_10 := blk_frozen BK199.out 10; have hfz9_11 := blk_frozen BK199.out 11; have hfz9_12 := blk_frozen BK199.out 12; have hfz9_13 := blk_frozen BK199.out 13) | ((with_reducible refine gate_callee (f := 18) rfl ?_); refine goesL_ (some 7) rfl rfl Try.func18 (by kernel_rfl) rfl #[.agg #[.int .i64 a0_0, .string a0_1, .int .i64 a0_2, .int .i64 a0_3, .int .i64 a0_4, .slice A0_5 l0_5.length c0_5, .bool a0_6, .slice A0_7 l0_7.length c0_7, .int .i64 a0_8, .int .i64 a0_9, .string a0_10, .int .i64 a0_11, .string a0_12, .int .i64 a0_13]] rfl (Zevent_Bytes.z0) ?_; (with_reducible refine (event_Right.calls k a0_0 a0_1 a0_2 a0_3 a0_4 _ _ l0_5 a0_6 _ _ l0_7 a0_8 a0_9 a0_10 a0_11 a0_12 a0_13 true _ ?side1 ?side2 ?side3 ?side4 A2.out).mono ?_); (case side1 => repeat (first | exact (Kd.C_below HR0_5.out HB.out) | (with_reducible refine Kd.C_alloc ?_ _) | (with_reducible refine Kd.C_drewN ?_ _) | (with_reducible refine Kd.C_drew ?_))); (case side2 => exact HC0_5.out); (case side3 => repeat (first | exact (Kd.C_below HR0_7.out HB.out) | (with_reducible refine Kd.C_alloc ?_ _) | (with_reducible refine Kd.C_drewN ?_ _) | (with_reducible refine Kd.C_drew ?_))); (case side4 => exact HC0_7.out); rintro e w10 ⟨rfl, hb⟩; refine ⟨_, rfl, ?_⟩; have n0_ := Aside0.mk (blk_below (g := gb199) (o := .cells #[.int .i64 a0_0, .string a0_1, .int .i64 a0_2, .int .i64 a0_3, .int .i64 a0_4, .slice A0_5 l0_5.length c0_5, .bool a0_6, .slice A0_7 l0_7.length c0_7, .int .i64 a0_8, .int .i64 a0_9, .string a0_10, .int .i64 a0_11, .string a0_12, .int .i64 a0_13] 29 (0, 0)) (by (with_reducible repeat (first | refine blk_drewN ?_ _ | refine blk_drew ?_ | refine blk_alloc ?_ _)); exact BK199.out) hb); have n1_ := Aside0.mk (below_step (by repeat (first | (with_reducible first | exact HB.out | apply below_alloc | apply pw_below_drewN | apply below_drew1 | refine below_set ?_ GE199.out) | exact HB.out)) hb); clear BK199; clear HB; have BK199 := n0_; have HB := n1_; clear n0_ n1_; (try clear hb); (try clear hb2); (try clear hk); (try clear hi)) | ((with_reducible refine gate_dst (N := 10) rfl ?_); refine box_event ?hg (N := 10) ?hd (cs := #[.string (⟨#[]⟩ : ByteArray), .bool false]) (t := 43) ?hr ?_; (case hd => rfl); (case hg => rfl); (case hr => first | (go_simp; done) | (go_simp; rfl)); intro g201 hg w11 hbox hb; have n0_ := Aside0.mk (blk_below (g := gb199) (o := .cells #[.int .i64 a0_0, .string a0_1, .int .i64 a0_2, .int .i64 a0_3, .int .i64 a0_4, .slice A0_5 l0_5.length c0_5, .bool a0_6, .slice A0_7 l0_7.length c0_7, .int .i64 a0_8, .int .i64 a0_9, .string a0_10, .int .i64 a0_11, .string a0_12, .int .i64 a0_13] 29 (0, 0)) (by (with_reducible repeat (first | refine blk_drewN ?_ _ | refine blk_drew ?_ | refine blk_alloc ?_ _)); exact BK199.out) hb); have n1_ := Aside0.mk (below_step (by repeat (first | (with_reducible first | exact HB.out | apply below_alloc | apply pw_below_drewN | apply below_drew1 | refine below_set ?_ GE199.out) | exact HB.out)) hb); have n2_ := Aside0.mk ((show IsS43 w _ g201 (⟨#[]⟩ : ByteArray) false from ⟨hbox, (by rw [hg]; exact (below_size (by repeat (first | (with_reducible first | exact HB.out | apply below_alloc | apply pw_below_drewN | apply below_drew1 | refine below_set ?_ GE199.out) | exact HB.out))) : w.heap.size ≤ g201)⟩)); have n3_ := Aside0.mk ((by rw [hg]; exact Nat.ne_of_lt (blk_lt (g := gb199) (o := .cells #[.int .i64 a0_0, .string a0_1, .int .i64 a0_2, .int .i64 a0_3, .int .i64 a0_4, .slice A0_5 l0_5.length c0_5, .bool a0_6, .slice A0_7 l0_7.length c0_7, .int .i64 a0_8, .int .i64 a0_9, .string a0_10, .int .i64 a0_11, .string a0_12, .int .i64 a0_13] 29 (0, 0)) (by (with_reducible repeat (first | refine blk_drewN ?_ _ | refine blk_drew ?_ | refine blk_alloc ?_ _)); exact BK199.out)) : gb199 ≠ g201)); have n4_ := Aside0.mk ((by rw [hg]; exact Nat.ne_of_gt (blk_lt (g := gb199) (o := .cells #[.int .i64 a0_0, .string a0_1, .int .i64 a0_2, .int .i64 a0_3, .int .i64 a0_4, .slice A0_5 l0_5.length c0_5, .bool a0_6, .slice A0_7 l0_7.length c0_7, .int .i64 a0_8, .int .i64 a0_9, .string a0_10, .int .i64 a0_11, .string a0_12, .int .i64 a0_13] 29 (0, 0)) (by (with_reducible repeat (first | refine blk_drewN ?_ _ | refine blk_drew ?_ | refine blk_alloc ?_ _)); exact BK199.out)) : g201 ≠ gb199)); clear BK199; clear HB; have BK199 := n0_; have HB := n1_; have HI201 := n2_; have NB199_201 := n3_; have NB201_199 := n4_; clear n0_ n1_ n2_ n3_ n4_; clear hb hbox hg; have hnb12 := NB199_201.out; have hnc12 := NB201_199.out; have hcz13_0 : w11.cell? ⟨gb199, 0, none⟩ = some (.int .i64 a0_0) := (blk_cell BK199.out 0).trans rfl; have hcz13_1 : w11.cell? ⟨gb199, 1, none⟩ = some (.string a0_1) := (blk_cell BK199.out 1).trans rfl; have hcz13_2 : w11.cell? ⟨gb199, 2, none⟩ = some (.int .i64 a0_2) := (blk_cell BK199.out 2).trans rfl; have hcz13_3 : w11.cell? ⟨gb199, 3, none⟩ = some (.int .i64 a0_3) := (blk_cell BK199.out 3).trans rfl; have hcz13_4 : w11.cell? ⟨gb199, 4, none⟩ = some (.int .i64 a0_4) := (blk_cell BK199.out 4).trans rfl; have hcz13_5 : w11.cell? ⟨gb199, 5, none⟩ = some (.slice A0_5 l0_5.length c0_5) := (blk_cell BK199.out 5).trans rfl; have hcz13_6 : w11.cell? ⟨gb199, 6, none⟩ = some (.bool a0_6) := (blk_cell BK199.out 6).trans rfl; have hcz13_7 : w11.cell? ⟨gb199, 7, none⟩ = some (.slice A0_7 l0_7.length c0_7) := (blk_cell BK199.out 7).trans rfl; have hcz13_8 : w11.cell? ⟨gb199, 8, none⟩ = some (.int .i64 a0_8) := (blk_cell BK199.out 8).trans rfl; have hcz13_9 : w11.cell? ⟨gb199, 9, none⟩ = some (.int .i64 a0_9) := (blk_cell BK199.out 9).trans rfl; have hcz13_10 : w11.cell? ⟨gb199, 10, none⟩ = some (.string a0_10) := (blk_cell BK199.out 10).trans rfl; have hcz13_11 : w11.cell? ⟨gb199, 11, none⟩ = some (.int .i64 a0_11) := (blk_cell BK199.out 11).trans rfl; have hcz13_12 : w11.cell? ⟨gb199, 12, none⟩ = some (.string a0_12) := (blk_cell BK199.out 12).trans rfl; have hcz13_13 : w11.cell? ⟨gb199, 13, none⟩ = some (.int .i64 a0_13) := (blk_cell BK199.out 13).trans rfl; have hfz13_0 := blk_frozen BK199.out 0; have hfz13_1 := blk_frozen BK199.out 1; have hfz13_2 := blk_frozen BK199.out 2; have hfz13_3 := blk_frozen BK199.out 3; have hfz13_4 := blk_frozen BK199.out 4; have hfz13_5 := blk_frozen BK199.out 5; have hfz13_6 := blk_frozen BK199.out 6; have hfz13_7 := blk_frozen BK199.out 7; have hfz13_8 := blk_frozen BK199.out 8; have hfz13_9 := blk_frozen BK199.out 9; have hfz13_10 := blk_frozen BK199.out 10; have hfz13_11 := blk_frozen BK199.out 11; have hfz13_12 := blk_frozen BK199.out 12; have hfz13_13 := blk_frozen BK199.out 13) | ((with_reducible refine gate_callee (f := 19) rfl ?_); refine goesL_ (some 14) rfl rfl Try.func19 (by kernel_rfl) rfl #[.pointer (some ⟨g201, 0, none⟩), .int .i64 a0_0] rfl (Zevent_Bytes.z0) ?_; (with_reducible refine (octet_Writer_Num.calls k g201 (⟨#[]⟩ : ByteArray) false a0_0 t202 t203 w _ ?side1 ?side2 A4.out).mono ?_); (case side1 => repeat (first | (with_reducible first | exact HI201.out | apply IsS43.alloc | apply IsS43.drewN | apply IsS43.drew | apply IsS43.set_0 | apply IsS43.set_1 | refine IsS43.far ?_ NB201_199.out _) | exact HI201.out)); (case side2 => repeat (first | (with_reducible first | exact HB.out | apply below_alloc | apply pw_below_drewN | apply below_drew1 | refine below_set ?_ (IsS43.ge HI201.out) | refine below_set ?_ GE199.out) | exact HB.out)); rintro e w14 ⟨rfl, hi, hb, hk⟩; refine ⟨_, rfl, ?_⟩; have n0_ := Aside0.mk (KeepBut.blk hk (g' := gb199) (o := .cells #[.int .i64 a0_0, .string a0_1, .int .i64 a0_2, .int .i64 a0_3, .int .i64 a0_4, .slice A0_5 l0_5.length c0_5, .bool a0_6, .slice A0_7 l0_7.length c0_7, .int .i64 a0_8, .int .i64 a0_9, .string a0_10, .int .i64 a0_11, .string a0_12, .int .i64 a0_13] 29 (0, 0)) (by (with_reducible repeat (first | refine blk_drewN ?_ _ | refine blk_drew ?_ | refine blk_alloc ?_ _)); exact BK199.out) NB199_201.out (by simp)); have n1_ := Aside0.mk (hb); have n2_ := Aside0.mk (hi); clear BK199; clear HB; clear HI201; have BK199 := n0_; have HB := n1_; have HI201 := n2_; clear n0_ n1_ n2_; (try clear hb); (try clear hb2); (try clear hk); (try clear hi); have hcz15_0 : w14.cell? ⟨gb199, 0, none⟩ = some (.int .i64 a0_0) := (blk_cell BK199.out 0).trans rfl; have hcz15_1 : w14.cell? ⟨gb199, 1, none⟩ = some (.string a0_1) := (blk_cell BK199.out 1).trans rfl; have hcz15_2 : w14.cell? ⟨gb199, 2, none⟩ = some (.int .i64 a0_2) := (blk_cell BK199.out 2).trans rfl; have hcz15_3 : w14.cell? ⟨gb199, 3, none⟩ = some (.int .i64 a0_3) := (blk_cell BK199.out 3).trans rfl; have hcz15_4 : w14.cell? ⟨gb199, 4, none⟩ = some (.int .i64 a0_4) := (blk_cell BK199.out 4).trans rfl; have hcz15_5 : w14.cell? ⟨gb199, 5, none⟩ = some (.slice A0_5 l0_5.length c0_5) := (blk_cell BK199.out 5).trans rfl; have hcz15_6 : w14.cell? ⟨gb199, 6, none⟩ = some (.bool a0_6) := (blk_cell BK199.out 6).trans rfl; have hcz15_7 : w14.cell? ⟨gb199, 7, none⟩ = some (.slice A0_7 l0_7.length c0_7) := (blk_cell BK199.out 7).trans rfl; have hcz15_8 : w14.cell? ⟨gb199, 8, none⟩ = some (.int .i64 a0_8) := (blk_cell BK199.out 8).trans rfl; have hcz15_9 : w14.cell? ⟨gb199, 9, none⟩ = some (.int .i64 a0_9) := (blk_cell BK199.out 9).trans rfl; have hcz15_10 : w14.cell? ⟨gb199, 10, none⟩ = some (.string a0_10) := (blk_cell BK199.out 10).trans rfl; have hcz15_11 : w14.cell? ⟨gb199, 11, none⟩ = some (.int .i64 a0_11) := (blk_cell BK199.out 11).trans rfl; have hcz15_12 : w14.cell? ⟨gb199, 12, none⟩ = some (.string a0_12) := (blk_cell BK199.out 12).trans rfl; have hcz15_13 : w14.cell? ⟨gb199, 13, none⟩ = some (.int .i64 a0_13) := (blk_cell BK199.out 13).trans rfl; have hfz15_0 := blk_frozen BK199.out 0; have hfz15_1 := blk_frozen BK199.out 1; have hfz15_2 := blk_frozen BK199.out 2; have hfz15_3 := blk_frozen BK199.out 3; have hfz15_4 := blk_frozen BK199.out 4; have hfz15_5 := blk_frozen BK199.out 5; have hfz15_6 := blk_frozen BK199.out 6; have hfz15_7 := blk_frozen BK199.out 7; have hfz15_8 := blk_frozen BK199.out 8; have hfz15_9 := blk_frozen BK199.out 9; have hfz15_10 := blk_frozen BK199.out 10; have hfz15_11 := blk_frozen BK199.out 11; have hfz15_12 := blk_frozen BK199.out 12; have hfz15_13 := blk_frozen BK199.out 13) | ((with_reducible refine gate_callee (f := 20) rfl ?_); refine goesL_ (some 22) rfl rfl Try.func20 (by kernel_rfl) rfl #[.pointer (some ⟨g201, 0, none⟩), .agg #[.string a0_1, .int .i64 a0_2, .int .i64 a0_3, .int .i64 a0_4, .slice A0_5 l0_5.length c0_5, .bool a0_6, .slice A0_7 l0_7.length c0_7]] rfl (Zevent_Bytes.z0) ?_; (with_reducible refine (event_entry.calls k g201 t202 t203 a0_1 a0_2 a0_3 a0_4 _ _ l0_5 a0_6 _ _ l0_7 t204 t205 w _ ?side1 ?side2 ?side3 ?side4 ?side5 ?side6 ?side7 A6.out).mono ?_); (case side1 => repeat (first | (with_reducible first | exact HI201.out | apply IsS43.alloc | apply IsS43.drewN | apply IsS43.drew | apply IsS43.set_0 | apply IsS43.set_1 | refine IsS43.far ?_ NB201_199.out _) | exact HI201.out)); (case side2 => repeat (first | (with_reducible first | exact HB.out | apply below_alloc | apply pw_below_drewN | apply below_drew1 | refine below_set ?_ (IsS43.ge HI201.out) | refine below_set ?_ GE199.out) | exact HB.out)); (case side3 => exact Kd.C_foot_came k60_heap HR0_5.out (by repeat (first | (with_reducible first | exact HB.out | apply below_alloc | apply pw_below_drewN | apply below_drew1 | refine below_set ?_ (IsS43.ge HI201.out) | refine below_set ?_ GE199.out) | exact HB.out)) (IsS43.ge HI201.out)); (case side4 => exact HC0_5.out); (case side5 => repeat (first | exact (Kd.C_below HR0_7.out HB.out) | (with_reducible refine Kd.C_alloc ?_ _) | (with_reducible refine Kd.C_drewN ?_ _) | (with_reducible refine Kd.C_drew ?_))); (case side6 => exact HC0_7.out); (case side7 => exact Kd.far_C (⟨#[]⟩ : ByteArray) HR0_7.out (IsS43.ge HI201.out)); rintro e w16 ⟨rfl, hi, hb, hk⟩; refine ⟨_, rfl, ?_⟩; have n0_ := Aside0.mk (KeepBut.blk hk (g' := gb199) (o := .cells #[.int .i64 a0_0, .string a0_1, .int .i64 a0_2, .int .i64 a0_3, .int .i64 a0_4, .slice A0_5 l0_5.length c0_5, .bool a0_6, .slice A0_7 l0_7.length c0_7, .int .i64 a0_8, .int .i64 a0_9, .string a0_10, .int .i64 a0_11, .string a0_12, .int .i64 a0_13] 29 (0, 0)) (by (with_reducible repeat (first | refine blk_drewN ?_ _ | refine blk_drew ?_ | refine blk_alloc ?_ _)); exact BK199.out) NB199_201.out (by simp)); have n1_ := Aside0.mk (hb); have n2_ := Aside0.mk (hi); clear BK199; clear HB; clear HI201; have BK199 := n0_; have HB := n1_; have HI201 := n2_; clear n0_ n1_ n2_; (try clear hb); (try clear hb2); (try clear hk); (try clear hi)) | ((with_reducible refine gate_callee (f := 22) rfl ?_); refine goesL_ (some 70) rfl rfl Try.func22 (by kernel_rfl) rfl #[.pointer (some ⟨g201, 0, none⟩)] rfl (Zevent_Bytes.z0) ?_; (with_reducible refine (octet_Writer_All.calls g201 t204 t205 t206 t207 t208 t209 w _ ?side1 ?side2 A7.out).mono ?_); (case side1 => repeat (first | (with_reducible first | exact HI201.out | apply IsS43.alloc | apply IsS43.drewN | apply IsS43.drew | apply IsS43.set_0 | apply IsS43.set_1 | refine IsS43.far ?_ NB201_199.out _) | exact HI201.out)); (case side2 => repeat (first | (with_reducible first | exact HB.out | apply below_alloc | apply pw_below_drewN | apply below_drew1 | refine below_set ?_ (IsS43.ge HI201.out) | refine below_set ?_ GE199.out) | exact HB.out)); rintro e w17 ⟨rfl, hi, hb, hk⟩; refine ⟨_, rfl, ?_⟩; have n0_ := Aside0.mk (KeepBut.blk hk (g' := gb199) (o := .cells #[.int .i64 a0_0, .string a0_1, .int .i64 a0_2, .int .i64 a0_3, .int .i64 a0_4, .slice A0_5 l0_5.length c0_5, .bool a0_6, .slice A0_7 l0_7.length c0_7, .int .i64 a0_8, .int .i64 a0_9, .string a0_10, .int .i64 a0_11, .string a0_12, .int .i64 a0_13] 29 (0, 0)) (by (with_reducible repeat (first | refine blk_drewN ?_ _ | refine blk_drew ?_ | refine blk_alloc ?_ _)); exact BK199.out) NB199_201.out (by simp)); have n1_ := Aside0.mk (hb); have n2_ := Aside0.mk (hi); clear BK199; clear HB; clear HI201; have BK199 := n0_; have HB := n1_; have HI201 := n2_; clear n0_ n1_ n2_; (try clear hb); (try clear hb2); (try clear hk); (try clear hi)))
   go_ret
   exact ⟨Zevent_Bytes.z3, by repeat (first | (with_reducible first | exact HB.out | apply below_alloc | apply pw_below_drewN | apply below_drew1 | refine below_set ?_ (IsS43.ge HI201.out) | refine below_set ?_ GE199.out) | exact HB.out)⟩
  ·rw [if_neg c5] at H
   have c5b0 : (a0_0 == 1) = false := beq_eq_false_iff_ne.mpr c5
   have c5b1 : (a0_0 != 1) = true := bne_iff_ne.mpr c5
   by_cases c18 : a0_0 = 2
   ·rw [if_pos c18] at H
    have c18b0 : (a0_0 == 2) = true := beq_iff_eq.mpr c18
    have c18b1 : (a0_0 != 2) = false := bne_eq_false_iff_eq.mpr c18
    clear c18
    replace H := Option.bind_eq_some_iff.mp H
    obtain ⟨⟨t210, t211⟩, A190, H⟩ := H
    replace H : ((octet_Writer_Num.f k t210 t211 a0_9).bind fun bt212 => ((octet_Writer_All.f bt212.1 bt212.2).bind fun bt214 => (some bt214.1))) = some r := H
    have A19 := Aside0.mk A190
    clear A190
    replace H := Option.bind_eq_some_iff.mp H
    obtain ⟨⟨t212, t213⟩, A200, H⟩ := H
    replace H : ((octet_Writer_All.f t212 t213).bind fun bt214 => (some bt214.1)) = some r := H
    have A20 := Aside0.mk A200
    clear A200
    replace H := Option.bind_eq_some_iff.mp H
    obtain ⟨⟨t214, t215, t216, t217⟩, A210, H⟩ := H
    replace H : (some t214) = some r := H
    have A21 := Aside0.mk A210
    clear A210
    obtain rfl := Option.some.inj H
    go_enter Try.func8, Try.ntmps8
    go_wp2_with (first | ((with_reducible refine gate_dst (N := 1) rfl ?_); refine box_event ?hg (N := 1) ?hd (cs := #[.int .i64 a0_0, .string a0_1, .int .i64 a0_2, .int .i64 a0_3, .int .i64 a0_4, .slice A0_5 l0_5.length c0_5, .bool a0_6, .slice A0_7 l0_7.length c0_7, .int .i64 a0_8, .int .i64 a0_9, .string a0_10, .int .i64 a0_11, .string a0_12, .int .i64 a0_13]) (t := 29) ?hr ?_; (case hd => rfl); (case hg => rfl); (case hr => first | (go_simp; done) | (go_simp; rfl)); intro gb199 hg w22 hbox hb; have n0_ := Aside0.mk (below_step (Zevent_Bytes.z1) hb); have n1_ := Aside0.mk (hbox); have n2_ := Aside0.mk ((Zevent_Bytes.z2 : w.heap.size ≤ gb199)); have n3_ := Aside0.mk ((Zevent_Bytes.z2 : w.heap.size ≤ gb199)); clear HB; have HB := n0_; have BK199 := n1_; have GW199 := n2_; have GE199 := n3_; clear n0_ n1_ n2_ n3_; clear hb hbox hg; have hcz23_0 : w22.cell? ⟨gb199, 0, none⟩ = some (.int .i64 a0_0) := (blk_cell BK199.out 0).trans rfl; have hcz23_1 : w22.cell? ⟨gb199, 1, none⟩ = some (.string a0_1) := (blk_cell BK199.out 1).trans rfl; have hcz23_2 : w22.cell? ⟨gb199, 2, none⟩ = some (.int .i64 a0_2) := (blk_cell BK199.out 2).trans rfl; have hcz23_3 : w22.cell? ⟨gb199, 3, none⟩ = some (.int .i64 a0_3) := (blk_cell BK199.out 3).trans rfl; have hcz23_4 : w22.cell? ⟨gb199, 4, none⟩ = some (.int .i64 a0_4) := (blk_cell BK199.out 4).trans rfl; have hcz23_5 : w22.cell? ⟨gb199, 5, none⟩ = some (.slice A0_5 l0_5.length c0_5) := (blk_cell BK199.out 5).trans rfl; have hcz23_6 : w22.cell? ⟨gb199, 6, none⟩ = some (.bool a0_6) := (blk_cell BK199.out 6).trans rfl; have hcz23_7 : w22.cell? ⟨gb199, 7, none⟩ = some (.slice A0_7 l0_7.length c0_7) := (blk_cell BK199.out 7).trans rfl; have hcz23_8 : w22.cell? ⟨gb199, 8, none⟩ = some (.int .i64 a0_8) := (blk_cell BK199.out 8).trans rfl; have hcz23_9 : w22.cell? ⟨gb199, 9, none⟩ = some (.int .i64 a0_9) := (blk_cell BK199.out 9).trans rfl; have hcz23_10 : w22.cell? ⟨gb199, 10, none⟩ = some (.string a0_10) := (blk_cell BK199.out 10).trans rfl; have hcz23_11 : w22.cell? ⟨gb199, 11, none⟩ = some (.int .i64 a0_11) := (blk_cell BK199.out 11).trans rfl; have hcz23_12 : w22.cell? ⟨gb199, 12, none⟩ = some (.string a0_12) := (blk_cell BK199.out 12).trans rfl; have hcz23_13 : w22.cell? ⟨gb199, 13, none⟩ = some (.int .i64 a0_13) := (blk_cell BK199.out 13).trans rfl; have hfz23_0 := blk_frozen BK199.out 0; have hfz23_1 := blk_frozen BK199.out 1; have hfz23_2 := blk_frozen BK199.out 2; have hfz23_3 := blk_frozen BK199.out 3; have hfz23_4 := blk_frozen BK199.out 4; have hfz23_5 := blk_frozen BK199.out 5; have hfz23_6 := blk_frozen BK199.out 6; have hfz23_7 := blk_frozen BK199.out 7; have hfz23_8 := blk_frozen BK199.out 8; have hfz23_9 := blk_frozen BK199.out 9; have hfz23_10 := blk_frozen BK199.out 10; have hfz23_11 := blk_frozen BK199.out 11; have hfz23_12 := blk_frozen BK199.out 12; have hfz23_13 := blk_frozen BK199.out 13) | ((with_reducible refine gate_callee (f := 18) rfl ?_); refine goesL_ (some 7) rfl rfl Try.func18 (by kernel_rfl) rfl #[.agg #[.int .i64 a0_0, .string a0_1, .int .i64 a0_2, .int .i64 a0_3, .int .i64 a0_4, .slice A0_5 l0_5.length c0_5, .bool a0_6, .slice A0_7 l0_7.length c0_7, .int .i64 a0_8, .int .i64 a0_9, .string a0_10, .int .i64 a0_11, .string a0_12, .int .i64 a0_13]] rfl (Zevent_Bytes.z0) ?_; (with_reducible refine (event_Right.calls k a0_0 a0_1 a0_2 a0_3 a0_4 _ _ l0_5 a0_6 _ _ l0_7 a0_8 a0_9 a0_10 a0_11 a0_12 a0_13 true _ ?side1 ?side2 ?side3 ?side4 A2.out).mono ?_); (case side1 => repeat (first | exact (Kd.C_below HR0_5.out HB.out) | (with_reducible refine Kd.C_alloc ?_ _) | (with_reducible refine Kd.C_drewN ?_ _) | (with_reducible refine Kd.C_drew ?_))); (case side2 => exact HC0_5.out); (case side3 => repeat (first | exact (Kd.C_below HR0_7.out HB.out) | (with_reducible refine Kd.C_alloc ?_ _) | (with_reducible refine Kd.C_drewN ?_ _) | (with_reducible refine Kd.C_drew ?_))); (case side4 => exact HC0_7.out); rintro e w24 ⟨rfl, hb⟩; refine ⟨_, rfl, ?_⟩; have n0_ := Aside0.mk (blk_below (g := gb199) (o := .cells #[.int .i64 a0_0, .string a0_1, .int .i64 a0_2, .int .i64 a0_3, .int .i64 a0_4, .slice A0_5 l0_5.length c0_5, .bool a0_6, .slice A0_7 l0_7.length c0_7, .int .i64 a0_8, .int .i64 a0_9, .string a0_10, .int .i64 a0_11, .string a0_12, .int .i64 a0_13] 29 (0, 0)) (by (with_reducible repeat (first | refine blk_drewN ?_ _ | refine blk_drew ?_ | refine blk_alloc ?_ _)); exact BK199.out) hb); have n1_ := Aside0.mk (below_step (by repeat (first | (with_reducible first | exact HB.out | apply below_alloc | apply pw_below_drewN | apply below_drew1 | refine below_set ?_ GE199.out) | exact HB.out)) hb); clear BK199; clear HB; have BK199 := n0_; have HB := n1_; clear n0_ n1_; (try clear hb); (try clear hb2); (try clear hk); (try clear hi)) | ((with_reducible refine gate_dst (N := 10) rfl ?_); refine box_event ?hg (N := 10) ?hd (cs := #[.string (⟨#[]⟩ : ByteArray), .bool false]) (t := 43) ?hr ?_; (case hd => rfl); (case hg => rfl); (case hr => first | (go_simp; done) | (go_simp; rfl)); intro g201 hg w25 hbox hb; have n0_ := Aside0.mk (blk_below (g := gb199) (o := .cells #[.int .i64 a0_0, .string a0_1, .int .i64 a0_2, .int .i64 a0_3, .int .i64 a0_4, .slice A0_5 l0_5.length c0_5, .bool a0_6, .slice A0_7 l0_7.length c0_7, .int .i64 a0_8, .int .i64 a0_9, .string a0_10, .int .i64 a0_11, .string a0_12, .int .i64 a0_13] 29 (0, 0)) (by (with_reducible repeat (first | refine blk_drewN ?_ _ | refine blk_drew ?_ | refine blk_alloc ?_ _)); exact BK199.out) hb); have n1_ := Aside0.mk (below_step (by repeat (first | (with_reducible first | exact HB.out | apply below_alloc | apply pw_below_drewN | apply below_drew1 | refine below_set ?_ GE199.out) | exact HB.out)) hb); have n2_ := Aside0.mk ((show IsS43 w _ g201 (⟨#[]⟩ : ByteArray) false from ⟨hbox, (by rw [hg]; exact (below_size (by repeat (first | (with_reducible first | exact HB.out | apply below_alloc | apply pw_below_drewN | apply below_drew1 | refine below_set ?_ GE199.out) | exact HB.out))) : w.heap.size ≤ g201)⟩)); have n3_ := Aside0.mk ((by rw [hg]; exact Nat.ne_of_lt (blk_lt (g := gb199) (o := .cells #[.int .i64 a0_0, .string a0_1, .int .i64 a0_2, .int .i64 a0_3, .int .i64 a0_4, .slice A0_5 l0_5.length c0_5, .bool a0_6, .slice A0_7 l0_7.length c0_7, .int .i64 a0_8, .int .i64 a0_9, .string a0_10, .int .i64 a0_11, .string a0_12, .int .i64 a0_13] 29 (0, 0)) (by (with_reducible repeat (first | refine blk_drewN ?_ _ | refine blk_drew ?_ | refine blk_alloc ?_ _)); exact BK199.out)) : gb199 ≠ g201)); have n4_ := Aside0.mk ((by rw [hg]; exact Nat.ne_of_gt (blk_lt (g := gb199) (o := .cells #[.int .i64 a0_0, .string a0_1, .int .i64 a0_2, .int .i64 a0_3, .int .i64 a0_4, .slice A0_5 l0_5.length c0_5, .bool a0_6, .slice A0_7 l0_7.length c0_7, .int .i64 a0_8, .int .i64 a0_9, .string a0_10, .int .i64 a0_11, .string a0_12, .int .i64 a0_13] 29 (0, 0)) (by (with_reducible repeat (first | refine blk_drewN ?_ _ | refine blk_drew ?_ | refine blk_alloc ?_ _)); exact BK199.out)) : g201 ≠ gb199)); clear BK199; clear HB; have BK199 := n0_; have HB := n1_; have HI201 := n2_; have NB199_201 := n3_; have NB201_199 := n4_; clear n0_ n1_ n2_ n3_ n4_; clear hb hbox hg; have hnb26 := NB199_201.out; have hnc26 := NB201_199.out; have hcz27_0 : w25.cell? ⟨gb199, 0, none⟩ = some (.int .i64 a0_0) := (blk_cell BK199.out 0).trans rfl; have hcz27_1 : w25.cell? ⟨gb199, 1, none⟩ = some (.string a0_1) := (blk_cell BK199.out 1).trans rfl; have hcz27_2 : w25.cell? ⟨gb199, 2, none⟩ = some (.int .i64 a0_2) := (blk_cell BK199.out 2).trans rfl; have hcz27_3 : w25.cell? ⟨gb199, 3, none⟩ = some (.int .i64 a0_3) := (blk_cell BK199.out 3).trans rfl; have hcz27_4 : w25.cell? ⟨gb199, 4, none⟩ = some (.int .i64 a0_4) := (blk_cell BK199.out 4).trans rfl; have hcz27_5 : w25.cell? ⟨gb199, 5, none⟩ = some (.slice A0_5 l0_5.length c0_5) := (blk_cell BK199.out 5).trans rfl; have hcz27_6 : w25.cell? ⟨gb199, 6, none⟩ = some (.bool a0_6) := (blk_cell BK199.out 6).trans rfl; have hcz27_7 : w25.cell? ⟨gb199, 7, none⟩ = some (.slice A0_7 l0_7.length c0_7) := (blk_cell BK199.out 7).trans rfl; have hcz27_8 : w25.cell? ⟨gb199, 8, none⟩ = some (.int .i64 a0_8) := (blk_cell BK199.out 8).trans rfl; have hcz27_9 : w25.cell? ⟨gb199, 9, none⟩ = some (.int .i64 a0_9) := (blk_cell BK199.out 9).trans rfl; have hcz27_10 : w25.cell? ⟨gb199, 10, none⟩ = some (.string a0_10) := (blk_cell BK199.out 10).trans rfl; have hcz27_11 : w25.cell? ⟨gb199, 11, none⟩ = some (.int .i64 a0_11) := (blk_cell BK199.out 11).trans rfl; have hcz27_12 : w25.cell? ⟨gb199, 12, none⟩ = some (.string a0_12) := (blk_cell BK199.out 12).trans rfl; have hcz27_13 : w25.cell? ⟨gb199, 13, none⟩ = some (.int .i64 a0_13) := (blk_cell BK199.out 13).trans rfl; have hfz27_0 := blk_frozen BK199.out 0; have hfz27_1 := blk_frozen BK199.out 1; have hfz27_2 := blk_frozen BK199.out 2; have hfz27_3 := blk_frozen BK199.out 3; have hfz27_4 := blk_frozen BK199.out 4; have hfz27_5 := blk_frozen BK199.out 5; have hfz27_6 := blk_frozen BK199.out 6; have hfz27_7 := blk_frozen BK199.out 7; have hfz27_8 := blk_frozen BK199.out 8; have hfz27_9 := blk_frozen BK199.out 9; have hfz27_10 := blk_frozen BK199.out 10; have hfz27_11 := blk_frozen BK199.out 11; have hfz27_12 := blk_frozen BK199.out 12; have hfz27_13 := blk_frozen BK199.out 13) | ((with_reducible refine gate_callee (f := 19) rfl ?_); refine goesL_ (some 14) rfl rfl Try.func19 (by kernel_rfl) rfl #[.pointer (some ⟨g201, 0, none⟩), .int .i64 a0_0] rfl (Zevent_Bytes.z0) ?_; (with_reducible refine (octet_Writer_Num.calls k g201 (⟨#[]⟩ : ByteArray) false a0_0 t202 t203 w _ ?side1 ?side2 A4.out).mono ?_); (case side1 => repeat (first | (with_reducible first | exact HI201.out | apply IsS43.alloc | apply IsS43.drewN | apply IsS43.drew | apply IsS43.set_0 | apply IsS43.set_1 | refine IsS43.far ?_ NB201_199.out _) | exact HI201.out)); (case side2 => repeat (first | (with_reducible first | exact HB.out | apply below_alloc | apply pw_below_drewN | apply below_drew1 | refine below_set ?_ (IsS43.ge HI201.out) | refine below_set ?_ GE199.out) | exact HB.out)); rintro e w28 ⟨rfl, hi, hb, hk⟩; refine ⟨_, rfl, ?_⟩; have n0_ := Aside0.mk (KeepBut.blk hk (g' := gb199) (o := .cells #[.int .i64 a0_0, .string a0_1, .int .i64 a0_2, .int .i64 a0_3, .int .i64 a0_4, .slice A0_5 l0_5.length c0_5, .bool a0_6, .slice A0_7 l0_7.length c0_7, .int .i64 a0_8, .int .i64 a0_9, .string a0_10, .int .i64 a0_11, .string a0_12, .int .i64 a0_13] 29 (0, 0)) (by (with_reducible repeat (first | refine blk_drewN ?_ _ | refine blk_drew ?_ | refine blk_alloc ?_ _)); exact BK199.out) NB199_201.out (by simp)); have n1_ := Aside0.mk (hb); have n2_ := Aside0.mk (hi); clear BK199; clear HB; clear HI201; have BK199 := n0_; have HB := n1_; have HI201 := n2_; clear n0_ n1_ n2_; (try clear hb); (try clear hb2); (try clear hk); (try clear hi); have hcz29_0 : w28.cell? ⟨gb199, 0, none⟩ = some (.int .i64 a0_0) := (blk_cell BK199.out 0).trans rfl; have hcz29_1 : w28.cell? ⟨gb199, 1, none⟩ = some (.string a0_1) := (blk_cell BK199.out 1).trans rfl; have hcz29_2 : w28.cell? ⟨gb199, 2, none⟩ = some (.int .i64 a0_2) := (blk_cell BK199.out 2).trans rfl; have hcz29_3 : w28.cell? ⟨gb199, 3, none⟩ = some (.int .i64 a0_3) := (blk_cell BK199.out 3).trans rfl; have hcz29_4 : w28.cell? ⟨gb199, 4, none⟩ = some (.int .i64 a0_4) := (blk_cell BK199.out 4).trans rfl; have hcz29_5 : w28.cell? ⟨gb199, 5, none⟩ = some (.slice A0_5 l0_5.length c0_5) := (blk_cell BK199.out 5).trans rfl; have hcz29_6 : w28.cell? ⟨gb199, 6, none⟩ = some (.bool a0_6) := (blk_cell BK199.out 6).trans rfl; have hcz29_7 : w28.cell? ⟨gb199, 7, none⟩ = some (.slice A0_7 l0_7.length c0_7) := (blk_cell BK199.out 7).trans rfl; have hcz29_8 : w28.cell? ⟨gb199, 8, none⟩ = some (.int .i64 a0_8) := (blk_cell BK199.out 8).trans rfl; have hcz29_9 : w28.cell? ⟨gb199, 9, none⟩ = some (.int .i64 a0_9) := (blk_cell BK199.out 9).trans rfl; have hcz29_10 : w28.cell? ⟨gb199, 10, none⟩ = some (.string a0_10) := (blk_cell BK199.out 10).trans rfl; have hcz29_11 : w28.cell? ⟨gb199, 11, none⟩ = some (.int .i64 a0_11) := (blk_cell BK199.out 11).trans rfl; have hcz29_12 : w28.cell? ⟨gb199, 12, none⟩ = some (.string a0_12) := (blk_cell BK199.out 12).trans rfl; have hcz29_13 : w28.cell? ⟨gb199, 13, none⟩ = some (.int .i64 a0_13) := (blk_cell BK199.out 13).trans rfl; have hfz29_0 := blk_frozen BK199.out 0; have hfz29_1 := blk_frozen BK199.out 1; have hfz29_2 := blk_frozen BK199.out 2; have hfz29_3 := blk_frozen BK199.out 3; have hfz29_4 := blk_frozen BK199.out 4; have hfz29_5 := blk_frozen BK199.out 5; have hfz29_6 := blk_frozen BK199.out 6; have hfz29_7 := blk_frozen BK199.out 7; have hfz29_8 := blk_frozen BK199.out 8; have hfz29_9 := blk_frozen BK199.out 9; have hfz29_10 := blk_frozen BK199.out 10; have hfz29_11 := blk_frozen BK199.out 11; have hfz29_12 := blk_frozen BK199.out 12; have hfz29_13 := blk_frozen BK199.out 13) | ((with_reducible refine gate_callee (f := 19) rfl ?_); refine goesL_ (some 28) rfl rfl Try.func19 (by kernel_rfl) rfl #[.pointer (some ⟨g201, 0, none⟩), .int .i64 a0_8] rfl (Zevent_Bytes.z0) ?_; (with_reducible refine (octet_Writer_Num.calls k g201 t202 t203 a0_8 t210 t211 w _ ?side1 ?side2 A19.out).mono ?_); (case side1 => repeat (first | (with_reducible first | exact HI201.out | apply IsS43.alloc | apply IsS43.drewN | apply IsS43.drew | apply IsS43.set_0 | apply IsS43.set_1 | refine IsS43.far ?_ NB201_199.out _) | exact HI201.out)); (case side2 => repeat (first | (with_reducible first | exact HB.out | apply below_alloc | apply pw_below_drewN | apply below_drew1 | refine below_set ?_ (IsS43.ge HI201.out) | refine below_set ?_ GE199.out) | exact HB.out)); rintro e w30 ⟨rfl, hi, hb, hk⟩; refine ⟨_, rfl, ?_⟩; have n0_ := Aside0.mk (KeepBut.blk hk (g' := gb199) (o := .cells #[.int .i64 a0_0, .string a0_1, .int .i64 a0_2, .int .i64 a0_3, .int .i64 a0_4, .slice A0_5 l0_5.length c0_5, .bool a0_6, .slice A0_7 l0_7.length c0_7, .int .i64 a0_8, .int .i64 a0_9, .string a0_10, .int .i64 a0_11, .string a0_12, .int .i64 a0_13] 29 (0, 0)) (by (with_reducible repeat (first | refine blk_drewN ?_ _ | refine blk_drew ?_ | refine blk_alloc ?_ _)); exact BK199.out) NB199_201.out (by simp)); have n1_ := Aside0.mk (hb); have n2_ := Aside0.mk (hi); clear BK199; clear HB; clear HI201; have BK199 := n0_; have HB := n1_; have HI201 := n2_; clear n0_ n1_ n2_; (try clear hb); (try clear hb2); (try clear hk); (try clear hi); have hcz31_0 : w30.cell? ⟨gb199, 0, none⟩ = some (.int .i64 a0_0) := (blk_cell BK199.out 0).trans rfl; have hcz31_1 : w30.cell? ⟨gb199, 1, none⟩ = some (.string a0_1) := (blk_cell BK199.out 1).trans rfl; have hcz31_2 : w30.cell? ⟨gb199, 2, none⟩ = some (.int .i64 a0_2) := (blk_cell BK199.out 2).trans rfl; have hcz31_3 : w30.cell? ⟨gb199, 3, none⟩ = some (.int .i64 a0_3) := (blk_cell BK199.out 3).trans rfl; have hcz31_4 : w30.cell? ⟨gb199, 4, none⟩ = some (.int .i64 a0_4) := (blk_cell BK199.out 4).trans rfl; have hcz31_5 : w30.cell? ⟨gb199, 5, none⟩ = some (.slice A0_5 l0_5.length c0_5) := (blk_cell BK199.out 5).trans rfl; have hcz31_6 : w30.cell? ⟨gb199, 6, none⟩ = some (.bool a0_6) := (blk_cell BK199.out 6).trans rfl; have hcz31_7 : w30.cell? ⟨gb199, 7, none⟩ = some (.slice A0_7 l0_7.length c0_7) := (blk_cell BK199.out 7).trans rfl; have hcz31_8 : w30.cell? ⟨gb199, 8, none⟩ = some (.int .i64 a0_8) := (blk_cell BK199.out 8).trans rfl; have hcz31_9 : w30.cell? ⟨gb199, 9, none⟩ = some (.int .i64 a0_9) := (blk_cell BK199.out 9).trans rfl; have hcz31_10 : w30.cell? ⟨gb199, 10, none⟩ = some (.string a0_10) := (blk_cell BK199.out 10).trans rfl; have hcz31_11 : w30.cell? ⟨gb199, 11, none⟩ = some (.int .i64 a0_11) := (blk_cell BK199.out 11).trans rfl; have hcz31_12 : w30.cell? ⟨gb199, 12, none⟩ = some (.string a0_12) := (blk_cell BK199.out 12).trans rfl; have hcz31_13 : w30.cell? ⟨gb199, 13, none⟩ = some (.int .i64 a0_13) := (blk_cell BK199.out 13).trans rfl; have hfz31_0 := blk_frozen BK199.out 0; have hfz31_1 := blk_frozen BK199.out 1; have hfz31_2 := blk_frozen BK199.out 2; have hfz31_3 := blk_frozen BK199.out 3; have hfz31_4 := blk_frozen BK199.out 4; have hfz31_5 := blk_frozen BK199.out 5; have hfz31_6 := blk_frozen BK199.out 6; have hfz31_7 := blk_frozen BK199.out 7; have hfz31_8 := blk_frozen BK199.out 8; have hfz31_9 := blk_frozen BK199.out 9; have hfz31_10 := blk_frozen BK199.out 10; have hfz31_11 := blk_frozen BK199.out 11; have hfz31_12 := blk_frozen BK199.out 12; have hfz31_13 := blk_frozen BK199.out 13) | ((with_reducible refine gate_callee (f := 19) rfl ?_); refine goesL_ (some 32) rfl rfl Try.func19 (by kernel_rfl) rfl #[.pointer (some ⟨g201, 0, none⟩), .int .i64 a0_9] rfl (Zevent_Bytes.z0) ?_; (with_reducible refine (octet_Writer_Num.calls k g201 t210 t211 a0_9 t212 t213 w _ ?side1 ?side2 A20.out).mono ?_); (case side1 => repeat (first | (with_reducible first | exact HI201.out | apply IsS43.alloc | apply IsS43.drewN | apply IsS43.drew | apply IsS43.set_0 | apply IsS43.set_1 | refine IsS43.far ?_ NB201_199.out _) | exact HI201.out)); (case side2 => repeat (first | (with_reducible first | exact HB.out | apply below_alloc | apply pw_below_drewN | apply below_drew1 | refine below_set ?_ (IsS43.ge HI201.out) | refine below_set ?_ GE199.out) | exact HB.out)); rintro e w32 ⟨rfl, hi, hb, hk⟩; refine ⟨_, rfl, ?_⟩; have n0_ := Aside0.mk (KeepBut.blk hk (g' := gb199) (o := .cells #[.int .i64 a0_0, .string a0_1, .int .i64 a0_2, .int .i64 a0_3, .int .i64 a0_4, .slice A0_5 l0_5.length c0_5, .bool a0_6, .slice A0_7 l0_7.length c0_7, .int .i64 a0_8, .int .i64 a0_9, .string a0_10, .int .i64 a0_11, .string a0_12, .int .i64 a0_13] 29 (0, 0)) (by (with_reducible repeat (first | refine blk_drewN ?_ _ | refine blk_drew ?_ | refine blk_alloc ?_ _)); exact BK199.out) NB199_201.out (by simp)); have n1_ := Aside0.mk (hb); have n2_ := Aside0.mk (hi); clear BK199; clear HB; clear HI201; have BK199 := n0_; have HB := n1_; have HI201 := n2_; clear n0_ n1_ n2_; (try clear hb); (try clear hb2); (try clear hk); (try clear hi)) | ((with_reducible refine gate_callee (f := 22) rfl ?_); refine goesL_ (some 70) rfl rfl Try.func22 (by kernel_rfl) rfl #[.pointer (some ⟨g201, 0, none⟩)] rfl (Zevent_Bytes.z0) ?_; (with_reducible refine (octet_Writer_All.calls g201 t212 t213 t214 t215 t216 t217 w _ ?side1 ?side2 A21.out).mono ?_); (case side1 => repeat (first | (with_reducible first | exact HI201.out | apply IsS43.alloc | apply IsS43.drewN | apply IsS43.drew | apply IsS43.set_0 | apply IsS43.set_1 | refine IsS43.far ?_ NB201_199.out _) | exact HI201.out)); (case side2 => repeat (first | (with_reducible first | exact HB.out | apply below_alloc | apply pw_below_drewN | apply below_drew1 | refine below_set ?_ (IsS43.ge HI201.out) | refine below_set ?_ GE199.out) | exact HB.out)); rintro e w33 ⟨rfl, hi, hb, hk⟩; refine ⟨_, rfl, ?_⟩; have n0_ := Aside0.mk (KeepBut.blk hk (g' := gb199) (o := .cells #[.int .i64 a0_0, .string a0_1, .int .i64 a0_2, .int .i64 a0_3, .int .i64 a0_4, .slice A0_5 l0_5.length c0_5, .bool a0_6, .slice A0_7 l0_7.length c0_7, .int .i64 a0_8, .int .i64 a0_9, .string a0_10, .int .i64 a0_11, .string a0_12, .int .i64 a0_13] 29 (0, 0)) (by (with_reducible repeat (first | refine blk_drewN ?_ _ | refine blk_drew ?_ | refine blk_alloc ?_ _)); exact BK199.out) NB199_201.out (by simp)); have n1_ := Aside0.mk (hb); have n2_ := Aside0.mk (hi); clear BK199; clear HB; clear HI201; have BK199 := n0_; have HB := n1_; have HI201 := n2_; clear n0_ n1_ n2_; (try clear hb); (try clear hb2); (try clear hk); (try clear hi)))
    go_ret
    exact ⟨Zevent_Bytes.z3, by repeat (first | (with_reducible first | exact HB.out | apply below_alloc | apply pw_below_drewN | apply below_drew1 | refine below_set ?_ (IsS43.ge HI201.out) | refine below_set ?_ GE199.out) | exact HB.out)⟩
   ·rw [if_neg c18] at H
    have c18b0 : (a0_0 == 2) = false := beq_eq_false_iff_ne.mpr c18
    have c18b1 : (a0_0 != 2) = true := bne_iff_ne.mpr c18
    by_cases c34 : a0_0 = 3
    ·rw [if_pos c34] at H
     have c34b0 : (a0_0 == 3) = true := beq_iff_eq.mpr c34
     have c34b1 : (a0_0 != 3) = false := bne_eq_false_iff_eq.mpr c34
     clear c34
     replace H := Option.bind_eq_some_iff.mp H
     obtain ⟨⟨t218, t219⟩, A350, H⟩ := H
     replace H : ((octet_Writer_All.f t218 t219).bind fun bt220 => (some bt220.1)) = some r := H
     have A35 := Aside0.mk A350
     clear A350
     replace H := Option.bind_eq_some_iff.mp H
     obtain ⟨⟨t220, t221, t222, t223⟩, A360, H⟩ := H
     replace H : (some t220) = some r := H
     have A36 := Aside0.mk A360
     clear A360
     obtain rfl := Option.some.inj H
     go_enter Try.func8, Try.ntmps8
     go_wp2_with (first | ((with_reducible refine gate_dst (N := 1) rfl ?_); refine box_event ?hg (N := 1) ?hd (cs := #[.int .i64 a0_0, .string a0_1, .int .i64 a0_2, .int .i64 a0_3, .int .i64 a0_4, .slice A0_5 l0_5.length c0_5, .bool a0_6, .slice A0_7 l0_7.length c0_7, .int .i64 a0_8, .int .i64 a0_9, .string a0_10, .int .i64 a0_11, .string a0_12, .int .i64 a0_13]) (t := 29) ?hr ?_; (case hd => rfl); (case hg => rfl); (case hr => first | (go_simp; done) | (go_simp; rfl)); intro gb199 hg w37 hbox hb; have n0_ := Aside0.mk (below_step (Zevent_Bytes.z1) hb); have n1_ := Aside0.mk (hbox); have n2_ := Aside0.mk ((Zevent_Bytes.z2 : w.heap.size ≤ gb199)); have n3_ := Aside0.mk ((Zevent_Bytes.z2 : w.heap.size ≤ gb199)); clear HB; have HB := n0_; have BK199 := n1_; have GW199 := n2_; have GE199 := n3_; clear n0_ n1_ n2_ n3_; clear hb hbox hg; have hcz38_0 : w37.cell? ⟨gb199, 0, none⟩ = some (.int .i64 a0_0) := (blk_cell BK199.out 0).trans rfl; have hcz38_1 : w37.cell? ⟨gb199, 1, none⟩ = some (.string a0_1) := (blk_cell BK199.out 1).trans rfl; have hcz38_2 : w37.cell? ⟨gb199, 2, none⟩ = some (.int .i64 a0_2) := (blk_cell BK199.out 2).trans rfl; have hcz38_3 : w37.cell? ⟨gb199, 3, none⟩ = some (.int .i64 a0_3) := (blk_cell BK199.out 3).trans rfl; have hcz38_4 : w37.cell? ⟨gb199, 4, none⟩ = some (.int .i64 a0_4) := (blk_cell BK199.out 4).trans rfl; have hcz38_5 : w37.cell? ⟨gb199, 5, none⟩ = some (.slice A0_5 l0_5.length c0_5) := (blk_cell BK199.out 5).trans rfl; have hcz38_6 : w37.cell? ⟨gb199, 6, none⟩ = some (.bool a0_6) := (blk_cell BK199.out 6).trans rfl; have hcz38_7 : w37.cell? ⟨gb199, 7, none⟩ = some (.slice A0_7 l0_7.length c0_7) := (blk_cell BK199.out 7).trans rfl; have hcz38_8 : w37.cell? ⟨gb199, 8, none⟩ = some (.int .i64 a0_8) := (blk_cell BK199.out 8).trans rfl; have hcz38_9 : w37.cell? ⟨gb199, 9, none⟩ = some (.int .i64 a0_9) := (blk_cell BK199.out 9).trans rfl; have hcz38_10 : w37.cell? ⟨gb199, 10, none⟩ = some (.string a0_10) := (blk_cell BK199.out 10).trans rfl; have hcz38_11 : w37.cell? ⟨gb199, 11, none⟩ = some (.int .i64 a0_11) := (blk_cell BK199.out 11).trans rfl; have hcz38_12 : w37.cell? ⟨gb199, 12, none⟩ = some (.string a0_12) := (blk_cell BK199.out 12).trans rfl; have hcz38_13 : w37.cell? ⟨gb199, 13, none⟩ = some (.int .i64 a0_13) := (blk_cell BK199.out 13).trans rfl; have hfz38_0 := blk_frozen BK199.out 0; have hfz38_1 := blk_frozen BK199.out 1; have hfz38_2 := blk_frozen BK199.out 2; have hfz38_3 := blk_frozen BK199.out 3; have hfz38_4 := blk_frozen BK199.out 4; have hfz38_5 := blk_frozen BK199.out 5; have hfz38_6 := blk_frozen BK199.out 6; have hfz38_7 := blk_frozen BK199.out 7; have hfz38_8 := blk_frozen BK199.out 8; have hfz38_9 := blk_frozen BK199.out 9; have hfz38_10 := blk_frozen BK199.out 10; have hfz38_11 := blk_frozen BK199.out 11; have hfz38_12 := blk_frozen BK199.out 12; have hfz38_13 := blk_frozen BK199.out 13) | ((with_reducible refine gate_callee (f := 18) rfl ?_); refine goesL_ (some 7) rfl rfl Try.func18 (by kernel_rfl) rfl #[.agg #[.int .i64 a0_0, .string a0_1, .int .i64 a0_2, .int .i64 a0_3, .int .i64 a0_4, .slice A0_5 l0_5.length c0_5, .bool a0_6, .slice A0_7 l0_7.length c0_7, .int .i64 a0_8, .int .i64 a0_9, .string a0_10, .int .i64 a0_11, .string a0_12, .int .i64 a0_13]] rfl (Zevent_Bytes.z0) ?_; (with_reducible refine (event_Right.calls k a0_0 a0_1 a0_2 a0_3 a0_4 _ _ l0_5 a0_6 _ _ l0_7 a0_8 a0_9 a0_10 a0_11 a0_12 a0_13 true _ ?side1 ?side2 ?side3 ?side4 A2.out).mono ?_); (case side1 => repeat (first | exact (Kd.C_below HR0_5.out HB.out) | (with_reducible refine Kd.C_alloc ?_ _) | (with_reducible refine Kd.C_drewN ?_ _) | (with_reducible refine Kd.C_drew ?_))); (case side2 => exact HC0_5.out); (case side3 => repeat (first | exact (Kd.C_below HR0_7.out HB.out) | (with_reducible refine Kd.C_alloc ?_ _) | (with_reducible refine Kd.C_drewN ?_ _) | (with_reducible refine Kd.C_drew ?_))); (case side4 => exact HC0_7.out); rintro e w39 ⟨rfl, hb⟩; refine ⟨_, rfl, ?_⟩; have n0_ := Aside0.mk (blk_below (g := gb199) (o := .cells #[.int .i64 a0_0, .string a0_1, .int .i64 a0_2, .int .i64 a0_3, .int .i64 a0_4, .slice A0_5 l0_5.length c0_5, .bool a0_6, .slice A0_7 l0_7.length c0_7, .int .i64 a0_8, .int .i64 a0_9, .string a0_10, .int .i64 a0_11, .string a0_12, .int .i64 a0_13] 29 (0, 0)) (by (with_reducible repeat (first | refine blk_drewN ?_ _ | refine blk_drew ?_ | refine blk_alloc ?_ _)); exact BK199.out) hb); have n1_ := Aside0.mk (below_step (by repeat (first | (with_reducible first | exact HB.out | apply below_alloc | apply pw_below_drewN | apply below_drew1 | refine below_set ?_ GE199.out) | exact HB.out)) hb); clear BK199; clear HB; have BK199 := n0_; have HB := n1_; clear n0_ n1_; (try clear hb); (try clear hb2); (try clear hk); (try clear hi)) | ((with_reducible refine gate_dst (N := 10) rfl ?_); refine box_event ?hg (N := 10) ?hd (cs := #[.string (⟨#[]⟩ : ByteArray), .bool false]) (t := 43) ?hr ?_; (case hd => rfl); (case hg => rfl); (case hr => first | (go_simp; done) | (go_simp; rfl)); intro g201 hg w40 hbox hb; have n0_ := Aside0.mk (blk_below (g := gb199) (o := .cells #[.int .i64 a0_0, .string a0_1, .int .i64 a0_2, .int .i64 a0_3, .int .i64 a0_4, .slice A0_5 l0_5.length c0_5, .bool a0_6, .slice A0_7 l0_7.length c0_7, .int .i64 a0_8, .int .i64 a0_9, .string a0_10, .int .i64 a0_11, .string a0_12, .int .i64 a0_13] 29 (0, 0)) (by (with_reducible repeat (first | refine blk_drewN ?_ _ | refine blk_drew ?_ | refine blk_alloc ?_ _)); exact BK199.out) hb); have n1_ := Aside0.mk (below_step (by repeat (first | (with_reducible first | exact HB.out | apply below_alloc | apply pw_below_drewN | apply below_drew1 | refine below_set ?_ GE199.out) | exact HB.out)) hb); have n2_ := Aside0.mk ((show IsS43 w _ g201 (⟨#[]⟩ : ByteArray) false from ⟨hbox, (by rw [hg]; exact (below_size (by repeat (first | (with_reducible first | exact HB.out | apply below_alloc | apply pw_below_drewN | apply below_drew1 | refine below_set ?_ GE199.out) | exact HB.out))) : w.heap.size ≤ g201)⟩)); have n3_ := Aside0.mk ((by rw [hg]; exact Nat.ne_of_lt (blk_lt (g := gb199) (o := .cells #[.int .i64 a0_0, .string a0_1, .int .i64 a0_2, .int .i64 a0_3, .int .i64 a0_4, .slice A0_5 l0_5.length c0_5, .bool a0_6, .slice A0_7 l0_7.length c0_7, .int .i64 a0_8, .int .i64 a0_9, .string a0_10, .int .i64 a0_11, .string a0_12, .int .i64 a0_13] 29 (0, 0)) (by (with_reducible repeat (first | refine blk_drewN ?_ _ | refine blk_drew ?_ | refine blk_alloc ?_ _)); exact BK199.out)) : gb199 ≠ g201)); have n4_ := Aside0.mk ((by rw [hg]; exact Nat.ne_of_gt (blk_lt (g := gb199) (o := .cells #[.int .i64 a0_0, .string a0_1, .int .i64 a0_2, .int .i64 a0_3, .int .i64 a0_4, .slice A0_5 l0_5.length c0_5, .bool a0_6, .slice A0_7 l0_7.length c0_7, .int .i64 a0_8, .int .i64 a0_9, .string a0_10, .int .i64 a0_11, .string a0_12, .int .i64 a0_13] 29 (0, 0)) (by (with_reducible repeat (first | refine blk_drewN ?_ _ | refine blk_drew ?_ | refine blk_alloc ?_ _)); exact BK199.out)) : g201 ≠ gb199)); clear BK199; clear HB; have BK199 := n0_; have HB := n1_; have HI201 := n2_; have NB199_201 := n3_; have NB201_199 := n4_; clear n0_ n1_ n2_ n3_ n4_; clear hb hbox hg; have hnb41 := NB199_201.out; have hnc41 := NB201_199.out; have hcz42_0 : w40.cell? ⟨gb199, 0, none⟩ = some (.int .i64 a0_0) := (blk_cell BK199.out 0).trans rfl; have hcz42_1 : w40.cell? ⟨gb199, 1, none⟩ = some (.string a0_1) := (blk_cell BK199.out 1).trans rfl; have hcz42_2 : w40.cell? ⟨gb199, 2, none⟩ = some (.int .i64 a0_2) := (blk_cell BK199.out 2).trans rfl; have hcz42_3 : w40.cell? ⟨gb199, 3, none⟩ = some (.int .i64 a0_3) := (blk_cell BK199.out 3).trans rfl; have hcz42_4 : w40.cell? ⟨gb199, 4, none⟩ = some (.int .i64 a0_4) := (blk_cell BK199.out 4).trans rfl; have hcz42_5 : w40.cell? ⟨gb199, 5, none⟩ = some (.slice A0_5 l0_5.length c0_5) := (blk_cell BK199.out 5).trans rfl; have hcz42_6 : w40.cell? ⟨gb199, 6, none⟩ = some (.bool a0_6) := (blk_cell BK199.out 6).trans rfl; have hcz42_7 : w40.cell? ⟨gb199, 7, none⟩ = some (.slice A0_7 l0_7.length c0_7) := (blk_cell BK199.out 7).trans rfl; have hcz42_8 : w40.cell? ⟨gb199, 8, none⟩ = some (.int .i64 a0_8) := (blk_cell BK199.out 8).trans rfl; have hcz42_9 : w40.cell? ⟨gb199, 9, none⟩ = some (.int .i64 a0_9) := (blk_cell BK199.out 9).trans rfl; have hcz42_10 : w40.cell? ⟨gb199, 10, none⟩ = some (.string a0_10) := (blk_cell BK199.out 10).trans rfl; have hcz42_11 : w40.cell? ⟨gb199, 11, none⟩ = some (.int .i64 a0_11) := (blk_cell BK199.out 11).trans rfl; have hcz42_12 : w40.cell? ⟨gb199, 12, none⟩ = some (.string a0_12) := (blk_cell BK199.out 12).trans rfl; have hcz42_13 : w40.cell? ⟨gb199, 13, none⟩ = some (.int .i64 a0_13) := (blk_cell BK199.out 13).trans rfl; have hfz42_0 := blk_frozen BK199.out 0; have hfz42_1 := blk_frozen BK199.out 1; have hfz42_2 := blk_frozen BK199.out 2; have hfz42_3 := blk_frozen BK199.out 3; have hfz42_4 := blk_frozen BK199.out 4; have hfz42_5 := blk_frozen BK199.out 5; have hfz42_6 := blk_frozen BK199.out 6; have hfz42_7 := blk_frozen BK199.out 7; have hfz42_8 := blk_frozen BK199.out 8; have hfz42_9 := blk_frozen BK199.out 9; have hfz42_10 := blk_frozen BK199.out 10; have hfz42_11 := blk_frozen BK199.out 11; have hfz42_12 := blk_frozen BK199.out 12; have hfz42_13 := blk_frozen BK199.out 13) | ((with_reducible refine gate_callee (f := 19) rfl ?_); refine goesL_ (some 14) rfl rfl Try.func19 (by kernel_rfl) rfl #[.pointer (some ⟨g201, 0, none⟩), .int .i64 a0_0] rfl (Zevent_Bytes.z0) ?_; (with_reducible refine (octet_Writer_Num.calls k g201 (⟨#[]⟩ : ByteArray) false a0_0 t202 t203 w _ ?side1 ?side2 A4.out).mono ?_); (case side1 => repeat (first | (with_reducible first | exact HI201.out | apply IsS43.alloc | apply IsS43.drewN | apply IsS43.drew | apply IsS43.set_0 | apply IsS43.set_1 | refine IsS43.far ?_ NB201_199.out _) | exact HI201.out)); (case side2 => repeat (first | (with_reducible first | exact HB.out | apply below_alloc | apply pw_below_drewN | apply below_drew1 | refine below_set ?_ (IsS43.ge HI201.out) | refine below_set ?_ GE199.out) | exact HB.out)); rintro e w43 ⟨rfl, hi, hb, hk⟩; refine ⟨_, rfl, ?_⟩; have n0_ := Aside0.mk (KeepBut.blk hk (g' := gb199) (o := .cells #[.int .i64 a0_0, .string a0_1, .int .i64 a0_2, .int .i64 a0_3, .int .i64 a0_4, .slice A0_5 l0_5.length c0_5, .bool a0_6, .slice A0_7 l0_7.length c0_7, .int .i64 a0_8, .int .i64 a0_9, .string a0_10, .int .i64 a0_11, .string a0_12, .int .i64 a0_13] 29 (0, 0)) (by (with_reducible repeat (first | refine blk_drewN ?_ _ | refine blk_drew ?_ | refine blk_alloc ?_ _)); exact BK199.out) NB199_201.out (by simp)); have n1_ := Aside0.mk (hb); have n2_ := Aside0.mk (hi); clear BK199; clear HB; clear HI201; have BK199 := n0_; have HB := n1_; have HI201 := n2_; clear n0_ n1_ n2_; (try clear hb); (try clear hb2); (try clear hk); (try clear hi); have hcz44_0 : w43.cell? ⟨gb199, 0, none⟩ = some (.int .i64 a0_0) := (blk_cell BK199.out 0).trans rfl; have hcz44_1 : w43.cell? ⟨gb199, 1, none⟩ = some (.string a0_1) := (blk_cell BK199.out 1).trans rfl; have hcz44_2 : w43.cell? ⟨gb199, 2, none⟩ = some (.int .i64 a0_2) := (blk_cell BK199.out 2).trans rfl; have hcz44_3 : w43.cell? ⟨gb199, 3, none⟩ = some (.int .i64 a0_3) := (blk_cell BK199.out 3).trans rfl; have hcz44_4 : w43.cell? ⟨gb199, 4, none⟩ = some (.int .i64 a0_4) := (blk_cell BK199.out 4).trans rfl; have hcz44_5 : w43.cell? ⟨gb199, 5, none⟩ = some (.slice A0_5 l0_5.length c0_5) := (blk_cell BK199.out 5).trans rfl; have hcz44_6 : w43.cell? ⟨gb199, 6, none⟩ = some (.bool a0_6) := (blk_cell BK199.out 6).trans rfl; have hcz44_7 : w43.cell? ⟨gb199, 7, none⟩ = some (.slice A0_7 l0_7.length c0_7) := (blk_cell BK199.out 7).trans rfl; have hcz44_8 : w43.cell? ⟨gb199, 8, none⟩ = some (.int .i64 a0_8) := (blk_cell BK199.out 8).trans rfl; have hcz44_9 : w43.cell? ⟨gb199, 9, none⟩ = some (.int .i64 a0_9) := (blk_cell BK199.out 9).trans rfl; have hcz44_10 : w43.cell? ⟨gb199, 10, none⟩ = some (.string a0_10) := (blk_cell BK199.out 10).trans rfl; have hcz44_11 : w43.cell? ⟨gb199, 11, none⟩ = some (.int .i64 a0_11) := (blk_cell BK199.out 11).trans rfl; have hcz44_12 : w43.cell? ⟨gb199, 12, none⟩ = some (.string a0_12) := (blk_cell BK199.out 12).trans rfl; have hcz44_13 : w43.cell? ⟨gb199, 13, none⟩ = some (.int .i64 a0_13) := (blk_cell BK199.out 13).trans rfl; have hfz44_0 := blk_frozen BK199.out 0; have hfz44_1 := blk_frozen BK199.out 1; have hfz44_2 := blk_frozen BK199.out 2; have hfz44_3 := blk_frozen BK199.out 3; have hfz44_4 := blk_frozen BK199.out 4; have hfz44_5 := blk_frozen BK199.out 5; have hfz44_6 := blk_frozen BK199.out 6; have hfz44_7 := blk_frozen BK199.out 7; have hfz44_8 := blk_frozen BK199.out 8; have hfz44_9 := blk_frozen BK199.out 9; have hfz44_10 := blk_frozen BK199.out 10; have hfz44_11 := blk_frozen BK199.out 11; have hfz44_12 := blk_frozen BK199.out 12; have hfz44_13 := blk_frozen BK199.out 13) | ((with_reducible refine gate_callee (f := 19) rfl ?_); refine goesL_ (some 38) rfl rfl Try.func19 (by kernel_rfl) rfl #[.pointer (some ⟨g201, 0, none⟩), .int .i64 a0_8] rfl (Zevent_Bytes.z0) ?_; (with_reducible refine (octet_Writer_Num.calls k g201 t202 t203 a0_8 t218 t219 w _ ?side1 ?side2 A35.out).mono ?_); (case side1 => repeat (first | (with_reducible first | exact HI201.out | apply IsS43.alloc | apply IsS43.drewN | apply IsS43.drew | apply IsS43.set_0 | apply IsS43.set_1 | refine IsS43.far ?_ NB201_199.out _) | exact HI201.out)); (case side2 => repeat (first | (with_reducible first | exact HB.out | apply below_alloc | apply pw_below_drewN | apply below_drew1 | refine below_set ?_ (IsS43.ge HI201.out) | refine below_set ?_ GE199.out) | exact HB.out)); rintro e w45 ⟨rfl, hi, hb, hk⟩; refine ⟨_, rfl, ?_⟩; have n0_ := Aside0.mk (KeepBut.blk hk (g' := gb199) (o := .cells #[.int .i64 a0_0, .string a0_1, .int .i64 a0_2, .int .i64 a0_3, .int .i64 a0_4, .slice A0_5 l0_5.length c0_5, .bool a0_6, .slice A0_7 l0_7.length c0_7, .int .i64 a0_8, .int .i64 a0_9, .string a0_10, .int .i64 a0_11, .string a0_12, .int .i64 a0_13] 29 (0, 0)) (by (with_reducible repeat (first | refine blk_drewN ?_ _ | refine blk_drew ?_ | refine blk_alloc ?_ _)); exact BK199.out) NB199_201.out (by simp)); have n1_ := Aside0.mk (hb); have n2_ := Aside0.mk (hi); clear BK199; clear HB; clear HI201; have BK199 := n0_; have HB := n1_; have HI201 := n2_; clear n0_ n1_ n2_; (try clear hb); (try clear hb2); (try clear hk); (try clear hi)) | ((with_reducible refine gate_callee (f := 22) rfl ?_); refine goesL_ (some 70) rfl rfl Try.func22 (by kernel_rfl) rfl #[.pointer (some ⟨g201, 0, none⟩)] rfl (Zevent_Bytes.z0) ?_; (with_reducible refine (octet_Writer_All.calls g201 t218 t219 t220 t221 t222 t223 w _ ?side1 ?side2 A36.out).mono ?_); (case side1 => repeat (first | (with_reducible first | exact HI201.out | apply IsS43.alloc | apply IsS43.drewN | apply IsS43.drew | apply IsS43.set_0 | apply IsS43.set_1 | refine IsS43.far ?_ NB201_199.out _) | exact HI201.out)); (case side2 => repeat (first | (with_reducible first | exact HB.out | apply below_alloc | apply pw_below_drewN | apply below_drew1 | refine below_set ?_ (IsS43.ge HI201.out) | refine below_set ?_ GE199.out) | exact HB.out)); rintro e w46 ⟨rfl, hi, hb, hk⟩; refine ⟨_, rfl, ?_⟩; have n0_ := Aside0.mk (KeepBut.blk hk (g' := gb199) (o := .cells #[.int .i64 a0_0, .string a0_1, .int .i64 a0_2, .int .i64 a0_3, .int .i64 a0_4, .slice A0_5 l0_5.length c0_5, .bool a0_6, .slice A0_7 l0_7.length c0_7, .int .i64 a0_8, .int .i64 a0_9, .string a0_10, .int .i64 a0_11, .string a0_12, .int .i64 a0_13] 29 (0, 0)) (by (with_reducible repeat (first | refine blk_drewN ?_ _ | refine blk_drew ?_ | refine blk_alloc ?_ _)); exact BK199.out) NB199_201.out (by simp)); have n1_ := Aside0.mk (hb); have n2_ := Aside0.mk (hi); clear BK199; clear HB; clear HI201; have BK199 := n0_; have HB := n1_; have HI201 := n2_; clear n0_ n1_ n2_; (try clear hb); (try clear hb2); (try clear hk); (try clear hi)))
     go_ret
     exact ⟨Zevent_Bytes.z3, by repeat (first | (with_reducible first | exact HB.out | apply below_alloc | apply pw_below_drewN | apply below_drew1 | refine below_set ?_ (IsS43.ge HI201.out) | refine below_set ?_ GE199.out) | exact HB.out)⟩
    ·rw [if_neg c34] at H
     have c34b0 : (a0_0 == 3) = false := beq_eq_false_iff_ne.mpr c34
     have c34b1 : (a0_0 != 3) = true := bne_iff_ne.mpr c34
     have HC47 := Aside0.mk H
     clear H
     go_enter Try.func8, Try.ntmps8
     go_upto_if 39 with (first | ((with_reducible refine gate_dst (N := 1) rfl ?_); refine box_event ?hg (N := 1) ?hd (cs := #[.int .i64 a0_0, .string a0_1, .int .i64 a0_2, .int .i64 a0_3, .int .i64 a0_4, .slice A0_5 l0_5.length c0_5, .bool a0_6, .slice A0_7 l0_7.length c0_7, .int .i64 a0_8, .int .i64 a0_9, .string a0_10, .int .i64 a0_11, .string a0_12, .int .i64 a0_13]) (t := 29) ?hr ?_; (case hd => rfl); (case hg => rfl); (case hr => first | (go_simp; done) | (go_simp; rfl)); intro gb199 hg w48 hbox hb; have n0_ := Aside0.mk (below_step (Zevent_Bytes.z1) hb); have n1_ := Aside0.mk (hbox); have n2_ := Aside0.mk ((Zevent_Bytes.z2 : w.heap.size ≤ gb199)); have n3_ := Aside0.mk ((Zevent_Bytes.z2 : w.heap.size ≤ gb199)); clear HB; have HB := n0_; have BK199 := n1_; have GW199 := n2_; have GE199 := n3_; clear n0_ n1_ n2_ n3_; clear hb hbox hg; have hcz49_0 : w48.cell? ⟨gb199, 0, none⟩ = some (.int .i64 a0_0) := (blk_cell BK199.out 0).trans rfl; have hcz49_1 : w48.cell? ⟨gb199, 1, none⟩ = some (.string a0_1) := (blk_cell BK199.out 1).trans rfl; have hcz49_2 : w48.cell? ⟨gb199, 2, none⟩ = some (.int .i64 a0_2) := (blk_cell BK199.out 2).trans rfl; have hcz49_3 : w48.cell? ⟨gb199, 3, none⟩ = some (.int .i64 a0_3) := (blk_cell BK199.out 3).trans rfl; have hcz49_4 : w48.cell? ⟨gb199, 4, none⟩ = some (.int .i64 a0_4) := (blk_cell BK199.out 4).trans rfl; have hcz49_5 : w48.cell? ⟨gb199, 5, none⟩ = some (.slice A0_5 l0_5.length c0_5) := (blk_cell BK199.out 5).trans rfl; have hcz49_6 : w48.cell? ⟨gb199, 6, none⟩ = some (.bool a0_6) := (blk_cell BK199.out 6).trans rfl; have hcz49_7 : w48.cell? ⟨gb199, 7, none⟩ = some (.slice A0_7 l0_7.length c0_7) := (blk_cell BK199.out 7).trans rfl; have hcz49_8 : w48.cell? ⟨gb199, 8, none⟩ = some (.int .i64 a0_8) := (blk_cell BK199.out 8).trans rfl; have hcz49_9 : w48.cell? ⟨gb199, 9, none⟩ = some (.int .i64 a0_9) := (blk_cell BK199.out 9).trans rfl; have hcz49_10 : w48.cell? ⟨gb199, 10, none⟩ = some (.string a0_10) := (blk_cell BK199.out 10).trans rfl; have hcz49_11 : w48.cell? ⟨gb199, 11, none⟩ = some (.int .i64 a0_11) := (blk_cell BK199.out 11).trans rfl; have hcz49_12 : w48.cell? ⟨gb199, 12, none⟩ = some (.string a0_12) := (blk_cell BK199.out 12).trans rfl; have hcz49_13 : w48.cell? ⟨gb199, 13, none⟩ = some (.int .i64 a0_13) := (blk_cell BK199.out 13).trans rfl; have hfz49_0 := blk_frozen BK199.out 0; have hfz49_1 := blk_frozen BK199.out 1; have hfz49_2 := blk_frozen BK199.out 2; have hfz49_3 := blk_frozen BK199.out 3; have hfz49_4 := blk_frozen BK199.out 4; have hfz49_5 := blk_frozen BK199.out 5; have hfz49_6 := blk_frozen BK199.out 6; have hfz49_7 := blk_frozen BK199.out 7; have hfz49_8 := blk_frozen BK199.out 8; have hfz49_9 := blk_frozen BK199.out 9; have hfz49_10 := blk_frozen BK199.out 10; have hfz49_11 := blk_frozen BK199.out 11; have hfz49_12 := blk_frozen BK199.out 12; have hfz49_13 := blk_frozen BK199.out 13) | ((with_reducible refine gate_callee (f := 18) rfl ?_); refine goesL_ (some 7) rfl rfl Try.func18 (by kernel_rfl) rfl #[.agg #[.int .i64 a0_0, .string a0_1, .int .i64 a0_2, .int .i64 a0_3, .int .i64 a0_4, .slice A0_5 l0_5.length c0_5, .bool a0_6, .slice A0_7 l0_7.length c0_7, .int .i64 a0_8, .int .i64 a0_9, .string a0_10, .int .i64 a0_11, .string a0_12, .int .i64 a0_13]] rfl (Zevent_Bytes.z0) ?_; (with_reducible refine (event_Right.calls k a0_0 a0_1 a0_2 a0_3 a0_4 _ _ l0_5 a0_6 _ _ l0_7 a0_8 a0_9 a0_10 a0_11 a0_12 a0_13 true _ ?side1 ?side2 ?side3 ?side4 A2.out).mono ?_); (case side1 => repeat (first | exact (Kd.C_below HR0_5.out HB.out) | (with_reducible refine Kd.C_alloc ?_ _) | (with_reducible refine Kd.C_drewN ?_ _) | (with_reducible refine Kd.C_drew ?_))); (case side2 => exact HC0_5.out); (case side3 => repeat (first | exact (Kd.C_below HR0_7.out HB.out) | (with_reducible refine Kd.C_alloc ?_ _) | (with_reducible refine Kd.C_drewN ?_ _) | (with_reducible refine Kd.C_drew ?_))); (case side4 => exact HC0_7.out); rintro e w50 ⟨rfl, hb⟩; refine ⟨_, rfl, ?_⟩; have n0_ := Aside0.mk (blk_below (g := gb199) (o := .cells #[.int .i64 a0_0, .string a0_1, .int .i64 a0_2, .int .i64 a0_3, .int .i64 a0_4, .slice A0_5 l0_5.length c0_5, .bool a0_6, .slice A0_7 l0_7.length c0_7, .int .i64 a0_8, .int .i64 a0_9, .string a0_10, .int .i64 a0_11, .string a0_12, .int .i64 a0_13] 29 (0, 0)) (by (with_reducible repeat (first | refine blk_drewN ?_ _ | refine blk_drew ?_ | refine blk_alloc ?_ _)); exact BK199.out) hb); have n1_ := Aside0.mk (below_step (by repeat (first | (with_reducible first | exact HB.out | apply below_alloc | apply pw_below_drewN | apply below_drew1 | refine below_set ?_ GE199.out) | exact HB.out)) hb); clear BK199; clear HB; have BK199 := n0_; have HB := n1_; clear n0_ n1_; (try clear hb); (try clear hb2); (try clear hk); (try clear hi)) | ((with_reducible refine gate_dst (N := 10) rfl ?_); refine box_event ?hg (N := 10) ?hd (cs := #[.string (⟨#[]⟩ : ByteArray), .bool false]) (t := 43) ?hr ?_; (case hd => rfl); (case hg => rfl); (case hr => first | (go_simp; done) | (go_simp; rfl)); intro g201 hg w51 hbox hb; have n0_ := Aside0.mk (blk_below (g := gb199) (o := .cells #[.int .i64 a0_0, .string a0_1, .int .i64 a0_2, .int .i64 a0_3, .int .i64 a0_4, .slice A0_5 l0_5.length c0_5, .bool a0_6, .slice A0_7 l0_7.length c0_7, .int .i64 a0_8, .int .i64 a0_9, .string a0_10, .int .i64 a0_11, .string a0_12, .int .i64 a0_13] 29 (0, 0)) (by (with_reducible repeat (first | refine blk_drewN ?_ _ | refine blk_drew ?_ | refine blk_alloc ?_ _)); exact BK199.out) hb); have n1_ := Aside0.mk (below_step (by repeat (first | (with_reducible first | exact HB.out | apply below_alloc | apply pw_below_drewN | apply below_drew1 | refine below_set ?_ GE199.out) | exact HB.out)) hb); have n2_ := Aside0.mk ((show IsS43 w _ g201 (⟨#[]⟩ : ByteArray) false from ⟨hbox, (by rw [hg]; exact (below_size (by repeat (first | (with_reducible first | exact HB.out | apply below_alloc | apply pw_below_drewN | apply below_drew1 | refine below_set ?_ GE199.out) | exact HB.out))) : w.heap.size ≤ g201)⟩)); have n3_ := Aside0.mk ((by rw [hg]; exact Nat.ne_of_lt (blk_lt (g := gb199) (o := .cells #[.int .i64 a0_0, .string a0_1, .int .i64 a0_2, .int .i64 a0_3, .int .i64 a0_4, .slice A0_5 l0_5.length c0_5, .bool a0_6, .slice A0_7 l0_7.length c0_7, .int .i64 a0_8, .int .i64 a0_9, .string a0_10, .int .i64 a0_11, .string a0_12, .int .i64 a0_13] 29 (0, 0)) (by (with_reducible repeat (first | refine blk_drewN ?_ _ | refine blk_drew ?_ | refine blk_alloc ?_ _)); exact BK199.out)) : gb199 ≠ g201)); have n4_ := Aside0.mk ((by rw [hg]; exact Nat.ne_of_gt (blk_lt (g := gb199) (o := .cells #[.int .i64 a0_0, .string a0_1, .int .i64 a0_2, .int .i64 a0_3, .int .i64 a0_4, .slice A0_5 l0_5.length c0_5, .bool a0_6, .slice A0_7 l0_7.length c0_7, .int .i64 a0_8, .int .i64 a0_9, .string a0_10, .int .i64 a0_11, .string a0_12, .int .i64 a0_13] 29 (0, 0)) (by (with_reducible repeat (first | refine blk_drewN ?_ _ | refine blk_drew ?_ | refine blk_alloc ?_ _)); exact BK199.out)) : g201 ≠ gb199)); clear BK199; clear HB; have BK199 := n0_; have HB := n1_; have HI201 := n2_; have NB199_201 := n3_; have NB201_199 := n4_; clear n0_ n1_ n2_ n3_ n4_; clear hb hbox hg; have hnb52 := NB199_201.out; have hnc52 := NB201_199.out; have hcz53_0 : w51.cell? ⟨gb199, 0, none⟩ = some (.int .i64 a0_0) := (blk_cell BK199.out 0).trans rfl; have hcz53_1 : w51.cell? ⟨gb199, 1, none⟩ = some (.string a0_1) := (blk_cell BK199.out 1).trans rfl; have hcz53_2 : w51.cell? ⟨gb199, 2, none⟩ = some (.int .i64 a0_2) := (blk_cell BK199.out 2).trans rfl; have hcz53_3 : w51.cell? ⟨gb199, 3, none⟩ = some (.int .i64 a0_3) := (blk_cell BK199.out 3).trans rfl; have hcz53_4 : w51.cell? ⟨gb199, 4, none⟩ = some (.int .i64 a0_4) := (blk_cell BK199.out 4).trans rfl; have hcz53_5 : w51.cell? ⟨gb199, 5, none⟩ = some (.slice A0_5 l0_5.length c0_5) := (blk_cell BK199.out 5).trans rfl; have hcz53_6 : w51.cell? ⟨gb199, 6, none⟩ = some (.bool a0_6) := (blk_cell BK199.out 6).trans rfl; have hcz53_7 : w51.cell? ⟨gb199, 7, none⟩ = some (.slice A0_7 l0_7.length c0_7) := (blk_cell BK199.out 7).trans rfl; have hcz53_8 : w51.cell? ⟨gb199, 8, none⟩ = some (.int .i64 a0_8) := (blk_cell BK199.out 8).trans rfl; have hcz53_9 : w51.cell? ⟨gb199, 9, none⟩ = some (.int .i64 a0_9) := (blk_cell BK199.out 9).trans rfl; have hcz53_10 : w51.cell? ⟨gb199, 10, none⟩ = some (.string a0_10) := (blk_cell BK199.out 10).trans rfl; have hcz53_11 : w51.cell? ⟨gb199, 11, none⟩ = some (.int .i64 a0_11) := (blk_cell BK199.out 11).trans rfl; have hcz53_12 : w51.cell? ⟨gb199, 12, none⟩ = some (.string a0_12) := (blk_cell BK199.out 12).trans rfl; have hcz53_13 : w51.cell? ⟨gb199, 13, none⟩ = some (.int .i64 a0_13) := (blk_cell BK199.out 13).trans rfl; have hfz53_0 := blk_frozen BK199.out 0; have hfz53_1 := blk_frozen BK199.out 1; have hfz53_2 := blk_frozen BK199.out 2; have hfz53_3 := blk_frozen BK199.out 3; have hfz53_4 := blk_frozen BK199.out 4; have hfz53_5 := blk_frozen BK199.out 5; have hfz53_6 := blk_frozen BK199.out 6; have hfz53_7 := blk_frozen BK199.out 7; have hfz53_8 := blk_frozen BK199.out 8; have hfz53_9 := blk_frozen BK199.out 9; have hfz53_10 := blk_frozen BK199.out 10; have hfz53_11 := blk_frozen BK199.out 11; have hfz53_12 := blk_frozen BK199.out 12; have hfz53_13 := blk_frozen BK199.out 13) | ((with_reducible refine gate_callee (f := 19) rfl ?_); refine goesL_ (some 14) rfl rfl Try.func19 (by kernel_rfl) rfl #[.pointer (some ⟨g201, 0, none⟩), .int .i64 a0_0] rfl (Zevent_Bytes.z0) ?_; (with_reducible refine (octet_Writer_Num.calls k g201 (⟨#[]⟩ : ByteArray) false a0_0 t202 t203 w _ ?side1 ?side2 A4.out).mono ?_); (case side1 => repeat (first | (with_reducible first | exact HI201.out | apply IsS43.alloc | apply IsS43.drewN | apply IsS43.drew | apply IsS43.set_0 | apply IsS43.set_1 | refine IsS43.far ?_ NB201_199.out _) | exact HI201.out)); (case side2 => repeat (first | (with_reducible first | exact HB.out | apply below_alloc | apply pw_below_drewN | apply below_drew1 | refine below_set ?_ (IsS43.ge HI201.out) | refine below_set ?_ GE199.out) | exact HB.out)); rintro e w54 ⟨rfl, hi, hb, hk⟩; refine ⟨_, rfl, ?_⟩; have n0_ := Aside0.mk (KeepBut.blk hk (g' := gb199) (o := .cells #[.int .i64 a0_0, .string a0_1, .int .i64 a0_2, .int .i64 a0_3, .int .i64 a0_4, .slice A0_5 l0_5.length c0_5, .bool a0_6, .slice A0_7 l0_7.length c0_7, .int .i64 a0_8, .int .i64 a0_9, .string a0_10, .int .i64 a0_11, .string a0_12, .int .i64 a0_13] 29 (0, 0)) (by (with_reducible repeat (first | refine blk_drewN ?_ _ | refine blk_drew ?_ | refine blk_alloc ?_ _)); exact BK199.out) NB199_201.out (by simp)); have n1_ := Aside0.mk (hb); have n2_ := Aside0.mk (hi); clear BK199; clear HB; clear HI201; have BK199 := n0_; have HB := n1_; have HI201 := n2_; clear n0_ n1_ n2_; (try clear hb); (try clear hb2); (try clear hk); (try clear hi); have hcz55_0 : w54.cell? ⟨gb199, 0, none⟩ = some (.int .i64 a0_0) := (blk_cell BK199.out 0).trans rfl; have hcz55_1 : w54.cell? ⟨gb199, 1, none⟩ = some (.string a0_1) := (blk_cell BK199.out 1).trans rfl; have hcz55_2 : w54.cell? ⟨gb199, 2, none⟩ = some (.int .i64 a0_2) := (blk_cell BK199.out 2).trans rfl; have hcz55_3 : w54.cell? ⟨gb199, 3, none⟩ = some (.int .i64 a0_3) := (blk_cell BK199.out 3).trans rfl; have hcz55_4 : w54.cell? ⟨gb199, 4, none⟩ = some (.int .i64 a0_4) := (blk_cell BK199.out 4).trans rfl; have hcz55_5 : w54.cell? ⟨gb199, 5, none⟩ = some (.slice A0_5 l0_5.length c0_5) := (blk_cell BK199.out 5).trans rfl; have hcz55_6 : w54.cell? ⟨gb199, 6, none⟩ = some (.bool a0_6) := (blk_cell BK199.out 6).trans rfl; have hcz55_7 : w54.cell? ⟨gb199, 7, none⟩ = some (.slice A0_7 l0_7.length c0_7) := (blk_cell BK199.out 7).trans rfl; have hcz55_8 : w54.cell? ⟨gb199, 8, none⟩ = some (.int .i64 a0_8) := (blk_cell BK199.out 8).trans rfl; have hcz55_9 : w54.cell? ⟨gb199, 9, none⟩ = some (.int .i64 a0_9) := (blk_cell BK199.out 9).trans rfl; have hcz55_10 : w54.cell? ⟨gb199, 10, none⟩ = some (.string a0_10) := (blk_cell BK199.out 10).trans rfl; have hcz55_11 : w54.cell? ⟨gb199, 11, none⟩ = some (.int .i64 a0_11) := (blk_cell BK199.out 11).trans rfl; have hcz55_12 : w54.cell? ⟨gb199, 12, none⟩ = some (.string a0_12) := (blk_cell BK199.out 12).trans rfl; have hcz55_13 : w54.cell? ⟨gb199, 13, none⟩ = some (.int .i64 a0_13) := (blk_cell BK199.out 13).trans rfl; have hfz55_0 := blk_frozen BK199.out 0; have hfz55_1 := blk_frozen BK199.out 1; have hfz55_2 := blk_frozen BK199.out 2; have hfz55_3 := blk_frozen BK199.out 3; have hfz55_4 := blk_frozen BK199.out 4; have hfz55_5 := blk_frozen BK199.out 5; have hfz55_6 := blk_frozen BK199.out 6; have hfz55_7 := blk_frozen BK199.out 7; have hfz55_8 := blk_frozen BK199.out 8; have hfz55_9 := blk_frozen BK199.out 9; have hfz55_10 := blk_frozen BK199.out 10; have hfz55_11 := blk_frozen BK199.out 11; have hfz55_12 := blk_frozen BK199.out 12; have hfz55_13 := blk_frozen BK199.out 13))
     (try simp only [Act.put, List.setIfInBounds_toArray, List.set_cons_zero, List.set_cons_succ])
     go_cut [39] (fun v39 wc => ∃ (kq : Nat) (x39_46 : Bool), v39 = .bool x39_46 ∧ Aside0 (event_Bytes.j0 kq a0_0 x39_46 a0_0 a0_1 a0_2 a0_3 a0_4 l0_5 a0_6 l0_7 a0_8 a0_9 a0_10 a0_11 a0_12 a0_13 t202 t203 = some r) ∧ Aside0 (kq ≤ k) ∧ Aside0 (wc.heap[gb199]? = some (.cells #[.int .i64 a0_0, .string a0_1, .int .i64 a0_2, .int .i64 a0_3, .int .i64 a0_4, (.slice A0_5 l0_5.length c0_5), .bool a0_6, (.slice A0_7 l0_7.length c0_7), .int .i64 a0_8, .int .i64 a0_9, .string a0_10, .int .i64 a0_11, .string a0_12, .int .i64 a0_13] 29 (0, 0))) ∧ Aside0 (IsS43 w wc g201 t202 t203) ∧ Aside0 (Below w.heap.size w wc))
     case first =>
      have H := HC47.out
      clear HC47
      by_cases c56 : a0_0 = 4
      ·rw [if_pos c56] at H
       have c56b0 : (a0_0 == 4) = true := beq_iff_eq.mpr c56
       have c56b1 : (a0_0 != 4) = false := bne_eq_false_iff_eq.mpr c56
       clear c56
       (first | rw [c56b0] | (simp only [i64_w, i32_w]; rw [c56b0]) | skip)
       have H' := Aside0.mk H
       clear H
       go_wp2
       go_meet
       case rel => exact ⟨_, ((a0_0 == 4)), (by first | rfl | (simp; done) | (simp [*]; done)), H', ⟨by first | omega | exact Nat.le_refl _⟩, ⟨by (with_reducible repeat (first | refine blk_drewN ?_ _ | refine blk_drew ?_ | refine blk_alloc ?_ _)); exact BK199.out⟩, ⟨by repeat (first | (with_reducible first | exact HI201.out | apply IsS43.alloc | apply IsS43.drewN | apply IsS43.drew | apply IsS43.set_0 | apply IsS43.set_1 | refine IsS43.far ?_ NB201_199.out _) | exact HI201.out)⟩, ⟨by repeat (first | (with_reducible first | exact HB.out | apply below_alloc | apply pw_below_drewN | apply below_drew1 | refine below_set ?_ (IsS43.ge HI201.out) | refine below_set ?_ GE199.out) | exact HB.out)⟩⟩
      ·rw [if_neg c56] at H
       have c56b0 : (a0_0 == 4) = false := beq_eq_false_iff_ne.mpr c56
       have c56b1 : (a0_0 != 4) = true := bne_iff_ne.mpr c56
       (first | rw [c56b0] | (simp only [i64_w, i32_w]; rw [c56b0]) | skip)
       have H' := Aside0.mk H
       clear H
       go_wp2
       go_meet
       case rel => exact ⟨_, ((a0_0 == 5)), (by first | rfl | (simp; done) | (simp [*]; done)), H', ⟨by first | omega | exact Nat.le_refl _⟩, ⟨by (with_reducible repeat (first | refine blk_drewN ?_ _ | refine blk_drew ?_ | refine blk_alloc ?_ _)); exact BK199.out⟩, ⟨by repeat (first | (with_reducible first | exact HI201.out | apply IsS43.alloc | apply IsS43.drewN | apply IsS43.drew | apply IsS43.set_0 | apply IsS43.set_1 | refine IsS43.far ?_ NB201_199.out _) | exact HI201.out)⟩, ⟨by repeat (first | (with_reducible first | exact HB.out | apply below_alloc | apply pw_below_drewN | apply below_drew1 | refine below_set ?_ (IsS43.ge HI201.out) | refine below_set ?_ GE199.out) | exact HB.out)⟩⟩
     case rest =>
      clear HC47
      try clear c1
      try clear c2
      try clear p2
      try clear c3
      try clear c4
      try clear c5
      try clear c5b0
      try clear c5b1
      try clear c8
      try clear c12
      try clear c18
      try clear c18b0
      try clear c18b1
      try clear c19
      try clear c20
      try clear c22
      try clear c26
      try clear c34
      try clear c34b0
      try clear c34b1
      try clear c41
      try clear c52
      try clear c56
      try clear c56b0
      try clear c56b1
      try clear hcz13_0
      try clear hcz13_1
      try clear hcz13_10
      try clear hcz13_11
      try clear hcz13_12
      try clear hcz13_13
      try clear hcz13_2
      try clear hcz13_3
      try clear hcz13_4
      try clear hcz13_5
      try clear hcz13_6
      try clear hcz13_7
      try clear hcz13_8
      try clear hcz13_9
      try clear hcz15_0
      try clear hcz15_1
      try clear hcz15_10
      try clear hcz15_11
      try clear hcz15_12
      try clear hcz15_13
      try clear hcz15_2
      try clear hcz15_3
      try clear hcz15_4
      try clear hcz15_5
      try clear hcz15_6
      try clear hcz15_7
      try clear hcz15_8
      try clear hcz15_9
      try clear hcz23_0
      try clear hcz23_1
      try clear hcz23_10
      try clear hcz23_11
      try clear hcz23_12
      try clear hcz23_13
      try clear hcz23_2
      try clear hcz23_3
      try clear hcz23_4
      try clear hcz23_5
      try clear hcz23_6
      try clear hcz23_7
      try clear hcz23_8
      try clear hcz23_9
      try clear hcz27_0
      try clear hcz27_1
      try clear hcz27_10
      try clear hcz27_11
      try clear hcz27_12
      try clear hcz27_13
      try clear hcz27_2
      try clear hcz27_3
      try clear hcz27_4
      try clear hcz27_5
      try clear hcz27_6
      try clear hcz27_7
      try clear hcz27_8
      try clear hcz27_9
      try clear hcz29_0
      try clear hcz29_1
      try clear hcz29_10
      try clear hcz29_11
      try clear hcz29_12
      try clear hcz29_13
      try clear hcz29_2
      try clear hcz29_3
      try clear hcz29_4
      try clear hcz29_5
      try clear hcz29_6
      try clear hcz29_7
      try clear hcz29_8
      try clear hcz29_9
      try clear hcz31_0
      try clear hcz31_1
      try clear hcz31_10
      try clear hcz31_11
      try clear hcz31_12
      try clear hcz31_13
      try clear hcz31_2
      try clear hcz31_3
      try clear hcz31_4
      try clear hcz31_5
      try clear hcz31_6
      try clear hcz31_7
      try clear hcz31_8
      try clear hcz31_9
      try clear hcz38_0
      try clear hcz38_1
      try clear hcz38_10
      try clear hcz38_11
      try clear hcz38_12
      try clear hcz38_13
      try clear hcz38_2
      try clear hcz38_3
      try clear hcz38_4
      try clear hcz38_5
      try clear hcz38_6
      try clear hcz38_7
      try clear hcz38_8
      try clear hcz38_9
      try clear hcz42_0
      try clear hcz42_1
      try clear hcz42_10
      try clear hcz42_11
      try clear hcz42_12
      try clear hcz42_13
      try clear hcz42_2
      try clear hcz42_3
      try clear hcz42_4
      try clear hcz42_5
      try clear hcz42_6
      try clear hcz42_7
      try clear hcz42_8
      try clear hcz42_9
      try clear hcz44_0
      try clear hcz44_1
      try clear hcz44_10
      try clear hcz44_11
      try clear hcz44_12
      try clear hcz44_13
      try clear hcz44_2
      try clear hcz44_3
      try clear hcz44_4
      try clear hcz44_5
      try clear hcz44_6
      try clear hcz44_7
      try clear hcz44_8
      try clear hcz44_9
      try clear hcz49_0
      try clear hcz49_1
      try clear hcz49_10
      try clear hcz49_11
      try clear hcz49_12
      try clear hcz49_13
      try clear hcz49_2
      try clear hcz49_3
      try clear hcz49_4
      try clear hcz49_5
      try clear hcz49_6
      try clear hcz49_7
      try clear hcz49_8
      try clear hcz49_9
      try clear hcz53_0
      try clear hcz53_1
      try clear hcz53_10
      try clear hcz53_11
      try clear hcz53_12
      try clear hcz53_13
      try clear hcz53_2
      try clear hcz53_3
      try clear hcz53_4
      try clear hcz53_5
      try clear hcz53_6
      try clear hcz53_7
      try clear hcz53_8
      try clear hcz53_9
      try clear hcz55_0
      try clear hcz55_1
      try clear hcz55_10
      try clear hcz55_11
      try clear hcz55_12
      try clear hcz55_13
      try clear hcz55_2
      try clear hcz55_3
      try clear hcz55_4
      try clear hcz55_5
      try clear hcz55_6
      try clear hcz55_7
      try clear hcz55_8
      try clear hcz55_9
      try clear hcz9_0
      try clear hcz9_1
      try clear hcz9_10
      try clear hcz9_11
      try clear hcz9_12
      try clear hcz9_13
      try clear hcz9_2
      try clear hcz9_3
      try clear hcz9_4
      try clear hcz9_5
      try clear hcz9_6
      try clear hcz9_7
      try clear hcz9_8
      try clear hcz9_9
      try clear hfz13_0
      try clear hfz13_1
      try clear hfz13_10
      try clear hfz13_11
      try clear hfz13_12
      try clear hfz13_13
      try clear hfz13_2
      try clear hfz13_3
      try clear hfz13_4
      try clear hfz13_5
      try clear hfz13_6
      try clear hfz13_7
      try clear hfz13_8
      try clear hfz13_9
      try clear hfz15_0
      try clear hfz15_1
      try clear hfz15_10
      try clear hfz15_11
      try clear hfz15_12
      try clear hfz15_13
      try clear hfz15_2
      try clear hfz15_3
      try clear hfz15_4
      try clear hfz15_5
      try clear hfz15_6
      try clear hfz15_7
      try clear hfz15_8
      try clear hfz15_9
      try clear hfz23_0
      try clear hfz23_1
      try clear hfz23_10
      try clear hfz23_11
      try clear hfz23_12
      try clear hfz23_13
      try clear hfz23_2
      try clear hfz23_3
      try clear hfz23_4
      try clear hfz23_5
      try clear hfz23_6
      try clear hfz23_7
      try clear hfz23_8
      try clear hfz23_9
      try clear hfz27_0
      try clear hfz27_1
      try clear hfz27_10
      try clear hfz27_11
      try clear hfz27_12
      try clear hfz27_13
      try clear hfz27_2
      try clear hfz27_3
      try clear hfz27_4
      try clear hfz27_5
      try clear hfz27_6
      try clear hfz27_7
      try clear hfz27_8
      try clear hfz27_9
      try clear hfz29_0
      try clear hfz29_1
      try clear hfz29_10
      try clear hfz29_11
      try clear hfz29_12
      try clear hfz29_13
      try clear hfz29_2
      try clear hfz29_3
      try clear hfz29_4
      try clear hfz29_5
      try clear hfz29_6
      try clear hfz29_7
      try clear hfz29_8
      try clear hfz29_9
      try clear hfz31_0
      try clear hfz31_1
      try clear hfz31_10
      try clear hfz31_11
      try clear hfz31_12
      try clear hfz31_13
      try clear hfz31_2
      try clear hfz31_3
      try clear hfz31_4
      try clear hfz31_5
      try clear hfz31_6
      try clear hfz31_7
      try clear hfz31_8
      try clear hfz31_9
      try clear hfz38_0
      try clear hfz38_1
      try clear hfz38_10
      try clear hfz38_11
      try clear hfz38_12
      try clear hfz38_13
      try clear hfz38_2
      try clear hfz38_3
      try clear hfz38_4
      try clear hfz38_5
      try clear hfz38_6
      try clear hfz38_7
      try clear hfz38_8
      try clear hfz38_9
      try clear hfz42_0
      try clear hfz42_1
      try clear hfz42_10
      try clear hfz42_11
      try clear hfz42_12
      try clear hfz42_13
      try clear hfz42_2
      try clear hfz42_3
      try clear hfz42_4
      try clear hfz42_5
      try clear hfz42_6
      try clear hfz42_7
      try clear hfz42_8
      try clear hfz42_9
      try clear hfz44_0
      try clear hfz44_1
      try clear hfz44_10
      try clear hfz44_11
      try clear hfz44_12
      try clear hfz44_13
      try clear hfz44_2
      try clear hfz44_3
      try clear hfz44_4
      try clear hfz44_5
      try clear hfz44_6
      try clear hfz44_7
      try clear hfz44_8
      try clear hfz44_9
      try clear hfz49_0
      try clear hfz49_1
      try clear hfz49_10
      try clear hfz49_11
      try clear hfz49_12
      try clear hfz49_13
      try clear hfz49_2
      try clear hfz49_3
      try clear hfz49_4
      try clear hfz49_5
      try clear hfz49_6
      try clear hfz49_7
      try clear hfz49_8
      try clear hfz49_9
      try clear hfz53_0
      try clear hfz53_1
      try clear hfz53_10
      try clear hfz53_11
      try clear hfz53_12
      try clear hfz53_13
      try clear hfz53_2
      try clear hfz53_3
      try clear hfz53_4
      try clear hfz53_5
      try clear hfz53_6
      try clear hfz53_7
      try clear hfz53_8
      try clear hfz53_9
      try clear hfz55_0
      try clear hfz55_1
      try clear hfz55_10
      try clear hfz55_11
      try clear hfz55_12
      try clear hfz55_13
      try clear hfz55_2
      try clear hfz55_3
      try clear hfz55_4
      try clear hfz55_5
      try clear hfz55_6
      try clear hfz55_7
      try clear hfz55_8
      try clear hfz55_9
      try clear hfz9_0
      try clear hfz9_1
      try clear hfz9_10
      try clear hfz9_11
      try clear hfz9_12
      try clear hfz9_13
      try clear hfz9_2
      try clear hfz9_3
      try clear hfz9_4
      try clear hfz9_5
      try clear hfz9_6
      try clear hfz9_7
      try clear hfz9_8
      try clear hfz9_9
      obtain ⟨kq, x39_46, rfl, HA, HJ46, BK199, HI201, HB⟩ := hcut
      cases kq with
      | zero => exact absurd HA.out (by simp [event_Bytes.j0])
      | succ kj46 =>
       have H := HA.out
       clear HA
       simp only [event_Bytes.j0] at H
       by_cases c57 : x39_46 = true
       ·subst c57
        have H1 : ((octet_Writer_Num.f kj46 t202 t203 a0_8).bind fun bt224 => ((octet_Writer_Text.f kj46 bt224.1 bt224.2 a0_10).bind fun bt226 => ((octet_Writer_All.f bt226.1 bt226.2).bind fun bt228 => (some bt228.1)))) = some r := by rw [if_pos rfl] at H; exact H
        clear H
        have H := H1
        clear H1
        replace H := Option.bind_eq_some_iff.mp H
        obtain ⟨⟨t224, t225⟩, A580, H⟩ := H
        replace H : ((octet_Writer_Text.f kj46 t224 t225 a0_10).bind fun bt226 => ((octet_Writer_All.f bt226.1 bt226.2).bind fun bt228 => (some bt228.1))) = some r := H
        have A58 := Aside0.mk A580
        clear A580
        replace H := Option.bind_eq_some_iff.mp H
        obtain ⟨⟨t226, t227⟩, A590, H⟩ := H
        replace H : ((octet_Writer_All.f t226 t227).bind fun bt228 => (some bt228.1)) = some r := H
        have A59 := Aside0.mk A590
        clear A590
        replace H := Option.bind_eq_some_iff.mp H
        obtain ⟨⟨t228, t229, t230, t231⟩, A600, H⟩ := H
        replace H : (some t228) = some r := H
        have A60 := Aside0.mk A600
        clear A600
        obtain rfl := Option.some.inj H
        have hnb61 := NB199_201.out
        have hnc61 := NB201_199.out
        have hcz62_0 : wc.cell? ⟨gb199, 0, none⟩ = some (.int .i64 a0_0) := (blk_cell BK199.out 0).trans rfl
        have hcz62_1 : wc.cell? ⟨gb199, 1, none⟩ = some (.string a0_1) := (blk_cell BK199.out 1).trans rfl
        have hcz62_2 : wc.cell? ⟨gb199, 2, none⟩ = some (.int .i64 a0_2) := (blk_cell BK199.out 2).trans rfl
        have hcz62_3 : wc.cell? ⟨gb199, 3, none⟩ = some (.int .i64 a0_3) := (blk_cell BK199.out 3).trans rfl
        have hcz62_4 : wc.cell? ⟨gb199, 4, none⟩ = some (.int .i64 a0_4) := (blk_cell BK199.out 4).trans rfl
        have hcz62_5 : wc.cell? ⟨gb199, 5, none⟩ = some (.slice A0_5 l0_5.length c0_5) := (blk_cell BK199.out 5).trans rfl
        have hcz62_6 : wc.cell? ⟨gb199, 6, none⟩ = some (.bool a0_6) := (blk_cell BK199.out 6).trans rfl
        have hcz62_7 : wc.cell? ⟨gb199, 7, none⟩ = some (.slice A0_7 l0_7.length c0_7) := (blk_cell BK199.out 7).trans rfl
        have hcz62_8 : wc.cell? ⟨gb199, 8, none⟩ = some (.int .i64 a0_8) := (blk_cell BK199.out 8).trans rfl
        have hcz62_9 : wc.cell? ⟨gb199, 9, none⟩ = some (.int .i64 a0_9) := (blk_cell BK199.out 9).trans rfl
        have hcz62_10 : wc.cell? ⟨gb199, 10, none⟩ = some (.string a0_10) := (blk_cell BK199.out 10).trans rfl
        have hcz62_11 : wc.cell? ⟨gb199, 11, none⟩ = some (.int .i64 a0_11) := (blk_cell BK199.out 11).trans rfl
        have hcz62_12 : wc.cell? ⟨gb199, 12, none⟩ = some (.string a0_12) := (blk_cell BK199.out 12).trans rfl
        have hcz62_13 : wc.cell? ⟨gb199, 13, none⟩ = some (.int .i64 a0_13) := (blk_cell BK199.out 13).trans rfl
        have hfz62_0 := blk_frozen BK199.out 0
        have hfz62_1 := blk_frozen BK199.out 1
        have hfz62_2 := blk_frozen BK199.out 2
        have hfz62_3 := blk_frozen BK199.out 3
        have hfz62_4 := blk_frozen BK199.out 4
        have hfz62_5 := blk_frozen BK199.out 5
        have hfz62_6 := blk_frozen BK199.out 6
        have hfz62_7 := blk_frozen BK199.out 7
        have hfz62_8 := blk_frozen BK199.out 8
        have hfz62_9 := blk_frozen BK199.out 9
        have hfz62_10 := blk_frozen BK199.out 10
        have hfz62_11 := blk_frozen BK199.out 11
        have hfz62_12 := blk_frozen BK199.out 12
        have hfz62_13 := blk_frozen BK199.out 13
        go_wp2_with (first | ((with_reducible refine gate_callee (f := 19) rfl ?_); refine goesL_ (some 45) rfl rfl Try.func19 (by kernel_rfl) rfl #[.pointer (some ⟨g201, 0, none⟩), .int .i64 a0_8] rfl (Zevent_Bytes.z0) ?_; (with_reducible refine (octet_Writer_Num.calls kj46 g201 t202 t203 a0_8 t224 t225 w _ ?side1 ?side2 A58.out).mono ?_); (case side1 => repeat (first | (with_reducible first | exact HI201.out | apply IsS43.alloc | apply IsS43.drewN | apply IsS43.drew | apply IsS43.set_0 | apply IsS43.set_1 | refine IsS43.far ?_ NB201_199.out _) | exact HI201.out)); (case side2 => repeat (first | (with_reducible first | exact HB.out | apply below_alloc | apply pw_below_drewN | apply below_drew1 | refine below_set ?_ (IsS43.ge HI201.out) | refine below_set ?_ GE199.out) | exact HB.out)); rintro e w63 ⟨rfl, hi, hb, hk⟩; refine ⟨_, rfl, ?_⟩; have n0_ := Aside0.mk (KeepBut.blk hk (g' := gb199) (o := .cells #[.int .i64 a0_0, .string a0_1, .int .i64 a0_2, .int .i64 a0_3, .int .i64 a0_4, .slice A0_5 l0_5.length c0_5, .bool a0_6, .slice A0_7 l0_7.length c0_7, .int .i64 a0_8, .int .i64 a0_9, .string a0_10, .int .i64 a0_11, .string a0_12, .int .i64 a0_13] 29 (0, 0)) (by (with_reducible repeat (first | refine blk_drewN ?_ _ | refine blk_drew ?_ | refine blk_alloc ?_ _)); exact BK199.out) NB199_201.out (by simp)); have n1_ := Aside0.mk (hb); have n2_ := Aside0.mk (hi); clear BK199; clear HB; clear HI201; have BK199 := n0_; have HB := n1_; have HI201 := n2_; clear n0_ n1_ n2_; (try clear hb); (try clear hb2); (try clear hk); (try clear hi); have hcz64_0 : w63.cell? ⟨gb199, 0, none⟩ = some (.int .i64 a0_0) := (blk_cell BK199.out 0).trans rfl; have hcz64_1 : w63.cell? ⟨gb199, 1, none⟩ = some (.string a0_1) := (blk_cell BK199.out 1).trans rfl; have hcz64_2 : w63.cell? ⟨gb199, 2, none⟩ = some (.int .i64 a0_2) := (blk_cell BK199.out 2).trans rfl; have hcz64_3 : w63.cell? ⟨gb199, 3, none⟩ = some (.int .i64 a0_3) := (blk_cell BK199.out 3).trans rfl; have hcz64_4 : w63.cell? ⟨gb199, 4, none⟩ = some (.int .i64 a0_4) := (blk_cell BK199.out 4).trans rfl; have hcz64_5 : w63.cell? ⟨gb199, 5, none⟩ = some (.slice A0_5 l0_5.length c0_5) := (blk_cell BK199.out 5).trans rfl; have hcz64_6 : w63.cell? ⟨gb199, 6, none⟩ = some (.bool a0_6) := (blk_cell BK199.out 6).trans rfl; have hcz64_7 : w63.cell? ⟨gb199, 7, none⟩ = some (.slice A0_7 l0_7.length c0_7) := (blk_cell BK199.out 7).trans rfl; have hcz64_8 : w63.cell? ⟨gb199, 8, none⟩ = some (.int .i64 a0_8) := (blk_cell BK199.out 8).trans rfl; have hcz64_9 : w63.cell? ⟨gb199, 9, none⟩ = some (.int .i64 a0_9) := (blk_cell BK199.out 9).trans rfl; have hcz64_10 : w63.cell? ⟨gb199, 10, none⟩ = some (.string a0_10) := (blk_cell BK199.out 10).trans rfl; have hcz64_11 : w63.cell? ⟨gb199, 11, none⟩ = some (.int .i64 a0_11) := (blk_cell BK199.out 11).trans rfl; have hcz64_12 : w63.cell? ⟨gb199, 12, none⟩ = some (.string a0_12) := (blk_cell BK199.out 12).trans rfl; have hcz64_13 : w63.cell? ⟨gb199, 13, none⟩ = some (.int .i64 a0_13) := (blk_cell BK199.out 13).trans rfl; have hfz64_0 := blk_frozen BK199.out 0; have hfz64_1 := blk_frozen BK199.out 1; have hfz64_2 := blk_frozen BK199.out 2; have hfz64_3 := blk_frozen BK199.out 3; have hfz64_4 := blk_frozen BK199.out 4; have hfz64_5 := blk_frozen BK199.out 5; have hfz64_6 := blk_frozen BK199.out 6; have hfz64_7 := blk_frozen BK199.out 7; have hfz64_8 := blk_frozen BK199.out 8; have hfz64_9 := blk_frozen BK199.out 9; have hfz64_10 := blk_frozen BK199.out 10; have hfz64_11 := blk_frozen BK199.out 11; have hfz64_12 := blk_frozen BK199.out 12; have hfz64_13 := blk_frozen BK199.out 13) | ((with_reducible refine gate_callee (f := 21) rfl ?_); refine goesL_ (some 49) rfl rfl Try.func21 (by kernel_rfl) rfl #[.pointer (some ⟨g201, 0, none⟩), .string a0_10] rfl (Zevent_Bytes.z0) ?_; (with_reducible refine (octet_Writer_Text.calls kj46 g201 t224 t225 a0_10 t226 t227 w _ ?side1 ?side2 A59.out).mono ?_); (case side1 => repeat (first | (with_reducible first | exact HI201.out | apply IsS43.alloc | apply IsS43.drewN | apply IsS43.drew | apply IsS43.set_0 | apply IsS43.set_1 | refine IsS43.far ?_ NB201_199.out _) | exact HI201.out)); (case side2 => repeat (first | (with_reducible first | exact HB.out | apply below_alloc | apply pw_below_drewN | apply below_drew1 | refine below_set ?_ (IsS43.ge HI201.out) | refine below_set ?_ GE199.out) | exact HB.out)); rintro e w65 ⟨rfl, hi, hb, hk⟩; refine ⟨_, rfl, ?_⟩; have n0_ := Aside0.mk (KeepBut.blk hk (g' := gb199) (o := .cells #[.int .i64 a0_0, .string a0_1, .int .i64 a0_2, .int .i64 a0_3, .int .i64 a0_4, .slice A0_5 l0_5.length c0_5, .bool a0_6, .slice A0_7 l0_7.length c0_7, .int .i64 a0_8, .int .i64 a0_9, .string a0_10, .int .i64 a0_11, .string a0_12, .int .i64 a0_13] 29 (0, 0)) (by (with_reducible repeat (first | refine blk_drewN ?_ _ | refine blk_drew ?_ | refine blk_alloc ?_ _)); exact BK199.out) NB199_201.out (by simp)); have n1_ := Aside0.mk (hb); have n2_ := Aside0.mk (hi); clear BK199; clear HB; clear HI201; have BK199 := n0_; have HB := n1_; have HI201 := n2_; clear n0_ n1_ n2_; (try clear hb); (try clear hb2); (try clear hk); (try clear hi)) | ((with_reducible refine gate_callee (f := 22) rfl ?_); refine goesL_ (some 70) rfl rfl Try.func22 (by kernel_rfl) rfl #[.pointer (some ⟨g201, 0, none⟩)] rfl (Zevent_Bytes.z0) ?_; (with_reducible refine (octet_Writer_All.calls g201 t226 t227 t228 t229 t230 t231 w _ ?side1 ?side2 A60.out).mono ?_); (case side1 => repeat (first | (with_reducible first | exact HI201.out | apply IsS43.alloc | apply IsS43.drewN | apply IsS43.drew | apply IsS43.set_0 | apply IsS43.set_1 | refine IsS43.far ?_ NB201_199.out _) | exact HI201.out)); (case side2 => repeat (first | (with_reducible first | exact HB.out | apply below_alloc | apply pw_below_drewN | apply below_drew1 | refine below_set ?_ (IsS43.ge HI201.out) | refine below_set ?_ GE199.out) | exact HB.out)); rintro e w66 ⟨rfl, hi, hb, hk⟩; refine ⟨_, rfl, ?_⟩; have n0_ := Aside0.mk (KeepBut.blk hk (g' := gb199) (o := .cells #[.int .i64 a0_0, .string a0_1, .int .i64 a0_2, .int .i64 a0_3, .int .i64 a0_4, .slice A0_5 l0_5.length c0_5, .bool a0_6, .slice A0_7 l0_7.length c0_7, .int .i64 a0_8, .int .i64 a0_9, .string a0_10, .int .i64 a0_11, .string a0_12, .int .i64 a0_13] 29 (0, 0)) (by (with_reducible repeat (first | refine blk_drewN ?_ _ | refine blk_drew ?_ | refine blk_alloc ?_ _)); exact BK199.out) NB199_201.out (by simp)); have n1_ := Aside0.mk (hb); have n2_ := Aside0.mk (hi); clear BK199; clear HB; clear HI201; have BK199 := n0_; have HB := n1_; have HI201 := n2_; clear n0_ n1_ n2_; (try clear hb); (try clear hb2); (try clear hk); (try clear hi)))
        go_ret
        exact ⟨Zevent_Bytes.z3, by repeat (first | (with_reducible first | exact HB.out | apply below_alloc | apply pw_below_drewN | apply below_drew1 | refine below_set ?_ (IsS43.ge HI201.out) | refine below_set ?_ GE199.out) | exact HB.out)⟩
       ·replace c57 := Bool.eq_false_iff.mpr c57
        subst c57
        have H1 : (if a0_0 = 6 then ((octet_Writer_Num.f kj46 t202 t203 a0_11).bind fun bt232 => ((octet_Writer_Text.f kj46 bt232.1 bt232.2 a0_12).bind fun bt234 => ((octet_Writer_All.f bt234.1 bt234.2).bind fun bt236 => (some bt236.1)))) else (if a0_0 = 7 then ((octet_Writer_Num.f kj46 t202 t203 a0_13).bind fun bt240 => ((octet_Writer_All.f bt240.1 bt240.2).bind fun bt242 => (some bt242.1))) else ((octet_Writer_All.f t202 t203).bind fun bt246 => (some bt246.1)))) = some r := by rw [if_neg (show ¬ (false = true) by decide)] at H; exact H
        clear H
        have H := H1
        clear H1
        by_cases c67 : a0_0 = 6
        ·rw [if_pos c67] at H
         have c67b0 : (a0_0 == 6) = true := beq_iff_eq.mpr c67
         have c67b1 : (a0_0 != 6) = false := bne_eq_false_iff_eq.mpr c67
         clear c67
         replace H := Option.bind_eq_some_iff.mp H
         obtain ⟨⟨t232, t233⟩, A680, H⟩ := H
         replace H : ((octet_Writer_Text.f kj46 t232 t233 a0_12).bind fun bt234 => ((octet_Writer_All.f bt234.1 bt234.2).bind fun bt236 => (some bt236.1))) = some r := H
         have A68 := Aside0.mk A680
         clear A680
         replace H := Option.bind_eq_some_iff.mp H
         obtain ⟨⟨t234, t235⟩, A690, H⟩ := H
         replace H : ((octet_Writer_All.f t234 t235).bind fun bt236 => (some bt236.1)) = some r := H
         have A69 := Aside0.mk A690
         clear A690
         replace H := Option.bind_eq_some_iff.mp H
         obtain ⟨⟨t236, t237, t238, t239⟩, A700, H⟩ := H
         replace H : (some t236) = some r := H
         have A70 := Aside0.mk A700
         clear A700
         obtain rfl := Option.some.inj H
         have hnb71 := NB199_201.out
         have hnc71 := NB201_199.out
         have hcz72_0 : wc.cell? ⟨gb199, 0, none⟩ = some (.int .i64 a0_0) := (blk_cell BK199.out 0).trans rfl
         have hcz72_1 : wc.cell? ⟨gb199, 1, none⟩ = some (.string a0_1) := (blk_cell BK199.out 1).trans rfl
         have hcz72_2 : wc.cell? ⟨gb199, 2, none⟩ = some (.int .i64 a0_2) := (blk_cell BK199.out 2).trans rfl
         have hcz72_3 : wc.cell? ⟨gb199, 3, none⟩ = some (.int .i64 a0_3) := (blk_cell BK199.out 3).trans rfl
         have hcz72_4 : wc.cell? ⟨gb199, 4, none⟩ = some (.int .i64 a0_4) := (blk_cell BK199.out 4).trans rfl
         have hcz72_5 : wc.cell? ⟨gb199, 5, none⟩ = some (.slice A0_5 l0_5.length c0_5) := (blk_cell BK199.out 5).trans rfl
         have hcz72_6 : wc.cell? ⟨gb199, 6, none⟩ = some (.bool a0_6) := (blk_cell BK199.out 6).trans rfl
         have hcz72_7 : wc.cell? ⟨gb199, 7, none⟩ = some (.slice A0_7 l0_7.length c0_7) := (blk_cell BK199.out 7).trans rfl
         have hcz72_8 : wc.cell? ⟨gb199, 8, none⟩ = some (.int .i64 a0_8) := (blk_cell BK199.out 8).trans rfl
         have hcz72_9 : wc.cell? ⟨gb199, 9, none⟩ = some (.int .i64 a0_9) := (blk_cell BK199.out 9).trans rfl
         have hcz72_10 : wc.cell? ⟨gb199, 10, none⟩ = some (.string a0_10) := (blk_cell BK199.out 10).trans rfl
         have hcz72_11 : wc.cell? ⟨gb199, 11, none⟩ = some (.int .i64 a0_11) := (blk_cell BK199.out 11).trans rfl
         have hcz72_12 : wc.cell? ⟨gb199, 12, none⟩ = some (.string a0_12) := (blk_cell BK199.out 12).trans rfl
         have hcz72_13 : wc.cell? ⟨gb199, 13, none⟩ = some (.int .i64 a0_13) := (blk_cell BK199.out 13).trans rfl
         have hfz72_0 := blk_frozen BK199.out 0
         have hfz72_1 := blk_frozen BK199.out 1
         have hfz72_2 := blk_frozen BK199.out 2
         have hfz72_3 := blk_frozen BK199.out 3
         have hfz72_4 := blk_frozen BK199.out 4
         have hfz72_5 := blk_frozen BK199.out 5
         have hfz72_6 := blk_frozen BK199.out 6
         have hfz72_7 := blk_frozen BK199.out 7
         have hfz72_8 := blk_frozen BK199.out 8
         have hfz72_9 := blk_frozen BK199.out 9
         have hfz72_10 := blk_frozen BK199.out 10
         have hfz72_11 := blk_frozen BK199.out 11
         have hfz72_12 := blk_frozen BK199.out 12
         have hfz72_13 := blk_frozen BK199.out 13
         go_wp2_with (first | ((with_reducible refine gate_callee (f := 19) rfl ?_); refine goesL_ (some 56) rfl rfl Try.func19 (by kernel_rfl) rfl #[.pointer (some ⟨g201, 0, none⟩), .int .i64 a0_11] rfl (Zevent_Bytes.z0) ?_; (with_reducible refine (octet_Writer_Num.calls kj46 g201 t202 t203 a0_11 t232 t233 w _ ?side1 ?side2 A68.out).mono ?_); (case side1 => repeat (first | (with_reducible first | exact HI201.out | apply IsS43.alloc | apply IsS43.drewN | apply IsS43.drew | apply IsS43.set_0 | apply IsS43.set_1 | refine IsS43.far ?_ NB201_199.out _) | exact HI201.out)); (case side2 => repeat (first | (with_reducible first | exact HB.out | apply below_alloc | apply pw_below_drewN | apply below_drew1 | refine below_set ?_ (IsS43.ge HI201.out) | refine below_set ?_ GE199.out) | exact HB.out)); rintro e w73 ⟨rfl, hi, hb, hk⟩; refine ⟨_, rfl, ?_⟩; have n0_ := Aside0.mk (KeepBut.blk hk (g' := gb199) (o := .cells #[.int .i64 a0_0, .string a0_1, .int .i64 a0_2, .int .i64 a0_3, .int .i64 a0_4, .slice A0_5 l0_5.length c0_5, .bool a0_6, .slice A0_7 l0_7.length c0_7, .int .i64 a0_8, .int .i64 a0_9, .string a0_10, .int .i64 a0_11, .string a0_12, .int .i64 a0_13] 29 (0, 0)) (by (with_reducible repeat (first | refine blk_drewN ?_ _ | refine blk_drew ?_ | refine blk_alloc ?_ _)); exact BK199.out) NB199_201.out (by simp)); have n1_ := Aside0.mk (hb); have n2_ := Aside0.mk (hi); clear BK199; clear HB; clear HI201; have BK199 := n0_; have HB := n1_; have HI201 := n2_; clear n0_ n1_ n2_; (try clear hb); (try clear hb2); (try clear hk); (try clear hi); have hcz74_0 : w73.cell? ⟨gb199, 0, none⟩ = some (.int .i64 a0_0) := (blk_cell BK199.out 0).trans rfl; have hcz74_1 : w73.cell? ⟨gb199, 1, none⟩ = some (.string a0_1) := (blk_cell BK199.out 1).trans rfl; have hcz74_2 : w73.cell? ⟨gb199, 2, none⟩ = some (.int .i64 a0_2) := (blk_cell BK199.out 2).trans rfl; have hcz74_3 : w73.cell? ⟨gb199, 3, none⟩ = some (.int .i64 a0_3) := (blk_cell BK199.out 3).trans rfl; have hcz74_4 : w73.cell? ⟨gb199, 4, none⟩ = some (.int .i64 a0_4) := (blk_cell BK199.out 4).trans rfl; have hcz74_5 : w73.cell? ⟨gb199, 5, none⟩ = some (.slice A0_5 l0_5.length c0_5) := (blk_cell BK199.out 5).trans rfl; have hcz74_6 : w73.cell? ⟨gb199, 6, none⟩ = some (.bool a0_6) := (blk_cell BK199.out 6).trans rfl; have hcz74_7 : w73.cell? ⟨gb199, 7, none⟩ = some (.slice A0_7 l0_7.length c0_7) := (blk_cell BK199.out 7).trans rfl; have hcz74_8 : w73.cell? ⟨gb199, 8, none⟩ = some (.int .i64 a0_8) := (blk_cell BK199.out 8).trans rfl; have hcz74_9 : w73.cell? ⟨gb199, 9, none⟩ = some (.int .i64 a0_9) := (blk_cell BK199.out 9).trans rfl; have hcz74_10 : w73.cell? ⟨gb199, 10, none⟩ = some (.string a0_10) := (blk_cell BK199.out 10).trans rfl; have hcz74_11 : w73.cell? ⟨gb199, 11, none⟩ = some (.int .i64 a0_11) := (blk_cell BK199.out 11).trans rfl; have hcz74_12 : w73.cell? ⟨gb199, 12, none⟩ = some (.string a0_12) := (blk_cell BK199.out 12).trans rfl; have hcz74_13 : w73.cell? ⟨gb199, 13, none⟩ = some (.int .i64 a0_13) := (blk_cell BK199.out 13).trans rfl; have hfz74_0 := blk_frozen BK199.out 0; have hfz74_1 := blk_frozen BK199.out 1; have hfz74_2 := blk_frozen BK199.out 2; have hfz74_3 := blk_frozen BK199.out 3; have hfz74_4 := blk_frozen BK199.out 4; have hfz74_5 := blk_frozen BK199.out 5; have hfz74_6 := blk_frozen BK199.out 6; have hfz74_7 := blk_frozen BK199.out 7; have hfz74_8 := blk_frozen BK199.out 8; have hfz74_9 := blk_frozen BK199.out 9; have hfz74_10 := blk_frozen BK199.out 10; have hfz74_11 := blk_frozen BK199.out 11; have hfz74_12 := blk_frozen BK199.out 12; have hfz74_13 := blk_frozen BK199.out 13) | ((with_reducible refine gate_callee (f := 21) rfl ?_); refine goesL_ (some 61) rfl rfl Try.func21 (by kernel_rfl) rfl #[.pointer (some ⟨g201, 0, none⟩), .string a0_12] rfl (Zevent_Bytes.z0) ?_; (with_reducible refine (octet_Writer_Text.calls kj46 g201 t232 t233 a0_12 t234 t235 w _ ?side1 ?side2 A69.out).mono ?_); (case side1 => repeat (first | (with_reducible first | exact HI201.out | apply IsS43.alloc | apply IsS43.drewN | apply IsS43.drew | apply IsS43.set_0 | apply IsS43.set_1 | refine IsS43.far ?_ NB201_199.out _) | exact HI201.out)); (case side2 => repeat (first | (with_reducible first | exact HB.out | apply below_alloc | apply pw_below_drewN | apply below_drew1 | refine below_set ?_ (IsS43.ge HI201.out) | refine below_set ?_ GE199.out) | exact HB.out)); rintro e w75 ⟨rfl, hi, hb, hk⟩; refine ⟨_, rfl, ?_⟩; have n0_ := Aside0.mk (KeepBut.blk hk (g' := gb199) (o := .cells #[.int .i64 a0_0, .string a0_1, .int .i64 a0_2, .int .i64 a0_3, .int .i64 a0_4, .slice A0_5 l0_5.length c0_5, .bool a0_6, .slice A0_7 l0_7.length c0_7, .int .i64 a0_8, .int .i64 a0_9, .string a0_10, .int .i64 a0_11, .string a0_12, .int .i64 a0_13] 29 (0, 0)) (by (with_reducible repeat (first | refine blk_drewN ?_ _ | refine blk_drew ?_ | refine blk_alloc ?_ _)); exact BK199.out) NB199_201.out (by simp)); have n1_ := Aside0.mk (hb); have n2_ := Aside0.mk (hi); clear BK199; clear HB; clear HI201; have BK199 := n0_; have HB := n1_; have HI201 := n2_; clear n0_ n1_ n2_; (try clear hb); (try clear hb2); (try clear hk); (try clear hi)) | ((with_reducible refine gate_callee (f := 22) rfl ?_); refine goesL_ (some 70) rfl rfl Try.func22 (by kernel_rfl) rfl #[.pointer (some ⟨g201, 0, none⟩)] rfl (Zevent_Bytes.z0) ?_; (with_reducible refine (octet_Writer_All.calls g201 t234 t235 t236 t237 t238 t239 w _ ?side1 ?side2 A70.out).mono ?_); (case side1 => repeat (first | (with_reducible first | exact HI201.out | apply IsS43.alloc | apply IsS43.drewN | apply IsS43.drew | apply IsS43.set_0 | apply IsS43.set_1 | refine IsS43.far ?_ NB201_199.out _) | exact HI201.out)); (case side2 => repeat (first | (with_reducible first | exact HB.out | apply below_alloc | apply pw_below_drewN | apply below_drew1 | refine below_set ?_ (IsS43.ge HI201.out) | refine below_set ?_ GE199.out) | exact HB.out)); rintro e w76 ⟨rfl, hi, hb, hk⟩; refine ⟨_, rfl, ?_⟩; have n0_ := Aside0.mk (KeepBut.blk hk (g' := gb199) (o := .cells #[.int .i64 a0_0, .string a0_1, .int .i64 a0_2, .int .i64 a0_3, .int .i64 a0_4, .slice A0_5 l0_5.length c0_5, .bool a0_6, .slice A0_7 l0_7.length c0_7, .int .i64 a0_8, .int .i64 a0_9, .string a0_10, .int .i64 a0_11, .string a0_12, .int .i64 a0_13] 29 (0, 0)) (by (with_reducible repeat (first | refine blk_drewN ?_ _ | refine blk_drew ?_ | refine blk_alloc ?_ _)); exact BK199.out) NB199_201.out (by simp)); have n1_ := Aside0.mk (hb); have n2_ := Aside0.mk (hi); clear BK199; clear HB; clear HI201; have BK199 := n0_; have HB := n1_; have HI201 := n2_; clear n0_ n1_ n2_; (try clear hb); (try clear hb2); (try clear hk); (try clear hi)))
         go_ret
         exact ⟨Zevent_Bytes.z3, by repeat (first | (with_reducible first | exact HB.out | apply below_alloc | apply pw_below_drewN | apply below_drew1 | refine below_set ?_ (IsS43.ge HI201.out) | refine below_set ?_ GE199.out) | exact HB.out)⟩
        ·rw [if_neg c67] at H
         have c67b0 : (a0_0 == 6) = false := beq_eq_false_iff_ne.mpr c67
         have c67b1 : (a0_0 != 6) = true := bne_iff_ne.mpr c67
         by_cases c77 : a0_0 = 7
         ·rw [if_pos c77] at H
          have c77b0 : (a0_0 == 7) = true := beq_iff_eq.mpr c77
          have c77b1 : (a0_0 != 7) = false := bne_eq_false_iff_eq.mpr c77
          clear c77
          replace H := Option.bind_eq_some_iff.mp H
          obtain ⟨⟨t240, t241⟩, A780, H⟩ := H
          replace H : ((octet_Writer_All.f t240 t241).bind fun bt242 => (some bt242.1)) = some r := H
          have A78 := Aside0.mk A780
          clear A780
          replace H := Option.bind_eq_some_iff.mp H
          obtain ⟨⟨t242, t243, t244, t245⟩, A790, H⟩ := H
          replace H : (some t242) = some r := H
          have A79 := Aside0.mk A790
          clear A790
          obtain rfl := Option.some.inj H
          have hnb80 := NB199_201.out
          have hnc80 := NB201_199.out
          have hcz81_0 : wc.cell? ⟨gb199, 0, none⟩ = some (.int .i64 a0_0) := (blk_cell BK199.out 0).trans rfl
          have hcz81_1 : wc.cell? ⟨gb199, 1, none⟩ = some (.string a0_1) := (blk_cell BK199.out 1).trans rfl
          have hcz81_2 : wc.cell? ⟨gb199, 2, none⟩ = some (.int .i64 a0_2) := (blk_cell BK199.out 2).trans rfl
          have hcz81_3 : wc.cell? ⟨gb199, 3, none⟩ = some (.int .i64 a0_3) := (blk_cell BK199.out 3).trans rfl
          have hcz81_4 : wc.cell? ⟨gb199, 4, none⟩ = some (.int .i64 a0_4) := (blk_cell BK199.out 4).trans rfl
          have hcz81_5 : wc.cell? ⟨gb199, 5, none⟩ = some (.slice A0_5 l0_5.length c0_5) := (blk_cell BK199.out 5).trans rfl
          have hcz81_6 : wc.cell? ⟨gb199, 6, none⟩ = some (.bool a0_6) := (blk_cell BK199.out 6).trans rfl
          have hcz81_7 : wc.cell? ⟨gb199, 7, none⟩ = some (.slice A0_7 l0_7.length c0_7) := (blk_cell BK199.out 7).trans rfl
          have hcz81_8 : wc.cell? ⟨gb199, 8, none⟩ = some (.int .i64 a0_8) := (blk_cell BK199.out 8).trans rfl
          have hcz81_9 : wc.cell? ⟨gb199, 9, none⟩ = some (.int .i64 a0_9) := (blk_cell BK199.out 9).trans rfl
          have hcz81_10 : wc.cell? ⟨gb199, 10, none⟩ = some (.string a0_10) := (blk_cell BK199.out 10).trans rfl
          have hcz81_11 : wc.cell? ⟨gb199, 11, none⟩ = some (.int .i64 a0_11) := (blk_cell BK199.out 11).trans rfl
          have hcz81_12 : wc.cell? ⟨gb199, 12, none⟩ = some (.string a0_12) := (blk_cell BK199.out 12).trans rfl
          have hcz81_13 : wc.cell? ⟨gb199, 13, none⟩ = some (.int .i64 a0_13) := (blk_cell BK199.out 13).trans rfl
          have hfz81_0 := blk_frozen BK199.out 0
          have hfz81_1 := blk_frozen BK199.out 1
          have hfz81_2 := blk_frozen BK199.out 2
          have hfz81_3 := blk_frozen BK199.out 3
          have hfz81_4 := blk_frozen BK199.out 4
          have hfz81_5 := blk_frozen BK199.out 5
          have hfz81_6 := blk_frozen BK199.out 6
          have hfz81_7 := blk_frozen BK199.out 7
          have hfz81_8 := blk_frozen BK199.out 8
          have hfz81_9 := blk_frozen BK199.out 9
          have hfz81_10 := blk_frozen BK199.out 10
          have hfz81_11 := blk_frozen BK199.out 11
          have hfz81_12 := blk_frozen BK199.out 12
          have hfz81_13 := blk_frozen BK199.out 13
          go_wp2_with (first | ((with_reducible refine gate_callee (f := 19) rfl ?_); refine goesL_ (some 67) rfl rfl Try.func19 (by kernel_rfl) rfl #[.pointer (some ⟨g201, 0, none⟩), .int .i64 a0_13] rfl (Zevent_Bytes.z0) ?_; (with_reducible refine (octet_Writer_Num.calls kj46 g201 t202 t203 a0_13 t240 t241 w _ ?side1 ?side2 A78.out).mono ?_); (case side1 => repeat (first | (with_reducible first | exact HI201.out | apply IsS43.alloc | apply IsS43.drewN | apply IsS43.drew | apply IsS43.set_0 | apply IsS43.set_1 | refine IsS43.far ?_ NB201_199.out _) | exact HI201.out)); (case side2 => repeat (first | (with_reducible first | exact HB.out | apply below_alloc | apply pw_below_drewN | apply below_drew1 | refine below_set ?_ (IsS43.ge HI201.out) | refine below_set ?_ GE199.out) | exact HB.out)); rintro e w82 ⟨rfl, hi, hb, hk⟩; refine ⟨_, rfl, ?_⟩; have n0_ := Aside0.mk (KeepBut.blk hk (g' := gb199) (o := .cells #[.int .i64 a0_0, .string a0_1, .int .i64 a0_2, .int .i64 a0_3, .int .i64 a0_4, .slice A0_5 l0_5.length c0_5, .bool a0_6, .slice A0_7 l0_7.length c0_7, .int .i64 a0_8, .int .i64 a0_9, .string a0_10, .int .i64 a0_11, .string a0_12, .int .i64 a0_13] 29 (0, 0)) (by (with_reducible repeat (first | refine blk_drewN ?_ _ | refine blk_drew ?_ | refine blk_alloc ?_ _)); exact BK199.out) NB199_201.out (by simp)); have n1_ := Aside0.mk (hb); have n2_ := Aside0.mk (hi); clear BK199; clear HB; clear HI201; have BK199 := n0_; have HB := n1_; have HI201 := n2_; clear n0_ n1_ n2_; (try clear hb); (try clear hb2); (try clear hk); (try clear hi)) | ((with_reducible refine gate_callee (f := 22) rfl ?_); refine goesL_ (some 70) rfl rfl Try.func22 (by kernel_rfl) rfl #[.pointer (some ⟨g201, 0, none⟩)] rfl (Zevent_Bytes.z0) ?_; (with_reducible refine (octet_Writer_All.calls g201 t240 t241 t242 t243 t244 t245 w _ ?side1 ?side2 A79.out).mono ?_); (case side1 => repeat (first | (with_reducible first | exact HI201.out | apply IsS43.alloc | apply IsS43.drewN | apply IsS43.drew | apply IsS43.set_0 | apply IsS43.set_1 | refine IsS43.far ?_ NB201_199.out _) | exact HI201.out)); (case side2 => repeat (first | (with_reducible first | exact HB.out | apply below_alloc | apply pw_below_drewN | apply below_drew1 | refine below_set ?_ (IsS43.ge HI201.out) | refine below_set ?_ GE199.out) | exact HB.out)); rintro e w83 ⟨rfl, hi, hb, hk⟩; refine ⟨_, rfl, ?_⟩; have n0_ := Aside0.mk (KeepBut.blk hk (g' := gb199) (o := .cells #[.int .i64 a0_0, .string a0_1, .int .i64 a0_2, .int .i64 a0_3, .int .i64 a0_4, .slice A0_5 l0_5.length c0_5, .bool a0_6, .slice A0_7 l0_7.length c0_7, .int .i64 a0_8, .int .i64 a0_9, .string a0_10, .int .i64 a0_11, .string a0_12, .int .i64 a0_13] 29 (0, 0)) (by (with_reducible repeat (first | refine blk_drewN ?_ _ | refine blk_drew ?_ | refine blk_alloc ?_ _)); exact BK199.out) NB199_201.out (by simp)); have n1_ := Aside0.mk (hb); have n2_ := Aside0.mk (hi); clear BK199; clear HB; clear HI201; have BK199 := n0_; have HB := n1_; have HI201 := n2_; clear n0_ n1_ n2_; (try clear hb); (try clear hb2); (try clear hk); (try clear hi)))
          go_ret
          exact ⟨Zevent_Bytes.z3, by repeat (first | (with_reducible first | exact HB.out | apply below_alloc | apply pw_below_drewN | apply below_drew1 | refine below_set ?_ (IsS43.ge HI201.out) | refine below_set ?_ GE199.out) | exact HB.out)⟩
         ·rw [if_neg c77] at H
          have c77b0 : (a0_0 == 7) = false := beq_eq_false_iff_ne.mpr c77
          have c77b1 : (a0_0 != 7) = true := bne_iff_ne.mpr c77
          replace H := Option.bind_eq_some_iff.mp H
          obtain ⟨⟨t246, t247, t248, t249⟩, A840, H⟩ := H
          replace H : (some t246) = some r := H
          have A84 := Aside0.mk A840
          clear A840
          obtain rfl := Option.some.inj H
          go_wp2_with (first | ((with_reducible refine gate_callee (f := 22) rfl ?_); refine goesL_ (some 70) rfl rfl Try.func22 (by kernel_rfl) rfl #[.pointer (some ⟨g201, 0, none⟩)] rfl (Zevent_Bytes.z0) ?_; (with_reducible refine (octet_Writer_All.calls g201 t202 t203 t246 t247 t248 t249 w _ ?side1 ?side2 A84.out).mono ?_); (case side1 => repeat (first | (with_reducible first | exact HI201.out | apply IsS43.alloc | apply IsS43.drewN | apply IsS43.drew | apply IsS43.set_0 | apply IsS43.set_1 | refine IsS43.far ?_ NB201_199.out _) | exact HI201.out)); (case side2 => repeat (first | (with_reducible first | exact HB.out | apply below_alloc | apply pw_below_drewN | apply below_drew1 | refine below_set ?_ (IsS43.ge HI201.out) | refine below_set ?_ GE199.out) | exact HB.out)); rintro e w85 ⟨rfl, hi, hb, hk⟩; refine ⟨_, rfl, ?_⟩; have n0_ := Aside0.mk (KeepBut.blk hk (g' := gb199) (o := .cells #[.int .i64 a0_0, .string a0_1, .int .i64 a0_2, .int .i64 a0_3, .int .i64 a0_4, .slice A0_5 l0_5.length c0_5, .bool a0_6, .slice A0_7 l0_7.length c0_7, .int .i64 a0_8, .int .i64 a0_9, .string a0_10, .int .i64 a0_11, .string a0_12, .int .i64 a0_13] 29 (0, 0)) (by (with_reducible repeat (first | refine blk_drewN ?_ _ | refine blk_drew ?_ | refine blk_alloc ?_ _)); exact BK199.out) NB199_201.out (by simp)); have n1_ := Aside0.mk (hb); have n2_ := Aside0.mk (hi); clear BK199; clear HB; clear HI201; have BK199 := n0_; have HB := n1_; have HI201 := n2_; clear n0_ n1_ n2_; (try clear hb); (try clear hb2); (try clear hk); (try clear hi)))
          go_ret
          exact ⟨Zevent_Bytes.z3, by repeat (first | (with_reducible first | exact HB.out | apply below_alloc | apply pw_below_drewN | apply below_drew1 | refine below_set ?_ (IsS43.ge HI201.out) | refine below_set ?_ GE199.out) | exact HB.out)⟩
 ·replace c3 := Bool.eq_false_iff.mpr c3
  subst c3
  have H1 : (some (⟨#[]⟩ : ByteArray)) = some r := by rw [if_neg (show ¬ (false = true) by decide)] at H; exact H
  clear H
  have H := H1
  clear H1
  obtain rfl := Option.some.inj H
  go_enter Try.func8, Try.ntmps8
  go_wp2_with (first | ((with_reducible refine gate_dst (N := 1) rfl ?_); refine box_event ?hg (N := 1) ?hd (cs := #[.int .i64 a0_0, .string a0_1, .int .i64 a0_2, .int .i64 a0_3, .int .i64 a0_4, .slice A0_5 l0_5.length c0_5, .bool a0_6, .slice A0_7 l0_7.length c0_7, .int .i64 a0_8, .int .i64 a0_9, .string a0_10, .int .i64 a0_11, .string a0_12, .int .i64 a0_13]) (t := 29) ?hr ?_; (case hd => rfl); (case hg => rfl); (case hr => first | (go_simp; done) | (go_simp; rfl)); intro gb199 hg w86 hbox hb; have n0_ := Aside0.mk (below_step (Zevent_Bytes.z1) hb); have n1_ := Aside0.mk (hbox); have n2_ := Aside0.mk ((Zevent_Bytes.z2 : w.heap.size ≤ gb199)); have n3_ := Aside0.mk ((Zevent_Bytes.z2 : w.heap.size ≤ gb199)); clear HB; have HB := n0_; have BK199 := n1_; have GW199 := n2_; have GE199 := n3_; clear n0_ n1_ n2_ n3_; clear hb hbox hg; have hcz87_0 : w86.cell? ⟨gb199, 0, none⟩ = some (.int .i64 a0_0) := (blk_cell BK199.out 0).trans rfl; have hcz87_1 : w86.cell? ⟨gb199, 1, none⟩ = some (.string a0_1) := (blk_cell BK199.out 1).trans rfl; have hcz87_2 : w86.cell? ⟨gb199, 2, none⟩ = some (.int .i64 a0_2) := (blk_cell BK199.out 2).trans rfl; have hcz87_3 : w86.cell? ⟨gb199, 3, none⟩ = some (.int .i64 a0_3) := (blk_cell BK199.out 3).trans rfl; have hcz87_4 : w86.cell? ⟨gb199, 4, none⟩ = some (.int .i64 a0_4) := (blk_cell BK199.out 4).trans rfl; have hcz87_5 : w86.cell? ⟨gb199, 5, none⟩ = some (.slice A0_5 l0_5.length c0_5) := (blk_cell BK199.out 5).trans rfl; have hcz87_6 : w86.cell? ⟨gb199, 6, none⟩ = some (.bool a0_6) := (blk_cell BK199.out 6).trans rfl; have hcz87_7 : w86.cell? ⟨gb199, 7, none⟩ = some (.slice A0_7 l0_7.length c0_7) := (blk_cell BK199.out 7).trans rfl; have hcz87_8 : w86.cell? ⟨gb199, 8, none⟩ = some (.int .i64 a0_8) := (blk_cell BK199.out 8).trans rfl; have hcz87_9 : w86.cell? ⟨gb199, 9, none⟩ = some (.int .i64 a0_9) := (blk_cell BK199.out 9).trans rfl; have hcz87_10 : w86.cell? ⟨gb199, 10, none⟩ = some (.string a0_10) := (blk_cell BK199.out 10).trans rfl; have hcz87_11 : w86.cell? ⟨gb199, 11, none⟩ = some (.int .i64 a0_11) := (blk_cell BK199.out 11).trans rfl; have hcz87_12 : w86.cell? ⟨gb199, 12, none⟩ = some (.string a0_12) := (blk_cell BK199.out 12).trans rfl; have hcz87_13 : w86.cell? ⟨gb199, 13, none⟩ = some (.int .i64 a0_13) := (blk_cell BK199.out 13).trans rfl; have hfz87_0 := blk_frozen BK199.out 0; have hfz87_1 := blk_frozen BK199.out 1; have hfz87_2 := blk_frozen BK199.out 2; have hfz87_3 := blk_frozen BK199.out 3; have hfz87_4 := blk_frozen BK199.out 4; have hfz87_5 := blk_frozen BK199.out 5; have hfz87_6 := blk_frozen BK199.out 6; have hfz87_7 := blk_frozen BK199.out 7; have hfz87_8 := blk_frozen BK199.out 8; have hfz87_9 := blk_frozen BK199.out 9; have hfz87_10 := blk_frozen BK199.out 10; have hfz87_11 := blk_frozen BK199.out 11; have hfz87_12 := blk_frozen BK199.out 12; have hfz87_13 := blk_frozen BK199.out 13) | ((with_reducible refine gate_callee (f := 18) rfl ?_); refine goesL_ (some 7) rfl rfl Try.func18 (by kernel_rfl) rfl #[.agg #[.int .i64 a0_0, .string a0_1, .int .i64 a0_2, .int .i64 a0_3, .int .i64 a0_4, .slice A0_5 l0_5.length c0_5, .bool a0_6, .slice A0_7 l0_7.length c0_7, .int .i64 a0_8, .int .i64 a0_9, .string a0_10, .int .i64 a0_11, .string a0_12, .int .i64 a0_13]] rfl (Zevent_Bytes.z0) ?_; (with_reducible refine (event_Right.calls k a0_0 a0_1 a0_2 a0_3 a0_4 _ _ l0_5 a0_6 _ _ l0_7 a0_8 a0_9 a0_10 a0_11 a0_12 a0_13 false _ ?side1 ?side2 ?side3 ?side4 A2.out).mono ?_); (case side1 => repeat (first | exact (Kd.C_below HR0_5.out HB.out) | (with_reducible refine Kd.C_alloc ?_ _) | (with_reducible refine Kd.C_drewN ?_ _) | (with_reducible refine Kd.C_drew ?_))); (case side2 => exact HC0_5.out); (case side3 => repeat (first | exact (Kd.C_below HR0_7.out HB.out) | (with_reducible refine Kd.C_alloc ?_ _) | (with_reducible refine Kd.C_drewN ?_ _) | (with_reducible refine Kd.C_drew ?_))); (case side4 => exact HC0_7.out); rintro e w88 ⟨rfl, hb⟩; refine ⟨_, rfl, ?_⟩; have n0_ := Aside0.mk (blk_below (g := gb199) (o := .cells #[.int .i64 a0_0, .string a0_1, .int .i64 a0_2, .int .i64 a0_3, .int .i64 a0_4, .slice A0_5 l0_5.length c0_5, .bool a0_6, .slice A0_7 l0_7.length c0_7, .int .i64 a0_8, .int .i64 a0_9, .string a0_10, .int .i64 a0_11, .string a0_12, .int .i64 a0_13] 29 (0, 0)) (by (with_reducible repeat (first | refine blk_drewN ?_ _ | refine blk_drew ?_ | refine blk_alloc ?_ _)); exact BK199.out) hb); have n1_ := Aside0.mk (below_step (by repeat (first | (with_reducible first | exact HB.out | apply below_alloc | apply pw_below_drewN | apply below_drew1 | refine below_set ?_ GE199.out) | exact HB.out)) hb); clear BK199; clear HB; have BK199 := n0_; have HB := n1_; clear n0_ n1_; (try clear hb); (try clear hb2); (try clear hk); (try clear hi)))
  go_ret
  exact ⟨Zevent_Bytes.z3, by repeat (first | (with_reducible first | exact HB.out | apply below_alloc | apply pw_below_drewN | apply below_drew1 | refine below_set ?_ GE199.out) | exact HB.out)⟩


end

end Go.Proofs.Ythedgoefiffogaa.PAll
