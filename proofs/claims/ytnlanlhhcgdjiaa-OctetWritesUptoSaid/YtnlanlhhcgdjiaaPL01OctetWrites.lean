-- Laid by programs of this session (myprint.py, post.py) out of the translation.
import Derived.Test.YtnlanlhhcgdjiaaPBase
import Derived.Test.YtnlanlhhcgdjiaaPH01
import Derived.Test.YtnlanlhhcgdjiaaPOctet
import Derived.Test.YtnlanlhhcgdjiaaPSt
namespace Go.Proofs.Ytnlanlhhcgdjiaa.PAll
open Go.RowKit Go.Proofs.YtnlanlhhcgdjiaaW.PrintWords Go.Proofs.YtnlanlhhcgdjiaaW.PrintLast Go.Proofs.YtnlanlhhcgdjiaaW.PrintMore
attribute [local go_sem] max2_int min2_int max_two min_two max_three min_three max_four min_four   -- for this text's walks alone
set_option linter.unusedVariables false
set_option linter.unusedSimpArgs false
section
/-! ### chartularylaw01_OctetWrites: function 4 -/
mutual
def chartularylaw01_OctetWrites.l0 : Nat → List (S34) → ByteArray → Bool → Int → ByteArray → Bool → Option (Bool)
 | 0, _, _, _, _, _, _ => none
 | k + 1, x0, x4, x5, x6, x144000, x144001 => if x6 < (x0.length : Int) then (chartularylaw01_OctetWrites.j1 k x0 x4 x5 x6 (decide (x6 < 40)) x144000 x144001) else (chartularylaw01_OctetWrites.j1 k x0 x4 x5 x6 false x144000 x144001)
def chartularylaw01_OctetWrites.j1 : Nat → List (S34) → ByteArray → Bool → Int → Bool → ByteArray → Bool → Option (Bool)
 | 0, _, _, _, _, _, _, _ => none
 | k + 1, x0, x4, x5, x6, x20, x144000, x144001 => if x20 = true then (if 0 ≤ x6 then (if x6 < (x0.length : Int) then ((chartularylaw01_laid.f k ((rd_T34 x0 x6).f0) ((rd_T34 x0 x6).f1) ((rd_T34 x0 x6).f2) ((rd_T34 x0 x6).f3) ((rd_T34 x0 x6).f4)).bind fun bt146 => ((chartularylaw01_lay.f k x144000 x144001 ((rd_T34 x0 x6).f0) ((rd_T34 x0 x6).f1) ((rd_T34 x0 x6).f2) ((rd_T34 x0 x6).f3) ((rd_T34 x0 x6).f4)).bind fun bt149 => (if x4.size + bt146.1.size ≤ 9223372036854775807 then (if x5 = true then ((octet_Writer_All.f bt149.1 bt149.2).bind fun bt151 => (if (bt151.2.1 != bt146.2) = true then (some false) else (if bt151.2.1 = true then (if bt151.1.toList = (x4 ++ bt146.1).toList then (chartularylaw01_OctetWrites.l0 k x0 (x4 ++ bt146.1) bt146.2 (wrap64 (x6 + 1)) bt151.2.2.1 bt151.2.2.2) else (some false)) else (if bt151.1.toList = ([] : List UInt8) then (chartularylaw01_OctetWrites.l0 k x0 (x4 ++ bt146.1) bt146.2 (wrap64 (x6 + 1)) bt151.2.2.1 bt151.2.2.2) else (some false))))) else ((octet_Writer_All.f bt149.1 bt149.2).bind fun bt155 => (if (bt155.2.1 != false) = true then (some false) else (if bt155.2.1 = true then (if bt155.1.toList = (x4 ++ bt146.1).toList then (chartularylaw01_OctetWrites.l0 k x0 (x4 ++ bt146.1) false (wrap64 (x6 + 1)) bt155.2.2.1 bt155.2.2.2) else (some false)) else (if bt155.1.toList = ([] : List UInt8) then (chartularylaw01_OctetWrites.l0 k x0 (x4 ++ bt146.1) false (wrap64 (x6 + 1)) bt155.2.2.1 bt155.2.2.2) else (some false)))))) else (none)))) else (none)) else (none)) else ((chartularylaw01_awake.f k).bind fun t144 => (some t144))
end
def chartularylaw01_OctetWrites.f (k : Nat) (l0 : List (S34)) : Option (Bool) := chartularylaw01_OctetWrites.l0 k l0 (⟨#[]⟩ : ByteArray) true 0 (⟨#[]⟩ : ByteArray) false
theorem chartularylaw01_OctetWrites.mono_l : ∀ k, (∀ y0 y1 y2 y3 y4 y5, LeO (chartularylaw01_OctetWrites.l0 k y0 y1 y2 y3 y4 y5) (chartularylaw01_OctetWrites.l0 (k + 1) y0 y1 y2 y3 y4 y5)) ∧ (∀ y0 y1 y2 y3 y4 y5 y6, LeO (chartularylaw01_OctetWrites.j1 k y0 y1 y2 y3 y4 y5 y6) (chartularylaw01_OctetWrites.j1 (k + 1) y0 y1 y2 y3 y4 y5 y6))
 | 0 => ⟨fun _ _ _ _ _ _ r h => by simp [chartularylaw01_OctetWrites.l0] at h, fun _ _ _ _ _ _ _ r h => by simp [chartularylaw01_OctetWrites.j1] at h⟩
 | k + 1 => by
  obtain ⟨ih0, ih1⟩ := chartularylaw01_OctetWrites.mono_l k
  refine ⟨?_, ?_⟩
  ·intro y0 y1 y2 y3 y4 y5
   unfold chartularylaw01_OctetWrites.l0
   repeat' first
   | (with_reducible exact ih0 _ _ _ _ _ _)
   | (with_reducible exact ih1 _ _ _ _ _ _ _)
   | (with_reducible exact chartularylaw01_awake.mono _)
   | (with_reducible exact chartularylaw01_laid.mono _ _ _ _ _ _)
   | (with_reducible exact chartularylaw01_lay.mono _ _ _ _ _ _ _ _)
   | (with_reducible exact LeO.refl _)
   | (with_reducible exact LeO.none _)
   | (with_reducible refine LeO.ite ?_ ?_)
   | (with_reducible refine LeO.bind ?_ (fun _ => ?_))
   | exact ih0 _ _ _ _ _ _
   | exact ih1 _ _ _ _ _ _ _
   | exact chartularylaw01_awake.mono _
   | exact chartularylaw01_laid.mono _ _ _ _ _ _
   | exact chartularylaw01_lay.mono _ _ _ _ _ _ _ _
   | exact LeO.none _
   | refine LeO.ite ?_ ?_
   | refine LeO.bind ?_ (fun _ => ?_)
  ·intro y0 y1 y2 y3 y4 y5 y6
   unfold chartularylaw01_OctetWrites.j1
   repeat' first
   | (with_reducible exact ih0 _ _ _ _ _ _)
   | (with_reducible exact ih1 _ _ _ _ _ _ _)
   | (with_reducible exact chartularylaw01_awake.mono _)
   | (with_reducible exact chartularylaw01_laid.mono _ _ _ _ _ _)
   | (with_reducible exact chartularylaw01_lay.mono _ _ _ _ _ _ _ _)
   | (with_reducible exact LeO.refl _)
   | (with_reducible exact LeO.none _)
   | (with_reducible refine LeO.ite ?_ ?_)
   | (with_reducible refine LeO.bind ?_ (fun _ => ?_))
   | exact ih0 _ _ _ _ _ _
   | exact ih1 _ _ _ _ _ _ _
   | exact chartularylaw01_awake.mono _
   | exact chartularylaw01_laid.mono _ _ _ _ _ _
   | exact chartularylaw01_lay.mono _ _ _ _ _ _ _ _
   | exact LeO.none _
   | refine LeO.ite ?_ ?_
   | refine LeO.bind ?_ (fun _ => ?_)
theorem chartularylaw01_OctetWrites.mono : ∀ a0 k, LeO (chartularylaw01_OctetWrites.f k a0) (chartularylaw01_OctetWrites.f (k + 1) a0) := by
 intro a0 k
 obtain ⟨ih0, ih1⟩ := chartularylaw01_OctetWrites.mono_l k
 unfold chartularylaw01_OctetWrites.f
 repeat' first
   | (with_reducible exact ih0 _ _ _ _ _ _)
   | (with_reducible exact ih1 _ _ _ _ _ _ _)
   | (with_reducible exact chartularylaw01_awake.mono _)
   | (with_reducible exact chartularylaw01_laid.mono _ _ _ _ _ _)
   | (with_reducible exact chartularylaw01_lay.mono _ _ _ _ _ _ _ _)
   | (with_reducible exact LeO.refl _)
   | (with_reducible exact LeO.none _)
   | (with_reducible refine LeO.ite ?_ ?_)
   | (with_reducible refine LeO.bind ?_ (fun _ => ?_))
   | exact ih0 _ _ _ _ _ _
   | exact ih1 _ _ _ _ _ _ _
   | exact chartularylaw01_awake.mono _
   | exact chartularylaw01_laid.mono _ _ _ _ _ _
   | exact chartularylaw01_lay.mono _ _ _ _ _ _ _ _
   | exact LeO.none _
   | refine LeO.ite ?_ ?_
   | refine LeO.bind ?_ (fun _ => ?_)
theorem Zchartularylaw01_OctetWrites.z0 {P_ : Prop} (h_ : P_ := by first | (with_reducible assumption) | assumption) : P_ := h_
theorem Zchartularylaw01_OctetWrites.z1 {P_ : Prop} (h_ : P_ := by (try simp only [List.map_toArray, List.map_cons, List.map_nil]); first | done | rfl | (simp only [List.length_drop, List.length_take]; rfl)) : P_ := h_
theorem Zchartularylaw01_OctetWrites.z2 {P_ : Prop} (h_ : P_ := by repeat (first | (with_reducible first | exact HI143.out | apply IsS29.alloc | apply IsS29.drewN | apply IsS29.drew | apply IsS29.set_0 | apply IsS29.set_1) | exact HI143.out)) : P_ := h_
theorem Zchartularylaw01_OctetWrites.z3 {P_ : Prop} (h_ : P_ := by first | rfl | (simp; done) | (simp [*]; done)) : P_ := h_
theorem Zchartularylaw01_OctetWrites.z4 {P_ : Prop} (h_ : P_ := by first | rfl | (simp [errW_none, errW_some] <;> rfl) | (simp [*, errW_none, errW_some] <;> rfl)) : P_ := h_
theorem Zchartularylaw01_OctetWrites.z5 {P_ : Prop} (h_ : P_ := by have := HK1.out; have := HJ2.out; omega) : P_ := h_
theorem Zchartularylaw01_OctetWrites.z6 {P_ : Prop} (h_ : P_ := by repeat (first | (with_reducible first | exact HB.out | apply below_alloc | apply pw_below_drewN | apply below_drew1) | exact HB.out)) : P_ := h_
set_option maxHeartbeats 8000000 in
set_option maxRecDepth 100000 in
theorem chartularylaw01_OctetWrites.calls (k : Nat) (A0 : Option Addr) (c0 : Nat) (l0 : List (S34)) (r : Bool) (w : World) (hr0 : Kd.C k34 w A0 l0.length l0) (hc0 : l0.length ≤ c0) (h : chartularylaw01_OctetWrites.f k l0 = some r) :
  Calls Try.prog 4 #[.slice A0 l0.length c0] w fun e w' => e = .returned (.bool r) ∧ Below w.heap.size w w' := by
 have hu29 := Try.underlying29
 have hu34 := Try.underlying34
 have HR0 := Aside0.mk hr0
 have HC0 := Aside0.mk hc0
 clear hr0 hc0
 have HB := Aside0.mk (Below.refl w.heap.size w)
 have H : (chartularylaw01_OctetWrites.l0 k l0 (⟨#[]⟩ : ByteArray) true 0 (⟨#[]⟩ : ByteArray) false) = some r := h
 clear h
 have H' := Aside0.mk H
 clear H
 go_enter Try.func4, Try.ntmps4
 go_wp2_with (first | ((with_reducible refine gate_dst (N := 12) rfl ?_); refine box_event ?hg (N := 12) ?hd (cs := #[.string (⟨#[]⟩ : ByteArray), .bool false]) (t := 29) ?hr ?_; (case hd => rfl); (case hg => rfl); (case hr => first | (go_simp; done) | (go_simp; rfl)); intro g143 hg w2 hbox hb; have n0_ := Aside0.mk (below_step (Zchartularylaw01_OctetWrites.z6) hb); have n1_ := Aside0.mk ((show IsS29 w _ g143 (⟨#[]⟩ : ByteArray) false from ⟨hbox, (by rw [hg]; exact (below_size (Zchartularylaw01_OctetWrites.z6)) : w.heap.size ≤ g143)⟩)); clear HB; have HB := n0_; have HI143 := n1_; clear n0_ n1_; clear hb hbox hg))
 go_loopg [4, 5, 6] k (fun kq v4 v5 v6 w' => ∃ (x4_1 : ByteArray) (x5_1 : Bool) (x6_1 : Int) (x144000_1 : ByteArray) (x144001_1 : Bool), v4 = .string x4_1 ∧ v5 = .bool x5_1 ∧ v6 = .int .i64 x6_1 ∧ Aside0 (chartularylaw01_OctetWrites.l0 kq l0 x4_1 x5_1 x6_1 x144000_1 x144001_1 = some r) ∧ Aside0 (kq ≤ k) ∧ Aside0 (IsS29 w w' g143 x144000_1 x144001_1) ∧ Aside0 (Below w.heap.size w w'))
 case atStart => exact ⟨((⟨#[]⟩ : ByteArray)), (true), (0), ((⟨#[]⟩ : ByteArray)), (false), (Zchartularylaw01_OctetWrites.z3), (Zchartularylaw01_OctetWrites.z3), (Zchartularylaw01_OctetWrites.z3), H', ⟨Nat.le_refl _⟩, ⟨Zchartularylaw01_OctetWrites.z2⟩, ⟨by repeat (first | (with_reducible first | exact HB.out | apply below_alloc | apply pw_below_drewN | apply below_drew1 | refine below_set ?_ (IsS29.ge HI143.out)) | exact HB.out)⟩⟩
 case round =>
  clear H'
  try clear p2
  obtain ⟨x4_1, x5_1, x6_1, x144000_1, x144001_1, rfl, rfl, rfl, HA, HK1, HI143, HB⟩ := hrel
  cases gk with
  | zero => exact absurd HA.out (by simp [chartularylaw01_OctetWrites.l0])
  | succ k1 =>
   have H := HA.out
   clear HA
   simp only [chartularylaw01_OctetWrites.l0] at H
   have HC3 := Aside0.mk H
   clear H
   go_upto_region 5 with (fail)
   go_cut [20] (fun v20 wc => ∃ (kq : Nat) (x20_2 : Bool), v20 = .bool x20_2 ∧ Aside0 (chartularylaw01_OctetWrites.j1 kq l0 x4_1 x5_1 x6_1 x20_2 x144000_1 x144001_1 = some r) ∧ Aside0 (kq ≤ k1) ∧ Aside0 (IsS29 w wc g143 x144000_1 x144001_1) ∧ Aside0 (Below w.heap.size w wc))
   case first =>
    have H := HC3.out
    clear HC3
    by_cases c4 : x6_1 < (l0.length : Int)
    ·rw [if_pos c4] at H
     have c4b0 : decide (x6_1 < (l0.length : Int)) = true := decide_eq_true c4
     clear c4
     (first | rw [c4b0] | (simp only [i64_w, i32_w]; rw [c4b0]) | skip)
     have H' := Aside0.mk H
     clear H
     go_wp2
     go_meet
     case rel => exact ⟨_, (decide (x6_1 < 40)), (Zchartularylaw01_OctetWrites.z3), H', ⟨by have := HK1.out; first | omega | exact Nat.le_refl _⟩, ⟨Zchartularylaw01_OctetWrites.z2⟩, ⟨by repeat (first | (with_reducible first | exact HB.out | apply below_alloc | apply pw_below_drewN | apply below_drew1 | refine below_set ?_ (IsS29.ge HI143.out)) | exact HB.out)⟩⟩
    ·rw [if_neg c4] at H
     have c4b0 : decide (x6_1 < (l0.length : Int)) = false := decide_eq_false c4
     clear c4
     (first | rw [c4b0] | (simp only [i64_w, i32_w]; rw [c4b0]) | skip)
     have H' := Aside0.mk H
     clear H
     go_wp2
     go_meet
     case rel => exact ⟨_, (false), (Zchartularylaw01_OctetWrites.z3), H', ⟨by have := HK1.out; first | omega | exact Nat.le_refl _⟩, ⟨Zchartularylaw01_OctetWrites.z2⟩, ⟨by repeat (first | (with_reducible first | exact HB.out | apply below_alloc | apply pw_below_drewN | apply below_drew1 | refine below_set ?_ (IsS29.ge HI143.out)) | exact HB.out)⟩⟩
   case rest =>
    clear HC3
    try clear p2
    try clear c4
    try clear c4b0
    try clear p2
    obtain ⟨kq, x20_2, rfl, HA, HJ2, HI143, HB⟩ := hcut
    cases kq with
    | zero => exact absurd HA.out (by simp [chartularylaw01_OctetWrites.j1])
    | succ kj2 =>
     have H := HA.out
     clear HA
     simp only [chartularylaw01_OctetWrites.j1] at H
     by_cases c5 : x20_2 = true
     ·subst c5
      have H1 : (if 0 ≤ x6_1 then (if x6_1 < (l0.length : Int) then ((chartularylaw01_laid.f kj2 ((rd_T34 l0 x6_1).f0) ((rd_T34 l0 x6_1).f1) ((rd_T34 l0 x6_1).f2) ((rd_T34 l0 x6_1).f3) ((rd_T34 l0 x6_1).f4)).bind fun bt146 => ((chartularylaw01_lay.f kj2 x144000_1 x144001_1 ((rd_T34 l0 x6_1).f0) ((rd_T34 l0 x6_1).f1) ((rd_T34 l0 x6_1).f2) ((rd_T34 l0 x6_1).f3) ((rd_T34 l0 x6_1).f4)).bind fun bt149 => (if x4_1.size + bt146.1.size ≤ 9223372036854775807 then (if x5_1 = true then ((octet_Writer_All.f bt149.1 bt149.2).bind fun bt151 => (if (bt151.2.1 != bt146.2) = true then (some false) else (if bt151.2.1 = true then (if bt151.1.toList = (x4_1 ++ bt146.1).toList then (chartularylaw01_OctetWrites.l0 kj2 l0 (x4_1 ++ bt146.1) bt146.2 (wrap64 (x6_1 + 1)) bt151.2.2.1 bt151.2.2.2) else (some false)) else (if bt151.1.toList = ([] : List UInt8) then (chartularylaw01_OctetWrites.l0 kj2 l0 (x4_1 ++ bt146.1) bt146.2 (wrap64 (x6_1 + 1)) bt151.2.2.1 bt151.2.2.2) else (some false))))) else ((octet_Writer_All.f bt149.1 bt149.2).bind fun bt155 => (if (bt155.2.1 != false) = true then (some false) else (if bt155.2.1 = true then (if bt155.1.toList = (x4_1 ++ bt146.1).toList then (chartularylaw01_OctetWrites.l0 kj2 l0 (x4_1 ++ bt146.1) false (wrap64 (x6_1 + 1)) bt155.2.2.1 bt155.2.2.2) else (some false)) else (if bt155.1.toList = ([] : List UInt8) then (chartularylaw01_OctetWrites.l0 kj2 l0 (x4_1 ++ bt146.1) false (wrap64 (x6_1 + 1)) bt155.2.2.1 bt155.2.2.2) else (some false)))))) else (none)))) else (none)) else (none)) = some r := by rw [if_pos rfl] at H; exact H
      clear H
      have H := H1
      clear H1
      by_cases c6 : 0 ≤ x6_1
      ·rw [if_pos c6] at H
       have c6b0 : decide (0 ≤ x6_1) = true := decide_eq_true c6
       clear c6
       by_cases c7 : x6_1 < (l0.length : Int)
       ·rw [if_pos c7] at H
        have c7b0 : decide (x6_1 < (l0.length : Int)) = true := decide_eq_true c7
        clear c7
        replace H := Option.bind_eq_some_iff.mp H
        obtain ⟨⟨t146, t147⟩, A80, H⟩ := H
        replace H : ((chartularylaw01_lay.f kj2 x144000_1 x144001_1 ((rd_T34 l0 x6_1).f0) ((rd_T34 l0 x6_1).f1) ((rd_T34 l0 x6_1).f2) ((rd_T34 l0 x6_1).f3) ((rd_T34 l0 x6_1).f4)).bind fun bt149 => (if x4_1.size + t146.size ≤ 9223372036854775807 then (if x5_1 = true then ((octet_Writer_All.f bt149.1 bt149.2).bind fun bt151 => (if (bt151.2.1 != t147) = true then (some false) else (if bt151.2.1 = true then (if bt151.1.toList = (x4_1 ++ t146).toList then (chartularylaw01_OctetWrites.l0 kj2 l0 (x4_1 ++ t146) t147 (wrap64 (x6_1 + 1)) bt151.2.2.1 bt151.2.2.2) else (some false)) else (if bt151.1.toList = ([] : List UInt8) then (chartularylaw01_OctetWrites.l0 kj2 l0 (x4_1 ++ t146) t147 (wrap64 (x6_1 + 1)) bt151.2.2.1 bt151.2.2.2) else (some false))))) else ((octet_Writer_All.f bt149.1 bt149.2).bind fun bt155 => (if (bt155.2.1 != false) = true then (some false) else (if bt155.2.1 = true then (if bt155.1.toList = (x4_1 ++ t146).toList then (chartularylaw01_OctetWrites.l0 kj2 l0 (x4_1 ++ t146) false (wrap64 (x6_1 + 1)) bt155.2.2.1 bt155.2.2.2) else (some false)) else (if bt155.1.toList = ([] : List UInt8) then (chartularylaw01_OctetWrites.l0 kj2 l0 (x4_1 ++ t146) false (wrap64 (x6_1 + 1)) bt155.2.2.1 bt155.2.2.2) else (some false)))))) else (none))) = some r := H
        have A8 := Aside0.mk A80
        clear A80
        replace H := Option.bind_eq_some_iff.mp H
        obtain ⟨⟨t149, t150⟩, A90, H⟩ := H
        replace H : (if x4_1.size + t146.size ≤ 9223372036854775807 then (if x5_1 = true then ((octet_Writer_All.f t149 t150).bind fun bt151 => (if (bt151.2.1 != t147) = true then (some false) else (if bt151.2.1 = true then (if bt151.1.toList = (x4_1 ++ t146).toList then (chartularylaw01_OctetWrites.l0 kj2 l0 (x4_1 ++ t146) t147 (wrap64 (x6_1 + 1)) bt151.2.2.1 bt151.2.2.2) else (some false)) else (if bt151.1.toList = ([] : List UInt8) then (chartularylaw01_OctetWrites.l0 kj2 l0 (x4_1 ++ t146) t147 (wrap64 (x6_1 + 1)) bt151.2.2.1 bt151.2.2.2) else (some false))))) else ((octet_Writer_All.f t149 t150).bind fun bt155 => (if (bt155.2.1 != false) = true then (some false) else (if bt155.2.1 = true then (if bt155.1.toList = (x4_1 ++ t146).toList then (chartularylaw01_OctetWrites.l0 kj2 l0 (x4_1 ++ t146) false (wrap64 (x6_1 + 1)) bt155.2.2.1 bt155.2.2.2) else (some false)) else (if bt155.1.toList = ([] : List UInt8) then (chartularylaw01_OctetWrites.l0 kj2 l0 (x4_1 ++ t146) false (wrap64 (x6_1 + 1)) bt155.2.2.1 bt155.2.2.2) else (some false)))))) else (none)) = some r := H
        have A9 := Aside0.mk A90
        clear A90
        by_cases c10 : x4_1.size + t146.size ≤ 9223372036854775807
        ·rw [if_pos c10] at H
         have c10b0 := eq_true c10
         have c10b1 : decide (x4_1.size + t146.size ≤ 9223372036854775807) = true := decide_eq_true c10
         try have c10b2 : (9223372036854775807 < x4_1.size + t146.size) = False := eq_false (Nat.not_lt.2 c10)
         by_cases c11 : x5_1 = true
         ·subst c11
          have H1 : ((octet_Writer_All.f t149 t150).bind fun bt151 => (if (bt151.2.1 != t147) = true then (some false) else (if bt151.2.1 = true then (if bt151.1.toList = (x4_1 ++ t146).toList then (chartularylaw01_OctetWrites.l0 kj2 l0 (x4_1 ++ t146) t147 (wrap64 (x6_1 + 1)) bt151.2.2.1 bt151.2.2.2) else (some false)) else (if bt151.1.toList = ([] : List UInt8) then (chartularylaw01_OctetWrites.l0 kj2 l0 (x4_1 ++ t146) t147 (wrap64 (x6_1 + 1)) bt151.2.2.1 bt151.2.2.2) else (some false))))) = some r := by rw [if_pos rfl] at H; exact H
          clear H
          have H := H1
          clear H1
          replace H := Option.bind_eq_some_iff.mp H
          obtain ⟨⟨t151, t152, t153, t154⟩, A120, H⟩ := H
          replace H : (if (t152 != t147) = true then (some false) else (if t152 = true then (if t151.toList = (x4_1 ++ t146).toList then (chartularylaw01_OctetWrites.l0 kj2 l0 (x4_1 ++ t146) t147 (wrap64 (x6_1 + 1)) t153 t154) else (some false)) else (if t151.toList = ([] : List UInt8) then (chartularylaw01_OctetWrites.l0 kj2 l0 (x4_1 ++ t146) t147 (wrap64 (x6_1 + 1)) t153 t154) else (some false)))) = some r := H
          have A12 := Aside0.mk A120
          clear A120
          by_cases c13 : (t152 != t147) = true
          ·rw [if_pos c13] at H
           have c13b0 : (t152 != t147) = true := c13
           (try (have c13b1 : decide (t152 = t147) = false := by simpa using c13))
           (try (have c13b2 : (t152 == t147) = false := by simpa using c13))
           (try (have c13b3 : ¬ (t152 = t147) := by simpa using c13))
           clear c13
           obtain rfl := Option.some.inj H
           have p145 : 0 ≤ (x6_1 : Int) := of_decide_eq_true (Zchartularylaw01_OctetWrites.z0)
           have q145 : x6_1 < (l0.length : Int) := of_decide_eq_true (Zchartularylaw01_OctetWrites.z0)
           obtain ⟨ad145, A145_4, c145_4, e145, hx145_0, hx145_1, hx145_2, hx145_3, hx145_4, hl145_4, hi145_4⟩ := at_T34 HR0.out x6_1 p145 q145
           cases e145
           replace hx145_0 := (HB.out.cell (World.block_lt_of_cell? w _ hx145_0)).trans hx145_0
           replace hx145_1 := (HB.out.cell (World.block_lt_of_cell? w _ hx145_1)).trans hx145_1
           replace hx145_2 := (HB.out.cell (World.block_lt_of_cell? w _ hx145_2)).trans hx145_2
           replace hx145_3 := (HB.out.cell (World.block_lt_of_cell? w _ hx145_3)).trans hx145_3
           replace hx145_4 := (HB.out.cell (World.block_lt_of_cell? w _ hx145_4)).trans hx145_4
           have HR145_4 := Aside0.mk hi145_4
           have HC145_4 := Aside0.mk hl145_4
           clear hi145_4 hl145_4
           replace p145 := eq_true p145
           replace q145 := eq_true q145
           go_wp2_with (first | ((with_reducible refine gate_callee (f := 13) rfl ?_); refine goesL_ (some 28) rfl rfl Try.func13 (by kernel_rfl) rfl #[.agg #[.int .i64 ((rd_T34 l0 x6_1).f0), .int .i64 ((rd_T34 l0 x6_1).f1), .string ((rd_T34 l0 x6_1).f2), .bool ((rd_T34 l0 x6_1).f3), .slice A145_4 ((rd_T34 l0 x6_1).f4).length c145_4]] rfl (Zchartularylaw01_OctetWrites.z1) ?_; (with_reducible refine (chartularylaw01_laid.calls kj2 ((rd_T34 l0 x6_1).f0) ((rd_T34 l0 x6_1).f1) ((rd_T34 l0 x6_1).f2) ((rd_T34 l0 x6_1).f3) _ _ ((rd_T34 l0 x6_1).f4) t146 t147 _ ?side1 ?side2 A8.out).mono ?_); (case side1 => repeat (first | exact (Kd.C_below HR145_4.out HB.out) | (with_reducible refine Kd.C_alloc ?_ _) | (with_reducible refine Kd.C_drewN ?_ _) | (with_reducible refine Kd.C_drew ?_))); (case side2 => exact HC145_4.out); rintro e w14 ⟨rfl, hb⟩; refine ⟨_, rfl, ?_⟩; have n0_ := Aside0.mk (IsS29.below (Zchartularylaw01_OctetWrites.z2) hb); have n1_ := Aside0.mk (below_step (by repeat (first | (with_reducible first | exact HB.out | apply below_alloc | apply pw_below_drewN | apply below_drew1 | refine below_set ?_ (IsS29.ge HI143.out)) | exact HB.out)) hb); clear HI143; clear HB; have HI143 := n0_; have HB := n1_; clear n0_ n1_; (try clear hb); (try clear hb2); (try clear hk); (try clear hi); have p148 : 0 ≤ (x6_1 : Int) := of_decide_eq_true (Zchartularylaw01_OctetWrites.z0); have q148 : x6_1 < (l0.length : Int) := of_decide_eq_true (Zchartularylaw01_OctetWrites.z0); obtain ⟨ad148, A148_4, c148_4, e148, hx148_0, hx148_1, hx148_2, hx148_3, hx148_4, hl148_4, hi148_4⟩ := at_T34 HR0.out x6_1 p148 q148; obtain rfl : ad145 = ad148 := (by injection e148); replace hx148_0 := (HB.out.cell (World.block_lt_of_cell? w _ hx148_0)).trans hx148_0; replace hx148_1 := (HB.out.cell (World.block_lt_of_cell? w _ hx148_1)).trans hx148_1; replace hx148_2 := (HB.out.cell (World.block_lt_of_cell? w _ hx148_2)).trans hx148_2; replace hx148_3 := (HB.out.cell (World.block_lt_of_cell? w _ hx148_3)).trans hx148_3; replace hx148_4 := (HB.out.cell (World.block_lt_of_cell? w _ hx148_4)).trans hx148_4; have HR148_4 := Aside0.mk hi148_4; have HC148_4 := Aside0.mk hl148_4; clear hi148_4 hl148_4; replace p148 := eq_true p148; replace q148 := eq_true q148) | ((with_reducible refine gate_callee (f := 14) rfl ?_); refine goesL_ (some 36) rfl rfl Try.func14 (by kernel_rfl) rfl #[.pointer (some ⟨g143, 0, none⟩), .agg #[.int .i64 ((rd_T34 l0 x6_1).f0), .int .i64 ((rd_T34 l0 x6_1).f1), .string ((rd_T34 l0 x6_1).f2), .bool ((rd_T34 l0 x6_1).f3), .slice A148_4 ((rd_T34 l0 x6_1).f4).length c148_4]] rfl (Zchartularylaw01_OctetWrites.z1) ?_; (with_reducible refine (chartularylaw01_lay.calls kj2 g143 x144000_1 x144001_1 ((rd_T34 l0 x6_1).f0) ((rd_T34 l0 x6_1).f1) ((rd_T34 l0 x6_1).f2) ((rd_T34 l0 x6_1).f3) _ _ ((rd_T34 l0 x6_1).f4) t149 t150 w _ ?side1 ?side2 ?side3 ?side4 ?side5 A9.out).mono ?_); (case side1 => repeat (first | (with_reducible first | exact HI143.out | apply IsS29.alloc | apply IsS29.drewN | apply IsS29.drew | apply IsS29.set_0 | apply IsS29.set_1) | exact HI143.out)); (case side2 => repeat (first | (with_reducible first | exact HB.out | apply below_alloc | apply pw_below_drewN | apply below_drew1 | refine below_set ?_ (IsS29.ge HI143.out)) | exact HB.out)); (case side3 => repeat (first | exact (Kd.C_below HR148_4.out HB.out) | (with_reducible refine Kd.C_alloc ?_ _) | (with_reducible refine Kd.C_drewN ?_ _) | (with_reducible refine Kd.C_drew ?_))); (case side4 => exact HC148_4.out); (case side5 => exact Kd.far_C (⟨#[]⟩ : ByteArray) HR148_4.out (IsS29.ge HI143.out)); rintro e w15 ⟨rfl, hi, hb, hk⟩; refine ⟨_, rfl, ?_⟩; have n0_ := Aside0.mk (hb); have n1_ := Aside0.mk (hi); clear HB; clear HI143; have HB := n0_; have HI143 := n1_; clear n0_ n1_; (try clear hb); (try clear hb2); (try clear hk); (try clear hi)) | ((with_reducible refine gate_callee (f := 15) rfl ?_); refine goesL_ (some 46) rfl rfl Try.func15 (by kernel_rfl) rfl #[.pointer (some ⟨g143, 0, none⟩)] rfl (Zchartularylaw01_OctetWrites.z1) ?_; (with_reducible refine (octet_Writer_All.calls g143 t149 t150 t151 t152 t153 t154 w _ ?side1 ?side2 A12.out).mono ?_); (case side1 => repeat (first | (with_reducible first | exact HI143.out | apply IsS29.alloc | apply IsS29.drewN | apply IsS29.drew | apply IsS29.set_0 | apply IsS29.set_1) | exact HI143.out)); (case side2 => repeat (first | (with_reducible first | exact HB.out | apply below_alloc | apply pw_below_drewN | apply below_drew1 | refine below_set ?_ (IsS29.ge HI143.out)) | exact HB.out)); rintro e w16 ⟨rfl, hi, hb, hk⟩; refine ⟨_, rfl, ?_⟩; have n0_ := Aside0.mk (hb); have n1_ := Aside0.mk (hi); clear HB; clear HI143; have HB := n0_; have HI143 := n1_; clear n0_ n1_; (try clear hb); (try clear hb2); (try clear hk); (try clear hi)))
           go_ret
           exact ⟨Zchartularylaw01_OctetWrites.z4, by repeat (first | (with_reducible first | exact HB.out | apply below_alloc | apply pw_below_drewN | apply below_drew1 | refine below_set ?_ (IsS29.ge HI143.out)) | exact HB.out)⟩
          ·rw [if_neg c13] at H
           have c13b0 : (t152 != t147) = false := by simpa using c13
           (try (have c13b1 : decide (t152 = t147) = true := by simpa using c13))
           (try (have c13b2 : (t152 == t147) = true := by simpa using c13))
           clear c13
           by_cases c17 : t152 = true
           ·subst c17
            have H1 : (if t151.toList = (x4_1 ++ t146).toList then (chartularylaw01_OctetWrites.l0 kj2 l0 (x4_1 ++ t146) t147 (wrap64 (x6_1 + 1)) t153 t154) else (some false)) = some r := by rw [if_pos rfl] at H; exact H
            clear H
            have H := H1
            clear H1
            by_cases c18 : t151.toList = (x4_1 ++ t146).toList
            ·rw [if_pos c18] at H
             have c18b0 : (t151.toList == (x4_1 ++ t146).toList) = true := beq_iff_eq.mpr c18
             have c18b1 : (t151.toList != (x4_1 ++ t146).toList) = false := bne_eq_false_iff_eq.mpr c18
             clear c18
             have H' := Aside0.mk H
             clear H
             have p145 : 0 ≤ (x6_1 : Int) := of_decide_eq_true (Zchartularylaw01_OctetWrites.z0)
             have q145 : x6_1 < (l0.length : Int) := of_decide_eq_true (Zchartularylaw01_OctetWrites.z0)
             obtain ⟨ad145, A145_4, c145_4, e145, hx145_0, hx145_1, hx145_2, hx145_3, hx145_4, hl145_4, hi145_4⟩ := at_T34 HR0.out x6_1 p145 q145
             cases e145
             replace hx145_0 := (HB.out.cell (World.block_lt_of_cell? w _ hx145_0)).trans hx145_0
             replace hx145_1 := (HB.out.cell (World.block_lt_of_cell? w _ hx145_1)).trans hx145_1
             replace hx145_2 := (HB.out.cell (World.block_lt_of_cell? w _ hx145_2)).trans hx145_2
             replace hx145_3 := (HB.out.cell (World.block_lt_of_cell? w _ hx145_3)).trans hx145_3
             replace hx145_4 := (HB.out.cell (World.block_lt_of_cell? w _ hx145_4)).trans hx145_4
             have HR145_4 := Aside0.mk hi145_4
             have HC145_4 := Aside0.mk hl145_4
             clear hi145_4 hl145_4
             replace p145 := eq_true p145
             replace q145 := eq_true q145
             go_wp2_with (first | ((with_reducible refine gate_callee (f := 13) rfl ?_); refine goesL_ (some 28) rfl rfl Try.func13 (by kernel_rfl) rfl #[.agg #[.int .i64 ((rd_T34 l0 x6_1).f0), .int .i64 ((rd_T34 l0 x6_1).f1), .string ((rd_T34 l0 x6_1).f2), .bool ((rd_T34 l0 x6_1).f3), .slice A145_4 ((rd_T34 l0 x6_1).f4).length c145_4]] rfl (Zchartularylaw01_OctetWrites.z1) ?_; (with_reducible refine (chartularylaw01_laid.calls kj2 ((rd_T34 l0 x6_1).f0) ((rd_T34 l0 x6_1).f1) ((rd_T34 l0 x6_1).f2) ((rd_T34 l0 x6_1).f3) _ _ ((rd_T34 l0 x6_1).f4) t146 t147 _ ?side1 ?side2 A8.out).mono ?_); (case side1 => repeat (first | exact (Kd.C_below HR145_4.out HB.out) | (with_reducible refine Kd.C_alloc ?_ _) | (with_reducible refine Kd.C_drewN ?_ _) | (with_reducible refine Kd.C_drew ?_))); (case side2 => exact HC145_4.out); rintro e w19 ⟨rfl, hb⟩; refine ⟨_, rfl, ?_⟩; have n0_ := Aside0.mk (IsS29.below (Zchartularylaw01_OctetWrites.z2) hb); have n1_ := Aside0.mk (below_step (by repeat (first | (with_reducible first | exact HB.out | apply below_alloc | apply pw_below_drewN | apply below_drew1 | refine below_set ?_ (IsS29.ge HI143.out)) | exact HB.out)) hb); clear HI143; clear HB; have HI143 := n0_; have HB := n1_; clear n0_ n1_; (try clear hb); (try clear hb2); (try clear hk); (try clear hi); have p148 : 0 ≤ (x6_1 : Int) := of_decide_eq_true (Zchartularylaw01_OctetWrites.z0); have q148 : x6_1 < (l0.length : Int) := of_decide_eq_true (Zchartularylaw01_OctetWrites.z0); obtain ⟨ad148, A148_4, c148_4, e148, hx148_0, hx148_1, hx148_2, hx148_3, hx148_4, hl148_4, hi148_4⟩ := at_T34 HR0.out x6_1 p148 q148; obtain rfl : ad145 = ad148 := (by injection e148); replace hx148_0 := (HB.out.cell (World.block_lt_of_cell? w _ hx148_0)).trans hx148_0; replace hx148_1 := (HB.out.cell (World.block_lt_of_cell? w _ hx148_1)).trans hx148_1; replace hx148_2 := (HB.out.cell (World.block_lt_of_cell? w _ hx148_2)).trans hx148_2; replace hx148_3 := (HB.out.cell (World.block_lt_of_cell? w _ hx148_3)).trans hx148_3; replace hx148_4 := (HB.out.cell (World.block_lt_of_cell? w _ hx148_4)).trans hx148_4; have HR148_4 := Aside0.mk hi148_4; have HC148_4 := Aside0.mk hl148_4; clear hi148_4 hl148_4; replace p148 := eq_true p148; replace q148 := eq_true q148) | ((with_reducible refine gate_callee (f := 14) rfl ?_); refine goesL_ (some 36) rfl rfl Try.func14 (by kernel_rfl) rfl #[.pointer (some ⟨g143, 0, none⟩), .agg #[.int .i64 ((rd_T34 l0 x6_1).f0), .int .i64 ((rd_T34 l0 x6_1).f1), .string ((rd_T34 l0 x6_1).f2), .bool ((rd_T34 l0 x6_1).f3), .slice A148_4 ((rd_T34 l0 x6_1).f4).length c148_4]] rfl (Zchartularylaw01_OctetWrites.z1) ?_; (with_reducible refine (chartularylaw01_lay.calls kj2 g143 x144000_1 x144001_1 ((rd_T34 l0 x6_1).f0) ((rd_T34 l0 x6_1).f1) ((rd_T34 l0 x6_1).f2) ((rd_T34 l0 x6_1).f3) _ _ ((rd_T34 l0 x6_1).f4) t149 t150 w _ ?side1 ?side2 ?side3 ?side4 ?side5 A9.out).mono ?_); (case side1 => repeat (first | (with_reducible first | exact HI143.out | apply IsS29.alloc | apply IsS29.drewN | apply IsS29.drew | apply IsS29.set_0 | apply IsS29.set_1) | exact HI143.out)); (case side2 => repeat (first | (with_reducible first | exact HB.out | apply below_alloc | apply pw_below_drewN | apply below_drew1 | refine below_set ?_ (IsS29.ge HI143.out)) | exact HB.out)); (case side3 => repeat (first | exact (Kd.C_below HR148_4.out HB.out) | (with_reducible refine Kd.C_alloc ?_ _) | (with_reducible refine Kd.C_drewN ?_ _) | (with_reducible refine Kd.C_drew ?_))); (case side4 => exact HC148_4.out); (case side5 => exact Kd.far_C (⟨#[]⟩ : ByteArray) HR148_4.out (IsS29.ge HI143.out)); rintro e w20 ⟨rfl, hi, hb, hk⟩; refine ⟨_, rfl, ?_⟩; have n0_ := Aside0.mk (hb); have n1_ := Aside0.mk (hi); clear HB; clear HI143; have HB := n0_; have HI143 := n1_; clear n0_ n1_; (try clear hb); (try clear hb2); (try clear hk); (try clear hi)) | ((with_reducible refine gate_callee (f := 15) rfl ?_); refine goesL_ (some 46) rfl rfl Try.func15 (by kernel_rfl) rfl #[.pointer (some ⟨g143, 0, none⟩)] rfl (Zchartularylaw01_OctetWrites.z1) ?_; (with_reducible refine (octet_Writer_All.calls g143 t149 t150 t151 true t153 t154 w _ ?side1 ?side2 A12.out).mono ?_); (case side1 => repeat (first | (with_reducible first | exact HI143.out | apply IsS29.alloc | apply IsS29.drewN | apply IsS29.drew | apply IsS29.set_0 | apply IsS29.set_1) | exact HI143.out)); (case side2 => repeat (first | (with_reducible first | exact HB.out | apply below_alloc | apply pw_below_drewN | apply below_drew1 | refine below_set ?_ (IsS29.ge HI143.out)) | exact HB.out)); rintro e w21 ⟨rfl, hi, hb, hk⟩; refine ⟨_, rfl, ?_⟩; have n0_ := Aside0.mk (hb); have n1_ := Aside0.mk (hi); clear HB; clear HI143; have HB := n0_; have HI143 := n1_; clear n0_ n1_; (try clear hb); (try clear hb2); (try clear hk); (try clear hi)))
             go_roundg kj2
             case measure => have := HK1.out; have := HJ2.out; omega
             case rel => exact ⟨(x4_1 ++ t146), (t147), (wrap64 (x6_1 + 1)), (t153), (t154), (Zchartularylaw01_OctetWrites.z3), (Zchartularylaw01_OctetWrites.z3), (Zchartularylaw01_OctetWrites.z3), H', ⟨Zchartularylaw01_OctetWrites.z5⟩, ⟨Zchartularylaw01_OctetWrites.z2⟩, ⟨by repeat (first | (with_reducible first | exact HB.out | apply below_alloc | apply pw_below_drewN | apply below_drew1 | refine below_set ?_ (IsS29.ge HI143.out)) | exact HB.out)⟩⟩
            ·rw [if_neg c18] at H
             have c18b0 : (t151.toList == (x4_1 ++ t146).toList) = false := beq_eq_false_iff_ne.mpr c18
             have c18b1 : (t151.toList != (x4_1 ++ t146).toList) = true := bne_iff_ne.mpr c18
             obtain rfl := Option.some.inj H
             have p145 : 0 ≤ (x6_1 : Int) := of_decide_eq_true (Zchartularylaw01_OctetWrites.z0)
             have q145 : x6_1 < (l0.length : Int) := of_decide_eq_true (Zchartularylaw01_OctetWrites.z0)
             obtain ⟨ad145, A145_4, c145_4, e145, hx145_0, hx145_1, hx145_2, hx145_3, hx145_4, hl145_4, hi145_4⟩ := at_T34 HR0.out x6_1 p145 q145
             cases e145
             replace hx145_0 := (HB.out.cell (World.block_lt_of_cell? w _ hx145_0)).trans hx145_0
             replace hx145_1 := (HB.out.cell (World.block_lt_of_cell? w _ hx145_1)).trans hx145_1
             replace hx145_2 := (HB.out.cell (World.block_lt_of_cell? w _ hx145_2)).trans hx145_2
             replace hx145_3 := (HB.out.cell (World.block_lt_of_cell? w _ hx145_3)).trans hx145_3
             replace hx145_4 := (HB.out.cell (World.block_lt_of_cell? w _ hx145_4)).trans hx145_4
             have HR145_4 := Aside0.mk hi145_4
             have HC145_4 := Aside0.mk hl145_4
             clear hi145_4 hl145_4
             replace p145 := eq_true p145
             replace q145 := eq_true q145
             go_wp2_with (first | ((with_reducible refine gate_callee (f := 13) rfl ?_); refine goesL_ (some 28) rfl rfl Try.func13 (by kernel_rfl) rfl #[.agg #[.int .i64 ((rd_T34 l0 x6_1).f0), .int .i64 ((rd_T34 l0 x6_1).f1), .string ((rd_T34 l0 x6_1).f2), .bool ((rd_T34 l0 x6_1).f3), .slice A145_4 ((rd_T34 l0 x6_1).f4).length c145_4]] rfl (Zchartularylaw01_OctetWrites.z1) ?_; (with_reducible refine (chartularylaw01_laid.calls kj2 ((rd_T34 l0 x6_1).f0) ((rd_T34 l0 x6_1).f1) ((rd_T34 l0 x6_1).f2) ((rd_T34 l0 x6_1).f3) _ _ ((rd_T34 l0 x6_1).f4) t146 t147 _ ?side1 ?side2 A8.out).mono ?_); (case side1 => repeat (first | exact (Kd.C_below HR145_4.out HB.out) | (with_reducible refine Kd.C_alloc ?_ _) | (with_reducible refine Kd.C_drewN ?_ _) | (with_reducible refine Kd.C_drew ?_))); (case side2 => exact HC145_4.out); rintro e w22 ⟨rfl, hb⟩; refine ⟨_, rfl, ?_⟩; have n0_ := Aside0.mk (IsS29.below (Zchartularylaw01_OctetWrites.z2) hb); have n1_ := Aside0.mk (below_step (by repeat (first | (with_reducible first | exact HB.out | apply below_alloc | apply pw_below_drewN | apply below_drew1 | refine below_set ?_ (IsS29.ge HI143.out)) | exact HB.out)) hb); clear HI143; clear HB; have HI143 := n0_; have HB := n1_; clear n0_ n1_; (try clear hb); (try clear hb2); (try clear hk); (try clear hi); have p148 : 0 ≤ (x6_1 : Int) := of_decide_eq_true (Zchartularylaw01_OctetWrites.z0); have q148 : x6_1 < (l0.length : Int) := of_decide_eq_true (Zchartularylaw01_OctetWrites.z0); obtain ⟨ad148, A148_4, c148_4, e148, hx148_0, hx148_1, hx148_2, hx148_3, hx148_4, hl148_4, hi148_4⟩ := at_T34 HR0.out x6_1 p148 q148; obtain rfl : ad145 = ad148 := (by injection e148); replace hx148_0 := (HB.out.cell (World.block_lt_of_cell? w _ hx148_0)).trans hx148_0; replace hx148_1 := (HB.out.cell (World.block_lt_of_cell? w _ hx148_1)).trans hx148_1; replace hx148_2 := (HB.out.cell (World.block_lt_of_cell? w _ hx148_2)).trans hx148_2; replace hx148_3 := (HB.out.cell (World.block_lt_of_cell? w _ hx148_3)).trans hx148_3; replace hx148_4 := (HB.out.cell (World.block_lt_of_cell? w _ hx148_4)).trans hx148_4; have HR148_4 := Aside0.mk hi148_4; have HC148_4 := Aside0.mk hl148_4; clear hi148_4 hl148_4; replace p148 := eq_true p148; replace q148 := eq_true q148) | ((with_reducible refine gate_callee (f := 14) rfl ?_); refine goesL_ (some 36) rfl rfl Try.func14 (by kernel_rfl) rfl #[.pointer (some ⟨g143, 0, none⟩), .agg #[.int .i64 ((rd_T34 l0 x6_1).f0), .int .i64 ((rd_T34 l0 x6_1).f1), .string ((rd_T34 l0 x6_1).f2), .bool ((rd_T34 l0 x6_1).f3), .slice A148_4 ((rd_T34 l0 x6_1).f4).length c148_4]] rfl (Zchartularylaw01_OctetWrites.z1) ?_; (with_reducible refine (chartularylaw01_lay.calls kj2 g143 x144000_1 x144001_1 ((rd_T34 l0 x6_1).f0) ((rd_T34 l0 x6_1).f1) ((rd_T34 l0 x6_1).f2) ((rd_T34 l0 x6_1).f3) _ _ ((rd_T34 l0 x6_1).f4) t149 t150 w _ ?side1 ?side2 ?side3 ?side4 ?side5 A9.out).mono ?_); (case side1 => repeat (first | (with_reducible first | exact HI143.out | apply IsS29.alloc | apply IsS29.drewN | apply IsS29.drew | apply IsS29.set_0 | apply IsS29.set_1) | exact HI143.out)); (case side2 => repeat (first | (with_reducible first | exact HB.out | apply below_alloc | apply pw_below_drewN | apply below_drew1 | refine below_set ?_ (IsS29.ge HI143.out)) | exact HB.out)); (case side3 => repeat (first | exact (Kd.C_below HR148_4.out HB.out) | (with_reducible refine Kd.C_alloc ?_ _) | (with_reducible refine Kd.C_drewN ?_ _) | (with_reducible refine Kd.C_drew ?_))); (case side4 => exact HC148_4.out); (case side5 => exact Kd.far_C (⟨#[]⟩ : ByteArray) HR148_4.out (IsS29.ge HI143.out)); rintro e w23 ⟨rfl, hi, hb, hk⟩; refine ⟨_, rfl, ?_⟩; have n0_ := Aside0.mk (hb); have n1_ := Aside0.mk (hi); clear HB; clear HI143; have HB := n0_; have HI143 := n1_; clear n0_ n1_; (try clear hb); (try clear hb2); (try clear hk); (try clear hi)) | ((with_reducible refine gate_callee (f := 15) rfl ?_); refine goesL_ (some 46) rfl rfl Try.func15 (by kernel_rfl) rfl #[.pointer (some ⟨g143, 0, none⟩)] rfl (Zchartularylaw01_OctetWrites.z1) ?_; (with_reducible refine (octet_Writer_All.calls g143 t149 t150 t151 true t153 t154 w _ ?side1 ?side2 A12.out).mono ?_); (case side1 => repeat (first | (with_reducible first | exact HI143.out | apply IsS29.alloc | apply IsS29.drewN | apply IsS29.drew | apply IsS29.set_0 | apply IsS29.set_1) | exact HI143.out)); (case side2 => repeat (first | (with_reducible first | exact HB.out | apply below_alloc | apply pw_below_drewN | apply below_drew1 | refine below_set ?_ (IsS29.ge HI143.out)) | exact HB.out)); rintro e w24 ⟨rfl, hi, hb, hk⟩; refine ⟨_, rfl, ?_⟩; have n0_ := Aside0.mk (hb); have n1_ := Aside0.mk (hi); clear HB; clear HI143; have HB := n0_; have HI143 := n1_; clear n0_ n1_; (try clear hb); (try clear hb2); (try clear hk); (try clear hi)))
             go_ret
             exact ⟨Zchartularylaw01_OctetWrites.z4, by repeat (first | (with_reducible first | exact HB.out | apply below_alloc | apply pw_below_drewN | apply below_drew1 | refine below_set ?_ (IsS29.ge HI143.out)) | exact HB.out)⟩
           ·replace c17 := Bool.eq_false_iff.mpr c17
            subst c17
            have H1 : (if t151.toList = ([] : List UInt8) then (chartularylaw01_OctetWrites.l0 kj2 l0 (x4_1 ++ t146) t147 (wrap64 (x6_1 + 1)) t153 t154) else (some false)) = some r := by rw [if_neg (show ¬ (false = true) by decide)] at H; exact H
            clear H
            have H := H1
            clear H1
            by_cases c25 : t151.toList = ([] : List UInt8)
            ·rw [if_pos c25] at H
             have c25b0 : (t151.toList == ([] : List UInt8)) = true := beq_iff_eq.mpr c25
             have c25b1 : (t151.toList != ([] : List UInt8)) = false := bne_eq_false_iff_eq.mpr c25
             clear c25
             have H' := Aside0.mk H
             clear H
             have p145 : 0 ≤ (x6_1 : Int) := of_decide_eq_true (Zchartularylaw01_OctetWrites.z0)
             have q145 : x6_1 < (l0.length : Int) := of_decide_eq_true (Zchartularylaw01_OctetWrites.z0)
             obtain ⟨ad145, A145_4, c145_4, e145, hx145_0, hx145_1, hx145_2, hx145_3, hx145_4, hl145_4, hi145_4⟩ := at_T34 HR0.out x6_1 p145 q145
             cases e145
             replace hx145_0 := (HB.out.cell (World.block_lt_of_cell? w _ hx145_0)).trans hx145_0
             replace hx145_1 := (HB.out.cell (World.block_lt_of_cell? w _ hx145_1)).trans hx145_1
             replace hx145_2 := (HB.out.cell (World.block_lt_of_cell? w _ hx145_2)).trans hx145_2
             replace hx145_3 := (HB.out.cell (World.block_lt_of_cell? w _ hx145_3)).trans hx145_3
             replace hx145_4 := (HB.out.cell (World.block_lt_of_cell? w _ hx145_4)).trans hx145_4
             have HR145_4 := Aside0.mk hi145_4
             have HC145_4 := Aside0.mk hl145_4
             clear hi145_4 hl145_4
             replace p145 := eq_true p145
             replace q145 := eq_true q145
             go_wp2_with (first | ((with_reducible refine gate_callee (f := 13) rfl ?_); refine goesL_ (some 28) rfl rfl Try.func13 (by kernel_rfl) rfl #[.agg #[.int .i64 ((rd_T34 l0 x6_1).f0), .int .i64 ((rd_T34 l0 x6_1).f1), .string ((rd_T34 l0 x6_1).f2), .bool ((rd_T34 l0 x6_1).f3), .slice A145_4 ((rd_T34 l0 x6_1).f4).length c145_4]] rfl (Zchartularylaw01_OctetWrites.z1) ?_; (with_reducible refine (chartularylaw01_laid.calls kj2 ((rd_T34 l0 x6_1).f0) ((rd_T34 l0 x6_1).f1) ((rd_T34 l0 x6_1).f2) ((rd_T34 l0 x6_1).f3) _ _ ((rd_T34 l0 x6_1).f4) t146 t147 _ ?side1 ?side2 A8.out).mono ?_); (case side1 => repeat (first | exact (Kd.C_below HR145_4.out HB.out) | (with_reducible refine Kd.C_alloc ?_ _) | (with_reducible refine Kd.C_drewN ?_ _) | (with_reducible refine Kd.C_drew ?_))); (case side2 => exact HC145_4.out); rintro e w26 ⟨rfl, hb⟩; refine ⟨_, rfl, ?_⟩; have n0_ := Aside0.mk (IsS29.below (Zchartularylaw01_OctetWrites.z2) hb); have n1_ := Aside0.mk (below_step (by repeat (first | (with_reducible first | exact HB.out | apply below_alloc | apply pw_below_drewN | apply below_drew1 | refine below_set ?_ (IsS29.ge HI143.out)) | exact HB.out)) hb); clear HI143; clear HB; have HI143 := n0_; have HB := n1_; clear n0_ n1_; (try clear hb); (try clear hb2); (try clear hk); (try clear hi); have p148 : 0 ≤ (x6_1 : Int) := of_decide_eq_true (Zchartularylaw01_OctetWrites.z0); have q148 : x6_1 < (l0.length : Int) := of_decide_eq_true (Zchartularylaw01_OctetWrites.z0); obtain ⟨ad148, A148_4, c148_4, e148, hx148_0, hx148_1, hx148_2, hx148_3, hx148_4, hl148_4, hi148_4⟩ := at_T34 HR0.out x6_1 p148 q148; obtain rfl : ad145 = ad148 := (by injection e148); replace hx148_0 := (HB.out.cell (World.block_lt_of_cell? w _ hx148_0)).trans hx148_0; replace hx148_1 := (HB.out.cell (World.block_lt_of_cell? w _ hx148_1)).trans hx148_1; replace hx148_2 := (HB.out.cell (World.block_lt_of_cell? w _ hx148_2)).trans hx148_2; replace hx148_3 := (HB.out.cell (World.block_lt_of_cell? w _ hx148_3)).trans hx148_3; replace hx148_4 := (HB.out.cell (World.block_lt_of_cell? w _ hx148_4)).trans hx148_4; have HR148_4 := Aside0.mk hi148_4; have HC148_4 := Aside0.mk hl148_4; clear hi148_4 hl148_4; replace p148 := eq_true p148; replace q148 := eq_true q148) | ((with_reducible refine gate_callee (f := 14) rfl ?_); refine goesL_ (some 36) rfl rfl Try.func14 (by kernel_rfl) rfl #[.pointer (some ⟨g143, 0, none⟩), .agg #[.int .i64 ((rd_T34 l0 x6_1).f0), .int .i64 ((rd_T34 l0 x6_1).f1), .string ((rd_T34 l0 x6_1).f2), .bool ((rd_T34 l0 x6_1).f3), .slice A148_4 ((rd_T34 l0 x6_1).f4).length c148_4]] rfl (Zchartularylaw01_OctetWrites.z1) ?_; (with_reducible refine (chartularylaw01_lay.calls kj2 g143 x144000_1 x144001_1 ((rd_T34 l0 x6_1).f0) ((rd_T34 l0 x6_1).f1) ((rd_T34 l0 x6_1).f2) ((rd_T34 l0 x6_1).f3) _ _ ((rd_T34 l0 x6_1).f4) t149 t150 w _ ?side1 ?side2 ?side3 ?side4 ?side5 A9.out).mono ?_); (case side1 => repeat (first | (with_reducible first | exact HI143.out | apply IsS29.alloc | apply IsS29.drewN | apply IsS29.drew | apply IsS29.set_0 | apply IsS29.set_1) | exact HI143.out)); (case side2 => repeat (first | (with_reducible first | exact HB.out | apply below_alloc | apply pw_below_drewN | apply below_drew1 | refine below_set ?_ (IsS29.ge HI143.out)) | exact HB.out)); (case side3 => repeat (first | exact (Kd.C_below HR148_4.out HB.out) | (with_reducible refine Kd.C_alloc ?_ _) | (with_reducible refine Kd.C_drewN ?_ _) | (with_reducible refine Kd.C_drew ?_))); (case side4 => exact HC148_4.out); (case side5 => exact Kd.far_C (⟨#[]⟩ : ByteArray) HR148_4.out (IsS29.ge HI143.out)); rintro e w27 ⟨rfl, hi, hb, hk⟩; refine ⟨_, rfl, ?_⟩; have n0_ := Aside0.mk (hb); have n1_ := Aside0.mk (hi); clear HB; clear HI143; have HB := n0_; have HI143 := n1_; clear n0_ n1_; (try clear hb); (try clear hb2); (try clear hk); (try clear hi)) | ((with_reducible refine gate_callee (f := 15) rfl ?_); refine goesL_ (some 46) rfl rfl Try.func15 (by kernel_rfl) rfl #[.pointer (some ⟨g143, 0, none⟩)] rfl (Zchartularylaw01_OctetWrites.z1) ?_; (with_reducible refine (octet_Writer_All.calls g143 t149 t150 t151 false t153 t154 w _ ?side1 ?side2 A12.out).mono ?_); (case side1 => repeat (first | (with_reducible first | exact HI143.out | apply IsS29.alloc | apply IsS29.drewN | apply IsS29.drew | apply IsS29.set_0 | apply IsS29.set_1) | exact HI143.out)); (case side2 => repeat (first | (with_reducible first | exact HB.out | apply below_alloc | apply pw_below_drewN | apply below_drew1 | refine below_set ?_ (IsS29.ge HI143.out)) | exact HB.out)); rintro e w28 ⟨rfl, hi, hb, hk⟩; refine ⟨_, rfl, ?_⟩; have n0_ := Aside0.mk (hb); have n1_ := Aside0.mk (hi); clear HB; clear HI143; have HB := n0_; have HI143 := n1_; clear n0_ n1_; (try clear hb); (try clear hb2); (try clear hk); (try clear hi)))
             go_roundg kj2
             case measure => have := HK1.out; have := HJ2.out; omega
             case rel => exact ⟨(x4_1 ++ t146), (t147), (wrap64 (x6_1 + 1)), (t153), (t154), (Zchartularylaw01_OctetWrites.z3), (Zchartularylaw01_OctetWrites.z3), (Zchartularylaw01_OctetWrites.z3), H', ⟨Zchartularylaw01_OctetWrites.z5⟩, ⟨Zchartularylaw01_OctetWrites.z2⟩, ⟨by repeat (first | (with_reducible first | exact HB.out | apply below_alloc | apply pw_below_drewN | apply below_drew1 | refine below_set ?_ (IsS29.ge HI143.out)) | exact HB.out)⟩⟩
            ·rw [if_neg c25] at H
             have c25b0 : (t151.toList == ([] : List UInt8)) = false := beq_eq_false_iff_ne.mpr c25
             have c25b1 : (t151.toList != ([] : List UInt8)) = true := bne_iff_ne.mpr c25
             obtain rfl := Option.some.inj H
             have p145 : 0 ≤ (x6_1 : Int) := of_decide_eq_true (Zchartularylaw01_OctetWrites.z0)
             have q145 : x6_1 < (l0.length : Int) := of_decide_eq_true (Zchartularylaw01_OctetWrites.z0)
             obtain ⟨ad145, A145_4, c145_4, e145, hx145_0, hx145_1, hx145_2, hx145_3, hx145_4, hl145_4, hi145_4⟩ := at_T34 HR0.out x6_1 p145 q145
             cases e145
             replace hx145_0 := (HB.out.cell (World.block_lt_of_cell? w _ hx145_0)).trans hx145_0
             replace hx145_1 := (HB.out.cell (World.block_lt_of_cell? w _ hx145_1)).trans hx145_1
             replace hx145_2 := (HB.out.cell (World.block_lt_of_cell? w _ hx145_2)).trans hx145_2
             replace hx145_3 := (HB.out.cell (World.block_lt_of_cell? w _ hx145_3)).trans hx145_3
             replace hx145_4 := (HB.out.cell (World.block_lt_of_cell? w _ hx145_4)).trans hx145_4
             have HR145_4 := Aside0.mk hi145_4
             have HC145_4 := Aside0.mk hl145_4
             clear hi145_4 hl145_4
             replace p145 := eq_true p145
             replace q145 := eq_true q145
             go_wp2_with (first | ((with_reducible refine gate_callee (f := 13) rfl ?_); refine goesL_ (some 28) rfl rfl Try.func13 (by kernel_rfl) rfl #[.agg #[.int .i64 ((rd_T34 l0 x6_1).f0), .int .i64 ((rd_T34 l0 x6_1).f1), .string ((rd_T34 l0 x6_1).f2), .bool ((rd_T34 l0 x6_1).f3), .slice A145_4 ((rd_T34 l0 x6_1).f4).length c145_4]] rfl (Zchartularylaw01_OctetWrites.z1) ?_; (with_reducible refine (chartularylaw01_laid.calls kj2 ((rd_T34 l0 x6_1).f0) ((rd_T34 l0 x6_1).f1) ((rd_T34 l0 x6_1).f2) ((rd_T34 l0 x6_1).f3) _ _ ((rd_T34 l0 x6_1).f4) t146 t147 _ ?side1 ?side2 A8.out).mono ?_); (case side1 => repeat (first | exact (Kd.C_below HR145_4.out HB.out) | (with_reducible refine Kd.C_alloc ?_ _) | (with_reducible refine Kd.C_drewN ?_ _) | (with_reducible refine Kd.C_drew ?_))); (case side2 => exact HC145_4.out); rintro e w29 ⟨rfl, hb⟩; refine ⟨_, rfl, ?_⟩; have n0_ := Aside0.mk (IsS29.below (Zchartularylaw01_OctetWrites.z2) hb); have n1_ := Aside0.mk (below_step (by repeat (first | (with_reducible first | exact HB.out | apply below_alloc | apply pw_below_drewN | apply below_drew1 | refine below_set ?_ (IsS29.ge HI143.out)) | exact HB.out)) hb); clear HI143; clear HB; have HI143 := n0_; have HB := n1_; clear n0_ n1_; (try clear hb); (try clear hb2); (try clear hk); (try clear hi); have p148 : 0 ≤ (x6_1 : Int) := of_decide_eq_true (Zchartularylaw01_OctetWrites.z0); have q148 : x6_1 < (l0.length : Int) := of_decide_eq_true (Zchartularylaw01_OctetWrites.z0); obtain ⟨ad148, A148_4, c148_4, e148, hx148_0, hx148_1, hx148_2, hx148_3, hx148_4, hl148_4, hi148_4⟩ := at_T34 HR0.out x6_1 p148 q148; obtain rfl : ad145 = ad148 := (by injection e148); replace hx148_0 := (HB.out.cell (World.block_lt_of_cell? w _ hx148_0)).trans hx148_0; replace hx148_1 := (HB.out.cell (World.block_lt_of_cell? w _ hx148_1)).trans hx148_1; replace hx148_2 := (HB.out.cell (World.block_lt_of_cell? w _ hx148_2)).trans hx148_2; replace hx148_3 := (HB.out.cell (World.block_lt_of_cell? w _ hx148_3)).trans hx148_3; replace hx148_4 := (HB.out.cell (World.block_lt_of_cell? w _ hx148_4)).trans hx148_4; have HR148_4 := Aside0.mk hi148_4; have HC148_4 := Aside0.mk hl148_4; clear hi148_4 hl148_4; replace p148 := eq_true p148; replace q148 := eq_true q148) | ((with_reducible refine gate_callee (f := 14) rfl ?_); refine goesL_ (some 36) rfl rfl Try.func14 (by kernel_rfl) rfl #[.pointer (some ⟨g143, 0, none⟩), .agg #[.int .i64 ((rd_T34 l0 x6_1).f0), .int .i64 ((rd_T34 l0 x6_1).f1), .string ((rd_T34 l0 x6_1).f2), .bool ((rd_T34 l0 x6_1).f3), .slice A148_4 ((rd_T34 l0 x6_1).f4).length c148_4]] rfl (Zchartularylaw01_OctetWrites.z1) ?_; (with_reducible refine (chartularylaw01_lay.calls kj2 g143 x144000_1 x144001_1 ((rd_T34 l0 x6_1).f0) ((rd_T34 l0 x6_1).f1) ((rd_T34 l0 x6_1).f2) ((rd_T34 l0 x6_1).f3) _ _ ((rd_T34 l0 x6_1).f4) t149 t150 w _ ?side1 ?side2 ?side3 ?side4 ?side5 A9.out).mono ?_); (case side1 => repeat (first | (with_reducible first | exact HI143.out | apply IsS29.alloc | apply IsS29.drewN | apply IsS29.drew | apply IsS29.set_0 | apply IsS29.set_1) | exact HI143.out)); (case side2 => repeat (first | (with_reducible first | exact HB.out | apply below_alloc | apply pw_below_drewN | apply below_drew1 | refine below_set ?_ (IsS29.ge HI143.out)) | exact HB.out)); (case side3 => repeat (first | exact (Kd.C_below HR148_4.out HB.out) | (with_reducible refine Kd.C_alloc ?_ _) | (with_reducible refine Kd.C_drewN ?_ _) | (with_reducible refine Kd.C_drew ?_))); (case side4 => exact HC148_4.out); (case side5 => exact Kd.far_C (⟨#[]⟩ : ByteArray) HR148_4.out (IsS29.ge HI143.out)); rintro e w30 ⟨rfl, hi, hb, hk⟩; refine ⟨_, rfl, ?_⟩; have n0_ := Aside0.mk (hb); have n1_ := Aside0.mk (hi); clear HB; clear HI143; have HB := n0_; have HI143 := n1_; clear n0_ n1_; (try clear hb); (try clear hb2); (try clear hk); (try clear hi)) | ((with_reducible refine gate_callee (f := 15) rfl ?_); refine goesL_ (some 46) rfl rfl Try.func15 (by kernel_rfl) rfl #[.pointer (some ⟨g143, 0, none⟩)] rfl (Zchartularylaw01_OctetWrites.z1) ?_; (with_reducible refine (octet_Writer_All.calls g143 t149 t150 t151 false t153 t154 w _ ?side1 ?side2 A12.out).mono ?_); (case side1 => repeat (first | (with_reducible first | exact HI143.out | apply IsS29.alloc | apply IsS29.drewN | apply IsS29.drew | apply IsS29.set_0 | apply IsS29.set_1) | exact HI143.out)); (case side2 => repeat (first | (with_reducible first | exact HB.out | apply below_alloc | apply pw_below_drewN | apply below_drew1 | refine below_set ?_ (IsS29.ge HI143.out)) | exact HB.out)); rintro e w31 ⟨rfl, hi, hb, hk⟩; refine ⟨_, rfl, ?_⟩; have n0_ := Aside0.mk (hb); have n1_ := Aside0.mk (hi); clear HB; clear HI143; have HB := n0_; have HI143 := n1_; clear n0_ n1_; (try clear hb); (try clear hb2); (try clear hk); (try clear hi)))
             go_ret
             exact ⟨Zchartularylaw01_OctetWrites.z4, by repeat (first | (with_reducible first | exact HB.out | apply below_alloc | apply pw_below_drewN | apply below_drew1 | refine below_set ?_ (IsS29.ge HI143.out)) | exact HB.out)⟩
         ·replace c11 := Bool.eq_false_iff.mpr c11
          subst c11
          have H1 : ((octet_Writer_All.f t149 t150).bind fun bt155 => (if (bt155.2.1 != false) = true then (some false) else (if bt155.2.1 = true then (if bt155.1.toList = (x4_1 ++ t146).toList then (chartularylaw01_OctetWrites.l0 kj2 l0 (x4_1 ++ t146) false (wrap64 (x6_1 + 1)) bt155.2.2.1 bt155.2.2.2) else (some false)) else (if bt155.1.toList = ([] : List UInt8) then (chartularylaw01_OctetWrites.l0 kj2 l0 (x4_1 ++ t146) false (wrap64 (x6_1 + 1)) bt155.2.2.1 bt155.2.2.2) else (some false))))) = some r := by rw [if_neg (show ¬ (false = true) by decide)] at H; exact H
          clear H
          have H := H1
          clear H1
          replace H := Option.bind_eq_some_iff.mp H
          obtain ⟨⟨t155, t156, t157, t158⟩, A320, H⟩ := H
          replace H : (if (t156 != false) = true then (some false) else (if t156 = true then (if t155.toList = (x4_1 ++ t146).toList then (chartularylaw01_OctetWrites.l0 kj2 l0 (x4_1 ++ t146) false (wrap64 (x6_1 + 1)) t157 t158) else (some false)) else (if t155.toList = ([] : List UInt8) then (chartularylaw01_OctetWrites.l0 kj2 l0 (x4_1 ++ t146) false (wrap64 (x6_1 + 1)) t157 t158) else (some false)))) = some r := H
          have A32 := Aside0.mk A320
          clear A320
          by_cases c33 : (t156 != false) = true
          ·rw [if_pos c33] at H
           have c33b0 : (t156 != false) = true := c33
           (try (have c33b1 : decide (t156 = false) = false := by simpa using c33))
           (try (have c33b2 : (t156 == false) = false := by simpa using c33))
           (try (have c33b3 : ¬ (t156 = false) := by simpa using c33))
           clear c33
           obtain rfl := Option.some.inj H
           have p145 : 0 ≤ (x6_1 : Int) := of_decide_eq_true (Zchartularylaw01_OctetWrites.z0)
           have q145 : x6_1 < (l0.length : Int) := of_decide_eq_true (Zchartularylaw01_OctetWrites.z0)
           obtain ⟨ad145, A145_4, c145_4, e145, hx145_0, hx145_1, hx145_2, hx145_3, hx145_4, hl145_4, hi145_4⟩ := at_T34 HR0.out x6_1 p145 q145
           cases e145
           replace hx145_0 := (HB.out.cell (World.block_lt_of_cell? w _ hx145_0)).trans hx145_0
           replace hx145_1 := (HB.out.cell (World.block_lt_of_cell? w _ hx145_1)).trans hx145_1
           replace hx145_2 := (HB.out.cell (World.block_lt_of_cell? w _ hx145_2)).trans hx145_2
           replace hx145_3 := (HB.out.cell (World.block_lt_of_cell? w _ hx145_3)).trans hx145_3
           replace hx145_4 := (HB.out.cell (World.block_lt_of_cell? w _ hx145_4)).trans hx145_4
           have HR145_4 := Aside0.mk hi145_4
           have HC145_4 := Aside0.mk hl145_4
           clear hi145_4 hl145_4
           replace p145 := eq_true p145
           replace q145 := eq_true q145
           go_wp2_with (first | ((with_reducible refine gate_callee (f := 13) rfl ?_); refine goesL_ (some 28) rfl rfl Try.func13 (by kernel_rfl) rfl #[.agg #[.int .i64 ((rd_T34 l0 x6_1).f0), .int .i64 ((rd_T34 l0 x6_1).f1), .string ((rd_T34 l0 x6_1).f2), .bool ((rd_T34 l0 x6_1).f3), .slice A145_4 ((rd_T34 l0 x6_1).f4).length c145_4]] rfl (Zchartularylaw01_OctetWrites.z1) ?_; (with_reducible refine (chartularylaw01_laid.calls kj2 ((rd_T34 l0 x6_1).f0) ((rd_T34 l0 x6_1).f1) ((rd_T34 l0 x6_1).f2) ((rd_T34 l0 x6_1).f3) _ _ ((rd_T34 l0 x6_1).f4) t146 t147 _ ?side1 ?side2 A8.out).mono ?_); (case side1 => repeat (first | exact (Kd.C_below HR145_4.out HB.out) | (with_reducible refine Kd.C_alloc ?_ _) | (with_reducible refine Kd.C_drewN ?_ _) | (with_reducible refine Kd.C_drew ?_))); (case side2 => exact HC145_4.out); rintro e w34 ⟨rfl, hb⟩; refine ⟨_, rfl, ?_⟩; have n0_ := Aside0.mk (IsS29.below (Zchartularylaw01_OctetWrites.z2) hb); have n1_ := Aside0.mk (below_step (by repeat (first | (with_reducible first | exact HB.out | apply below_alloc | apply pw_below_drewN | apply below_drew1 | refine below_set ?_ (IsS29.ge HI143.out)) | exact HB.out)) hb); clear HI143; clear HB; have HI143 := n0_; have HB := n1_; clear n0_ n1_; (try clear hb); (try clear hb2); (try clear hk); (try clear hi); have p148 : 0 ≤ (x6_1 : Int) := of_decide_eq_true (Zchartularylaw01_OctetWrites.z0); have q148 : x6_1 < (l0.length : Int) := of_decide_eq_true (Zchartularylaw01_OctetWrites.z0); obtain ⟨ad148, A148_4, c148_4, e148, hx148_0, hx148_1, hx148_2, hx148_3, hx148_4, hl148_4, hi148_4⟩ := at_T34 HR0.out x6_1 p148 q148; obtain rfl : ad145 = ad148 := (by injection e148); replace hx148_0 := (HB.out.cell (World.block_lt_of_cell? w _ hx148_0)).trans hx148_0; replace hx148_1 := (HB.out.cell (World.block_lt_of_cell? w _ hx148_1)).trans hx148_1; replace hx148_2 := (HB.out.cell (World.block_lt_of_cell? w _ hx148_2)).trans hx148_2; replace hx148_3 := (HB.out.cell (World.block_lt_of_cell? w _ hx148_3)).trans hx148_3; replace hx148_4 := (HB.out.cell (World.block_lt_of_cell? w _ hx148_4)).trans hx148_4; have HR148_4 := Aside0.mk hi148_4; have HC148_4 := Aside0.mk hl148_4; clear hi148_4 hl148_4; replace p148 := eq_true p148; replace q148 := eq_true q148) | ((with_reducible refine gate_callee (f := 14) rfl ?_); refine goesL_ (some 36) rfl rfl Try.func14 (by kernel_rfl) rfl #[.pointer (some ⟨g143, 0, none⟩), .agg #[.int .i64 ((rd_T34 l0 x6_1).f0), .int .i64 ((rd_T34 l0 x6_1).f1), .string ((rd_T34 l0 x6_1).f2), .bool ((rd_T34 l0 x6_1).f3), .slice A148_4 ((rd_T34 l0 x6_1).f4).length c148_4]] rfl (Zchartularylaw01_OctetWrites.z1) ?_; (with_reducible refine (chartularylaw01_lay.calls kj2 g143 x144000_1 x144001_1 ((rd_T34 l0 x6_1).f0) ((rd_T34 l0 x6_1).f1) ((rd_T34 l0 x6_1).f2) ((rd_T34 l0 x6_1).f3) _ _ ((rd_T34 l0 x6_1).f4) t149 t150 w _ ?side1 ?side2 ?side3 ?side4 ?side5 A9.out).mono ?_); (case side1 => repeat (first | (with_reducible first | exact HI143.out | apply IsS29.alloc | apply IsS29.drewN | apply IsS29.drew | apply IsS29.set_0 | apply IsS29.set_1) | exact HI143.out)); (case side2 => repeat (first | (with_reducible first | exact HB.out | apply below_alloc | apply pw_below_drewN | apply below_drew1 | refine below_set ?_ (IsS29.ge HI143.out)) | exact HB.out)); (case side3 => repeat (first | exact (Kd.C_below HR148_4.out HB.out) | (with_reducible refine Kd.C_alloc ?_ _) | (with_reducible refine Kd.C_drewN ?_ _) | (with_reducible refine Kd.C_drew ?_))); (case side4 => exact HC148_4.out); (case side5 => exact Kd.far_C (⟨#[]⟩ : ByteArray) HR148_4.out (IsS29.ge HI143.out)); rintro e w35 ⟨rfl, hi, hb, hk⟩; refine ⟨_, rfl, ?_⟩; have n0_ := Aside0.mk (hb); have n1_ := Aside0.mk (hi); clear HB; clear HI143; have HB := n0_; have HI143 := n1_; clear n0_ n1_; (try clear hb); (try clear hb2); (try clear hk); (try clear hi)) | ((with_reducible refine gate_callee (f := 15) rfl ?_); refine goesL_ (some 46) rfl rfl Try.func15 (by kernel_rfl) rfl #[.pointer (some ⟨g143, 0, none⟩)] rfl (Zchartularylaw01_OctetWrites.z1) ?_; (with_reducible refine (octet_Writer_All.calls g143 t149 t150 t155 t156 t157 t158 w _ ?side1 ?side2 A32.out).mono ?_); (case side1 => repeat (first | (with_reducible first | exact HI143.out | apply IsS29.alloc | apply IsS29.drewN | apply IsS29.drew | apply IsS29.set_0 | apply IsS29.set_1) | exact HI143.out)); (case side2 => repeat (first | (with_reducible first | exact HB.out | apply below_alloc | apply pw_below_drewN | apply below_drew1 | refine below_set ?_ (IsS29.ge HI143.out)) | exact HB.out)); rintro e w36 ⟨rfl, hi, hb, hk⟩; refine ⟨_, rfl, ?_⟩; have n0_ := Aside0.mk (hb); have n1_ := Aside0.mk (hi); clear HB; clear HI143; have HB := n0_; have HI143 := n1_; clear n0_ n1_; (try clear hb); (try clear hb2); (try clear hk); (try clear hi)))
           go_ret
           exact ⟨Zchartularylaw01_OctetWrites.z4, by repeat (first | (with_reducible first | exact HB.out | apply below_alloc | apply pw_below_drewN | apply below_drew1 | refine below_set ?_ (IsS29.ge HI143.out)) | exact HB.out)⟩
          ·rw [if_neg c33] at H
           have c33b0 : (t156 != false) = false := by simpa using c33
           (try (have c33b1 : decide (t156 = false) = true := by simpa using c33))
           (try (have c33b2 : (t156 == false) = true := by simpa using c33))
           clear c33
           by_cases c37 : t156 = true
           ·subst c37
            have H1 : (if t155.toList = (x4_1 ++ t146).toList then (chartularylaw01_OctetWrites.l0 kj2 l0 (x4_1 ++ t146) false (wrap64 (x6_1 + 1)) t157 t158) else (some false)) = some r := by rw [if_pos rfl] at H; exact H
            clear H
            have H := H1
            clear H1
            by_cases c38 : t155.toList = (x4_1 ++ t146).toList
            ·rw [if_pos c38] at H
             have c38b0 : (t155.toList == (x4_1 ++ t146).toList) = true := beq_iff_eq.mpr c38
             have c38b1 : (t155.toList != (x4_1 ++ t146).toList) = false := bne_eq_false_iff_eq.mpr c38
             clear c38
             have H' := Aside0.mk H
             clear H
             have p145 : 0 ≤ (x6_1 : Int) := of_decide_eq_true (Zchartularylaw01_OctetWrites.z0)
             have q145 : x6_1 < (l0.length : Int) := of_decide_eq_true (Zchartularylaw01_OctetWrites.z0)
             obtain ⟨ad145, A145_4, c145_4, e145, hx145_0, hx145_1, hx145_2, hx145_3, hx145_4, hl145_4, hi145_4⟩ := at_T34 HR0.out x6_1 p145 q145
             cases e145
             replace hx145_0 := (HB.out.cell (World.block_lt_of_cell? w _ hx145_0)).trans hx145_0
             replace hx145_1 := (HB.out.cell (World.block_lt_of_cell? w _ hx145_1)).trans hx145_1
             replace hx145_2 := (HB.out.cell (World.block_lt_of_cell? w _ hx145_2)).trans hx145_2
             replace hx145_3 := (HB.out.cell (World.block_lt_of_cell? w _ hx145_3)).trans hx145_3
             replace hx145_4 := (HB.out.cell (World.block_lt_of_cell? w _ hx145_4)).trans hx145_4
             have HR145_4 := Aside0.mk hi145_4
             have HC145_4 := Aside0.mk hl145_4
             clear hi145_4 hl145_4
             replace p145 := eq_true p145
             replace q145 := eq_true q145
             go_wp2_with (first | ((with_reducible refine gate_callee (f := 13) rfl ?_); refine goesL_ (some 28) rfl rfl Try.func13 (by kernel_rfl) rfl #[.agg #[.int .i64 ((rd_T34 l0 x6_1).f0), .int .i64 ((rd_T34 l0 x6_1).f1), .string ((rd_T34 l0 x6_1).f2), .bool ((rd_T34 l0 x6_1).f3), .slice A145_4 ((rd_T34 l0 x6_1).f4).length c145_4]] rfl (Zchartularylaw01_OctetWrites.z1) ?_; (with_reducible refine (chartularylaw01_laid.calls kj2 ((rd_T34 l0 x6_1).f0) ((rd_T34 l0 x6_1).f1) ((rd_T34 l0 x6_1).f2) ((rd_T34 l0 x6_1).f3) _ _ ((rd_T34 l0 x6_1).f4) t146 t147 _ ?side1 ?side2 A8.out).mono ?_); (case side1 => repeat (first | exact (Kd.C_below HR145_4.out HB.out) | (with_reducible refine Kd.C_alloc ?_ _) | (with_reducible refine Kd.C_drewN ?_ _) | (with_reducible refine Kd.C_drew ?_))); (case side2 => exact HC145_4.out); rintro e w39 ⟨rfl, hb⟩; refine ⟨_, rfl, ?_⟩; have n0_ := Aside0.mk (IsS29.below (Zchartularylaw01_OctetWrites.z2) hb); have n1_ := Aside0.mk (below_step (by repeat (first | (with_reducible first | exact HB.out | apply below_alloc | apply pw_below_drewN | apply below_drew1 | refine below_set ?_ (IsS29.ge HI143.out)) | exact HB.out)) hb); clear HI143; clear HB; have HI143 := n0_; have HB := n1_; clear n0_ n1_; (try clear hb); (try clear hb2); (try clear hk); (try clear hi); have p148 : 0 ≤ (x6_1 : Int) := of_decide_eq_true (Zchartularylaw01_OctetWrites.z0); have q148 : x6_1 < (l0.length : Int) := of_decide_eq_true (Zchartularylaw01_OctetWrites.z0); obtain ⟨ad148, A148_4, c148_4, e148, hx148_0, hx148_1, hx148_2, hx148_3, hx148_4, hl148_4, hi148_4⟩ := at_T34 HR0.out x6_1 p148 q148; obtain rfl : ad145 = ad148 := (by injection e148); replace hx148_0 := (HB.out.cell (World.block_lt_of_cell? w _ hx148_0)).trans hx148_0; replace hx148_1 := (HB.out.cell (World.block_lt_of_cell? w _ hx148_1)).trans hx148_1; replace hx148_2 := (HB.out.cell (World.block_lt_of_cell? w _ hx148_2)).trans hx148_2; replace hx148_3 := (HB.out.cell (World.block_lt_of_cell? w _ hx148_3)).trans hx148_3; replace hx148_4 := (HB.out.cell (World.block_lt_of_cell? w _ hx148_4)).trans hx148_4; have HR148_4 := Aside0.mk hi148_4; have HC148_4 := Aside0.mk hl148_4; clear hi148_4 hl148_4; replace p148 := eq_true p148; replace q148 := eq_true q148) | ((with_reducible refine gate_callee (f := 14) rfl ?_); refine goesL_ (some 36) rfl rfl Try.func14 (by kernel_rfl) rfl #[.pointer (some ⟨g143, 0, none⟩), .agg #[.int .i64 ((rd_T34 l0 x6_1).f0), .int .i64 ((rd_T34 l0 x6_1).f1), .string ((rd_T34 l0 x6_1).f2), .bool ((rd_T34 l0 x6_1).f3), .slice A148_4 ((rd_T34 l0 x6_1).f4).length c148_4]] rfl (Zchartularylaw01_OctetWrites.z1) ?_; (with_reducible refine (chartularylaw01_lay.calls kj2 g143 x144000_1 x144001_1 ((rd_T34 l0 x6_1).f0) ((rd_T34 l0 x6_1).f1) ((rd_T34 l0 x6_1).f2) ((rd_T34 l0 x6_1).f3) _ _ ((rd_T34 l0 x6_1).f4) t149 t150 w _ ?side1 ?side2 ?side3 ?side4 ?side5 A9.out).mono ?_); (case side1 => repeat (first | (with_reducible first | exact HI143.out | apply IsS29.alloc | apply IsS29.drewN | apply IsS29.drew | apply IsS29.set_0 | apply IsS29.set_1) | exact HI143.out)); (case side2 => repeat (first | (with_reducible first | exact HB.out | apply below_alloc | apply pw_below_drewN | apply below_drew1 | refine below_set ?_ (IsS29.ge HI143.out)) | exact HB.out)); (case side3 => repeat (first | exact (Kd.C_below HR148_4.out HB.out) | (with_reducible refine Kd.C_alloc ?_ _) | (with_reducible refine Kd.C_drewN ?_ _) | (with_reducible refine Kd.C_drew ?_))); (case side4 => exact HC148_4.out); (case side5 => exact Kd.far_C (⟨#[]⟩ : ByteArray) HR148_4.out (IsS29.ge HI143.out)); rintro e w40 ⟨rfl, hi, hb, hk⟩; refine ⟨_, rfl, ?_⟩; have n0_ := Aside0.mk (hb); have n1_ := Aside0.mk (hi); clear HB; clear HI143; have HB := n0_; have HI143 := n1_; clear n0_ n1_; (try clear hb); (try clear hb2); (try clear hk); (try clear hi)) | ((with_reducible refine gate_callee (f := 15) rfl ?_); refine goesL_ (some 46) rfl rfl Try.func15 (by kernel_rfl) rfl #[.pointer (some ⟨g143, 0, none⟩)] rfl (Zchartularylaw01_OctetWrites.z1) ?_; (with_reducible refine (octet_Writer_All.calls g143 t149 t150 t155 true t157 t158 w _ ?side1 ?side2 A32.out).mono ?_); (case side1 => repeat (first | (with_reducible first | exact HI143.out | apply IsS29.alloc | apply IsS29.drewN | apply IsS29.drew | apply IsS29.set_0 | apply IsS29.set_1) | exact HI143.out)); (case side2 => repeat (first | (with_reducible first | exact HB.out | apply below_alloc | apply pw_below_drewN | apply below_drew1 | refine below_set ?_ (IsS29.ge HI143.out)) | exact HB.out)); rintro e w41 ⟨rfl, hi, hb, hk⟩; refine ⟨_, rfl, ?_⟩; have n0_ := Aside0.mk (hb); have n1_ := Aside0.mk (hi); clear HB; clear HI143; have HB := n0_; have HI143 := n1_; clear n0_ n1_; (try clear hb); (try clear hb2); (try clear hk); (try clear hi)))
             go_roundg kj2
             case measure => have := HK1.out; have := HJ2.out; omega
             case rel => exact ⟨(x4_1 ++ t146), (false), (wrap64 (x6_1 + 1)), (t157), (t158), (Zchartularylaw01_OctetWrites.z3), (Zchartularylaw01_OctetWrites.z3), (Zchartularylaw01_OctetWrites.z3), H', ⟨Zchartularylaw01_OctetWrites.z5⟩, ⟨Zchartularylaw01_OctetWrites.z2⟩, ⟨by repeat (first | (with_reducible first | exact HB.out | apply below_alloc | apply pw_below_drewN | apply below_drew1 | refine below_set ?_ (IsS29.ge HI143.out)) | exact HB.out)⟩⟩
            ·rw [if_neg c38] at H
             have c38b0 : (t155.toList == (x4_1 ++ t146).toList) = false := beq_eq_false_iff_ne.mpr c38
             have c38b1 : (t155.toList != (x4_1 ++ t146).toList) = true := bne_iff_ne.mpr c38
             obtain rfl := Option.some.inj H
             have p145 : 0 ≤ (x6_1 : Int) := of_decide_eq_true (Zchartularylaw01_OctetWrites.z0)
             have q145 : x6_1 < (l0.length : Int) := of_decide_eq_true (Zchartularylaw01_OctetWrites.z0)
             obtain ⟨ad145, A145_4, c145_4, e145, hx145_0, hx145_1, hx145_2, hx145_3, hx145_4, hl145_4, hi145_4⟩ := at_T34 HR0.out x6_1 p145 q145
             cases e145
             replace hx145_0 := (HB.out.cell (World.block_lt_of_cell? w _ hx145_0)).trans hx145_0
             replace hx145_1 := (HB.out.cell (World.block_lt_of_cell? w _ hx145_1)).trans hx145_1
             replace hx145_2 := (HB.out.cell (World.block_lt_of_cell? w _ hx145_2)).trans hx145_2
             replace hx145_3 := (HB.out.cell (World.block_lt_of_cell? w _ hx145_3)).trans hx145_3
             replace hx145_4 := (HB.out.cell (World.block_lt_of_cell? w _ hx145_4)).trans hx145_4
             have HR145_4 := Aside0.mk hi145_4
             have HC145_4 := Aside0.mk hl145_4
             clear hi145_4 hl145_4
             replace p145 := eq_true p145
             replace q145 := eq_true q145
             go_wp2_with (first | ((with_reducible refine gate_callee (f := 13) rfl ?_); refine goesL_ (some 28) rfl rfl Try.func13 (by kernel_rfl) rfl #[.agg #[.int .i64 ((rd_T34 l0 x6_1).f0), .int .i64 ((rd_T34 l0 x6_1).f1), .string ((rd_T34 l0 x6_1).f2), .bool ((rd_T34 l0 x6_1).f3), .slice A145_4 ((rd_T34 l0 x6_1).f4).length c145_4]] rfl (Zchartularylaw01_OctetWrites.z1) ?_; (with_reducible refine (chartularylaw01_laid.calls kj2 ((rd_T34 l0 x6_1).f0) ((rd_T34 l0 x6_1).f1) ((rd_T34 l0 x6_1).f2) ((rd_T34 l0 x6_1).f3) _ _ ((rd_T34 l0 x6_1).f4) t146 t147 _ ?side1 ?side2 A8.out).mono ?_); (case side1 => repeat (first | exact (Kd.C_below HR145_4.out HB.out) | (with_reducible refine Kd.C_alloc ?_ _) | (with_reducible refine Kd.C_drewN ?_ _) | (with_reducible refine Kd.C_drew ?_))); (case side2 => exact HC145_4.out); rintro e w42 ⟨rfl, hb⟩; refine ⟨_, rfl, ?_⟩; have n0_ := Aside0.mk (IsS29.below (Zchartularylaw01_OctetWrites.z2) hb); have n1_ := Aside0.mk (below_step (by repeat (first | (with_reducible first | exact HB.out | apply below_alloc | apply pw_below_drewN | apply below_drew1 | refine below_set ?_ (IsS29.ge HI143.out)) | exact HB.out)) hb); clear HI143; clear HB; have HI143 := n0_; have HB := n1_; clear n0_ n1_; (try clear hb); (try clear hb2); (try clear hk); (try clear hi); have p148 : 0 ≤ (x6_1 : Int) := of_decide_eq_true (Zchartularylaw01_OctetWrites.z0); have q148 : x6_1 < (l0.length : Int) := of_decide_eq_true (Zchartularylaw01_OctetWrites.z0); obtain ⟨ad148, A148_4, c148_4, e148, hx148_0, hx148_1, hx148_2, hx148_3, hx148_4, hl148_4, hi148_4⟩ := at_T34 HR0.out x6_1 p148 q148; obtain rfl : ad145 = ad148 := (by injection e148); replace hx148_0 := (HB.out.cell (World.block_lt_of_cell? w _ hx148_0)).trans hx148_0; replace hx148_1 := (HB.out.cell (World.block_lt_of_cell? w _ hx148_1)).trans hx148_1; replace hx148_2 := (HB.out.cell (World.block_lt_of_cell? w _ hx148_2)).trans hx148_2; replace hx148_3 := (HB.out.cell (World.block_lt_of_cell? w _ hx148_3)).trans hx148_3; replace hx148_4 := (HB.out.cell (World.block_lt_of_cell? w _ hx148_4)).trans hx148_4; have HR148_4 := Aside0.mk hi148_4; have HC148_4 := Aside0.mk hl148_4; clear hi148_4 hl148_4; replace p148 := eq_true p148; replace q148 := eq_true q148) | ((with_reducible refine gate_callee (f := 14) rfl ?_); refine goesL_ (some 36) rfl rfl Try.func14 (by kernel_rfl) rfl #[.pointer (some ⟨g143, 0, none⟩), .agg #[.int .i64 ((rd_T34 l0 x6_1).f0), .int .i64 ((rd_T34 l0 x6_1).f1), .string ((rd_T34 l0 x6_1).f2), .bool ((rd_T34 l0 x6_1).f3), .slice A148_4 ((rd_T34 l0 x6_1).f4).length c148_4]] rfl (Zchartularylaw01_OctetWrites.z1) ?_; (with_reducible refine (chartularylaw01_lay.calls kj2 g143 x144000_1 x144001_1 ((rd_T34 l0 x6_1).f0) ((rd_T34 l0 x6_1).f1) ((rd_T34 l0 x6_1).f2) ((rd_T34 l0 x6_1).f3) _ _ ((rd_T34 l0 x6_1).f4) t149 t150 w _ ?side1 ?side2 ?side3 ?side4 ?side5 A9.out).mono ?_); (case side1 => repeat (first | (with_reducible first | exact HI143.out | apply IsS29.alloc | apply IsS29.drewN | apply IsS29.drew | apply IsS29.set_0 | apply IsS29.set_1) | exact HI143.out)); (case side2 => repeat (first | (with_reducible first | exact HB.out | apply below_alloc | apply pw_below_drewN | apply below_drew1 | refine below_set ?_ (IsS29.ge HI143.out)) | exact HB.out)); (case side3 => repeat (first | exact (Kd.C_below HR148_4.out HB.out) | (with_reducible refine Kd.C_alloc ?_ _) | (with_reducible refine Kd.C_drewN ?_ _) | (with_reducible refine Kd.C_drew ?_))); (case side4 => exact HC148_4.out); (case side5 => exact Kd.far_C (⟨#[]⟩ : ByteArray) HR148_4.out (IsS29.ge HI143.out)); rintro e w43 ⟨rfl, hi, hb, hk⟩; refine ⟨_, rfl, ?_⟩; have n0_ := Aside0.mk (hb); have n1_ := Aside0.mk (hi); clear HB; clear HI143; have HB := n0_; have HI143 := n1_; clear n0_ n1_; (try clear hb); (try clear hb2); (try clear hk); (try clear hi)) | ((with_reducible refine gate_callee (f := 15) rfl ?_); refine goesL_ (some 46) rfl rfl Try.func15 (by kernel_rfl) rfl #[.pointer (some ⟨g143, 0, none⟩)] rfl (Zchartularylaw01_OctetWrites.z1) ?_; (with_reducible refine (octet_Writer_All.calls g143 t149 t150 t155 true t157 t158 w _ ?side1 ?side2 A32.out).mono ?_); (case side1 => repeat (first | (with_reducible first | exact HI143.out | apply IsS29.alloc | apply IsS29.drewN | apply IsS29.drew | apply IsS29.set_0 | apply IsS29.set_1) | exact HI143.out)); (case side2 => repeat (first | (with_reducible first | exact HB.out | apply below_alloc | apply pw_below_drewN | apply below_drew1 | refine below_set ?_ (IsS29.ge HI143.out)) | exact HB.out)); rintro e w44 ⟨rfl, hi, hb, hk⟩; refine ⟨_, rfl, ?_⟩; have n0_ := Aside0.mk (hb); have n1_ := Aside0.mk (hi); clear HB; clear HI143; have HB := n0_; have HI143 := n1_; clear n0_ n1_; (try clear hb); (try clear hb2); (try clear hk); (try clear hi)))
             go_ret
             exact ⟨Zchartularylaw01_OctetWrites.z4, by repeat (first | (with_reducible first | exact HB.out | apply below_alloc | apply pw_below_drewN | apply below_drew1 | refine below_set ?_ (IsS29.ge HI143.out)) | exact HB.out)⟩
           ·replace c37 := Bool.eq_false_iff.mpr c37
            subst c37
            have H1 : (if t155.toList = ([] : List UInt8) then (chartularylaw01_OctetWrites.l0 kj2 l0 (x4_1 ++ t146) false (wrap64 (x6_1 + 1)) t157 t158) else (some false)) = some r := by rw [if_neg (show ¬ (false = true) by decide)] at H; exact H
            clear H
            have H := H1
            clear H1
            by_cases c45 : t155.toList = ([] : List UInt8)
            ·rw [if_pos c45] at H
             have c45b0 : (t155.toList == ([] : List UInt8)) = true := beq_iff_eq.mpr c45
             have c45b1 : (t155.toList != ([] : List UInt8)) = false := bne_eq_false_iff_eq.mpr c45
             clear c45
             have H' := Aside0.mk H
             clear H
             have p145 : 0 ≤ (x6_1 : Int) := of_decide_eq_true (Zchartularylaw01_OctetWrites.z0)
             have q145 : x6_1 < (l0.length : Int) := of_decide_eq_true (Zchartularylaw01_OctetWrites.z0)
             obtain ⟨ad145, A145_4, c145_4, e145, hx145_0, hx145_1, hx145_2, hx145_3, hx145_4, hl145_4, hi145_4⟩ := at_T34 HR0.out x6_1 p145 q145
             cases e145
             replace hx145_0 := (HB.out.cell (World.block_lt_of_cell? w _ hx145_0)).trans hx145_0
             replace hx145_1 := (HB.out.cell (World.block_lt_of_cell? w _ hx145_1)).trans hx145_1
             replace hx145_2 := (HB.out.cell (World.block_lt_of_cell? w _ hx145_2)).trans hx145_2
             replace hx145_3 := (HB.out.cell (World.block_lt_of_cell? w _ hx145_3)).trans hx145_3
             replace hx145_4 := (HB.out.cell (World.block_lt_of_cell? w _ hx145_4)).trans hx145_4
             have HR145_4 := Aside0.mk hi145_4
             have HC145_4 := Aside0.mk hl145_4
             clear hi145_4 hl145_4
             replace p145 := eq_true p145
             replace q145 := eq_true q145
             go_wp2_with (first | ((with_reducible refine gate_callee (f := 13) rfl ?_); refine goesL_ (some 28) rfl rfl Try.func13 (by kernel_rfl) rfl #[.agg #[.int .i64 ((rd_T34 l0 x6_1).f0), .int .i64 ((rd_T34 l0 x6_1).f1), .string ((rd_T34 l0 x6_1).f2), .bool ((rd_T34 l0 x6_1).f3), .slice A145_4 ((rd_T34 l0 x6_1).f4).length c145_4]] rfl (Zchartularylaw01_OctetWrites.z1) ?_; (with_reducible refine (chartularylaw01_laid.calls kj2 ((rd_T34 l0 x6_1).f0) ((rd_T34 l0 x6_1).f1) ((rd_T34 l0 x6_1).f2) ((rd_T34 l0 x6_1).f3) _ _ ((rd_T34 l0 x6_1).f4) t146 t147 _ ?side1 ?side2 A8.out).mono ?_); (case side1 => repeat (first | exact (Kd.C_below HR145_4.out HB.out) | (with_reducible refine Kd.C_alloc ?_ _) | (with_reducible refine Kd.C_drewN ?_ _) | (with_reducible refine Kd.C_drew ?_))); (case side2 => exact HC145_4.out); rintro e w46 ⟨rfl, hb⟩; refine ⟨_, rfl, ?_⟩; have n0_ := Aside0.mk (IsS29.below (Zchartularylaw01_OctetWrites.z2) hb); have n1_ := Aside0.mk (below_step (by repeat (first | (with_reducible first | exact HB.out | apply below_alloc | apply pw_below_drewN | apply below_drew1 | refine below_set ?_ (IsS29.ge HI143.out)) | exact HB.out)) hb); clear HI143; clear HB; have HI143 := n0_; have HB := n1_; clear n0_ n1_; (try clear hb); (try clear hb2); (try clear hk); (try clear hi); have p148 : 0 ≤ (x6_1 : Int) := of_decide_eq_true (Zchartularylaw01_OctetWrites.z0); have q148 : x6_1 < (l0.length : Int) := of_decide_eq_true (Zchartularylaw01_OctetWrites.z0); obtain ⟨ad148, A148_4, c148_4, e148, hx148_0, hx148_1, hx148_2, hx148_3, hx148_4, hl148_4, hi148_4⟩ := at_T34 HR0.out x6_1 p148 q148; obtain rfl : ad145 = ad148 := (by injection e148); replace hx148_0 := (HB.out.cell (World.block_lt_of_cell? w _ hx148_0)).trans hx148_0; replace hx148_1 := (HB.out.cell (World.block_lt_of_cell? w _ hx148_1)).trans hx148_1; replace hx148_2 := (HB.out.cell (World.block_lt_of_cell? w _ hx148_2)).trans hx148_2; replace hx148_3 := (HB.out.cell (World.block_lt_of_cell? w _ hx148_3)).trans hx148_3; replace hx148_4 := (HB.out.cell (World.block_lt_of_cell? w _ hx148_4)).trans hx148_4; have HR148_4 := Aside0.mk hi148_4; have HC148_4 := Aside0.mk hl148_4; clear hi148_4 hl148_4; replace p148 := eq_true p148; replace q148 := eq_true q148) | ((with_reducible refine gate_callee (f := 14) rfl ?_); refine goesL_ (some 36) rfl rfl Try.func14 (by kernel_rfl) rfl #[.pointer (some ⟨g143, 0, none⟩), .agg #[.int .i64 ((rd_T34 l0 x6_1).f0), .int .i64 ((rd_T34 l0 x6_1).f1), .string ((rd_T34 l0 x6_1).f2), .bool ((rd_T34 l0 x6_1).f3), .slice A148_4 ((rd_T34 l0 x6_1).f4).length c148_4]] rfl (Zchartularylaw01_OctetWrites.z1) ?_; (with_reducible refine (chartularylaw01_lay.calls kj2 g143 x144000_1 x144001_1 ((rd_T34 l0 x6_1).f0) ((rd_T34 l0 x6_1).f1) ((rd_T34 l0 x6_1).f2) ((rd_T34 l0 x6_1).f3) _ _ ((rd_T34 l0 x6_1).f4) t149 t150 w _ ?side1 ?side2 ?side3 ?side4 ?side5 A9.out).mono ?_); (case side1 => repeat (first | (with_reducible first | exact HI143.out | apply IsS29.alloc | apply IsS29.drewN | apply IsS29.drew | apply IsS29.set_0 | apply IsS29.set_1) | exact HI143.out)); (case side2 => repeat (first | (with_reducible first | exact HB.out | apply below_alloc | apply pw_below_drewN | apply below_drew1 | refine below_set ?_ (IsS29.ge HI143.out)) | exact HB.out)); (case side3 => repeat (first | exact (Kd.C_below HR148_4.out HB.out) | (with_reducible refine Kd.C_alloc ?_ _) | (with_reducible refine Kd.C_drewN ?_ _) | (with_reducible refine Kd.C_drew ?_))); (case side4 => exact HC148_4.out); (case side5 => exact Kd.far_C (⟨#[]⟩ : ByteArray) HR148_4.out (IsS29.ge HI143.out)); rintro e w47 ⟨rfl, hi, hb, hk⟩; refine ⟨_, rfl, ?_⟩; have n0_ := Aside0.mk (hb); have n1_ := Aside0.mk (hi); clear HB; clear HI143; have HB := n0_; have HI143 := n1_; clear n0_ n1_; (try clear hb); (try clear hb2); (try clear hk); (try clear hi)) | ((with_reducible refine gate_callee (f := 15) rfl ?_); refine goesL_ (some 46) rfl rfl Try.func15 (by kernel_rfl) rfl #[.pointer (some ⟨g143, 0, none⟩)] rfl (Zchartularylaw01_OctetWrites.z1) ?_; (with_reducible refine (octet_Writer_All.calls g143 t149 t150 t155 false t157 t158 w _ ?side1 ?side2 A32.out).mono ?_); (case side1 => repeat (first | (with_reducible first | exact HI143.out | apply IsS29.alloc | apply IsS29.drewN | apply IsS29.drew | apply IsS29.set_0 | apply IsS29.set_1) | exact HI143.out)); (case side2 => repeat (first | (with_reducible first | exact HB.out | apply below_alloc | apply pw_below_drewN | apply below_drew1 | refine below_set ?_ (IsS29.ge HI143.out)) | exact HB.out)); rintro e w48 ⟨rfl, hi, hb, hk⟩; refine ⟨_, rfl, ?_⟩; have n0_ := Aside0.mk (hb); have n1_ := Aside0.mk (hi); clear HB; clear HI143; have HB := n0_; have HI143 := n1_; clear n0_ n1_; (try clear hb); (try clear hb2); (try clear hk); (try clear hi)))
             go_roundg kj2
             case measure => have := HK1.out; have := HJ2.out; omega
             case rel => exact ⟨(x4_1 ++ t146), (false), (wrap64 (x6_1 + 1)), (t157), (t158), (Zchartularylaw01_OctetWrites.z3), (Zchartularylaw01_OctetWrites.z3), (Zchartularylaw01_OctetWrites.z3), H', ⟨Zchartularylaw01_OctetWrites.z5⟩, ⟨Zchartularylaw01_OctetWrites.z2⟩, ⟨by repeat (first | (with_reducible first | exact HB.out | apply below_alloc | apply pw_below_drewN | apply below_drew1 | refine below_set ?_ (IsS29.ge HI143.out)) | exact HB.out)⟩⟩
            ·rw [if_neg c45] at H
             have c45b0 : (t155.toList == ([] : List UInt8)) = false := beq_eq_false_iff_ne.mpr c45
             have c45b1 : (t155.toList != ([] : List UInt8)) = true := bne_iff_ne.mpr c45
             obtain rfl := Option.some.inj H
             have p145 : 0 ≤ (x6_1 : Int) := of_decide_eq_true (Zchartularylaw01_OctetWrites.z0)
             have q145 : x6_1 < (l0.length : Int) := of_decide_eq_true (Zchartularylaw01_OctetWrites.z0)
             obtain ⟨ad145, A145_4, c145_4, e145, hx145_0, hx145_1, hx145_2, hx145_3, hx145_4, hl145_4, hi145_4⟩ := at_T34 HR0.out x6_1 p145 q145
             cases e145
             replace hx145_0 := (HB.out.cell (World.block_lt_of_cell? w _ hx145_0)).trans hx145_0
             replace hx145_1 := (HB.out.cell (World.block_lt_of_cell? w _ hx145_1)).trans hx145_1
             replace hx145_2 := (HB.out.cell (World.block_lt_of_cell? w _ hx145_2)).trans hx145_2
             replace hx145_3 := (HB.out.cell (World.block_lt_of_cell? w _ hx145_3)).trans hx145_3
             replace hx145_4 := (HB.out.cell (World.block_lt_of_cell? w _ hx145_4)).trans hx145_4
             have HR145_4 := Aside0.mk hi145_4
             have HC145_4 := Aside0.mk hl145_4
             clear hi145_4 hl145_4
             replace p145 := eq_true p145
             replace q145 := eq_true q145
             go_wp2_with (first | ((with_reducible refine gate_callee (f := 13) rfl ?_); refine goesL_ (some 28) rfl rfl Try.func13 (by kernel_rfl) rfl #[.agg #[.int .i64 ((rd_T34 l0 x6_1).f0), .int .i64 ((rd_T34 l0 x6_1).f1), .string ((rd_T34 l0 x6_1).f2), .bool ((rd_T34 l0 x6_1).f3), .slice A145_4 ((rd_T34 l0 x6_1).f4).length c145_4]] rfl (Zchartularylaw01_OctetWrites.z1) ?_; (with_reducible refine (chartularylaw01_laid.calls kj2 ((rd_T34 l0 x6_1).f0) ((rd_T34 l0 x6_1).f1) ((rd_T34 l0 x6_1).f2) ((rd_T34 l0 x6_1).f3) _ _ ((rd_T34 l0 x6_1).f4) t146 t147 _ ?side1 ?side2 A8.out).mono ?_); (case side1 => repeat (first | exact (Kd.C_below HR145_4.out HB.out) | (with_reducible refine Kd.C_alloc ?_ _) | (with_reducible refine Kd.C_drewN ?_ _) | (with_reducible refine Kd.C_drew ?_))); (case side2 => exact HC145_4.out); rintro e w49 ⟨rfl, hb⟩; refine ⟨_, rfl, ?_⟩; have n0_ := Aside0.mk (IsS29.below (Zchartularylaw01_OctetWrites.z2) hb); have n1_ := Aside0.mk (below_step (by repeat (first | (with_reducible first | exact HB.out | apply below_alloc | apply pw_below_drewN | apply below_drew1 | refine below_set ?_ (IsS29.ge HI143.out)) | exact HB.out)) hb); clear HI143; clear HB; have HI143 := n0_; have HB := n1_; clear n0_ n1_; (try clear hb); (try clear hb2); (try clear hk); (try clear hi); have p148 : 0 ≤ (x6_1 : Int) := of_decide_eq_true (Zchartularylaw01_OctetWrites.z0); have q148 : x6_1 < (l0.length : Int) := of_decide_eq_true (Zchartularylaw01_OctetWrites.z0); obtain ⟨ad148, A148_4, c148_4, e148, hx148_0, hx148_1, hx148_2, hx148_3, hx148_4, hl148_4, hi148_4⟩ := at_T34 HR0.out x6_1 p148 q148; obtain rfl : ad145 = ad148 := (by injection e148); replace hx148_0 := (HB.out.cell (World.block_lt_of_cell? w _ hx148_0)).trans hx148_0; replace hx148_1 := (HB.out.cell (World.block_lt_of_cell? w _ hx148_1)).trans hx148_1; replace hx148_2 := (HB.out.cell (World.block_lt_of_cell? w _ hx148_2)).trans hx148_2; replace hx148_3 := (HB.out.cell (World.block_lt_of_cell? w _ hx148_3)).trans hx148_3; replace hx148_4 := (HB.out.cell (World.block_lt_of_cell? w _ hx148_4)).trans hx148_4; have HR148_4 := Aside0.mk hi148_4; have HC148_4 := Aside0.mk hl148_4; clear hi148_4 hl148_4; replace p148 := eq_true p148; replace q148 := eq_true q148) | ((with_reducible refine gate_callee (f := 14) rfl ?_); refine goesL_ (some 36) rfl rfl Try.func14 (by kernel_rfl) rfl #[.pointer (some ⟨g143, 0, none⟩), .agg #[.int .i64 ((rd_T34 l0 x6_1).f0), .int .i64 ((rd_T34 l0 x6_1).f1), .string ((rd_T34 l0 x6_1).f2), .bool ((rd_T34 l0 x6_1).f3), .slice A148_4 ((rd_T34 l0 x6_1).f4).length c148_4]] rfl (Zchartularylaw01_OctetWrites.z1) ?_; (with_reducible refine (chartularylaw01_lay.calls kj2 g143 x144000_1 x144001_1 ((rd_T34 l0 x6_1).f0) ((rd_T34 l0 x6_1).f1) ((rd_T34 l0 x6_1).f2) ((rd_T34 l0 x6_1).f3) _ _ ((rd_T34 l0 x6_1).f4) t149 t150 w _ ?side1 ?side2 ?side3 ?side4 ?side5 A9.out).mono ?_); (case side1 => repeat (first | (with_reducible first | exact HI143.out | apply IsS29.alloc | apply IsS29.drewN | apply IsS29.drew | apply IsS29.set_0 | apply IsS29.set_1) | exact HI143.out)); (case side2 => repeat (first | (with_reducible first | exact HB.out | apply below_alloc | apply pw_below_drewN | apply below_drew1 | refine below_set ?_ (IsS29.ge HI143.out)) | exact HB.out)); (case side3 => repeat (first | exact (Kd.C_below HR148_4.out HB.out) | (with_reducible refine Kd.C_alloc ?_ _) | (with_reducible refine Kd.C_drewN ?_ _) | (with_reducible refine Kd.C_drew ?_))); (case side4 => exact HC148_4.out); (case side5 => exact Kd.far_C (⟨#[]⟩ : ByteArray) HR148_4.out (IsS29.ge HI143.out)); rintro e w50 ⟨rfl, hi, hb, hk⟩; refine ⟨_, rfl, ?_⟩; have n0_ := Aside0.mk (hb); have n1_ := Aside0.mk (hi); clear HB; clear HI143; have HB := n0_; have HI143 := n1_; clear n0_ n1_; (try clear hb); (try clear hb2); (try clear hk); (try clear hi)) | ((with_reducible refine gate_callee (f := 15) rfl ?_); refine goesL_ (some 46) rfl rfl Try.func15 (by kernel_rfl) rfl #[.pointer (some ⟨g143, 0, none⟩)] rfl (Zchartularylaw01_OctetWrites.z1) ?_; (with_reducible refine (octet_Writer_All.calls g143 t149 t150 t155 false t157 t158 w _ ?side1 ?side2 A32.out).mono ?_); (case side1 => repeat (first | (with_reducible first | exact HI143.out | apply IsS29.alloc | apply IsS29.drewN | apply IsS29.drew | apply IsS29.set_0 | apply IsS29.set_1) | exact HI143.out)); (case side2 => repeat (first | (with_reducible first | exact HB.out | apply below_alloc | apply pw_below_drewN | apply below_drew1 | refine below_set ?_ (IsS29.ge HI143.out)) | exact HB.out)); rintro e w51 ⟨rfl, hi, hb, hk⟩; refine ⟨_, rfl, ?_⟩; have n0_ := Aside0.mk (hb); have n1_ := Aside0.mk (hi); clear HB; clear HI143; have HB := n0_; have HI143 := n1_; clear n0_ n1_; (try clear hb); (try clear hb2); (try clear hk); (try clear hi)))
             go_ret
             exact ⟨Zchartularylaw01_OctetWrites.z4, by repeat (first | (with_reducible first | exact HB.out | apply below_alloc | apply pw_below_drewN | apply below_drew1 | refine below_set ?_ (IsS29.ge HI143.out)) | exact HB.out)⟩
        ·rw [if_neg c10] at H
         exact absurd H (by simp)
       ·rw [if_neg c7] at H
        exact absurd H (by simp)
      ·rw [if_neg c6] at H
       exact absurd H (by simp)
     ·replace c5 := Bool.eq_false_iff.mpr c5
      subst c5
      have H1 : ((chartularylaw01_awake.f kj2).bind fun t144 => (some t144)) = some r := by rw [if_neg (show ¬ (false = true) by decide)] at H; exact H
      clear H
      have H := H1
      clear H1
      replace H := Option.bind_eq_some_iff.mp H
      obtain ⟨t144, A520, H⟩ := H
      replace H : (some t144) = some r := H
      have A52 := Aside0.mk A520
      clear A520
      obtain rfl := Option.some.inj H
      go_wp2_with (first | ((with_reducible refine gate_callee (f := 12) rfl ?_); refine goesL_ (some 68) rfl rfl Try.func12 (by kernel_rfl) rfl #[] rfl (Zchartularylaw01_OctetWrites.z1) ?_; (with_reducible refine (chartularylaw01_awake.calls kj2  t144 _ A52.out).mono ?_); rintro e w53 ⟨rfl, hb⟩; refine ⟨_, rfl, ?_⟩; have n0_ := Aside0.mk (IsS29.below (Zchartularylaw01_OctetWrites.z2) hb); have n1_ := Aside0.mk (below_step (by repeat (first | (with_reducible first | exact HB.out | apply below_alloc | apply pw_below_drewN | apply below_drew1 | refine below_set ?_ (IsS29.ge HI143.out)) | exact HB.out)) hb); clear HI143; clear HB; have HI143 := n0_; have HB := n1_; clear n0_ n1_; (try clear hb); (try clear hb2); (try clear hk); (try clear hi)))
      go_ret
      exact ⟨Zchartularylaw01_OctetWrites.z4, by repeat (first | (with_reducible first | exact HB.out | apply below_alloc | apply pw_below_drewN | apply below_drew1 | refine below_set ?_ (IsS29.ge HI143.out)) | exact HB.out)⟩


end

end Go.Proofs.Ytnlanlhhcgdjiaa.PAll
