-- Typed by a program of this session (wip/print2.sh, given.py), after the kit's print: functions as plain Lean, and their contracts.
import Derived.Test.YtfkjjmhbljlbkaaDoorAFnPipe0
import Derived.Test.YtfkjjmhbljlbkaaDoorAFnPipe1
import Derived.Test.YtfkjjmhbljlbkaaDoorAFnPipe4
import Derived.Test.YtfkjjmhbljlbkaaDoorAFnPipe5
import Derived.Test.YtfkjjmhbljlbkaaDoorAFnPipe6
import Derived.Test.YtfkjjmhbljlbkaaDoorAFnPipe7
import Derived.Test.YtfkjjmhbljlbkaaDoorAFnPipe8
namespace Go.Proofs.YtfkjjmhbljlbkaaDoor.P
open Go.RowKit Go.Proofs.YtfkjjmhbljlbkaaDoorW.PrintWords Go.Proofs.YtfkjjmhbljlbkaaDoorW.PrintLast Go.Proofs.YtfkjjmhbljlbkaaDoorW.PrintMore
attribute [local go_sem] max2_int min2_int max_two min_two max_three min_three max_four min_four   -- for this text's walks alone
set_option linter.unusedVariables false
set_option linter.unusedSimpArgs false

attribute [local go_sem high] eqA34
/-! ### spec_DrawPipeFeed: function 33 -/
def spec_DrawPipeFeed.f (k : Nat) (l0 : List Int) : Option (ByteArray × Bool × ByteArray) := (spec_DrawPipeOk.f k l0).bind fun bt262 => ((spec_l1Open.f l0).bind fun bt265 => ((spec_l13Segs.f k bt265.1 bt265.2).bind fun bt268 => ((spec_FramePut.f k bt268.1).bind fun t272 => ((spec_l13Segs.f k bt265.1 bt268.2).bind fun bt273 => ((spec_FramePut.f k bt273.1).bind fun t277 => (if t272.size + t277.size ≤ 9223372036854775807 then (if bt262.1.size + (t272 ++ t277).size ≤ 9223372036854775807 then ((spec_FrameGet.f k (bt262.1 ++ (t272 ++ t277))).bind fun bt278 => (if bt278.2 ≤ 0 then ((spec_l1Rd_pick.f k bt265.1 bt273.2 2).bind fun bt282 => (if bt282.1 = 0 then ((spec_l13Cut.f k bt265.1 bt282.2 (t272 ++ t277)).bind fun bt284 => (some ((⟨#[]⟩ : ByteArray), false, bt284.1))) else ((spec_l13Cut.f k bt265.1 bt282.2 (t272 ++ t277)).bind fun bt286 => (some (bt262.1, bt262.2, bt286.1))))) else ((spec_l13Cut.f k bt265.1 bt273.2 (t272 ++ t277)).bind fun bt288 => (some (bt262.1, bt262.2, bt288.1))))) else (none)) else (none)))))))
theorem spec_DrawPipeFeed.mono : ∀ a0 k, LeO (spec_DrawPipeFeed.f k a0) (spec_DrawPipeFeed.f (k + 1) a0) := by
 intro a0 k
 unfold spec_DrawPipeFeed.f
 repeat' first
   | (with_reducible exact spec_DrawPipeOk.mono _ _)
   | (with_reducible exact spec_FrameGet.mono _ _)
   | (with_reducible exact spec_FramePut.mono _ _)
   | (with_reducible exact spec_l13Cut.mono _ _ _ _)
   | (with_reducible exact spec_l13Segs.mono _ _ _)
   | (with_reducible exact spec_l1Rd_pick.mono _ _ _ _)
   | (with_reducible exact LeO.refl _)
   | (with_reducible exact LeO.none _)
   | (with_reducible refine LeO.ite ?_ ?_)
   | (with_reducible refine LeO.bind ?_ (fun _ => ?_))
   | exact spec_DrawPipeOk.mono _ _
   | exact spec_FrameGet.mono _ _
   | exact spec_FramePut.mono _ _
   | exact spec_l13Cut.mono _ _ _ _
   | exact spec_l13Segs.mono _ _ _
   | exact spec_l1Rd_pick.mono _ _ _ _
   | exact LeO.none _
   | refine LeO.ite ?_ ?_
   | refine LeO.bind ?_ (fun _ => ?_)
set_option maxHeartbeats 8000000 in
set_option maxRecDepth 100000 in
theorem spec_DrawPipeFeed.calls (k : Nat) (A0 : Option Addr) (c0 : Nat) (l0 : List Int) (r1 : ByteArray) (r2 : Bool) (r3 : ByteArray) (w : World) (hr0 : Kd.C (Kd.int .u8) w A0 l0.length l0) (hc0 : l0.length ≤ c0) (h : spec_DrawPipeFeed.f k l0 = some (r1, r2, r3)) :
  Calls Tryd.prog 33 #[.slice A0 l0.length c0] w fun e w' => e = .returned (.tuple #[.agg #[.string r1, .bool r2], .string r3]) ∧ Below w.heap.size w w' := by
 have hu34 := Tryd.underlying34
 have HR0 := AM hr0
 have HC0 := AM hc0
 clear hr0 hc0
 have HB := AM (Below.refl w.heap.size w)
 have H : ((spec_DrawPipeOk.f k l0).bind fun bt262 => ((spec_l1Open.f l0).bind fun bt265 => ((spec_l13Segs.f k bt265.1 bt265.2).bind fun bt268 => ((spec_FramePut.f k bt268.1).bind fun t272 => ((spec_l13Segs.f k bt265.1 bt268.2).bind fun bt273 => ((spec_FramePut.f k bt273.1).bind fun t277 => (if t272.size + t277.size ≤ 9223372036854775807 then (if bt262.1.size + (t272 ++ t277).size ≤ 9223372036854775807 then ((spec_FrameGet.f k (bt262.1 ++ (t272 ++ t277))).bind fun bt278 => (if bt278.2 ≤ 0 then ((spec_l1Rd_pick.f k bt265.1 bt273.2 2).bind fun bt282 => (if bt282.1 = 0 then ((spec_l13Cut.f k bt265.1 bt282.2 (t272 ++ t277)).bind fun bt284 => (some ((⟨#[]⟩ : ByteArray), false, bt284.1))) else ((spec_l13Cut.f k bt265.1 bt282.2 (t272 ++ t277)).bind fun bt286 => (some (bt262.1, bt262.2, bt286.1))))) else ((spec_l13Cut.f k bt265.1 bt273.2 (t272 ++ t277)).bind fun bt288 => (some (bt262.1, bt262.2, bt288.1))))) else (none)) else (none)))))))) = some (r1, r2, r3) := h
 clear h
 replace H := Option.bind_eq_some_iff.mp H
 obtain ⟨⟨t262, t263⟩, A20, H⟩ := H
 replace H : ((spec_l1Open.f l0).bind fun bt265 => ((spec_l13Segs.f k bt265.1 bt265.2).bind fun bt268 => ((spec_FramePut.f k bt268.1).bind fun t272 => ((spec_l13Segs.f k bt265.1 bt268.2).bind fun bt273 => ((spec_FramePut.f k bt273.1).bind fun t277 => (if t272.size + t277.size ≤ 9223372036854775807 then (if t262.size + (t272 ++ t277).size ≤ 9223372036854775807 then ((spec_FrameGet.f k (t262 ++ (t272 ++ t277))).bind fun bt278 => (if bt278.2 ≤ 0 then ((spec_l1Rd_pick.f k bt265.1 bt273.2 2).bind fun bt282 => (if bt282.1 = 0 then ((spec_l13Cut.f k bt265.1 bt282.2 (t272 ++ t277)).bind fun bt284 => (some ((⟨#[]⟩ : ByteArray), false, bt284.1))) else ((spec_l13Cut.f k bt265.1 bt282.2 (t272 ++ t277)).bind fun bt286 => (some (t262, t263, bt286.1))))) else ((spec_l13Cut.f k bt265.1 bt273.2 (t272 ++ t277)).bind fun bt288 => (some (t262, t263, bt288.1))))) else (none)) else (none))))))) = some (r1, r2, r3) := H
 have A2 := AM A20
 clear A20
 replace H := Option.bind_eq_some_iff.mp H
 obtain ⟨⟨t265, t266⟩, A30, H⟩ := H
 replace H : ((spec_l13Segs.f k t265 t266).bind fun bt268 => ((spec_FramePut.f k bt268.1).bind fun t272 => ((spec_l13Segs.f k t265 bt268.2).bind fun bt273 => ((spec_FramePut.f k bt273.1).bind fun t277 => (if t272.size + t277.size ≤ 9223372036854775807 then (if t262.size + (t272 ++ t277).size ≤ 9223372036854775807 then ((spec_FrameGet.f k (t262 ++ (t272 ++ t277))).bind fun bt278 => (if bt278.2 ≤ 0 then ((spec_l1Rd_pick.f k t265 bt273.2 2).bind fun bt282 => (if bt282.1 = 0 then ((spec_l13Cut.f k t265 bt282.2 (t272 ++ t277)).bind fun bt284 => (some ((⟨#[]⟩ : ByteArray), false, bt284.1))) else ((spec_l13Cut.f k t265 bt282.2 (t272 ++ t277)).bind fun bt286 => (some (t262, t263, bt286.1))))) else ((spec_l13Cut.f k t265 bt273.2 (t272 ++ t277)).bind fun bt288 => (some (t262, t263, bt288.1))))) else (none)) else (none)))))) = some (r1, r2, r3) := H
 have A3 := AM A30
 clear A30
 replace H := Option.bind_eq_some_iff.mp H
 obtain ⟨⟨t268, t271⟩, A40, H⟩ := H
 replace H : ((spec_FramePut.f k t268).bind fun t272 => ((spec_l13Segs.f k t265 t271).bind fun bt273 => ((spec_FramePut.f k bt273.1).bind fun t277 => (if t272.size + t277.size ≤ 9223372036854775807 then (if t262.size + (t272 ++ t277).size ≤ 9223372036854775807 then ((spec_FrameGet.f k (t262 ++ (t272 ++ t277))).bind fun bt278 => (if bt278.2 ≤ 0 then ((spec_l1Rd_pick.f k t265 bt273.2 2).bind fun bt282 => (if bt282.1 = 0 then ((spec_l13Cut.f k t265 bt282.2 (t272 ++ t277)).bind fun bt284 => (some ((⟨#[]⟩ : ByteArray), false, bt284.1))) else ((spec_l13Cut.f k t265 bt282.2 (t272 ++ t277)).bind fun bt286 => (some (t262, t263, bt286.1))))) else ((spec_l13Cut.f k t265 bt273.2 (t272 ++ t277)).bind fun bt288 => (some (t262, t263, bt288.1))))) else (none)) else (none))))) = some (r1, r2, r3) := H
 have A4 := AM A40
 clear A40
 replace H := Option.bind_eq_some_iff.mp H
 obtain ⟨t272, A50, H⟩ := H
 replace H : ((spec_l13Segs.f k t265 t271).bind fun bt273 => ((spec_FramePut.f k bt273.1).bind fun t277 => (if t272.size + t277.size ≤ 9223372036854775807 then (if t262.size + (t272 ++ t277).size ≤ 9223372036854775807 then ((spec_FrameGet.f k (t262 ++ (t272 ++ t277))).bind fun bt278 => (if bt278.2 ≤ 0 then ((spec_l1Rd_pick.f k t265 bt273.2 2).bind fun bt282 => (if bt282.1 = 0 then ((spec_l13Cut.f k t265 bt282.2 (t272 ++ t277)).bind fun bt284 => (some ((⟨#[]⟩ : ByteArray), false, bt284.1))) else ((spec_l13Cut.f k t265 bt282.2 (t272 ++ t277)).bind fun bt286 => (some (t262, t263, bt286.1))))) else ((spec_l13Cut.f k t265 bt273.2 (t272 ++ t277)).bind fun bt288 => (some (t262, t263, bt288.1))))) else (none)) else (none)))) = some (r1, r2, r3) := H
 have A5 := AM A50
 clear A50
 replace H := Option.bind_eq_some_iff.mp H
 obtain ⟨⟨t273, t276⟩, A60, H⟩ := H
 replace H : ((spec_FramePut.f k t273).bind fun t277 => (if t272.size + t277.size ≤ 9223372036854775807 then (if t262.size + (t272 ++ t277).size ≤ 9223372036854775807 then ((spec_FrameGet.f k (t262 ++ (t272 ++ t277))).bind fun bt278 => (if bt278.2 ≤ 0 then ((spec_l1Rd_pick.f k t265 t276 2).bind fun bt282 => (if bt282.1 = 0 then ((spec_l13Cut.f k t265 bt282.2 (t272 ++ t277)).bind fun bt284 => (some ((⟨#[]⟩ : ByteArray), false, bt284.1))) else ((spec_l13Cut.f k t265 bt282.2 (t272 ++ t277)).bind fun bt286 => (some (t262, t263, bt286.1))))) else ((spec_l13Cut.f k t265 t276 (t272 ++ t277)).bind fun bt288 => (some (t262, t263, bt288.1))))) else (none)) else (none))) = some (r1, r2, r3) := H
 have A6 := AM A60
 clear A60
 replace H := Option.bind_eq_some_iff.mp H
 obtain ⟨t277, A70, H⟩ := H
 replace H : (if t272.size + t277.size ≤ 9223372036854775807 then (if t262.size + (t272 ++ t277).size ≤ 9223372036854775807 then ((spec_FrameGet.f k (t262 ++ (t272 ++ t277))).bind fun bt278 => (if bt278.2 ≤ 0 then ((spec_l1Rd_pick.f k t265 t276 2).bind fun bt282 => (if bt282.1 = 0 then ((spec_l13Cut.f k t265 bt282.2 (t272 ++ t277)).bind fun bt284 => (some ((⟨#[]⟩ : ByteArray), false, bt284.1))) else ((spec_l13Cut.f k t265 bt282.2 (t272 ++ t277)).bind fun bt286 => (some (t262, t263, bt286.1))))) else ((spec_l13Cut.f k t265 t276 (t272 ++ t277)).bind fun bt288 => (some (t262, t263, bt288.1))))) else (none)) else (none)) = some (r1, r2, r3) := H
 have A7 := AM A70
 clear A70
 by_cases c8 : t272.size + t277.size ≤ 9223372036854775807
 ·rw [if_pos c8] at H
  have c8b0 := eq_true c8
  have c8b1 : decide (t272.size + t277.size ≤ 9223372036854775807) = true := decide_eq_true c8
  try have c8b2 : (9223372036854775807 < t272.size + t277.size) = False := eq_false (Nat.not_lt.2 c8)
  by_cases c9 : t262.size + (t272 ++ t277).size ≤ 9223372036854775807
  ·rw [if_pos c9] at H
   have c9b0 := eq_true c9
   have c9b1 : decide (t262.size + (t272 ++ t277).size ≤ 9223372036854775807) = true := decide_eq_true c9
   try have c9b2 : (9223372036854775807 < t262.size + (t272 ++ t277).size) = False := eq_false (Nat.not_lt.2 c9)
   replace H := Option.bind_eq_some_iff.mp H
   obtain ⟨⟨t278, t279⟩, A100, H⟩ := H
   replace H : (if t279 ≤ 0 then ((spec_l1Rd_pick.f k t265 t276 2).bind fun bt282 => (if bt282.1 = 0 then ((spec_l13Cut.f k t265 bt282.2 (t272 ++ t277)).bind fun bt284 => (some ((⟨#[]⟩ : ByteArray), false, bt284.1))) else ((spec_l13Cut.f k t265 bt282.2 (t272 ++ t277)).bind fun bt286 => (some (t262, t263, bt286.1))))) else ((spec_l13Cut.f k t265 t276 (t272 ++ t277)).bind fun bt288 => (some (t262, t263, bt288.1)))) = some (r1, r2, r3) := H
   have A10 := AM A100
   clear A100
   by_cases c11 : t279 ≤ 0
   ·rw [if_pos c11] at H
    have c11b0 : decide (t279 ≤ 0) = true := decide_eq_true c11
    clear c11
    replace H := Option.bind_eq_some_iff.mp H
    obtain ⟨⟨t282, t283⟩, A120, H⟩ := H
    replace H : (if t282 = 0 then ((spec_l13Cut.f k t265 t283 (t272 ++ t277)).bind fun bt284 => (some ((⟨#[]⟩ : ByteArray), false, bt284.1))) else ((spec_l13Cut.f k t265 t283 (t272 ++ t277)).bind fun bt286 => (some (t262, t263, bt286.1)))) = some (r1, r2, r3) := H
    have A12 := AM A120
    clear A120
    by_cases c13 : t282 = 0
    ·rw [if_pos c13] at H
     have c13b0 : (t282 == 0) = true := beq_iff_eq.mpr c13
     have c13b1 : (t282 != 0) = false := bne_eq_false_iff_eq.mpr c13
     clear c13
     replace H := Option.bind_eq_some_iff.mp H
     obtain ⟨⟨t284, t285⟩, A140, H⟩ := H
     replace H : (some ((⟨#[]⟩ : ByteArray), false, t284)) = some (r1, r2, r3) := H
     have A14 := AM A140
     clear A140
     simp only [Option.some.injEq, Prod.mk.injEq] at H
     obtain ⟨rfl, rfl, rfl⟩ := H
     go_enter Tryd.func33, Tryd.ntmps33
     try go_wp2_with (first | ((with_reducible refine gate_dst (N := 2) rfl ?_); refine box_event ?hg (N := 2) ?hd (cs := #[.string (⟨#[]⟩ : ByteArray), .bool false]) (t := 34) ?hr ?_; (case hd => rfl); (case hg => rfl); (case hr => first | (go_simp; done) | (go_simp; rfl)); intro gb261 hg w15 hbox hb; have n0_ := AM (bS (by repeat (first | (with_reducible first | exact HB.out | apply bA | apply bD | apply bE) | exact HB.out)) hb); have n1_ := AM (hbox); have n2_ := AM ((by rw [hg]; exact (bZ (by repeat (first | (with_reducible first | exact HB.out | apply bA | apply bD | apply bE) | exact HB.out))) : w.heap.size ≤ gb261)); have n3_ := AM ((by rw [hg]; exact (bZ (by repeat (first | (with_reducible first | exact HB.out | apply bA | apply bD | apply bE) | exact HB.out))) : w.heap.size ≤ gb261)); clear HB; have HB := n0_; have BK261 := n1_; have GW261 := n2_; have GE261 := n3_; clear n0_ n1_ n2_ n3_; clear hb hbox hg) | ((with_reducible refine gate_callee (f := 94) rfl ?_); refine goesL_ (some 10) rfl rfl Tryd.func94 (by kernel_rfl) rfl #[.slice A0 l0.length c0] rfl (by (try simp only [List.map_toArray, List.map_cons, List.map_nil]); first | done | rfl | (simp only [List.length_drop, List.length_take]; rfl)) ?_; (with_reducible refine (spec_DrawPipeOk.calls k _ _ l0 t262 t263 _ ?side1 ?side2 A2.out).mono ?_); (case side1 => repeat (first | exact (Kd.C_below HR0.out HB.out) | (with_reducible refine Kd.C_alloc ?_ _) | (with_reducible refine Kd.C_drewN ?_ _) | (with_reducible refine Kd.C_drew ?_))); (case side2 => exact HC0.out); rintro e w16 ⟨rfl, hb⟩; refine ⟨_, rfl, ?_⟩; have n0_ := AM (kB (g := gb261) (o := .cells #[.string (⟨#[]⟩ : ByteArray), .bool false] 34 (0, 0)) (by (with_reducible repeat (first | refine kD ?_ _ | refine kE ?_ | refine kA ?_ _)); exact BK261.out) hb); have n1_ := AM (bS (by repeat (first | (with_reducible first | exact HB.out | apply bA | apply bD | apply bE | refine below_set ?_ GE261.out) | exact HB.out)) hb); clear BK261; clear HB; have BK261 := n0_; have HB := n1_; clear n0_ n1_; (try clear hb); (try clear hb2); (try clear hk); (try clear hi)) | ((with_reducible refine gate_dst (N := 4) rfl ?_); refine box_event ?hg (N := 4) ?hd (cs := #[.string (⟨#[]⟩ : ByteArray), .bool false]) (t := 34) ?hr ?_; (case hd => rfl); (case hg => rfl); (case hr => first | (go_simp; done) | (go_simp; rfl)); intro gb264 hg w17 hbox hb; have n0_ := AM (kB (g := gb261) (o := .cells #[.string (⟨#[]⟩ : ByteArray), .bool false] 34 (0, 0)) (by (with_reducible repeat (first | refine kD ?_ _ | refine kE ?_ | refine kA ?_ _)); exact BK261.out) hb); have n1_ := AM (bS (by repeat (first | (with_reducible first | exact HB.out | apply bA | apply bD | apply bE | refine below_set ?_ GE261.out) | exact HB.out)) hb); have n2_ := AM (hbox); have n3_ := AM ((by rw [hg]; exact (bZ (by repeat (first | (with_reducible first | exact HB.out | apply bA | apply bD | apply bE | refine below_set ?_ GE261.out) | exact HB.out))) : w.heap.size ≤ gb264)); have n4_ := AM ((by rw [hg]; exact (bZ (by repeat (first | (with_reducible first | exact HB.out | apply bA | apply bD | apply bE | refine below_set ?_ GE261.out) | exact HB.out))) : w.heap.size ≤ gb264)); have n5_ := AM ((by rw [hg]; exact Nat.ne_of_lt (blk_lt (g := gb261) (o := .cells #[.string (⟨#[]⟩ : ByteArray), .bool false] 34 (0, 0)) (by (with_reducible repeat (first | refine kD ?_ _ | refine kE ?_ | refine kA ?_ _)); exact BK261.out)) : gb261 ≠ gb264)); have n6_ := AM ((by rw [hg]; exact Nat.ne_of_gt (blk_lt (g := gb261) (o := .cells #[.string (⟨#[]⟩ : ByteArray), .bool false] 34 (0, 0)) (by (with_reducible repeat (first | refine kD ?_ _ | refine kE ?_ | refine kA ?_ _)); exact BK261.out)) : gb264 ≠ gb261)); clear BK261; clear HB; have BK261 := n0_; have HB := n1_; have BK264 := n2_; have GW264 := n3_; have GE264 := n4_; have NB261_264 := n5_; have NB264_261 := n6_; clear n0_ n1_ n2_ n3_ n4_ n5_ n6_; clear hb hbox hg; have hnb18 := NB264_261.out; have hnc18 := NB261_264.out; have hcz19_0 : w17.cell? ⟨gb264, 0, none⟩ = some (.string (⟨#[]⟩ : ByteArray)) := (kC BK264.out 0).trans rfl; have hcz19_1 : w17.cell? ⟨gb264, 1, none⟩ = some (.bool false) := (kC BK264.out 1).trans rfl; have hfz19_0 := blk_frozen BK264.out 0; have hfz19_1 := blk_frozen BK264.out 1) | ((with_reducible refine gate_callee (f := 64) rfl ?_); refine goesL_ (some 12) rfl rfl Tryd.func64 (by kernel_rfl) rfl #[.slice A0 l0.length c0] rfl (by (try simp only [List.map_toArray, List.map_cons, List.map_nil]); first | done | rfl | (simp only [List.length_drop, List.length_take]; rfl)) ?_; (with_reducible refine (spec_l1Open.calls _ _ l0 t265 t266 w _ ?side1 ?side2 ?side3 A3.out).mono ?_); (case side1 => repeat (first | (with_reducible first | exact HB.out | apply bA | apply bD | apply bE | refine below_set ?_ GE261.out | refine below_set ?_ GE264.out) | exact HB.out)); (case side2 => exact HR0.out); (case side3 => exact HC0.out); rintro e w20 ⟨g267, rfl, hi, hb, hb2⟩; refine ⟨_, rfl, ?_⟩; have n0_ := AM (kB (g := gb261) (o := .cells #[.string (⟨#[]⟩ : ByteArray), .bool false] 34 (0, 0)) (by (with_reducible repeat (first | refine kD ?_ _ | refine kE ?_ | refine kA ?_ _)); refine blk_far ?_ NB261_264.out _; (with_reducible repeat (first | refine kD ?_ _ | refine kE ?_ | refine kA ?_ _)); refine blk_far ?_ NB261_264.out _; (with_reducible repeat (first | refine kD ?_ _ | refine kE ?_ | refine kA ?_ _)); exact BK261.out) hb2); have n1_ := AM (kB (g := gb264) (o := .cells #[.string t262, .bool t263] 34 (0, 0)) (by (with_reducible repeat (first | refine kD ?_ _ | refine kE ?_ | refine kA ?_ _)); refine blk_put (cs := #[.string t262, .bool false]) ?_ 1 _ rfl; (with_reducible repeat (first | refine kD ?_ _ | refine kE ?_ | refine kA ?_ _)); refine blk_put (cs := #[.string (⟨#[]⟩ : ByteArray), .bool false]) ?_ 0 _ rfl; (with_reducible repeat (first | refine kD ?_ _ | refine kE ?_ | refine kA ?_ _)); exact BK264.out) hb2); have n2_ := AM (hb); have n3_ := AM (hi); have n4_ := AM (IsS145.ne_blk hi (kB (g := gb261) (o := .cells #[.string (⟨#[]⟩ : ByteArray), .bool false] 34 (0, 0)) (by (with_reducible repeat (first | refine kD ?_ _ | refine kE ?_ | refine kA ?_ _)); refine blk_far ?_ NB261_264.out _; (with_reducible repeat (first | refine kD ?_ _ | refine kE ?_ | refine kA ?_ _)); refine blk_far ?_ NB261_264.out _; (with_reducible repeat (first | refine kD ?_ _ | refine kE ?_ | refine kA ?_ _)); exact BK261.out) hb2) (by decide)); have n5_ := AM (Ne.symm (IsS145.ne_blk hi (kB (g := gb261) (o := .cells #[.string (⟨#[]⟩ : ByteArray), .bool false] 34 (0, 0)) (by (with_reducible repeat (first | refine kD ?_ _ | refine kE ?_ | refine kA ?_ _)); refine blk_far ?_ NB261_264.out _; (with_reducible repeat (first | refine kD ?_ _ | refine kE ?_ | refine kA ?_ _)); refine blk_far ?_ NB261_264.out _; (with_reducible repeat (first | refine kD ?_ _ | refine kE ?_ | refine kA ?_ _)); exact BK261.out) hb2) (by decide))); have n6_ := AM (IsS145.ne_blk hi (kB (g := gb264) (o := .cells #[.string t262, .bool t263] 34 (0, 0)) (by (with_reducible repeat (first | refine kD ?_ _ | refine kE ?_ | refine kA ?_ _)); refine blk_put (cs := #[.string t262, .bool false]) ?_ 1 _ rfl; (with_reducible repeat (first | refine kD ?_ _ | refine kE ?_ | refine kA ?_ _)); refine blk_put (cs := #[.string (⟨#[]⟩ : ByteArray), .bool false]) ?_ 0 _ rfl; (with_reducible repeat (first | refine kD ?_ _ | refine kE ?_ | refine kA ?_ _)); exact BK264.out) hb2) (by decide)); have n7_ := AM (Ne.symm (IsS145.ne_blk hi (kB (g := gb264) (o := .cells #[.string t262, .bool t263] 34 (0, 0)) (by (with_reducible repeat (first | refine kD ?_ _ | refine kE ?_ | refine kA ?_ _)); refine blk_put (cs := #[.string t262, .bool false]) ?_ 1 _ rfl; (with_reducible repeat (first | refine kD ?_ _ | refine kE ?_ | refine kA ?_ _)); refine blk_put (cs := #[.string (⟨#[]⟩ : ByteArray), .bool false]) ?_ 0 _ rfl; (with_reducible repeat (first | refine kD ?_ _ | refine kE ?_ | refine kA ?_ _)); exact BK264.out) hb2) (by decide))); clear BK261; clear BK264; clear HB; have BK261 := n0_; have BK264 := n1_; have HB := n2_; have HI267 := n3_; have NB267_261 := n4_; have NB261_267 := n5_; have NB267_264 := n6_; have NB264_267 := n7_; clear n0_ n1_ n2_ n3_ n4_ n5_ n6_ n7_; (try clear hb); (try clear hb2); (try clear hk); (try clear hi)) | ((with_reducible refine gate_callee (f := 95) rfl ?_); refine goesL_ (some 14) rfl rfl Tryd.func95 (by kernel_rfl) rfl #[.pointer (some ⟨g267, 0, none⟩)] rfl (by (try simp only [List.map_toArray, List.map_cons, List.map_nil]); first | done | rfl | (simp only [List.length_drop, List.length_take]; rfl)) ?_; (with_reducible refine (spec_l13Segs.calls k g267 t265 t266 t268 t271 w _ ?side1 ?side2 A4.out).mono ?_); (case side1 => repeat (first | (with_reducible first | exact HI267.out | apply IsS145.alloc | apply IsS145.drewN | apply IsS145.drew | apply IsS145.set_1 | refine IsS145.far ?_ NB267_261.out _ | refine IsS145.far ?_ NB267_264.out _) | exact HI267.out)); (case side2 => repeat (first | (with_reducible first | exact HB.out | apply bA | apply bD | apply bE | refine below_set ?_ (IsS145.ge HI267.out) | refine below_set ?_ GE261.out | refine below_set ?_ GE264.out) | exact HB.out)); rintro e w21 ⟨v269, rfl, ho0, hi, hb, hk⟩; refine ⟨_, rfl, ?_⟩; have n0_ := AM (KeepBut.blk hk (g' := gb261) (o := .cells #[.string (⟨#[]⟩ : ByteArray), .bool false] 34 (0, 0)) (by (with_reducible repeat (first | refine kD ?_ _ | refine kE ?_ | refine kA ?_ _)); exact BK261.out) NB261_267.out (by simp)); have n1_ := AM (KeepBut.blk hk (g' := gb264) (o := .cells #[.string t262, .bool t263] 34 (0, 0)) (by (with_reducible repeat (first | refine kD ?_ _ | refine kE ?_ | refine kA ?_ _)); exact BK264.out) NB264_267.out (by simp)); have n2_ := AM (Kd.R_lower ho0 (bZ (by repeat (first | (with_reducible first | exact HB.out | apply bA | apply bD | apply bE | refine below_set ?_ (IsS145.ge HI267.out) | refine below_set ?_ GE261.out | refine below_set ?_ GE264.out) | exact HB.out)))); have n3_ := AM (hb); have n4_ := AM (hi); clear BK261; clear BK264; clear HB; clear HI267; have BK261 := n0_; have BK264 := n1_; have HO270 := n2_; have HB := n3_; have HI267 := n4_; clear n0_ n1_ n2_ n3_ n4_; (try clear hb); (try clear hb2); (try clear hk); (try clear hi); (try clear ho0); obtain ⟨Ao22, co22, eo22⟩ := Kd.R_slice HO270.out; subst eo22) | ((with_reducible refine gate_callee (f := 18) rfl ?_); refine goesL_ (some 15) rfl rfl Tryd.func18 (by kernel_rfl) rfl #[.slice Ao22 t268.length co22] rfl (by (try simp only [List.map_toArray, List.map_cons, List.map_nil]); first | done | rfl | (simp only [List.length_drop, List.length_take]; rfl)) ?_; (with_reducible refine (spec_FramePut.calls k _ _ t268 t272 _ ?side1 ?side2 A5.out).mono ?_); (case side1 => repeat (first | exact (Kd.R_reads' HO270.out).2.2 | (with_reducible refine Kd.C_alloc ?_ _) | (with_reducible refine Kd.C_drewN ?_ _) | (with_reducible refine Kd.C_drew ?_))); (case side2 => exact (Kd.R_reads' HO270.out).2.1); rintro e w23 ⟨rfl, hb⟩; refine ⟨_, rfl, ?_⟩; have n0_ := AM (rB (by (with_reducible repeat (first | apply rA | apply rD | apply rE)); exact HO270.out) hb); have n1_ := AM (kB (g := gb261) (o := .cells #[.string (⟨#[]⟩ : ByteArray), .bool false] 34 (0, 0)) (by (with_reducible repeat (first | refine kD ?_ _ | refine kE ?_ | refine kA ?_ _)); exact BK261.out) hb); have n2_ := AM (kB (g := gb264) (o := .cells #[.string t262, .bool t263] 34 (0, 0)) (by (with_reducible repeat (first | refine kD ?_ _ | refine kE ?_ | refine kA ?_ _)); exact BK264.out) hb); have n3_ := AM (IsS145.below (by repeat (first | (with_reducible first | exact HI267.out | apply IsS145.alloc | apply IsS145.drewN | apply IsS145.drew | apply IsS145.set_1 | refine IsS145.far ?_ NB267_261.out _ | refine IsS145.far ?_ NB267_264.out _) | exact HI267.out)) hb); have n4_ := AM (bS (by repeat (first | (with_reducible first | exact HB.out | apply bA | apply bD | apply bE | refine below_set ?_ (IsS145.ge HI267.out) | refine below_set ?_ GE261.out | refine below_set ?_ GE264.out) | exact HB.out)) hb); clear HO270; clear BK261; clear BK264; clear HI267; clear HB; have HO270 := n0_; have BK261 := n1_; have BK264 := n2_; have HI267 := n3_; have HB := n4_; clear n0_ n1_ n2_ n3_ n4_; (try clear hb); (try clear hb2); (try clear hk); (try clear hi)) | ((with_reducible refine gate_callee (f := 95) rfl ?_); refine goesL_ (some 17) rfl rfl Tryd.func95 (by kernel_rfl) rfl #[.pointer (some ⟨g267, 0, none⟩)] rfl (by (try simp only [List.map_toArray, List.map_cons, List.map_nil]); first | done | rfl | (simp only [List.length_drop, List.length_take]; rfl)) ?_; (with_reducible refine (spec_l13Segs.calls k g267 t265 t271 t273 t276 w _ ?side1 ?side2 A6.out).mono ?_); (case side1 => repeat (first | (with_reducible first | exact HI267.out | apply IsS145.alloc | apply IsS145.drewN | apply IsS145.drew | apply IsS145.set_1 | refine IsS145.far ?_ NB267_261.out _ | refine IsS145.far ?_ NB267_264.out _) | exact HI267.out)); (case side2 => repeat (first | (with_reducible first | exact HB.out | apply bA | apply bD | apply bE | refine below_set ?_ (IsS145.ge HI267.out) | refine below_set ?_ GE261.out | refine below_set ?_ GE264.out) | exact HB.out)); rintro e w24 ⟨v274, rfl, ho0, hi, hb, hk⟩; refine ⟨_, rfl, ?_⟩; have n0_ := AM (KeepBut.blk hk (g' := gb261) (o := .cells #[.string (⟨#[]⟩ : ByteArray), .bool false] 34 (0, 0)) (by (with_reducible repeat (first | refine kD ?_ _ | refine kE ?_ | refine kA ?_ _)); exact BK261.out) NB261_267.out (by simp)); have n1_ := AM (KeepBut.blk hk (g' := gb264) (o := .cells #[.string t262, .bool t263] 34 (0, 0)) (by (with_reducible repeat (first | refine kD ?_ _ | refine kE ?_ | refine kA ?_ _)); exact BK264.out) NB264_267.out (by simp)); have n2_ := AM (rM (Kd.R_told (Kd.R_oldK (IsS145.apart (show IsS145 w _ g267 t265 t271 from by repeat (first | (with_reducible first | exact HI267.out | apply IsS145.alloc | apply IsS145.drewN | apply IsS145.drew | apply IsS145.set_1 | refine IsS145.far ?_ NB267_261.out _ | refine IsS145.far ?_ NB267_264.out _) | exact HI267.out)) (by (with_reducible repeat (first | apply rA | apply rD | apply rE)); exact HO270.out) (by decide)) hk) (Kd.R_base ho0)) (fun _ h_ => h_.1)); have n3_ := AM (Kd.R_lower (Kd.R_new' ho0 (Kd.R_lt (by (with_reducible repeat (first | apply rA | apply rD | apply rE)); exact HO270.out))) (bZ (by repeat (first | (with_reducible first | exact HB.out | apply bA | apply bD | apply bE | refine below_set ?_ (IsS145.ge HI267.out) | refine below_set ?_ GE261.out | refine below_set ?_ GE264.out) | exact HB.out)))); have n4_ := AM (hb); have n5_ := AM (hi); clear BK261; clear BK264; clear HO270; clear HB; clear HI267; have BK261 := n0_; have BK264 := n1_; have HO270 := n2_; have HO275 := n3_; have HB := n4_; have HI267 := n5_; clear n0_ n1_ n2_ n3_ n4_ n5_; (try clear hb); (try clear hb2); (try clear hk); (try clear hi); (try clear ho0); obtain ⟨Ao25, co25, eo25⟩ := Kd.R_slice HO275.out; subst eo25) | ((with_reducible refine gate_callee (f := 18) rfl ?_); refine goesL_ (some 18) rfl rfl Tryd.func18 (by kernel_rfl) rfl #[.slice Ao25 t273.length co25] rfl (by (try simp only [List.map_toArray, List.map_cons, List.map_nil]); first | done | rfl | (simp only [List.length_drop, List.length_take]; rfl)) ?_; (with_reducible refine (spec_FramePut.calls k _ _ t273 t277 _ ?side1 ?side2 A7.out).mono ?_); (case side1 => repeat (first | exact (Kd.R_reads' HO275.out).2.2 | (with_reducible refine Kd.C_alloc ?_ _) | (with_reducible refine Kd.C_drewN ?_ _) | (with_reducible refine Kd.C_drew ?_))); (case side2 => exact (Kd.R_reads' HO275.out).2.1); rintro e w26 ⟨rfl, hb⟩; refine ⟨_, rfl, ?_⟩; have n0_ := AM (rB (by (with_reducible repeat (first | apply rA | apply rD | apply rE)); exact HO270.out) hb); have n1_ := AM (rB (by (with_reducible repeat (first | apply rA | apply rD | apply rE)); exact HO275.out) hb); have n2_ := AM (kB (g := gb261) (o := .cells #[.string (⟨#[]⟩ : ByteArray), .bool false] 34 (0, 0)) (by (with_reducible repeat (first | refine kD ?_ _ | refine kE ?_ | refine kA ?_ _)); exact BK261.out) hb); have n3_ := AM (kB (g := gb264) (o := .cells #[.string t262, .bool t263] 34 (0, 0)) (by (with_reducible repeat (first | refine kD ?_ _ | refine kE ?_ | refine kA ?_ _)); exact BK264.out) hb); have n4_ := AM (IsS145.below (by repeat (first | (with_reducible first | exact HI267.out | apply IsS145.alloc | apply IsS145.drewN | apply IsS145.drew | apply IsS145.set_1 | refine IsS145.far ?_ NB267_261.out _ | refine IsS145.far ?_ NB267_264.out _) | exact HI267.out)) hb); have n5_ := AM (bS (by repeat (first | (with_reducible first | exact HB.out | apply bA | apply bD | apply bE | refine below_set ?_ (IsS145.ge HI267.out) | refine below_set ?_ GE261.out | refine below_set ?_ GE264.out) | exact HB.out)) hb); clear HO270; clear HO275; clear BK261; clear BK264; clear HI267; clear HB; have HO270 := n0_; have HO275 := n1_; have BK261 := n2_; have BK264 := n3_; have HI267 := n4_; have HB := n5_; clear n0_ n1_ n2_ n3_ n4_ n5_; (try clear hb); (try clear hb2); (try clear hk); (try clear hi); have hnb27 := NB264_267.out; have hnc27 := NB267_264.out; have hcz28_0 : w26.cell? ⟨gb264, 0, none⟩ = some (.string t262) := (kC BK264.out 0).trans rfl; have hcz28_1 : w26.cell? ⟨gb264, 1, none⟩ = some (.bool t263) := (kC BK264.out 1).trans rfl; have hfz28_0 := blk_frozen BK264.out 0; have hfz28_1 := blk_frozen BK264.out 1) | ((with_reducible refine gate_callee (f := 96) rfl ?_); refine goesL_ (some 25) rfl rfl Tryd.func96 (by kernel_rfl) rfl #[.string (t262 ++ (t272 ++ t277))] rfl (by (try simp only [List.map_toArray, List.map_cons, List.map_nil]); first | done | rfl | (simp only [List.length_drop, List.length_take]; rfl)) ?_; (with_reducible refine (spec_FrameGet.calls k (t262 ++ (t272 ++ t277)) t278 t279 _ A10.out).mono ?_); rintro e w29 ⟨v280, rfl, ho0, hb⟩; refine ⟨_, rfl, ?_⟩; have n0_ := AM (Kd.R_elder' (by (with_reducible repeat (first | apply rA | apply rD | apply rE)); exact HO270.out) (Kd.R_base ho0) hb); have n1_ := AM (Kd.R_elder' (by (with_reducible repeat (first | apply rA | apply rD | apply rE)); exact HO275.out) (Kd.R_base ho0) hb); have n2_ := AM (Kd.R_lower (Kd.R_new' (Kd.R_new' ho0 (Kd.R_lt (by (with_reducible repeat (first | apply rA | apply rD | apply rE)); exact HO270.out))) (Kd.R_lt (by (with_reducible repeat (first | apply rA | apply rD | apply rE)); exact HO275.out))) (bZ (by repeat (first | (with_reducible first | exact HB.out | apply bA | apply bD | apply bE | refine below_set ?_ (IsS145.ge HI267.out) | refine below_set ?_ GE261.out | refine below_set ?_ GE264.out) | exact HB.out)))); have n3_ := AM (kB (g := gb261) (o := .cells #[.string (⟨#[]⟩ : ByteArray), .bool false] 34 (0, 0)) (by (with_reducible repeat (first | refine kD ?_ _ | refine kE ?_ | refine kA ?_ _)); exact BK261.out) hb); have n4_ := AM (kB (g := gb264) (o := .cells #[.string t262, .bool t263] 34 (0, 0)) (by (with_reducible repeat (first | refine kD ?_ _ | refine kE ?_ | refine kA ?_ _)); exact BK264.out) hb); have n5_ := AM (IsS145.below (by repeat (first | (with_reducible first | exact HI267.out | apply IsS145.alloc | apply IsS145.drewN | apply IsS145.drew | apply IsS145.set_1 | refine IsS145.far ?_ NB267_261.out _ | refine IsS145.far ?_ NB267_264.out _) | exact HI267.out)) hb); have n6_ := AM (bS (by repeat (first | (with_reducible first | exact HB.out | apply bA | apply bD | apply bE | refine below_set ?_ (IsS145.ge HI267.out) | refine below_set ?_ GE261.out | refine below_set ?_ GE264.out) | exact HB.out)) hb); clear HO270; clear HO275; clear BK261; clear BK264; clear HI267; clear HB; have HO270 := n0_; have HO275 := n1_; have HO281 := n2_; have BK261 := n3_; have BK264 := n4_; have HI267 := n5_; have HB := n6_; clear n0_ n1_ n2_ n3_ n4_ n5_ n6_; (try clear hb); (try clear hb2); (try clear hk); (try clear hi); (try clear ho0)) | (go_at_call 97; (with_reducible refine (spec_l1Rd_pick.calls k g267 t265 t276 2 t282 t283 w _ ?side1 ?side2 A12.out).mono ?_); (case side1 => repeat (first | (with_reducible first | exact HI267.out | apply IsS145.alloc | apply IsS145.drewN | apply IsS145.drew | apply IsS145.set_1 | refine IsS145.far ?_ NB267_261.out _ | refine IsS145.far ?_ NB267_264.out _) | exact HI267.out)); (case side2 => repeat (first | (with_reducible first | exact HB.out | apply bA | apply bD | apply bE | refine below_set ?_ (IsS145.ge HI267.out) | refine below_set ?_ GE261.out | refine below_set ?_ GE264.out) | exact HB.out)); rintro e w30 ⟨rfl, hi, hb, hk⟩; have n0_ := AM (KeepBut.blk hk (g' := gb261) (o := .cells #[.string (⟨#[]⟩ : ByteArray), .bool false] 34 (0, 0)) (by (with_reducible repeat (first | refine kD ?_ _ | refine kE ?_ | refine kA ?_ _)); exact BK261.out) NB261_267.out (by simp)); have n1_ := AM (KeepBut.blk hk (g' := gb264) (o := .cells #[.string t262, .bool t263] 34 (0, 0)) (by (with_reducible repeat (first | refine kD ?_ _ | refine kE ?_ | refine kA ?_ _)); exact BK264.out) NB264_267.out (by simp)); have n2_ := AM (rM (Kd.R_keep (IsS145.apart (show IsS145 w _ g267 t265 t276 from by repeat (first | (with_reducible first | exact HI267.out | apply IsS145.alloc | apply IsS145.drewN | apply IsS145.drew | apply IsS145.set_1 | refine IsS145.far ?_ NB267_261.out _ | refine IsS145.far ?_ NB267_264.out _) | exact HI267.out)) (by (with_reducible repeat (first | apply rA | apply rD | apply rE)); exact HO270.out) (by decide)) hk (fun _ h => h.2)) (fun _ h => h.1)); have n3_ := AM (rM (Kd.R_keep (IsS145.apart (show IsS145 w _ g267 t265 t276 from by repeat (first | (with_reducible first | exact HI267.out | apply IsS145.alloc | apply IsS145.drewN | apply IsS145.drew | apply IsS145.set_1 | refine IsS145.far ?_ NB267_261.out _ | refine IsS145.far ?_ NB267_264.out _) | exact HI267.out)) (by (with_reducible repeat (first | apply rA | apply rD | apply rE)); exact HO275.out) (by decide)) hk (fun _ h => h.2)) (fun _ h => h.1)); have n4_ := AM (rM (Kd.R_keep (IsS145.apart (show IsS145 w _ g267 t265 t276 from by repeat (first | (with_reducible first | exact HI267.out | apply IsS145.alloc | apply IsS145.drewN | apply IsS145.drew | apply IsS145.set_1 | refine IsS145.far ?_ NB267_261.out _ | refine IsS145.far ?_ NB267_264.out _) | exact HI267.out)) (by (with_reducible repeat (first | apply rA | apply rD | apply rE)); exact HO281.out) (by decide)) hk (fun _ h => h.2)) (fun _ h => h.1)); have n5_ := AM (hb); have n6_ := AM (hi); clear BK261; clear BK264; clear HO270; clear HO275; clear HO281; clear HB; clear HI267; have BK261 := n0_; have BK264 := n1_; have HO270 := n2_; have HO275 := n3_; have HO281 := n4_; have HB := n5_; have HI267 := n6_; clear n0_ n1_ n2_ n3_ n4_ n5_ n6_; (try clear hb); (try clear hb2); (try clear hk); (try clear hi); have hcz31_0 : w30.cell? ⟨gb264, 0, none⟩ = some (.string t262) := (kC BK264.out 0).trans rfl; have hcz31_1 : w30.cell? ⟨gb264, 1, none⟩ = some (.bool t263) := (kC BK264.out 1).trans rfl; have hfz31_0 := blk_frozen BK264.out 0; have hfz31_1 := blk_frozen BK264.out 1))
     have n0_ : Aside0 (Kd.R Kd.string 9 ((w30.setCell ⟨gb264, 0, none⟩ (.string (⟨#[]⟩ : ByteArray))).setCell ⟨gb264, 1, none⟩ (.bool false)) w.heap.size (fun k_ => some k_ ≠ (.slice Ao25 t273.length co25 : Value).ownBlock ∧ some k_ ≠ (v280 : Value).ownBlock) (.slice Ao22 t268.length co22) t268) := ⟨by (with_reducible repeat (first | apply rA | apply rD | apply rE)); exact rM (Kd.R_far (p := ⟨gb264, 1, none⟩) (Kd.R_far (p := ⟨gb264, 0, none⟩) (Kd.R_types HO270.out BK264.out (by decide)) (fun _ hk => hk.2) (.string (⟨#[]⟩ : ByteArray))) (fun _ hk => hk.2) (.bool false)) (fun _ hk => ⟨hk.1.1.2, hk.1.2⟩)⟩
     have n1_ : Aside0 (Kd.R Kd.string 9 ((w30.setCell ⟨gb264, 0, none⟩ (.string (⟨#[]⟩ : ByteArray))).setCell ⟨gb264, 1, none⟩ (.bool false)) w.heap.size (fun k_ => some k_ ≠ (.slice Ao22 t268.length co22 : Value).ownBlock ∧ some k_ ≠ (v280 : Value).ownBlock) (.slice Ao25 t273.length co25) t273) := ⟨by (with_reducible repeat (first | apply rA | apply rD | apply rE)); exact rM (Kd.R_far (p := ⟨gb264, 1, none⟩) (Kd.R_far (p := ⟨gb264, 0, none⟩) (Kd.R_types HO275.out BK264.out (by decide)) (fun _ hk => hk.2) (.string (⟨#[]⟩ : ByteArray))) (fun _ hk => hk.2) (.bool false)) (fun _ hk => ⟨hk.1.1.2, hk.1.2⟩)⟩
     have n2_ : Aside0 (Kd.R Kd.string 9 ((w30.setCell ⟨gb264, 0, none⟩ (.string (⟨#[]⟩ : ByteArray))).setCell ⟨gb264, 1, none⟩ (.bool false)) w.heap.size (fun k_ => some k_ ≠ (.slice Ao22 t268.length co22 : Value).ownBlock ∧ some k_ ≠ (.slice Ao25 t273.length co25 : Value).ownBlock) v280 t278) := ⟨by (with_reducible repeat (first | apply rA | apply rD | apply rE)); exact rM (Kd.R_far (p := ⟨gb264, 1, none⟩) (Kd.R_far (p := ⟨gb264, 0, none⟩) (Kd.R_types HO281.out BK264.out (by decide)) (fun _ hk => hk.2) (.string (⟨#[]⟩ : ByteArray))) (fun _ hk => hk.2) (.bool false)) (fun _ hk => ⟨hk.1.1.2, hk.1.2⟩)⟩
     have n3_ : Aside0 (((w30.setCell ⟨gb264, 0, none⟩ (.string (⟨#[]⟩ : ByteArray))).setCell ⟨gb264, 1, none⟩ (.bool false)).heap[gb261]? = some (.cells #[.string (⟨#[]⟩ : ByteArray), .bool false] 34 (0, 0))) := ⟨by (with_reducible repeat (first | refine kD ?_ _ | refine kE ?_ | refine kA ?_ _)); refine blk_far ?_ NB261_264.out _; (with_reducible repeat (first | refine kD ?_ _ | refine kE ?_ | refine kA ?_ _)); refine blk_far ?_ NB261_264.out _; (with_reducible repeat (first | refine kD ?_ _ | refine kE ?_ | refine kA ?_ _)); exact BK261.out⟩
     have n4_ : Aside0 (((w30.setCell ⟨gb264, 0, none⟩ (.string (⟨#[]⟩ : ByteArray))).setCell ⟨gb264, 1, none⟩ (.bool false)).heap[gb264]? = some (.cells #[.string (⟨#[]⟩ : ByteArray), .bool false] 34 (0, 0))) := ⟨by (with_reducible repeat (first | refine kD ?_ _ | refine kE ?_ | refine kA ?_ _)); refine blk_put (cs := #[.string (⟨#[]⟩ : ByteArray), .bool t263]) ?_ 1 _ rfl; (with_reducible repeat (first | refine kD ?_ _ | refine kE ?_ | refine kA ?_ _)); refine blk_put (cs := #[.string t262, .bool t263]) ?_ 0 _ rfl; (with_reducible repeat (first | refine kD ?_ _ | refine kE ?_ | refine kA ?_ _)); exact BK264.out⟩
     have n5_ : Aside0 (IsS145 w ((w30.setCell ⟨gb264, 0, none⟩ (.string (⟨#[]⟩ : ByteArray))).setCell ⟨gb264, 1, none⟩ (.bool false)) g267 t265 t283) := ⟨by repeat (first | (with_reducible first | exact HI267.out | apply IsS145.alloc | apply IsS145.drewN | apply IsS145.drew | apply IsS145.set_1 | refine IsS145.far ?_ NB267_261.out _ | refine IsS145.far ?_ NB267_264.out _) | exact HI267.out)⟩
     have n6_ : Aside0 (Below w.heap.size w ((w30.setCell ⟨gb264, 0, none⟩ (.string (⟨#[]⟩ : ByteArray))).setCell ⟨gb264, 1, none⟩ (.bool false))) := ⟨by repeat (first | (with_reducible first | exact HB.out | apply bA | apply bD | apply bE | refine below_set ?_ (IsS145.ge HI267.out) | refine below_set ?_ GE261.out | refine below_set ?_ GE264.out) | exact HB.out)⟩
     (try clear HO270)
     (try clear HO275)
     (try clear HO281)
     (try clear BK261)
     (try clear BK264)
     (try clear HI267)
     (try clear HB)
     generalize ((w30.setCell ⟨gb264, 0, none⟩ (.string (⟨#[]⟩ : ByteArray))).setCell ⟨gb264, 1, none⟩ (.bool false)) = w32 at n0_ n1_ n2_ n3_ n4_ n5_ n6_ ⊢
     have HO270 := n0_
     have HO275 := n1_
     have HO281 := n2_
     have BK261 := n3_
     have BK264 := n4_
     have HI267 := n5_
     have HB := n6_
     clear n0_ n1_ n2_ n3_ n4_ n5_ n6_
     have n0_ := AM (rE HO270.out)
     have n1_ := AM (rE HO275.out)
     have n2_ := AM (rE HO281.out)
     have n3_ := AM (kE BK261.out)
     have n4_ := AM (kE BK264.out)
     have n5_ := AM (IsS145.drew HI267.out)
     have n6_ := AM (bE HB.out)
     clear HO270
     clear HO275
     clear HO281
     clear BK261
     clear BK264
     clear HI267
     clear HB
     have HO270 := n0_
     have HO275 := n1_
     have HO281 := n2_
     have BK261 := n3_
     have BK264 := n4_
     have HI267 := n5_
     have HB := n6_
     clear n0_ n1_ n2_ n3_ n4_ n5_ n6_
     refine start_ (n := 6) (S := fun w' => w'.cell? ⟨gb264, 0, none⟩ = some (.string (⟨#[]⟩ : ByteArray)) ∧ w'.cell? ⟨gb264, 1, none⟩ = some (.bool false)) (ds := []) #[false, false, false, false, false, false] (by kernel_rfl) rfl rfl ⟨(kC BK264.out 0).trans rfl, (kC BK264.out 1).trans rfl⟩ (fun hHeld => ?_)
     generalize w32.drew = w33 at HO270 HO275 HO281 BK261 BK264 HI267 HB hHeld ⊢
     refine pure_ (i := 1) (N := some 37) (v := ?_) (a' := ?_) #[false, true, false, false, false, false] rfl rfl (by kernel_rfl) (fun _ _ _ h => h) (Or.inl ⟨by rfl, ?_⟩) ?_ ?_
     rotate_left
     ·intro w'
      go_simp
      with_reducible rfl
     rotate_left
     ·simp only [Act.put, lA, lZ, lS, i64_w, i32_w]
      rfl
     refine pure_ (i := 2) (N := some 38) (v := ?_) (a' := ?_) #[false, true, true, false, false, false] rfl rfl (by kernel_rfl) (fun _ _ _ h => h) (Or.inl ⟨by rfl, ?_⟩) ?_ ?_
     rotate_left
     ·intro w'
      go_simp
      with_reducible rfl
     rotate_left
     ·simp only [Act.put, lA, lZ, lS, i64_w, i32_w]
      rfl
     refine take_ (i := 0) (N := some 36) (v := ?_) (a' := ?_) #[true, true, true, false, false, false] rfl rfl (by kernel_rfl) (fun _ _ _ h => h) (Or.inl ⟨by rfl, ?_⟩) hHeld ?_ ?_
     rotate_left
     ·rintro w' ⟨s0, s1⟩
      go_simp
      with_reducible rfl
     rotate_left
     ·simp only [Act.put, lA, lZ, lS, i64_w, i32_w]
      rfl
     refine one_ (i := 3) (N := some 39) #[true, true, true, true, false, false] rfl rfl (by kernel_rfl) (by decide) (fun K hK => ?_)
     refine goes_ Tryd.func98 (by kernel_rfl) rfl #[.pointer (some ⟨g267, 0, none⟩), .string (t272 ++ t277)] (by rfl) rfl rfl (by (try simp only [List.map_toArray, List.map_cons, List.map_nil]); first | done | rfl | (simp only [List.length_drop, List.length_take]; rfl)) ?_
     with_reducible refine (spec_l13Cut.calls k g267 t265 t283 (t272 ++ t277) t284 t285 w _ ?side1 ?side2 A14.out).mono ?_
     (case side1 => repeat (first | (with_reducible first | exact HI267.out | apply IsS145.alloc | apply IsS145.drewN | apply IsS145.drew | apply IsS145.set_1 | refine IsS145.far ?_ NB267_261.out _ | refine IsS145.far ?_ NB267_264.out _) | exact HI267.out))
     (case side2 => repeat (first | (with_reducible first | exact HB.out | apply bA | apply bD | apply bE | refine below_set ?_ (IsS145.ge HI267.out) | refine below_set ?_ GE261.out | refine below_set ?_ GE264.out) | exact HB.out))
     rintro e w34 ⟨rfl, hi, hb, hk⟩
     refine ⟨_, rfl, ?_⟩
     have n0_ := AM (KeepBut.blk hk (g' := gb261) (o := .cells #[.string (⟨#[]⟩ : ByteArray), .bool false] 34 (0, 0)) (by (with_reducible repeat (first | refine kD ?_ _ | refine kE ?_ | refine kA ?_ _)); exact BK261.out) NB261_267.out (by simp))
     have n1_ := AM (KeepBut.blk hk (g' := gb264) (o := .cells #[.string (⟨#[]⟩ : ByteArray), .bool false] 34 (0, 0)) (by (with_reducible repeat (first | refine kD ?_ _ | refine kE ?_ | refine kA ?_ _)); exact BK264.out) NB264_267.out (by simp))
     have n2_ := AM (rM (Kd.R_keep (IsS145.apart (show IsS145 w _ g267 t265 t283 from by repeat (first | (with_reducible first | exact HI267.out | apply IsS145.alloc | apply IsS145.drewN | apply IsS145.drew | apply IsS145.set_1 | refine IsS145.far ?_ NB267_261.out _ | refine IsS145.far ?_ NB267_264.out _) | exact HI267.out)) (by (with_reducible repeat (first | apply rA | apply rD | apply rE)); exact HO270.out) (by decide)) hk (fun _ h => h.2)) (fun _ h => h.1))
     have n3_ := AM (rM (Kd.R_keep (IsS145.apart (show IsS145 w _ g267 t265 t283 from by repeat (first | (with_reducible first | exact HI267.out | apply IsS145.alloc | apply IsS145.drewN | apply IsS145.drew | apply IsS145.set_1 | refine IsS145.far ?_ NB267_261.out _ | refine IsS145.far ?_ NB267_264.out _) | exact HI267.out)) (by (with_reducible repeat (first | apply rA | apply rD | apply rE)); exact HO275.out) (by decide)) hk (fun _ h => h.2)) (fun _ h => h.1))
     have n4_ := AM (rM (Kd.R_keep (IsS145.apart (show IsS145 w _ g267 t265 t283 from by repeat (first | (with_reducible first | exact HI267.out | apply IsS145.alloc | apply IsS145.drewN | apply IsS145.drew | apply IsS145.set_1 | refine IsS145.far ?_ NB267_261.out _ | refine IsS145.far ?_ NB267_264.out _) | exact HI267.out)) (by (with_reducible repeat (first | apply rA | apply rD | apply rE)); exact HO281.out) (by decide)) hk (fun _ h => h.2)) (fun _ h => h.1))
     have n5_ := AM (hb)
     have n6_ := AM (hi)
     clear BK261
     clear BK264
     clear HO270
     clear HO275
     clear HO281
     clear HB
     clear HI267
     have BK261 := n0_
     have BK264 := n1_
     have HO270 := n2_
     have HO275 := n3_
     have HO281 := n4_
     have HB := n5_
     have HI267 := n6_
     clear n0_ n1_ n2_ n3_ n4_ n5_ n6_
     (try clear hb)
     (try clear hb2)
     (try clear hk)
     (try clear hi)
     refine hK.out _ _ ⟨(kC BK264.out 0).trans rfl, (kC BK264.out 1).trans rfl⟩ (fun hHeld => ?_)
     clear hK K
     refine norm_ (a' := ?_) ?_ ?_
     rotate_left
     ·show Act.put _ (some 39) _ = _
      simp only [Act.put, lA, lZ, lS, i64_w, i32_w]
      rfl
     refine one_ (i := 4) (N := none) #[true, true, true, true, true, false] rfl rfl (by kernel_rfl) (by decide) (fun K hK => ?_)
     have hs35 : w34.cell? ⟨gb261, 0, none⟩ = some (.string (⟨#[]⟩ : ByteArray)) := (kC BK261.out 0).trans rfl
     have hfs35 := blk_frozen BK261.out 0
     have hns35_1 := NB264_261.out
     have hms35_1 := NB261_264.out
     have hs36 : w34.cell? ⟨gb261, 1, none⟩ = some (.bool false) := (kC BK261.out 1).trans rfl
     have hfs36 := blk_frozen BK261.out 1
     have hns36_1 := NB264_261.out
     have hms36_1 := NB261_264.out
     refine skip_ (w1 := ?_) (by rfl) rfl ?_ ?_
     rotate_left
     ·go_simp
      rfl
     refine hK.out _ _ ⟨((cell_far (p := ⟨gb261, _, none⟩) NB264_261.out _).trans (((cell_far (p := ⟨gb261, _, none⟩) NB264_261.out _).trans (hHeld.1)))), ((cell_far (p := ⟨gb261, _, none⟩) NB264_261.out _).trans (((cell_far (p := ⟨gb261, _, none⟩) NB264_261.out _).trans (hHeld.2))))⟩ (fun hHeld => ?_)
     clear hK K
     refine pure_ (i := 5) (N := some 3) (v := ?_) (a' := ?_) #[true, true, true, true, true, true] rfl rfl (by kernel_rfl) (fun _ _ _ h => h) (Or.inl ⟨by rfl, ?_⟩) ?_ ?_
     rotate_left
     ·intro w'
      go_simp
      with_reducible rfl
     rotate_left
     ·simp only [Act.put, lA, lZ, lS, i64_w, i32_w]
      rfl
     refine done_ (by kernel_rfl) ?_
     try go_wp2
     refine bodyPost_ret (results_ct rfl _ _ gb261 34 #[.string (⟨#[]⟩ : ByteArray), .bool false] (0, 0) _ rfl (by (with_reducible repeat (first | refine kD ?_ _ | refine kE ?_ | refine kA ?_ _)); refine blk_put (cs := #[.string (⟨#[]⟩ : ByteArray), .bool false]) ?_ 1 _ rfl; (with_reducible repeat (first | refine kD ?_ _ | refine kE ?_ | refine kA ?_ _)); refine blk_put (cs := #[.string (⟨#[]⟩ : ByteArray), .bool false]) ?_ 0 _ rfl; (with_reducible repeat (first | refine kD ?_ _ | refine kE ?_ | refine kA ?_ _)); exact BK261.out) Tryd.underlying34 rfl (by kernel_rfl)) rfl ?_
     exact ⟨by first | rfl | (simp [errW_none, errW_some] <;> rfl) | (simp [*, errW_none, errW_some] <;> rfl), by repeat (first | (with_reducible first | exact HB.out | apply bA | apply bD | apply bE | refine below_set ?_ (IsS145.ge HI267.out) | refine below_set ?_ GE261.out | refine below_set ?_ GE264.out) | exact HB.out)⟩
    ·rw [if_neg c13] at H
     have c13b0 : (t282 == 0) = false := beq_eq_false_iff_ne.mpr c13
     have c13b1 : (t282 != 0) = true := bne_iff_ne.mpr c13
     replace H := Option.bind_eq_some_iff.mp H
     obtain ⟨⟨t286, t287⟩, A370, H⟩ := H
     replace H : (some (t262, t263, t286)) = some (r1, r2, r3) := H
     have A37 := AM A370
     clear A370
     simp only [Option.some.injEq, Prod.mk.injEq] at H
     obtain ⟨rfl, rfl, rfl⟩ := H
     go_enter Tryd.func33, Tryd.ntmps33
     try go_wp2_with (first | ((with_reducible refine gate_dst (N := 2) rfl ?_); refine box_event ?hg (N := 2) ?hd (cs := #[.string (⟨#[]⟩ : ByteArray), .bool false]) (t := 34) ?hr ?_; (case hd => rfl); (case hg => rfl); (case hr => first | (go_simp; done) | (go_simp; rfl)); intro gb261 hg w38 hbox hb; have n0_ := AM (bS (by repeat (first | (with_reducible first | exact HB.out | apply bA | apply bD | apply bE) | exact HB.out)) hb); have n1_ := AM (hbox); have n2_ := AM ((by rw [hg]; exact (bZ (by repeat (first | (with_reducible first | exact HB.out | apply bA | apply bD | apply bE) | exact HB.out))) : w.heap.size ≤ gb261)); have n3_ := AM ((by rw [hg]; exact (bZ (by repeat (first | (with_reducible first | exact HB.out | apply bA | apply bD | apply bE) | exact HB.out))) : w.heap.size ≤ gb261)); clear HB; have HB := n0_; have BK261 := n1_; have GW261 := n2_; have GE261 := n3_; clear n0_ n1_ n2_ n3_; clear hb hbox hg) | ((with_reducible refine gate_callee (f := 94) rfl ?_); refine goesL_ (some 10) rfl rfl Tryd.func94 (by kernel_rfl) rfl #[.slice A0 l0.length c0] rfl (by (try simp only [List.map_toArray, List.map_cons, List.map_nil]); first | done | rfl | (simp only [List.length_drop, List.length_take]; rfl)) ?_; (with_reducible refine (spec_DrawPipeOk.calls k _ _ l0 t262 t263 _ ?side1 ?side2 A2.out).mono ?_); (case side1 => repeat (first | exact (Kd.C_below HR0.out HB.out) | (with_reducible refine Kd.C_alloc ?_ _) | (with_reducible refine Kd.C_drewN ?_ _) | (with_reducible refine Kd.C_drew ?_))); (case side2 => exact HC0.out); rintro e w39 ⟨rfl, hb⟩; refine ⟨_, rfl, ?_⟩; have n0_ := AM (kB (g := gb261) (o := .cells #[.string (⟨#[]⟩ : ByteArray), .bool false] 34 (0, 0)) (by (with_reducible repeat (first | refine kD ?_ _ | refine kE ?_ | refine kA ?_ _)); exact BK261.out) hb); have n1_ := AM (bS (by repeat (first | (with_reducible first | exact HB.out | apply bA | apply bD | apply bE | refine below_set ?_ GE261.out) | exact HB.out)) hb); clear BK261; clear HB; have BK261 := n0_; have HB := n1_; clear n0_ n1_; (try clear hb); (try clear hb2); (try clear hk); (try clear hi)) | ((with_reducible refine gate_dst (N := 4) rfl ?_); refine box_event ?hg (N := 4) ?hd (cs := #[.string (⟨#[]⟩ : ByteArray), .bool false]) (t := 34) ?hr ?_; (case hd => rfl); (case hg => rfl); (case hr => first | (go_simp; done) | (go_simp; rfl)); intro gb264 hg w40 hbox hb; have n0_ := AM (kB (g := gb261) (o := .cells #[.string (⟨#[]⟩ : ByteArray), .bool false] 34 (0, 0)) (by (with_reducible repeat (first | refine kD ?_ _ | refine kE ?_ | refine kA ?_ _)); exact BK261.out) hb); have n1_ := AM (bS (by repeat (first | (with_reducible first | exact HB.out | apply bA | apply bD | apply bE | refine below_set ?_ GE261.out) | exact HB.out)) hb); have n2_ := AM (hbox); have n3_ := AM ((by rw [hg]; exact (bZ (by repeat (first | (with_reducible first | exact HB.out | apply bA | apply bD | apply bE | refine below_set ?_ GE261.out) | exact HB.out))) : w.heap.size ≤ gb264)); have n4_ := AM ((by rw [hg]; exact (bZ (by repeat (first | (with_reducible first | exact HB.out | apply bA | apply bD | apply bE | refine below_set ?_ GE261.out) | exact HB.out))) : w.heap.size ≤ gb264)); have n5_ := AM ((by rw [hg]; exact Nat.ne_of_lt (blk_lt (g := gb261) (o := .cells #[.string (⟨#[]⟩ : ByteArray), .bool false] 34 (0, 0)) (by (with_reducible repeat (first | refine kD ?_ _ | refine kE ?_ | refine kA ?_ _)); exact BK261.out)) : gb261 ≠ gb264)); have n6_ := AM ((by rw [hg]; exact Nat.ne_of_gt (blk_lt (g := gb261) (o := .cells #[.string (⟨#[]⟩ : ByteArray), .bool false] 34 (0, 0)) (by (with_reducible repeat (first | refine kD ?_ _ | refine kE ?_ | refine kA ?_ _)); exact BK261.out)) : gb264 ≠ gb261)); clear BK261; clear HB; have BK261 := n0_; have HB := n1_; have BK264 := n2_; have GW264 := n3_; have GE264 := n4_; have NB261_264 := n5_; have NB264_261 := n6_; clear n0_ n1_ n2_ n3_ n4_ n5_ n6_; clear hb hbox hg; have hnb41 := NB264_261.out; have hnc41 := NB261_264.out; have hcz42_0 : w40.cell? ⟨gb264, 0, none⟩ = some (.string (⟨#[]⟩ : ByteArray)) := (kC BK264.out 0).trans rfl; have hcz42_1 : w40.cell? ⟨gb264, 1, none⟩ = some (.bool false) := (kC BK264.out 1).trans rfl; have hfz42_0 := blk_frozen BK264.out 0; have hfz42_1 := blk_frozen BK264.out 1) | ((with_reducible refine gate_callee (f := 64) rfl ?_); refine goesL_ (some 12) rfl rfl Tryd.func64 (by kernel_rfl) rfl #[.slice A0 l0.length c0] rfl (by (try simp only [List.map_toArray, List.map_cons, List.map_nil]); first | done | rfl | (simp only [List.length_drop, List.length_take]; rfl)) ?_; (with_reducible refine (spec_l1Open.calls _ _ l0 t265 t266 w _ ?side1 ?side2 ?side3 A3.out).mono ?_); (case side1 => repeat (first | (with_reducible first | exact HB.out | apply bA | apply bD | apply bE | refine below_set ?_ GE261.out | refine below_set ?_ GE264.out) | exact HB.out)); (case side2 => exact HR0.out); (case side3 => exact HC0.out); rintro e w43 ⟨g267, rfl, hi, hb, hb2⟩; refine ⟨_, rfl, ?_⟩; have n0_ := AM (kB (g := gb261) (o := .cells #[.string (⟨#[]⟩ : ByteArray), .bool false] 34 (0, 0)) (by (with_reducible repeat (first | refine kD ?_ _ | refine kE ?_ | refine kA ?_ _)); refine blk_far ?_ NB261_264.out _; (with_reducible repeat (first | refine kD ?_ _ | refine kE ?_ | refine kA ?_ _)); refine blk_far ?_ NB261_264.out _; (with_reducible repeat (first | refine kD ?_ _ | refine kE ?_ | refine kA ?_ _)); exact BK261.out) hb2); have n1_ := AM (kB (g := gb264) (o := .cells #[.string t262, .bool t263] 34 (0, 0)) (by (with_reducible repeat (first | refine kD ?_ _ | refine kE ?_ | refine kA ?_ _)); refine blk_put (cs := #[.string t262, .bool false]) ?_ 1 _ rfl; (with_reducible repeat (first | refine kD ?_ _ | refine kE ?_ | refine kA ?_ _)); refine blk_put (cs := #[.string (⟨#[]⟩ : ByteArray), .bool false]) ?_ 0 _ rfl; (with_reducible repeat (first | refine kD ?_ _ | refine kE ?_ | refine kA ?_ _)); exact BK264.out) hb2); have n2_ := AM (hb); have n3_ := AM (hi); have n4_ := AM (IsS145.ne_blk hi (kB (g := gb261) (o := .cells #[.string (⟨#[]⟩ : ByteArray), .bool false] 34 (0, 0)) (by (with_reducible repeat (first | refine kD ?_ _ | refine kE ?_ | refine kA ?_ _)); refine blk_far ?_ NB261_264.out _; (with_reducible repeat (first | refine kD ?_ _ | refine kE ?_ | refine kA ?_ _)); refine blk_far ?_ NB261_264.out _; (with_reducible repeat (first | refine kD ?_ _ | refine kE ?_ | refine kA ?_ _)); exact BK261.out) hb2) (by decide)); have n5_ := AM (Ne.symm (IsS145.ne_blk hi (kB (g := gb261) (o := .cells #[.string (⟨#[]⟩ : ByteArray), .bool false] 34 (0, 0)) (by (with_reducible repeat (first | refine kD ?_ _ | refine kE ?_ | refine kA ?_ _)); refine blk_far ?_ NB261_264.out _; (with_reducible repeat (first | refine kD ?_ _ | refine kE ?_ | refine kA ?_ _)); refine blk_far ?_ NB261_264.out _; (with_reducible repeat (first | refine kD ?_ _ | refine kE ?_ | refine kA ?_ _)); exact BK261.out) hb2) (by decide))); have n6_ := AM (IsS145.ne_blk hi (kB (g := gb264) (o := .cells #[.string t262, .bool t263] 34 (0, 0)) (by (with_reducible repeat (first | refine kD ?_ _ | refine kE ?_ | refine kA ?_ _)); refine blk_put (cs := #[.string t262, .bool false]) ?_ 1 _ rfl; (with_reducible repeat (first | refine kD ?_ _ | refine kE ?_ | refine kA ?_ _)); refine blk_put (cs := #[.string (⟨#[]⟩ : ByteArray), .bool false]) ?_ 0 _ rfl; (with_reducible repeat (first | refine kD ?_ _ | refine kE ?_ | refine kA ?_ _)); exact BK264.out) hb2) (by decide)); have n7_ := AM (Ne.symm (IsS145.ne_blk hi (kB (g := gb264) (o := .cells #[.string t262, .bool t263] 34 (0, 0)) (by (with_reducible repeat (first | refine kD ?_ _ | refine kE ?_ | refine kA ?_ _)); refine blk_put (cs := #[.string t262, .bool false]) ?_ 1 _ rfl; (with_reducible repeat (first | refine kD ?_ _ | refine kE ?_ | refine kA ?_ _)); refine blk_put (cs := #[.string (⟨#[]⟩ : ByteArray), .bool false]) ?_ 0 _ rfl; (with_reducible repeat (first | refine kD ?_ _ | refine kE ?_ | refine kA ?_ _)); exact BK264.out) hb2) (by decide))); clear BK261; clear BK264; clear HB; have BK261 := n0_; have BK264 := n1_; have HB := n2_; have HI267 := n3_; have NB267_261 := n4_; have NB261_267 := n5_; have NB267_264 := n6_; have NB264_267 := n7_; clear n0_ n1_ n2_ n3_ n4_ n5_ n6_ n7_; (try clear hb); (try clear hb2); (try clear hk); (try clear hi)) | ((with_reducible refine gate_callee (f := 95) rfl ?_); refine goesL_ (some 14) rfl rfl Tryd.func95 (by kernel_rfl) rfl #[.pointer (some ⟨g267, 0, none⟩)] rfl (by (try simp only [List.map_toArray, List.map_cons, List.map_nil]); first | done | rfl | (simp only [List.length_drop, List.length_take]; rfl)) ?_; (with_reducible refine (spec_l13Segs.calls k g267 t265 t266 t268 t271 w _ ?side1 ?side2 A4.out).mono ?_); (case side1 => repeat (first | (with_reducible first | exact HI267.out | apply IsS145.alloc | apply IsS145.drewN | apply IsS145.drew | apply IsS145.set_1 | refine IsS145.far ?_ NB267_261.out _ | refine IsS145.far ?_ NB267_264.out _) | exact HI267.out)); (case side2 => repeat (first | (with_reducible first | exact HB.out | apply bA | apply bD | apply bE | refine below_set ?_ (IsS145.ge HI267.out) | refine below_set ?_ GE261.out | refine below_set ?_ GE264.out) | exact HB.out)); rintro e w44 ⟨v269, rfl, ho0, hi, hb, hk⟩; refine ⟨_, rfl, ?_⟩; have n0_ := AM (KeepBut.blk hk (g' := gb261) (o := .cells #[.string (⟨#[]⟩ : ByteArray), .bool false] 34 (0, 0)) (by (with_reducible repeat (first | refine kD ?_ _ | refine kE ?_ | refine kA ?_ _)); exact BK261.out) NB261_267.out (by simp)); have n1_ := AM (KeepBut.blk hk (g' := gb264) (o := .cells #[.string t262, .bool t263] 34 (0, 0)) (by (with_reducible repeat (first | refine kD ?_ _ | refine kE ?_ | refine kA ?_ _)); exact BK264.out) NB264_267.out (by simp)); have n2_ := AM (Kd.R_lower ho0 (bZ (by repeat (first | (with_reducible first | exact HB.out | apply bA | apply bD | apply bE | refine below_set ?_ (IsS145.ge HI267.out) | refine below_set ?_ GE261.out | refine below_set ?_ GE264.out) | exact HB.out)))); have n3_ := AM (hb); have n4_ := AM (hi); clear BK261; clear BK264; clear HB; clear HI267; have BK261 := n0_; have BK264 := n1_; have HO270 := n2_; have HB := n3_; have HI267 := n4_; clear n0_ n1_ n2_ n3_ n4_; (try clear hb); (try clear hb2); (try clear hk); (try clear hi); (try clear ho0); obtain ⟨Ao45, co45, eo45⟩ := Kd.R_slice HO270.out; subst eo45) | ((with_reducible refine gate_callee (f := 18) rfl ?_); refine goesL_ (some 15) rfl rfl Tryd.func18 (by kernel_rfl) rfl #[.slice Ao45 t268.length co45] rfl (by (try simp only [List.map_toArray, List.map_cons, List.map_nil]); first | done | rfl | (simp only [List.length_drop, List.length_take]; rfl)) ?_; (with_reducible refine (spec_FramePut.calls k _ _ t268 t272 _ ?side1 ?side2 A5.out).mono ?_); (case side1 => repeat (first | exact (Kd.R_reads' HO270.out).2.2 | (with_reducible refine Kd.C_alloc ?_ _) | (with_reducible refine Kd.C_drewN ?_ _) | (with_reducible refine Kd.C_drew ?_))); (case side2 => exact (Kd.R_reads' HO270.out).2.1); rintro e w46 ⟨rfl, hb⟩; refine ⟨_, rfl, ?_⟩; have n0_ := AM (rB (by (with_reducible repeat (first | apply rA | apply rD | apply rE)); exact HO270.out) hb); have n1_ := AM (kB (g := gb261) (o := .cells #[.string (⟨#[]⟩ : ByteArray), .bool false] 34 (0, 0)) (by (with_reducible repeat (first | refine kD ?_ _ | refine kE ?_ | refine kA ?_ _)); exact BK261.out) hb); have n2_ := AM (kB (g := gb264) (o := .cells #[.string t262, .bool t263] 34 (0, 0)) (by (with_reducible repeat (first | refine kD ?_ _ | refine kE ?_ | refine kA ?_ _)); exact BK264.out) hb); have n3_ := AM (IsS145.below (by repeat (first | (with_reducible first | exact HI267.out | apply IsS145.alloc | apply IsS145.drewN | apply IsS145.drew | apply IsS145.set_1 | refine IsS145.far ?_ NB267_261.out _ | refine IsS145.far ?_ NB267_264.out _) | exact HI267.out)) hb); have n4_ := AM (bS (by repeat (first | (with_reducible first | exact HB.out | apply bA | apply bD | apply bE | refine below_set ?_ (IsS145.ge HI267.out) | refine below_set ?_ GE261.out | refine below_set ?_ GE264.out) | exact HB.out)) hb); clear HO270; clear BK261; clear BK264; clear HI267; clear HB; have HO270 := n0_; have BK261 := n1_; have BK264 := n2_; have HI267 := n3_; have HB := n4_; clear n0_ n1_ n2_ n3_ n4_; (try clear hb); (try clear hb2); (try clear hk); (try clear hi)) | ((with_reducible refine gate_callee (f := 95) rfl ?_); refine goesL_ (some 17) rfl rfl Tryd.func95 (by kernel_rfl) rfl #[.pointer (some ⟨g267, 0, none⟩)] rfl (by (try simp only [List.map_toArray, List.map_cons, List.map_nil]); first | done | rfl | (simp only [List.length_drop, List.length_take]; rfl)) ?_; (with_reducible refine (spec_l13Segs.calls k g267 t265 t271 t273 t276 w _ ?side1 ?side2 A6.out).mono ?_); (case side1 => repeat (first | (with_reducible first | exact HI267.out | apply IsS145.alloc | apply IsS145.drewN | apply IsS145.drew | apply IsS145.set_1 | refine IsS145.far ?_ NB267_261.out _ | refine IsS145.far ?_ NB267_264.out _) | exact HI267.out)); (case side2 => repeat (first | (with_reducible first | exact HB.out | apply bA | apply bD | apply bE | refine below_set ?_ (IsS145.ge HI267.out) | refine below_set ?_ GE261.out | refine below_set ?_ GE264.out) | exact HB.out)); rintro e w47 ⟨v274, rfl, ho0, hi, hb, hk⟩; refine ⟨_, rfl, ?_⟩; have n0_ := AM (KeepBut.blk hk (g' := gb261) (o := .cells #[.string (⟨#[]⟩ : ByteArray), .bool false] 34 (0, 0)) (by (with_reducible repeat (first | refine kD ?_ _ | refine kE ?_ | refine kA ?_ _)); exact BK261.out) NB261_267.out (by simp)); have n1_ := AM (KeepBut.blk hk (g' := gb264) (o := .cells #[.string t262, .bool t263] 34 (0, 0)) (by (with_reducible repeat (first | refine kD ?_ _ | refine kE ?_ | refine kA ?_ _)); exact BK264.out) NB264_267.out (by simp)); have n2_ := AM (rM (Kd.R_told (Kd.R_oldK (IsS145.apart (show IsS145 w _ g267 t265 t271 from by repeat (first | (with_reducible first | exact HI267.out | apply IsS145.alloc | apply IsS145.drewN | apply IsS145.drew | apply IsS145.set_1 | refine IsS145.far ?_ NB267_261.out _ | refine IsS145.far ?_ NB267_264.out _) | exact HI267.out)) (by (with_reducible repeat (first | apply rA | apply rD | apply rE)); exact HO270.out) (by decide)) hk) (Kd.R_base ho0)) (fun _ h_ => h_.1)); have n3_ := AM (Kd.R_lower (Kd.R_new' ho0 (Kd.R_lt (by (with_reducible repeat (first | apply rA | apply rD | apply rE)); exact HO270.out))) (bZ (by repeat (first | (with_reducible first | exact HB.out | apply bA | apply bD | apply bE | refine below_set ?_ (IsS145.ge HI267.out) | refine below_set ?_ GE261.out | refine below_set ?_ GE264.out) | exact HB.out)))); have n4_ := AM (hb); have n5_ := AM (hi); clear BK261; clear BK264; clear HO270; clear HB; clear HI267; have BK261 := n0_; have BK264 := n1_; have HO270 := n2_; have HO275 := n3_; have HB := n4_; have HI267 := n5_; clear n0_ n1_ n2_ n3_ n4_ n5_; (try clear hb); (try clear hb2); (try clear hk); (try clear hi); (try clear ho0); obtain ⟨Ao48, co48, eo48⟩ := Kd.R_slice HO275.out; subst eo48) | ((with_reducible refine gate_callee (f := 18) rfl ?_); refine goesL_ (some 18) rfl rfl Tryd.func18 (by kernel_rfl) rfl #[.slice Ao48 t273.length co48] rfl (by (try simp only [List.map_toArray, List.map_cons, List.map_nil]); first | done | rfl | (simp only [List.length_drop, List.length_take]; rfl)) ?_; (with_reducible refine (spec_FramePut.calls k _ _ t273 t277 _ ?side1 ?side2 A7.out).mono ?_); (case side1 => repeat (first | exact (Kd.R_reads' HO275.out).2.2 | (with_reducible refine Kd.C_alloc ?_ _) | (with_reducible refine Kd.C_drewN ?_ _) | (with_reducible refine Kd.C_drew ?_))); (case side2 => exact (Kd.R_reads' HO275.out).2.1); rintro e w49 ⟨rfl, hb⟩; refine ⟨_, rfl, ?_⟩; have n0_ := AM (rB (by (with_reducible repeat (first | apply rA | apply rD | apply rE)); exact HO270.out) hb); have n1_ := AM (rB (by (with_reducible repeat (first | apply rA | apply rD | apply rE)); exact HO275.out) hb); have n2_ := AM (kB (g := gb261) (o := .cells #[.string (⟨#[]⟩ : ByteArray), .bool false] 34 (0, 0)) (by (with_reducible repeat (first | refine kD ?_ _ | refine kE ?_ | refine kA ?_ _)); exact BK261.out) hb); have n3_ := AM (kB (g := gb264) (o := .cells #[.string t262, .bool t263] 34 (0, 0)) (by (with_reducible repeat (first | refine kD ?_ _ | refine kE ?_ | refine kA ?_ _)); exact BK264.out) hb); have n4_ := AM (IsS145.below (by repeat (first | (with_reducible first | exact HI267.out | apply IsS145.alloc | apply IsS145.drewN | apply IsS145.drew | apply IsS145.set_1 | refine IsS145.far ?_ NB267_261.out _ | refine IsS145.far ?_ NB267_264.out _) | exact HI267.out)) hb); have n5_ := AM (bS (by repeat (first | (with_reducible first | exact HB.out | apply bA | apply bD | apply bE | refine below_set ?_ (IsS145.ge HI267.out) | refine below_set ?_ GE261.out | refine below_set ?_ GE264.out) | exact HB.out)) hb); clear HO270; clear HO275; clear BK261; clear BK264; clear HI267; clear HB; have HO270 := n0_; have HO275 := n1_; have BK261 := n2_; have BK264 := n3_; have HI267 := n4_; have HB := n5_; clear n0_ n1_ n2_ n3_ n4_ n5_; (try clear hb); (try clear hb2); (try clear hk); (try clear hi); have hnb50 := NB264_267.out; have hnc50 := NB267_264.out; have hcz51_0 : w49.cell? ⟨gb264, 0, none⟩ = some (.string t262) := (kC BK264.out 0).trans rfl; have hcz51_1 : w49.cell? ⟨gb264, 1, none⟩ = some (.bool t263) := (kC BK264.out 1).trans rfl; have hfz51_0 := blk_frozen BK264.out 0; have hfz51_1 := blk_frozen BK264.out 1) | ((with_reducible refine gate_callee (f := 96) rfl ?_); refine goesL_ (some 25) rfl rfl Tryd.func96 (by kernel_rfl) rfl #[.string (t262 ++ (t272 ++ t277))] rfl (by (try simp only [List.map_toArray, List.map_cons, List.map_nil]); first | done | rfl | (simp only [List.length_drop, List.length_take]; rfl)) ?_; (with_reducible refine (spec_FrameGet.calls k (t262 ++ (t272 ++ t277)) t278 t279 _ A10.out).mono ?_); rintro e w52 ⟨v280, rfl, ho0, hb⟩; refine ⟨_, rfl, ?_⟩; have n0_ := AM (Kd.R_elder' (by (with_reducible repeat (first | apply rA | apply rD | apply rE)); exact HO270.out) (Kd.R_base ho0) hb); have n1_ := AM (Kd.R_elder' (by (with_reducible repeat (first | apply rA | apply rD | apply rE)); exact HO275.out) (Kd.R_base ho0) hb); have n2_ := AM (Kd.R_lower (Kd.R_new' (Kd.R_new' ho0 (Kd.R_lt (by (with_reducible repeat (first | apply rA | apply rD | apply rE)); exact HO270.out))) (Kd.R_lt (by (with_reducible repeat (first | apply rA | apply rD | apply rE)); exact HO275.out))) (bZ (by repeat (first | (with_reducible first | exact HB.out | apply bA | apply bD | apply bE | refine below_set ?_ (IsS145.ge HI267.out) | refine below_set ?_ GE261.out | refine below_set ?_ GE264.out) | exact HB.out)))); have n3_ := AM (kB (g := gb261) (o := .cells #[.string (⟨#[]⟩ : ByteArray), .bool false] 34 (0, 0)) (by (with_reducible repeat (first | refine kD ?_ _ | refine kE ?_ | refine kA ?_ _)); exact BK261.out) hb); have n4_ := AM (kB (g := gb264) (o := .cells #[.string t262, .bool t263] 34 (0, 0)) (by (with_reducible repeat (first | refine kD ?_ _ | refine kE ?_ | refine kA ?_ _)); exact BK264.out) hb); have n5_ := AM (IsS145.below (by repeat (first | (with_reducible first | exact HI267.out | apply IsS145.alloc | apply IsS145.drewN | apply IsS145.drew | apply IsS145.set_1 | refine IsS145.far ?_ NB267_261.out _ | refine IsS145.far ?_ NB267_264.out _) | exact HI267.out)) hb); have n6_ := AM (bS (by repeat (first | (with_reducible first | exact HB.out | apply bA | apply bD | apply bE | refine below_set ?_ (IsS145.ge HI267.out) | refine below_set ?_ GE261.out | refine below_set ?_ GE264.out) | exact HB.out)) hb); clear HO270; clear HO275; clear BK261; clear BK264; clear HI267; clear HB; have HO270 := n0_; have HO275 := n1_; have HO281 := n2_; have BK261 := n3_; have BK264 := n4_; have HI267 := n5_; have HB := n6_; clear n0_ n1_ n2_ n3_ n4_ n5_ n6_; (try clear hb); (try clear hb2); (try clear hk); (try clear hi); (try clear ho0)) | (go_at_call 97; (with_reducible refine (spec_l1Rd_pick.calls k g267 t265 t276 2 t282 t283 w _ ?side1 ?side2 A12.out).mono ?_); (case side1 => repeat (first | (with_reducible first | exact HI267.out | apply IsS145.alloc | apply IsS145.drewN | apply IsS145.drew | apply IsS145.set_1 | refine IsS145.far ?_ NB267_261.out _ | refine IsS145.far ?_ NB267_264.out _) | exact HI267.out)); (case side2 => repeat (first | (with_reducible first | exact HB.out | apply bA | apply bD | apply bE | refine below_set ?_ (IsS145.ge HI267.out) | refine below_set ?_ GE261.out | refine below_set ?_ GE264.out) | exact HB.out)); rintro e w53 ⟨rfl, hi, hb, hk⟩; have n0_ := AM (KeepBut.blk hk (g' := gb261) (o := .cells #[.string (⟨#[]⟩ : ByteArray), .bool false] 34 (0, 0)) (by (with_reducible repeat (first | refine kD ?_ _ | refine kE ?_ | refine kA ?_ _)); exact BK261.out) NB261_267.out (by simp)); have n1_ := AM (KeepBut.blk hk (g' := gb264) (o := .cells #[.string t262, .bool t263] 34 (0, 0)) (by (with_reducible repeat (first | refine kD ?_ _ | refine kE ?_ | refine kA ?_ _)); exact BK264.out) NB264_267.out (by simp)); have n2_ := AM (rM (Kd.R_keep (IsS145.apart (show IsS145 w _ g267 t265 t276 from by repeat (first | (with_reducible first | exact HI267.out | apply IsS145.alloc | apply IsS145.drewN | apply IsS145.drew | apply IsS145.set_1 | refine IsS145.far ?_ NB267_261.out _ | refine IsS145.far ?_ NB267_264.out _) | exact HI267.out)) (by (with_reducible repeat (first | apply rA | apply rD | apply rE)); exact HO270.out) (by decide)) hk (fun _ h => h.2)) (fun _ h => h.1)); have n3_ := AM (rM (Kd.R_keep (IsS145.apart (show IsS145 w _ g267 t265 t276 from by repeat (first | (with_reducible first | exact HI267.out | apply IsS145.alloc | apply IsS145.drewN | apply IsS145.drew | apply IsS145.set_1 | refine IsS145.far ?_ NB267_261.out _ | refine IsS145.far ?_ NB267_264.out _) | exact HI267.out)) (by (with_reducible repeat (first | apply rA | apply rD | apply rE)); exact HO275.out) (by decide)) hk (fun _ h => h.2)) (fun _ h => h.1)); have n4_ := AM (rM (Kd.R_keep (IsS145.apart (show IsS145 w _ g267 t265 t276 from by repeat (first | (with_reducible first | exact HI267.out | apply IsS145.alloc | apply IsS145.drewN | apply IsS145.drew | apply IsS145.set_1 | refine IsS145.far ?_ NB267_261.out _ | refine IsS145.far ?_ NB267_264.out _) | exact HI267.out)) (by (with_reducible repeat (first | apply rA | apply rD | apply rE)); exact HO281.out) (by decide)) hk (fun _ h => h.2)) (fun _ h => h.1)); have n5_ := AM (hb); have n6_ := AM (hi); clear BK261; clear BK264; clear HO270; clear HO275; clear HO281; clear HB; clear HI267; have BK261 := n0_; have BK264 := n1_; have HO270 := n2_; have HO275 := n3_; have HO281 := n4_; have HB := n5_; have HI267 := n6_; clear n0_ n1_ n2_ n3_ n4_ n5_ n6_; (try clear hb); (try clear hb2); (try clear hk); (try clear hi)))
     have n0_ := AM (rE HO270.out)
     have n1_ := AM (rE HO275.out)
     have n2_ := AM (rE HO281.out)
     have n3_ := AM (kE BK261.out)
     have n4_ := AM (kE BK264.out)
     have n5_ := AM (IsS145.drew HI267.out)
     have n6_ := AM (bE HB.out)
     clear HO270
     clear HO275
     clear HO281
     clear BK261
     clear BK264
     clear HI267
     clear HB
     have HO270 := n0_
     have HO275 := n1_
     have HO281 := n2_
     have BK261 := n3_
     have BK264 := n4_
     have HI267 := n5_
     have HB := n6_
     clear n0_ n1_ n2_ n3_ n4_ n5_ n6_
     refine start_ (n := 6) (S := fun w' => w'.cell? ⟨gb264, 0, none⟩ = some (.string t262) ∧ w'.cell? ⟨gb264, 1, none⟩ = some (.bool t263)) (ds := []) #[false, false, false, false, false, false] (by kernel_rfl) rfl rfl ⟨(kC BK264.out 0).trans rfl, (kC BK264.out 1).trans rfl⟩ (fun hHeld => ?_)
     generalize w53.drew = w54 at HO270 HO275 HO281 BK261 BK264 HI267 HB hHeld ⊢
     refine pure_ (i := 1) (N := some 37) (v := ?_) (a' := ?_) #[false, true, false, false, false, false] rfl rfl (by kernel_rfl) (fun _ _ _ h => h) (Or.inl ⟨by rfl, ?_⟩) ?_ ?_
     rotate_left
     ·intro w'
      go_simp
      with_reducible rfl
     rotate_left
     ·simp only [Act.put, lA, lZ, lS, i64_w, i32_w]
      rfl
     refine pure_ (i := 2) (N := some 38) (v := ?_) (a' := ?_) #[false, true, true, false, false, false] rfl rfl (by kernel_rfl) (fun _ _ _ h => h) (Or.inl ⟨by rfl, ?_⟩) ?_ ?_
     rotate_left
     ·intro w'
      go_simp
      with_reducible rfl
     rotate_left
     ·simp only [Act.put, lA, lZ, lS, i64_w, i32_w]
      rfl
     refine take_ (i := 0) (N := some 36) (v := ?_) (a' := ?_) #[true, true, true, false, false, false] rfl rfl (by kernel_rfl) (fun _ _ _ h => h) (Or.inl ⟨by rfl, ?_⟩) hHeld ?_ ?_
     rotate_left
     ·rintro w' ⟨s0, s1⟩
      go_simp
      with_reducible rfl
     rotate_left
     ·simp only [Act.put, lA, lZ, lS, i64_w, i32_w]
      rfl
     refine one_ (i := 3) (N := some 39) #[true, true, true, true, false, false] rfl rfl (by kernel_rfl) (by decide) (fun K hK => ?_)
     refine goes_ Tryd.func98 (by kernel_rfl) rfl #[.pointer (some ⟨g267, 0, none⟩), .string (t272 ++ t277)] (by rfl) rfl rfl (by (try simp only [List.map_toArray, List.map_cons, List.map_nil]); first | done | rfl | (simp only [List.length_drop, List.length_take]; rfl)) ?_
     with_reducible refine (spec_l13Cut.calls k g267 t265 t283 (t272 ++ t277) t286 t287 w _ ?side1 ?side2 A37.out).mono ?_
     (case side1 => repeat (first | (with_reducible first | exact HI267.out | apply IsS145.alloc | apply IsS145.drewN | apply IsS145.drew | apply IsS145.set_1 | refine IsS145.far ?_ NB267_261.out _ | refine IsS145.far ?_ NB267_264.out _) | exact HI267.out))
     (case side2 => repeat (first | (with_reducible first | exact HB.out | apply bA | apply bD | apply bE | refine below_set ?_ (IsS145.ge HI267.out) | refine below_set ?_ GE261.out | refine below_set ?_ GE264.out) | exact HB.out))
     rintro e w55 ⟨rfl, hi, hb, hk⟩
     refine ⟨_, rfl, ?_⟩
     have n0_ := AM (KeepBut.blk hk (g' := gb261) (o := .cells #[.string (⟨#[]⟩ : ByteArray), .bool false] 34 (0, 0)) (by (with_reducible repeat (first | refine kD ?_ _ | refine kE ?_ | refine kA ?_ _)); exact BK261.out) NB261_267.out (by simp))
     have n1_ := AM (KeepBut.blk hk (g' := gb264) (o := .cells #[.string t262, .bool t263] 34 (0, 0)) (by (with_reducible repeat (first | refine kD ?_ _ | refine kE ?_ | refine kA ?_ _)); exact BK264.out) NB264_267.out (by simp))
     have n2_ := AM (rM (Kd.R_keep (IsS145.apart (show IsS145 w _ g267 t265 t283 from by repeat (first | (with_reducible first | exact HI267.out | apply IsS145.alloc | apply IsS145.drewN | apply IsS145.drew | apply IsS145.set_1 | refine IsS145.far ?_ NB267_261.out _ | refine IsS145.far ?_ NB267_264.out _) | exact HI267.out)) (by (with_reducible repeat (first | apply rA | apply rD | apply rE)); exact HO270.out) (by decide)) hk (fun _ h => h.2)) (fun _ h => h.1))
     have n3_ := AM (rM (Kd.R_keep (IsS145.apart (show IsS145 w _ g267 t265 t283 from by repeat (first | (with_reducible first | exact HI267.out | apply IsS145.alloc | apply IsS145.drewN | apply IsS145.drew | apply IsS145.set_1 | refine IsS145.far ?_ NB267_261.out _ | refine IsS145.far ?_ NB267_264.out _) | exact HI267.out)) (by (with_reducible repeat (first | apply rA | apply rD | apply rE)); exact HO275.out) (by decide)) hk (fun _ h => h.2)) (fun _ h => h.1))
     have n4_ := AM (rM (Kd.R_keep (IsS145.apart (show IsS145 w _ g267 t265 t283 from by repeat (first | (with_reducible first | exact HI267.out | apply IsS145.alloc | apply IsS145.drewN | apply IsS145.drew | apply IsS145.set_1 | refine IsS145.far ?_ NB267_261.out _ | refine IsS145.far ?_ NB267_264.out _) | exact HI267.out)) (by (with_reducible repeat (first | apply rA | apply rD | apply rE)); exact HO281.out) (by decide)) hk (fun _ h => h.2)) (fun _ h => h.1))
     have n5_ := AM (hb)
     have n6_ := AM (hi)
     clear BK261
     clear BK264
     clear HO270
     clear HO275
     clear HO281
     clear HB
     clear HI267
     have BK261 := n0_
     have BK264 := n1_
     have HO270 := n2_
     have HO275 := n3_
     have HO281 := n4_
     have HB := n5_
     have HI267 := n6_
     clear n0_ n1_ n2_ n3_ n4_ n5_ n6_
     (try clear hb)
     (try clear hb2)
     (try clear hk)
     (try clear hi)
     refine hK.out _ _ ⟨(kC BK264.out 0).trans rfl, (kC BK264.out 1).trans rfl⟩ (fun hHeld => ?_)
     clear hK K
     refine norm_ (a' := ?_) ?_ ?_
     rotate_left
     ·show Act.put _ (some 39) _ = _
      simp only [Act.put, lA, lZ, lS, i64_w, i32_w]
      rfl
     refine one_ (i := 4) (N := none) #[true, true, true, true, true, false] rfl rfl (by kernel_rfl) (by decide) (fun K hK => ?_)
     have hs56 : w55.cell? ⟨gb261, 0, none⟩ = some (.string (⟨#[]⟩ : ByteArray)) := (kC BK261.out 0).trans rfl
     have hfs56 := blk_frozen BK261.out 0
     have hns56_1 := NB264_261.out
     have hms56_1 := NB261_264.out
     have hs57 : w55.cell? ⟨gb261, 1, none⟩ = some (.bool false) := (kC BK261.out 1).trans rfl
     have hfs57 := blk_frozen BK261.out 1
     have hns57_1 := NB264_261.out
     have hms57_1 := NB261_264.out
     refine skip_ (w1 := ?_) (by rfl) rfl ?_ ?_
     rotate_left
     ·go_simp
      rfl
     refine hK.out _ _ ⟨((cell_far (p := ⟨gb261, _, none⟩) NB264_261.out _).trans (((cell_far (p := ⟨gb261, _, none⟩) NB264_261.out _).trans (hHeld.1)))), ((cell_far (p := ⟨gb261, _, none⟩) NB264_261.out _).trans (((cell_far (p := ⟨gb261, _, none⟩) NB264_261.out _).trans (hHeld.2))))⟩ (fun hHeld => ?_)
     clear hK K
     refine pure_ (i := 5) (N := some 3) (v := ?_) (a' := ?_) #[true, true, true, true, true, true] rfl rfl (by kernel_rfl) (fun _ _ _ h => h) (Or.inl ⟨by rfl, ?_⟩) ?_ ?_
     rotate_left
     ·intro w'
      go_simp
      with_reducible rfl
     rotate_left
     ·simp only [Act.put, lA, lZ, lS, i64_w, i32_w]
      rfl
     refine done_ (by kernel_rfl) ?_
     try go_wp2
     refine bodyPost_ret (results_ct rfl _ _ gb261 34 #[.string t262, .bool t263] (0, 0) _ rfl (by (with_reducible repeat (first | refine kD ?_ _ | refine kE ?_ | refine kA ?_ _)); refine blk_put (cs := #[.string t262, .bool false]) ?_ 1 _ rfl; (with_reducible repeat (first | refine kD ?_ _ | refine kE ?_ | refine kA ?_ _)); refine blk_put (cs := #[.string (⟨#[]⟩ : ByteArray), .bool false]) ?_ 0 _ rfl; (with_reducible repeat (first | refine kD ?_ _ | refine kE ?_ | refine kA ?_ _)); exact BK261.out) Tryd.underlying34 rfl (by kernel_rfl)) rfl ?_
     exact ⟨by first | rfl | (simp [errW_none, errW_some] <;> rfl) | (simp [*, errW_none, errW_some] <;> rfl), by repeat (first | (with_reducible first | exact HB.out | apply bA | apply bD | apply bE | refine below_set ?_ (IsS145.ge HI267.out) | refine below_set ?_ GE261.out | refine below_set ?_ GE264.out) | exact HB.out)⟩
   ·rw [if_neg c11] at H
    have c11b0 : decide (t279 ≤ 0) = false := decide_eq_false c11
    clear c11
    replace H := Option.bind_eq_some_iff.mp H
    obtain ⟨⟨t288, t289⟩, A580, H⟩ := H
    replace H : (some (t262, t263, t288)) = some (r1, r2, r3) := H
    have A58 := AM A580
    clear A580
    simp only [Option.some.injEq, Prod.mk.injEq] at H
    obtain ⟨rfl, rfl, rfl⟩ := H
    go_enter Tryd.func33, Tryd.ntmps33
    try go_wp2_with (first | ((with_reducible refine gate_dst (N := 2) rfl ?_); refine box_event ?hg (N := 2) ?hd (cs := #[.string (⟨#[]⟩ : ByteArray), .bool false]) (t := 34) ?hr ?_; (case hd => rfl); (case hg => rfl); (case hr => first | (go_simp; done) | (go_simp; rfl)); intro gb261 hg w59 hbox hb; have n0_ := AM (bS (by repeat (first | (with_reducible first | exact HB.out | apply bA | apply bD | apply bE) | exact HB.out)) hb); have n1_ := AM (hbox); have n2_ := AM ((by rw [hg]; exact (bZ (by repeat (first | (with_reducible first | exact HB.out | apply bA | apply bD | apply bE) | exact HB.out))) : w.heap.size ≤ gb261)); have n3_ := AM ((by rw [hg]; exact (bZ (by repeat (first | (with_reducible first | exact HB.out | apply bA | apply bD | apply bE) | exact HB.out))) : w.heap.size ≤ gb261)); clear HB; have HB := n0_; have BK261 := n1_; have GW261 := n2_; have GE261 := n3_; clear n0_ n1_ n2_ n3_; clear hb hbox hg) | ((with_reducible refine gate_callee (f := 94) rfl ?_); refine goesL_ (some 10) rfl rfl Tryd.func94 (by kernel_rfl) rfl #[.slice A0 l0.length c0] rfl (by (try simp only [List.map_toArray, List.map_cons, List.map_nil]); first | done | rfl | (simp only [List.length_drop, List.length_take]; rfl)) ?_; (with_reducible refine (spec_DrawPipeOk.calls k _ _ l0 t262 t263 _ ?side1 ?side2 A2.out).mono ?_); (case side1 => repeat (first | exact (Kd.C_below HR0.out HB.out) | (with_reducible refine Kd.C_alloc ?_ _) | (with_reducible refine Kd.C_drewN ?_ _) | (with_reducible refine Kd.C_drew ?_))); (case side2 => exact HC0.out); rintro e w60 ⟨rfl, hb⟩; refine ⟨_, rfl, ?_⟩; have n0_ := AM (kB (g := gb261) (o := .cells #[.string (⟨#[]⟩ : ByteArray), .bool false] 34 (0, 0)) (by (with_reducible repeat (first | refine kD ?_ _ | refine kE ?_ | refine kA ?_ _)); exact BK261.out) hb); have n1_ := AM (bS (by repeat (first | (with_reducible first | exact HB.out | apply bA | apply bD | apply bE | refine below_set ?_ GE261.out) | exact HB.out)) hb); clear BK261; clear HB; have BK261 := n0_; have HB := n1_; clear n0_ n1_; (try clear hb); (try clear hb2); (try clear hk); (try clear hi)) | ((with_reducible refine gate_dst (N := 4) rfl ?_); refine box_event ?hg (N := 4) ?hd (cs := #[.string (⟨#[]⟩ : ByteArray), .bool false]) (t := 34) ?hr ?_; (case hd => rfl); (case hg => rfl); (case hr => first | (go_simp; done) | (go_simp; rfl)); intro gb264 hg w61 hbox hb; have n0_ := AM (kB (g := gb261) (o := .cells #[.string (⟨#[]⟩ : ByteArray), .bool false] 34 (0, 0)) (by (with_reducible repeat (first | refine kD ?_ _ | refine kE ?_ | refine kA ?_ _)); exact BK261.out) hb); have n1_ := AM (bS (by repeat (first | (with_reducible first | exact HB.out | apply bA | apply bD | apply bE | refine below_set ?_ GE261.out) | exact HB.out)) hb); have n2_ := AM (hbox); have n3_ := AM ((by rw [hg]; exact (bZ (by repeat (first | (with_reducible first | exact HB.out | apply bA | apply bD | apply bE | refine below_set ?_ GE261.out) | exact HB.out))) : w.heap.size ≤ gb264)); have n4_ := AM ((by rw [hg]; exact (bZ (by repeat (first | (with_reducible first | exact HB.out | apply bA | apply bD | apply bE | refine below_set ?_ GE261.out) | exact HB.out))) : w.heap.size ≤ gb264)); have n5_ := AM ((by rw [hg]; exact Nat.ne_of_lt (blk_lt (g := gb261) (o := .cells #[.string (⟨#[]⟩ : ByteArray), .bool false] 34 (0, 0)) (by (with_reducible repeat (first | refine kD ?_ _ | refine kE ?_ | refine kA ?_ _)); exact BK261.out)) : gb261 ≠ gb264)); have n6_ := AM ((by rw [hg]; exact Nat.ne_of_gt (blk_lt (g := gb261) (o := .cells #[.string (⟨#[]⟩ : ByteArray), .bool false] 34 (0, 0)) (by (with_reducible repeat (first | refine kD ?_ _ | refine kE ?_ | refine kA ?_ _)); exact BK261.out)) : gb264 ≠ gb261)); clear BK261; clear HB; have BK261 := n0_; have HB := n1_; have BK264 := n2_; have GW264 := n3_; have GE264 := n4_; have NB261_264 := n5_; have NB264_261 := n6_; clear n0_ n1_ n2_ n3_ n4_ n5_ n6_; clear hb hbox hg; have hnb62 := NB264_261.out; have hnc62 := NB261_264.out; have hcz63_0 : w61.cell? ⟨gb264, 0, none⟩ = some (.string (⟨#[]⟩ : ByteArray)) := (kC BK264.out 0).trans rfl; have hcz63_1 : w61.cell? ⟨gb264, 1, none⟩ = some (.bool false) := (kC BK264.out 1).trans rfl; have hfz63_0 := blk_frozen BK264.out 0; have hfz63_1 := blk_frozen BK264.out 1) | ((with_reducible refine gate_callee (f := 64) rfl ?_); refine goesL_ (some 12) rfl rfl Tryd.func64 (by kernel_rfl) rfl #[.slice A0 l0.length c0] rfl (by (try simp only [List.map_toArray, List.map_cons, List.map_nil]); first | done | rfl | (simp only [List.length_drop, List.length_take]; rfl)) ?_; (with_reducible refine (spec_l1Open.calls _ _ l0 t265 t266 w _ ?side1 ?side2 ?side3 A3.out).mono ?_); (case side1 => repeat (first | (with_reducible first | exact HB.out | apply bA | apply bD | apply bE | refine below_set ?_ GE261.out | refine below_set ?_ GE264.out) | exact HB.out)); (case side2 => exact HR0.out); (case side3 => exact HC0.out); rintro e w64 ⟨g267, rfl, hi, hb, hb2⟩; refine ⟨_, rfl, ?_⟩; have n0_ := AM (kB (g := gb261) (o := .cells #[.string (⟨#[]⟩ : ByteArray), .bool false] 34 (0, 0)) (by (with_reducible repeat (first | refine kD ?_ _ | refine kE ?_ | refine kA ?_ _)); refine blk_far ?_ NB261_264.out _; (with_reducible repeat (first | refine kD ?_ _ | refine kE ?_ | refine kA ?_ _)); refine blk_far ?_ NB261_264.out _; (with_reducible repeat (first | refine kD ?_ _ | refine kE ?_ | refine kA ?_ _)); exact BK261.out) hb2); have n1_ := AM (kB (g := gb264) (o := .cells #[.string t262, .bool t263] 34 (0, 0)) (by (with_reducible repeat (first | refine kD ?_ _ | refine kE ?_ | refine kA ?_ _)); refine blk_put (cs := #[.string t262, .bool false]) ?_ 1 _ rfl; (with_reducible repeat (first | refine kD ?_ _ | refine kE ?_ | refine kA ?_ _)); refine blk_put (cs := #[.string (⟨#[]⟩ : ByteArray), .bool false]) ?_ 0 _ rfl; (with_reducible repeat (first | refine kD ?_ _ | refine kE ?_ | refine kA ?_ _)); exact BK264.out) hb2); have n2_ := AM (hb); have n3_ := AM (hi); have n4_ := AM (IsS145.ne_blk hi (kB (g := gb261) (o := .cells #[.string (⟨#[]⟩ : ByteArray), .bool false] 34 (0, 0)) (by (with_reducible repeat (first | refine kD ?_ _ | refine kE ?_ | refine kA ?_ _)); refine blk_far ?_ NB261_264.out _; (with_reducible repeat (first | refine kD ?_ _ | refine kE ?_ | refine kA ?_ _)); refine blk_far ?_ NB261_264.out _; (with_reducible repeat (first | refine kD ?_ _ | refine kE ?_ | refine kA ?_ _)); exact BK261.out) hb2) (by decide)); have n5_ := AM (Ne.symm (IsS145.ne_blk hi (kB (g := gb261) (o := .cells #[.string (⟨#[]⟩ : ByteArray), .bool false] 34 (0, 0)) (by (with_reducible repeat (first | refine kD ?_ _ | refine kE ?_ | refine kA ?_ _)); refine blk_far ?_ NB261_264.out _; (with_reducible repeat (first | refine kD ?_ _ | refine kE ?_ | refine kA ?_ _)); refine blk_far ?_ NB261_264.out _; (with_reducible repeat (first | refine kD ?_ _ | refine kE ?_ | refine kA ?_ _)); exact BK261.out) hb2) (by decide))); have n6_ := AM (IsS145.ne_blk hi (kB (g := gb264) (o := .cells #[.string t262, .bool t263] 34 (0, 0)) (by (with_reducible repeat (first | refine kD ?_ _ | refine kE ?_ | refine kA ?_ _)); refine blk_put (cs := #[.string t262, .bool false]) ?_ 1 _ rfl; (with_reducible repeat (first | refine kD ?_ _ | refine kE ?_ | refine kA ?_ _)); refine blk_put (cs := #[.string (⟨#[]⟩ : ByteArray), .bool false]) ?_ 0 _ rfl; (with_reducible repeat (first | refine kD ?_ _ | refine kE ?_ | refine kA ?_ _)); exact BK264.out) hb2) (by decide)); have n7_ := AM (Ne.symm (IsS145.ne_blk hi (kB (g := gb264) (o := .cells #[.string t262, .bool t263] 34 (0, 0)) (by (with_reducible repeat (first | refine kD ?_ _ | refine kE ?_ | refine kA ?_ _)); refine blk_put (cs := #[.string t262, .bool false]) ?_ 1 _ rfl; (with_reducible repeat (first | refine kD ?_ _ | refine kE ?_ | refine kA ?_ _)); refine blk_put (cs := #[.string (⟨#[]⟩ : ByteArray), .bool false]) ?_ 0 _ rfl; (with_reducible repeat (first | refine kD ?_ _ | refine kE ?_ | refine kA ?_ _)); exact BK264.out) hb2) (by decide))); clear BK261; clear BK264; clear HB; have BK261 := n0_; have BK264 := n1_; have HB := n2_; have HI267 := n3_; have NB267_261 := n4_; have NB261_267 := n5_; have NB267_264 := n6_; have NB264_267 := n7_; clear n0_ n1_ n2_ n3_ n4_ n5_ n6_ n7_; (try clear hb); (try clear hb2); (try clear hk); (try clear hi)) | ((with_reducible refine gate_callee (f := 95) rfl ?_); refine goesL_ (some 14) rfl rfl Tryd.func95 (by kernel_rfl) rfl #[.pointer (some ⟨g267, 0, none⟩)] rfl (by (try simp only [List.map_toArray, List.map_cons, List.map_nil]); first | done | rfl | (simp only [List.length_drop, List.length_take]; rfl)) ?_; (with_reducible refine (spec_l13Segs.calls k g267 t265 t266 t268 t271 w _ ?side1 ?side2 A4.out).mono ?_); (case side1 => repeat (first | (with_reducible first | exact HI267.out | apply IsS145.alloc | apply IsS145.drewN | apply IsS145.drew | apply IsS145.set_1 | refine IsS145.far ?_ NB267_261.out _ | refine IsS145.far ?_ NB267_264.out _) | exact HI267.out)); (case side2 => repeat (first | (with_reducible first | exact HB.out | apply bA | apply bD | apply bE | refine below_set ?_ (IsS145.ge HI267.out) | refine below_set ?_ GE261.out | refine below_set ?_ GE264.out) | exact HB.out)); rintro e w65 ⟨v269, rfl, ho0, hi, hb, hk⟩; refine ⟨_, rfl, ?_⟩; have n0_ := AM (KeepBut.blk hk (g' := gb261) (o := .cells #[.string (⟨#[]⟩ : ByteArray), .bool false] 34 (0, 0)) (by (with_reducible repeat (first | refine kD ?_ _ | refine kE ?_ | refine kA ?_ _)); exact BK261.out) NB261_267.out (by simp)); have n1_ := AM (KeepBut.blk hk (g' := gb264) (o := .cells #[.string t262, .bool t263] 34 (0, 0)) (by (with_reducible repeat (first | refine kD ?_ _ | refine kE ?_ | refine kA ?_ _)); exact BK264.out) NB264_267.out (by simp)); have n2_ := AM (Kd.R_lower ho0 (bZ (by repeat (first | (with_reducible first | exact HB.out | apply bA | apply bD | apply bE | refine below_set ?_ (IsS145.ge HI267.out) | refine below_set ?_ GE261.out | refine below_set ?_ GE264.out) | exact HB.out)))); have n3_ := AM (hb); have n4_ := AM (hi); clear BK261; clear BK264; clear HB; clear HI267; have BK261 := n0_; have BK264 := n1_; have HO270 := n2_; have HB := n3_; have HI267 := n4_; clear n0_ n1_ n2_ n3_ n4_; (try clear hb); (try clear hb2); (try clear hk); (try clear hi); (try clear ho0); obtain ⟨Ao66, co66, eo66⟩ := Kd.R_slice HO270.out; subst eo66) | ((with_reducible refine gate_callee (f := 18) rfl ?_); refine goesL_ (some 15) rfl rfl Tryd.func18 (by kernel_rfl) rfl #[.slice Ao66 t268.length co66] rfl (by (try simp only [List.map_toArray, List.map_cons, List.map_nil]); first | done | rfl | (simp only [List.length_drop, List.length_take]; rfl)) ?_; (with_reducible refine (spec_FramePut.calls k _ _ t268 t272 _ ?side1 ?side2 A5.out).mono ?_); (case side1 => repeat (first | exact (Kd.R_reads' HO270.out).2.2 | (with_reducible refine Kd.C_alloc ?_ _) | (with_reducible refine Kd.C_drewN ?_ _) | (with_reducible refine Kd.C_drew ?_))); (case side2 => exact (Kd.R_reads' HO270.out).2.1); rintro e w67 ⟨rfl, hb⟩; refine ⟨_, rfl, ?_⟩; have n0_ := AM (rB (by (with_reducible repeat (first | apply rA | apply rD | apply rE)); exact HO270.out) hb); have n1_ := AM (kB (g := gb261) (o := .cells #[.string (⟨#[]⟩ : ByteArray), .bool false] 34 (0, 0)) (by (with_reducible repeat (first | refine kD ?_ _ | refine kE ?_ | refine kA ?_ _)); exact BK261.out) hb); have n2_ := AM (kB (g := gb264) (o := .cells #[.string t262, .bool t263] 34 (0, 0)) (by (with_reducible repeat (first | refine kD ?_ _ | refine kE ?_ | refine kA ?_ _)); exact BK264.out) hb); have n3_ := AM (IsS145.below (by repeat (first | (with_reducible first | exact HI267.out | apply IsS145.alloc | apply IsS145.drewN | apply IsS145.drew | apply IsS145.set_1 | refine IsS145.far ?_ NB267_261.out _ | refine IsS145.far ?_ NB267_264.out _) | exact HI267.out)) hb); have n4_ := AM (bS (by repeat (first | (with_reducible first | exact HB.out | apply bA | apply bD | apply bE | refine below_set ?_ (IsS145.ge HI267.out) | refine below_set ?_ GE261.out | refine below_set ?_ GE264.out) | exact HB.out)) hb); clear HO270; clear BK261; clear BK264; clear HI267; clear HB; have HO270 := n0_; have BK261 := n1_; have BK264 := n2_; have HI267 := n3_; have HB := n4_; clear n0_ n1_ n2_ n3_ n4_; (try clear hb); (try clear hb2); (try clear hk); (try clear hi)) | ((with_reducible refine gate_callee (f := 95) rfl ?_); refine goesL_ (some 17) rfl rfl Tryd.func95 (by kernel_rfl) rfl #[.pointer (some ⟨g267, 0, none⟩)] rfl (by (try simp only [List.map_toArray, List.map_cons, List.map_nil]); first | done | rfl | (simp only [List.length_drop, List.length_take]; rfl)) ?_; (with_reducible refine (spec_l13Segs.calls k g267 t265 t271 t273 t276 w _ ?side1 ?side2 A6.out).mono ?_); (case side1 => repeat (first | (with_reducible first | exact HI267.out | apply IsS145.alloc | apply IsS145.drewN | apply IsS145.drew | apply IsS145.set_1 | refine IsS145.far ?_ NB267_261.out _ | refine IsS145.far ?_ NB267_264.out _) | exact HI267.out)); (case side2 => repeat (first | (with_reducible first | exact HB.out | apply bA | apply bD | apply bE | refine below_set ?_ (IsS145.ge HI267.out) | refine below_set ?_ GE261.out | refine below_set ?_ GE264.out) | exact HB.out)); rintro e w68 ⟨v274, rfl, ho0, hi, hb, hk⟩; refine ⟨_, rfl, ?_⟩; have n0_ := AM (KeepBut.blk hk (g' := gb261) (o := .cells #[.string (⟨#[]⟩ : ByteArray), .bool false] 34 (0, 0)) (by (with_reducible repeat (first | refine kD ?_ _ | refine kE ?_ | refine kA ?_ _)); exact BK261.out) NB261_267.out (by simp)); have n1_ := AM (KeepBut.blk hk (g' := gb264) (o := .cells #[.string t262, .bool t263] 34 (0, 0)) (by (with_reducible repeat (first | refine kD ?_ _ | refine kE ?_ | refine kA ?_ _)); exact BK264.out) NB264_267.out (by simp)); have n2_ := AM (rM (Kd.R_told (Kd.R_oldK (IsS145.apart (show IsS145 w _ g267 t265 t271 from by repeat (first | (with_reducible first | exact HI267.out | apply IsS145.alloc | apply IsS145.drewN | apply IsS145.drew | apply IsS145.set_1 | refine IsS145.far ?_ NB267_261.out _ | refine IsS145.far ?_ NB267_264.out _) | exact HI267.out)) (by (with_reducible repeat (first | apply rA | apply rD | apply rE)); exact HO270.out) (by decide)) hk) (Kd.R_base ho0)) (fun _ h_ => h_.1)); have n3_ := AM (Kd.R_lower (Kd.R_new' ho0 (Kd.R_lt (by (with_reducible repeat (first | apply rA | apply rD | apply rE)); exact HO270.out))) (bZ (by repeat (first | (with_reducible first | exact HB.out | apply bA | apply bD | apply bE | refine below_set ?_ (IsS145.ge HI267.out) | refine below_set ?_ GE261.out | refine below_set ?_ GE264.out) | exact HB.out)))); have n4_ := AM (hb); have n5_ := AM (hi); clear BK261; clear BK264; clear HO270; clear HB; clear HI267; have BK261 := n0_; have BK264 := n1_; have HO270 := n2_; have HO275 := n3_; have HB := n4_; have HI267 := n5_; clear n0_ n1_ n2_ n3_ n4_ n5_; (try clear hb); (try clear hb2); (try clear hk); (try clear hi); (try clear ho0); obtain ⟨Ao69, co69, eo69⟩ := Kd.R_slice HO275.out; subst eo69) | ((with_reducible refine gate_callee (f := 18) rfl ?_); refine goesL_ (some 18) rfl rfl Tryd.func18 (by kernel_rfl) rfl #[.slice Ao69 t273.length co69] rfl (by (try simp only [List.map_toArray, List.map_cons, List.map_nil]); first | done | rfl | (simp only [List.length_drop, List.length_take]; rfl)) ?_; (with_reducible refine (spec_FramePut.calls k _ _ t273 t277 _ ?side1 ?side2 A7.out).mono ?_); (case side1 => repeat (first | exact (Kd.R_reads' HO275.out).2.2 | (with_reducible refine Kd.C_alloc ?_ _) | (with_reducible refine Kd.C_drewN ?_ _) | (with_reducible refine Kd.C_drew ?_))); (case side2 => exact (Kd.R_reads' HO275.out).2.1); rintro e w70 ⟨rfl, hb⟩; refine ⟨_, rfl, ?_⟩; have n0_ := AM (rB (by (with_reducible repeat (first | apply rA | apply rD | apply rE)); exact HO270.out) hb); have n1_ := AM (rB (by (with_reducible repeat (first | apply rA | apply rD | apply rE)); exact HO275.out) hb); have n2_ := AM (kB (g := gb261) (o := .cells #[.string (⟨#[]⟩ : ByteArray), .bool false] 34 (0, 0)) (by (with_reducible repeat (first | refine kD ?_ _ | refine kE ?_ | refine kA ?_ _)); exact BK261.out) hb); have n3_ := AM (kB (g := gb264) (o := .cells #[.string t262, .bool t263] 34 (0, 0)) (by (with_reducible repeat (first | refine kD ?_ _ | refine kE ?_ | refine kA ?_ _)); exact BK264.out) hb); have n4_ := AM (IsS145.below (by repeat (first | (with_reducible first | exact HI267.out | apply IsS145.alloc | apply IsS145.drewN | apply IsS145.drew | apply IsS145.set_1 | refine IsS145.far ?_ NB267_261.out _ | refine IsS145.far ?_ NB267_264.out _) | exact HI267.out)) hb); have n5_ := AM (bS (by repeat (first | (with_reducible first | exact HB.out | apply bA | apply bD | apply bE | refine below_set ?_ (IsS145.ge HI267.out) | refine below_set ?_ GE261.out | refine below_set ?_ GE264.out) | exact HB.out)) hb); clear HO270; clear HO275; clear BK261; clear BK264; clear HI267; clear HB; have HO270 := n0_; have HO275 := n1_; have BK261 := n2_; have BK264 := n3_; have HI267 := n4_; have HB := n5_; clear n0_ n1_ n2_ n3_ n4_ n5_; (try clear hb); (try clear hb2); (try clear hk); (try clear hi); have hnb71 := NB264_267.out; have hnc71 := NB267_264.out; have hcz72_0 : w70.cell? ⟨gb264, 0, none⟩ = some (.string t262) := (kC BK264.out 0).trans rfl; have hcz72_1 : w70.cell? ⟨gb264, 1, none⟩ = some (.bool t263) := (kC BK264.out 1).trans rfl; have hfz72_0 := blk_frozen BK264.out 0; have hfz72_1 := blk_frozen BK264.out 1) | ((with_reducible refine gate_callee (f := 96) rfl ?_); refine goesL_ (some 25) rfl rfl Tryd.func96 (by kernel_rfl) rfl #[.string (t262 ++ (t272 ++ t277))] rfl (by (try simp only [List.map_toArray, List.map_cons, List.map_nil]); first | done | rfl | (simp only [List.length_drop, List.length_take]; rfl)) ?_; (with_reducible refine (spec_FrameGet.calls k (t262 ++ (t272 ++ t277)) t278 t279 _ A10.out).mono ?_); rintro e w73 ⟨v280, rfl, ho0, hb⟩; refine ⟨_, rfl, ?_⟩; have n0_ := AM (Kd.R_elder' (by (with_reducible repeat (first | apply rA | apply rD | apply rE)); exact HO270.out) (Kd.R_base ho0) hb); have n1_ := AM (Kd.R_elder' (by (with_reducible repeat (first | apply rA | apply rD | apply rE)); exact HO275.out) (Kd.R_base ho0) hb); have n2_ := AM (Kd.R_lower (Kd.R_new' (Kd.R_new' ho0 (Kd.R_lt (by (with_reducible repeat (first | apply rA | apply rD | apply rE)); exact HO270.out))) (Kd.R_lt (by (with_reducible repeat (first | apply rA | apply rD | apply rE)); exact HO275.out))) (bZ (by repeat (first | (with_reducible first | exact HB.out | apply bA | apply bD | apply bE | refine below_set ?_ (IsS145.ge HI267.out) | refine below_set ?_ GE261.out | refine below_set ?_ GE264.out) | exact HB.out)))); have n3_ := AM (kB (g := gb261) (o := .cells #[.string (⟨#[]⟩ : ByteArray), .bool false] 34 (0, 0)) (by (with_reducible repeat (first | refine kD ?_ _ | refine kE ?_ | refine kA ?_ _)); exact BK261.out) hb); have n4_ := AM (kB (g := gb264) (o := .cells #[.string t262, .bool t263] 34 (0, 0)) (by (with_reducible repeat (first | refine kD ?_ _ | refine kE ?_ | refine kA ?_ _)); exact BK264.out) hb); have n5_ := AM (IsS145.below (by repeat (first | (with_reducible first | exact HI267.out | apply IsS145.alloc | apply IsS145.drewN | apply IsS145.drew | apply IsS145.set_1 | refine IsS145.far ?_ NB267_261.out _ | refine IsS145.far ?_ NB267_264.out _) | exact HI267.out)) hb); have n6_ := AM (bS (by repeat (first | (with_reducible first | exact HB.out | apply bA | apply bD | apply bE | refine below_set ?_ (IsS145.ge HI267.out) | refine below_set ?_ GE261.out | refine below_set ?_ GE264.out) | exact HB.out)) hb); clear HO270; clear HO275; clear BK261; clear BK264; clear HI267; clear HB; have HO270 := n0_; have HO275 := n1_; have HO281 := n2_; have BK261 := n3_; have BK264 := n4_; have HI267 := n5_; have HB := n6_; clear n0_ n1_ n2_ n3_ n4_ n5_ n6_; (try clear hb); (try clear hb2); (try clear hk); (try clear hi); (try clear ho0)))
    have n0_ := AM (rE HO270.out)
    have n1_ := AM (rE HO275.out)
    have n2_ := AM (rE HO281.out)
    have n3_ := AM (kE BK261.out)
    have n4_ := AM (kE BK264.out)
    have n5_ := AM (IsS145.drew HI267.out)
    have n6_ := AM (bE HB.out)
    clear HO270
    clear HO275
    clear HO281
    clear BK261
    clear BK264
    clear HI267
    clear HB
    have HO270 := n0_
    have HO275 := n1_
    have HO281 := n2_
    have BK261 := n3_
    have BK264 := n4_
    have HI267 := n5_
    have HB := n6_
    clear n0_ n1_ n2_ n3_ n4_ n5_ n6_
    refine start_ (n := 6) (S := fun w' => w'.cell? ⟨gb264, 0, none⟩ = some (.string t262) ∧ w'.cell? ⟨gb264, 1, none⟩ = some (.bool t263)) (ds := []) #[false, false, false, false, false, false] (by kernel_rfl) rfl rfl ⟨(kC BK264.out 0).trans rfl, (kC BK264.out 1).trans rfl⟩ (fun hHeld => ?_)
    generalize w73.drew = w74 at HO270 HO275 HO281 BK261 BK264 HI267 HB hHeld ⊢
    refine pure_ (i := 1) (N := some 37) (v := ?_) (a' := ?_) #[false, true, false, false, false, false] rfl rfl (by kernel_rfl) (fun _ _ _ h => h) (Or.inl ⟨by rfl, ?_⟩) ?_ ?_
    rotate_left
    ·intro w'
     go_simp
     with_reducible rfl
    rotate_left
    ·simp only [Act.put, lA, lZ, lS, i64_w, i32_w]
     rfl
    refine pure_ (i := 2) (N := some 38) (v := ?_) (a' := ?_) #[false, true, true, false, false, false] rfl rfl (by kernel_rfl) (fun _ _ _ h => h) (Or.inl ⟨by rfl, ?_⟩) ?_ ?_
    rotate_left
    ·intro w'
     go_simp
     with_reducible rfl
    rotate_left
    ·simp only [Act.put, lA, lZ, lS, i64_w, i32_w]
     rfl
    refine take_ (i := 0) (N := some 36) (v := ?_) (a' := ?_) #[true, true, true, false, false, false] rfl rfl (by kernel_rfl) (fun _ _ _ h => h) (Or.inl ⟨by rfl, ?_⟩) hHeld ?_ ?_
    rotate_left
    ·rintro w' ⟨s0, s1⟩
     go_simp
     with_reducible rfl
    rotate_left
    ·simp only [Act.put, lA, lZ, lS, i64_w, i32_w]
     rfl
    refine one_ (i := 3) (N := some 39) #[true, true, true, true, false, false] rfl rfl (by kernel_rfl) (by decide) (fun K hK => ?_)
    refine goes_ Tryd.func98 (by kernel_rfl) rfl #[.pointer (some ⟨g267, 0, none⟩), .string (t272 ++ t277)] (by rfl) rfl rfl (by (try simp only [List.map_toArray, List.map_cons, List.map_nil]); first | done | rfl | (simp only [List.length_drop, List.length_take]; rfl)) ?_
    with_reducible refine (spec_l13Cut.calls k g267 t265 t276 (t272 ++ t277) t288 t289 w _ ?side1 ?side2 A58.out).mono ?_
    (case side1 => repeat (first | (with_reducible first | exact HI267.out | apply IsS145.alloc | apply IsS145.drewN | apply IsS145.drew | apply IsS145.set_1 | refine IsS145.far ?_ NB267_261.out _ | refine IsS145.far ?_ NB267_264.out _) | exact HI267.out))
    (case side2 => repeat (first | (with_reducible first | exact HB.out | apply bA | apply bD | apply bE | refine below_set ?_ (IsS145.ge HI267.out) | refine below_set ?_ GE261.out | refine below_set ?_ GE264.out) | exact HB.out))
    rintro e w75 ⟨rfl, hi, hb, hk⟩
    refine ⟨_, rfl, ?_⟩
    have n0_ := AM (KeepBut.blk hk (g' := gb261) (o := .cells #[.string (⟨#[]⟩ : ByteArray), .bool false] 34 (0, 0)) (by (with_reducible repeat (first | refine kD ?_ _ | refine kE ?_ | refine kA ?_ _)); exact BK261.out) NB261_267.out (by simp))
    have n1_ := AM (KeepBut.blk hk (g' := gb264) (o := .cells #[.string t262, .bool t263] 34 (0, 0)) (by (with_reducible repeat (first | refine kD ?_ _ | refine kE ?_ | refine kA ?_ _)); exact BK264.out) NB264_267.out (by simp))
    have n2_ := AM (rM (Kd.R_keep (IsS145.apart (show IsS145 w _ g267 t265 t276 from by repeat (first | (with_reducible first | exact HI267.out | apply IsS145.alloc | apply IsS145.drewN | apply IsS145.drew | apply IsS145.set_1 | refine IsS145.far ?_ NB267_261.out _ | refine IsS145.far ?_ NB267_264.out _) | exact HI267.out)) (by (with_reducible repeat (first | apply rA | apply rD | apply rE)); exact HO270.out) (by decide)) hk (fun _ h => h.2)) (fun _ h => h.1))
    have n3_ := AM (rM (Kd.R_keep (IsS145.apart (show IsS145 w _ g267 t265 t276 from by repeat (first | (with_reducible first | exact HI267.out | apply IsS145.alloc | apply IsS145.drewN | apply IsS145.drew | apply IsS145.set_1 | refine IsS145.far ?_ NB267_261.out _ | refine IsS145.far ?_ NB267_264.out _) | exact HI267.out)) (by (with_reducible repeat (first | apply rA | apply rD | apply rE)); exact HO275.out) (by decide)) hk (fun _ h => h.2)) (fun _ h => h.1))
    have n4_ := AM (rM (Kd.R_keep (IsS145.apart (show IsS145 w _ g267 t265 t276 from by repeat (first | (with_reducible first | exact HI267.out | apply IsS145.alloc | apply IsS145.drewN | apply IsS145.drew | apply IsS145.set_1 | refine IsS145.far ?_ NB267_261.out _ | refine IsS145.far ?_ NB267_264.out _) | exact HI267.out)) (by (with_reducible repeat (first | apply rA | apply rD | apply rE)); exact HO281.out) (by decide)) hk (fun _ h => h.2)) (fun _ h => h.1))
    have n5_ := AM (hb)
    have n6_ := AM (hi)
    clear BK261
    clear BK264
    clear HO270
    clear HO275
    clear HO281
    clear HB
    clear HI267
    have BK261 := n0_
    have BK264 := n1_
    have HO270 := n2_
    have HO275 := n3_
    have HO281 := n4_
    have HB := n5_
    have HI267 := n6_
    clear n0_ n1_ n2_ n3_ n4_ n5_ n6_
    (try clear hb)
    (try clear hb2)
    (try clear hk)
    (try clear hi)
    refine hK.out _ _ ⟨(kC BK264.out 0).trans rfl, (kC BK264.out 1).trans rfl⟩ (fun hHeld => ?_)
    clear hK K
    refine norm_ (a' := ?_) ?_ ?_
    rotate_left
    ·show Act.put _ (some 39) _ = _
     simp only [Act.put, lA, lZ, lS, i64_w, i32_w]
     rfl
    refine one_ (i := 4) (N := none) #[true, true, true, true, true, false] rfl rfl (by kernel_rfl) (by decide) (fun K hK => ?_)
    have hs76 : w75.cell? ⟨gb261, 0, none⟩ = some (.string (⟨#[]⟩ : ByteArray)) := (kC BK261.out 0).trans rfl
    have hfs76 := blk_frozen BK261.out 0
    have hns76_1 := NB264_261.out
    have hms76_1 := NB261_264.out
    have hs77 : w75.cell? ⟨gb261, 1, none⟩ = some (.bool false) := (kC BK261.out 1).trans rfl
    have hfs77 := blk_frozen BK261.out 1
    have hns77_1 := NB264_261.out
    have hms77_1 := NB261_264.out
    refine skip_ (w1 := ?_) (by rfl) rfl ?_ ?_
    rotate_left
    ·go_simp
     rfl
    refine hK.out _ _ ⟨((cell_far (p := ⟨gb261, _, none⟩) NB264_261.out _).trans (((cell_far (p := ⟨gb261, _, none⟩) NB264_261.out _).trans (hHeld.1)))), ((cell_far (p := ⟨gb261, _, none⟩) NB264_261.out _).trans (((cell_far (p := ⟨gb261, _, none⟩) NB264_261.out _).trans (hHeld.2))))⟩ (fun hHeld => ?_)
    clear hK K
    refine pure_ (i := 5) (N := some 3) (v := ?_) (a' := ?_) #[true, true, true, true, true, true] rfl rfl (by kernel_rfl) (fun _ _ _ h => h) (Or.inl ⟨by rfl, ?_⟩) ?_ ?_
    rotate_left
    ·intro w'
     go_simp
     with_reducible rfl
    rotate_left
    ·simp only [Act.put, lA, lZ, lS, i64_w, i32_w]
     rfl
    refine done_ (by kernel_rfl) ?_
    try go_wp2
    refine bodyPost_ret (results_ct rfl _ _ gb261 34 #[.string t262, .bool t263] (0, 0) _ rfl (by (with_reducible repeat (first | refine kD ?_ _ | refine kE ?_ | refine kA ?_ _)); refine blk_put (cs := #[.string t262, .bool false]) ?_ 1 _ rfl; (with_reducible repeat (first | refine kD ?_ _ | refine kE ?_ | refine kA ?_ _)); refine blk_put (cs := #[.string (⟨#[]⟩ : ByteArray), .bool false]) ?_ 0 _ rfl; (with_reducible repeat (first | refine kD ?_ _ | refine kE ?_ | refine kA ?_ _)); exact BK261.out) Tryd.underlying34 rfl (by kernel_rfl)) rfl ?_
    exact ⟨by first | rfl | (simp [errW_none, errW_some] <;> rfl) | (simp [*, errW_none, errW_some] <;> rfl), by repeat (first | (with_reducible first | exact HB.out | apply bA | apply bD | apply bE | refine below_set ?_ (IsS145.ge HI267.out) | refine below_set ?_ GE261.out | refine below_set ?_ GE264.out) | exact HB.out)⟩
  ·rw [if_neg c9] at H
   exact absurd H (by simp)
 ·rw [if_neg c8] at H
  exact absurd H (by simp)

/-! ### laws_qnPipe: function 35 -/
def laws_qnPipe.f (a0_0 : ByteArray) (a0_1 : Bool) (a1_0 : ByteArray) (a1_1 : Bool) : Option (Bool) := some (a0_0.toList == a1_0.toList && (a0_1 == a1_1))
set_option maxHeartbeats 8000000 in
set_option maxRecDepth 100000 in
theorem laws_qnPipe.calls (a0_0 : ByteArray) (a0_1 : Bool) (a1_0 : ByteArray) (a1_1 : Bool) (r : Bool) (w : World) (h : laws_qnPipe.f a0_0 a0_1 a1_0 a1_1 = some r) :
  Calls Tryd.prog 35 #[.agg #[.string a0_0, .bool a0_1], .agg #[.string a1_0, .bool a1_1]] w fun e w' => e = .returned (.bool r) ∧ Below w.heap.size w w' := by
 have hu34 := Tryd.underlying34
 have HB := AM (Below.refl w.heap.size w)
 have H : (some (a0_0.toList == a1_0.toList && (a0_1 == a1_1))) = some r := h
 clear h
 obtain rfl := Option.some.inj H
 go_enter Tryd.func35, Tryd.ntmps35
 go_wp2_with (first | ((with_reducible refine gate_dst (N := 2) rfl ?_); refine box_event ?hg (N := 2) ?hd (cs := #[.string a0_0, .bool a0_1]) (t := 34) ?hr ?_; (case hd => rfl); (case hg => rfl); (case hr => first | (go_simp; done) | (go_simp; rfl)); intro gb290 hg w3 hbox hb; have n0_ := AM (bS (by repeat (first | (with_reducible first | exact HB.out | apply bA | apply bD | apply bE) | exact HB.out)) hb); have n1_ := AM (hbox); have n2_ := AM ((by rw [hg]; exact (bZ (by repeat (first | (with_reducible first | exact HB.out | apply bA | apply bD | apply bE) | exact HB.out))) : w.heap.size ≤ gb290)); have n3_ := AM ((by rw [hg]; exact (bZ (by repeat (first | (with_reducible first | exact HB.out | apply bA | apply bD | apply bE) | exact HB.out))) : w.heap.size ≤ gb290)); clear HB; have HB := n0_; have BK290 := n1_; have GW290 := n2_; have GE290 := n3_; clear n0_ n1_ n2_ n3_; clear hb hbox hg) | ((with_reducible refine gate_dst (N := 3) rfl ?_); refine box_event ?hg (N := 3) ?hd (cs := #[.string a1_0, .bool a1_1]) (t := 34) ?hr ?_; (case hd => rfl); (case hg => rfl); (case hr => first | (go_simp; done) | (go_simp; rfl)); intro gb291 hg w4 hbox hb; have n0_ := AM (kB (g := gb290) (o := .cells #[.string a0_0, .bool a0_1] 34 (0, 0)) (by (with_reducible repeat (first | refine kD ?_ _ | refine kE ?_ | refine kA ?_ _)); exact BK290.out) hb); have n1_ := AM (bS (by repeat (first | (with_reducible first | exact HB.out | apply bA | apply bD | apply bE | refine below_set ?_ GE290.out) | exact HB.out)) hb); have n2_ := AM (hbox); have n3_ := AM ((by rw [hg]; exact (bZ (by repeat (first | (with_reducible first | exact HB.out | apply bA | apply bD | apply bE | refine below_set ?_ GE290.out) | exact HB.out))) : w.heap.size ≤ gb291)); have n4_ := AM ((by rw [hg]; exact (bZ (by repeat (first | (with_reducible first | exact HB.out | apply bA | apply bD | apply bE | refine below_set ?_ GE290.out) | exact HB.out))) : w.heap.size ≤ gb291)); have n5_ := AM ((by rw [hg]; exact Nat.ne_of_lt (blk_lt (g := gb290) (o := .cells #[.string a0_0, .bool a0_1] 34 (0, 0)) (by (with_reducible repeat (first | refine kD ?_ _ | refine kE ?_ | refine kA ?_ _)); exact BK290.out)) : gb290 ≠ gb291)); have n6_ := AM ((by rw [hg]; exact Nat.ne_of_gt (blk_lt (g := gb290) (o := .cells #[.string a0_0, .bool a0_1] 34 (0, 0)) (by (with_reducible repeat (first | refine kD ?_ _ | refine kE ?_ | refine kA ?_ _)); exact BK290.out)) : gb291 ≠ gb290)); clear BK290; clear HB; have BK290 := n0_; have HB := n1_; have BK291 := n2_; have GW291 := n3_; have GE291 := n4_; have NB290_291 := n5_; have NB291_290 := n6_; clear n0_ n1_ n2_ n3_ n4_ n5_ n6_; clear hb hbox hg; have hnb5 := NB290_291.out; have hnc5 := NB291_290.out; have hcz6_0 : w4.cell? ⟨gb290, 0, none⟩ = some (.string a0_0) := (kC BK290.out 0).trans rfl; have hcz6_1 : w4.cell? ⟨gb290, 1, none⟩ = some (.bool a0_1) := (kC BK290.out 1).trans rfl; have hfz6_0 := blk_frozen BK290.out 0; have hfz6_1 := blk_frozen BK290.out 1; have hcz7_0 : w4.cell? ⟨gb291, 0, none⟩ = some (.string a1_0) := (kC BK291.out 0).trans rfl; have hcz7_1 : w4.cell? ⟨gb291, 1, none⟩ = some (.bool a1_1) := (kC BK291.out 1).trans rfl; have hfz7_0 := blk_frozen BK291.out 0; have hfz7_1 := blk_frozen BK291.out 1))
 go_ret
 exact ⟨by first | rfl | (simp [errW_none, errW_some] <;> rfl) | (simp [*, errW_none, errW_some] <;> rfl), by repeat (first | (with_reducible first | exact HB.out | apply bA | apply bD | apply bE | refine below_set ?_ GE290.out | refine below_set ?_ GE291.out) | exact HB.out)⟩

/-! ### impl_in: function 99 -/
def impl_in.f (a0 : Int) (a1 : Int) (a2 : Int) : Option (Bool) := if a0 ≥ a1 then (some (decide (a0 ≤ a2))) else (some false)
set_option maxHeartbeats 8000000 in
set_option maxRecDepth 100000 in
theorem impl_in.calls (a0 : Int) (a1 : Int) (a2 : Int) (r : Bool) (w : World) (h : impl_in.f a0 a1 a2 = some r) :
  Calls Tryd.prog 99 #[.int .i64 a0, .int .i64 a1, .int .i64 a2] w fun e w' => e = .returned (.bool r) ∧ Drawn0 w w' := by
 have H : (if a0 ≥ a1 then (some (decide (a0 ≤ a2))) else (some false)) = some r := h
 clear h
 by_cases c4 : a0 ≥ a1
 ·rw [if_pos c4] at H
  have c4b0 : decide (a1 ≤ a0) = true := decide_eq_true c4
  clear c4
  obtain rfl := Option.some.inj H
  go_enter Tryd.func99, Tryd.ntmps99
  go_wp2
  go_ret
  exact ⟨by first | rfl | (simp; done) | (simp [*]; done), by repeat (first | exact Drawn0.refl _ | apply Drawn0.step)⟩
 ·rw [if_neg c4] at H
  have c4b0 : decide (a1 ≤ a0) = false := decide_eq_false c4
  clear c4
  obtain rfl := Option.some.inj H
  go_enter Tryd.func99, Tryd.ntmps99
  go_wp2
  go_ret
  exact ⟨by first | rfl | (simp; done) | (simp [*]; done), by repeat (first | exact Drawn0.refl _ | apply Drawn0.step)⟩

/-! ### impl_FrameOk: function 38 -/
def impl_FrameOk.l0 : Nat → List ByteArray → Int → List ByteArray → Int → Int → Option (Bool)
  | 0, _, _, _, _, _ => none
  | k + 1, x0, x3, x6, x7, x8 => if x8 < x7 then (if 0 ≤ x8 then (if x8 < (x6.length : Int) then (if (((rdOf ByteArray.empty x6 x8).size : Int) % 8) = 0 then (impl_FrameOk.l0 k x0 (wrap64 (x3 + (wrap64 (((rdOf ByteArray.empty x6 x8).size : Int) / 8)))) x6 x7 (wrap64 (x8 + 1))) else (some false)) else (none)) else (none)) else ((impl_in.f (x0.length : Int) 1 6).bind fun t293 => (if t293 = true then (some (decide (x3 ≤ 200))) else (some false)))
def impl_FrameOk.f (k : Nat) (l0 : List ByteArray) : Option (Bool) := impl_FrameOk.l0 k l0 0 l0 (l0.length : Int) 0
theorem impl_FrameOk.mono_l : ∀ k, (∀ y0 y1 y2 y3 y4, LeO (impl_FrameOk.l0 k y0 y1 y2 y3 y4) (impl_FrameOk.l0 (k + 1) y0 y1 y2 y3 y4))
 | 0 => fun _ _ _ _ _ r h => by simp [impl_FrameOk.l0] at h
 | k + 1 => by
  have ih0 := impl_FrameOk.mono_l k
  ·intro y0 y1 y2 y3 y4
   unfold impl_FrameOk.l0
   repeat' first
   | (with_reducible exact ih0 _ _ _ _ _)
   | (with_reducible exact LeO.refl _)
   | (with_reducible exact LeO.none _)
   | (with_reducible refine LeO.ite ?_ ?_)
   | (with_reducible refine LeO.bind ?_ (fun _ => ?_))
   | exact ih0 _ _ _ _ _
   | exact LeO.none _
   | refine LeO.ite ?_ ?_
   | refine LeO.bind ?_ (fun _ => ?_)
theorem impl_FrameOk.mono : ∀ a0 k, LeO (impl_FrameOk.f k a0) (impl_FrameOk.f (k + 1) a0) := by
 intro a0 k
 have ih0 := impl_FrameOk.mono_l k
 unfold impl_FrameOk.f
 repeat' first
   | (with_reducible exact ih0 _ _ _ _ _)
   | (with_reducible exact LeO.refl _)
   | (with_reducible exact LeO.none _)
   | (with_reducible refine LeO.ite ?_ ?_)
   | (with_reducible refine LeO.bind ?_ (fun _ => ?_))
   | exact ih0 _ _ _ _ _
   | exact LeO.none _
   | refine LeO.ite ?_ ?_
   | refine LeO.bind ?_ (fun _ => ?_)
set_option maxHeartbeats 8000000 in
set_option maxRecDepth 100000 in
theorem impl_FrameOk.calls (k : Nat) (A0 : Option Addr) (c0 : Nat) (l0 : List ByteArray) (r : Bool) (w : World) (hr0 : Kd.C Kd.string w A0 l0.length l0) (hc0 : l0.length ≤ c0) (h : impl_FrameOk.f k l0 = some r) :
  Calls Tryd.prog 38 #[.slice A0 l0.length c0] w fun e w' => e = .returned (.bool r) ∧ Drawn0 w w' := by
 have HR0 := AM hr0
 have HC0 := AM hc0
 clear hr0 hc0
 have H : (impl_FrameOk.l0 k l0 0 l0 (l0.length : Int) 0) = some r := h
 clear h
 have H' := AM H
 clear H
 go_enter Tryd.func38, Tryd.ntmps38
 go_wp2
 go_loopg [3, 8] k (fun kq v3 v8 w' => ∃ (x3_1 : Int) (x8_1 : Int), v3 = .int .i64 x3_1 ∧ v8 = .int .i64 x8_1 ∧ Aside0 (impl_FrameOk.l0 kq l0 x3_1 l0 (l0.length : Int) x8_1 = some r) ∧ Aside0 (kq ≤ k) ∧ Drawn0 w w')
 case atStart => exact ⟨(0), (0), (by first | rfl | (simp; done) | (simp [*]; done)), (by first | rfl | (simp; done) | (simp [*]; done)), H', ⟨Nat.le_refl _⟩, by repeat (first | exact Drawn0.refl _ | apply Drawn0.step)⟩
 case round =>
  clear H'
  obtain ⟨x3_1, x8_1, rfl, rfl, HA, HK1, ⟨m1, rfl⟩⟩ := hrel
  cases gk with
  | zero => exact absurd HA.out (by simp [impl_FrameOk.l0])
  | succ k1 =>
   have H := HA.out
   clear HA
   simp only [impl_FrameOk.l0] at H
   by_cases c2 : x8_1 < (l0.length : Int)
   ·rw [if_pos c2] at H
    have c2b0 : decide (x8_1 < (l0.length : Int)) = true := decide_eq_true c2
    clear c2
    by_cases c3 : 0 ≤ x8_1
    ·rw [if_pos c3] at H
     have c3b0 : decide (0 ≤ x8_1) = true := decide_eq_true c3
     clear c3
     by_cases c4 : x8_1 < (l0.length : Int)
     ·rw [if_pos c4] at H
      have c4b0 : decide (x8_1 < (l0.length : Int)) = true := decide_eq_true c4
      clear c4
      by_cases c5 : (((rdOf ByteArray.empty l0 x8_1).size : Int) % 8) = 0
      ·rw [if_pos c5] at H
       have c5b0 : ((((rdOf ByteArray.empty l0 x8_1).size : Int) % 8) == 0) = true := beq_iff_eq.mpr c5
       have c5b1 : ((((rdOf ByteArray.empty l0 x8_1).size : Int) % 8) != 0) = false := bne_eq_false_iff_eq.mpr c5
       clear c5
       have H' := AM H
       clear H
       have p292 : 0 ≤ (x8_1 : Int) := of_decide_eq_true (by first | (with_reducible assumption) | assumption)
       have q292 : x8_1 < (l0.length : Int) := of_decide_eq_true (by first | (with_reducible assumption) | assumption)
       obtain ⟨ad292, e292, hx292_0⟩ := Kd.at_string HR0.out x8_1 p292 q292
       cases e292
       replace p292 := eq_true p292
       replace q292 := eq_true q292
       go_wp2
       go_roundg k1
       case measure => have := HK1.out; omega
       case rel => exact ⟨(wrap64 (x3_1 + (wrap64 (((rdOf ByteArray.empty l0 x8_1).size : Int) / 8)))), (wrap64 (x8_1 + 1)), (by first | rfl | (simp; done) | (simp [*]; done)), (by first | rfl | (simp; done) | (simp [*]; done)), H', ⟨by have := HK1.out; omega⟩, by repeat (first | exact Drawn0.refl _ | apply Drawn0.step)⟩
      ·rw [if_neg c5] at H
       have c5b0 : ((((rdOf ByteArray.empty l0 x8_1).size : Int) % 8) == 0) = false := beq_eq_false_iff_ne.mpr c5
       have c5b1 : ((((rdOf ByteArray.empty l0 x8_1).size : Int) % 8) != 0) = true := bne_iff_ne.mpr c5
       obtain rfl := Option.some.inj H
       have p292 : 0 ≤ (x8_1 : Int) := of_decide_eq_true (by first | (with_reducible assumption) | assumption)
       have q292 : x8_1 < (l0.length : Int) := of_decide_eq_true (by first | (with_reducible assumption) | assumption)
       obtain ⟨ad292, e292, hx292_0⟩ := Kd.at_string HR0.out x8_1 p292 q292
       cases e292
       replace p292 := eq_true p292
       replace q292 := eq_true q292
       go_wp2
       go_ret
       exact ⟨by first | rfl | (simp; done) | (simp [*]; done), by repeat (first | exact Drawn0.refl _ | apply Drawn0.step)⟩
     ·rw [if_neg c4] at H
      exact absurd H (by simp)
    ·rw [if_neg c3] at H
     exact absurd H (by simp)
   ·rw [if_neg c2] at H
    have c2b0 : decide (x8_1 < (l0.length : Int)) = false := decide_eq_false c2
    clear c2
    replace H := Option.bind_eq_some_iff.mp H
    obtain ⟨t293, A60, H⟩ := H
    replace H : (if t293 = true then (some (decide (x3_1 ≤ 200))) else (some false)) = some r := H
    have A6 := AM A60
    clear A60
    by_cases c7 : t293 = true
    ·subst c7
     have H1 : (some (decide (x3_1 ≤ 200))) = some r := by rw [if_pos rfl] at H; exact H
     clear H
     have H := H1
     clear H1
     obtain rfl := Option.some.inj H
     go_wp2_with (first | ((with_reducible refine gate_callee (f := 99) rfl ?_); refine goesL_ (some 24) rfl rfl Tryd.func99 (by kernel_rfl) rfl #[.int .i64 (l0.length : Int), .int .i64 1, .int .i64 6] rfl (by (try simp only [List.map_toArray, List.map_cons, List.map_nil]); first | done | rfl | (simp only [List.length_drop, List.length_take]; rfl)) ?_; (with_reducible refine (impl_in.calls (l0.length : Int) 1 6 true _ A6.out).mono ?_); rintro e w' ⟨rfl, ⟨nd, rfl⟩⟩; refine ⟨_, rfl, ?_⟩))
     go_ret
     exact ⟨by first | rfl | (simp; done) | (simp [*]; done), by repeat (first | exact Drawn0.refl _ | apply Drawn0.step)⟩
    ·replace c7 := Bool.eq_false_iff.mpr c7
     subst c7
     have H1 : (some false) = some r := by rw [if_neg (show ¬ (false = true) by decide)] at H; exact H
     clear H
     have H := H1
     clear H1
     obtain rfl := Option.some.inj H
     go_wp2_with (first | ((with_reducible refine gate_callee (f := 99) rfl ?_); refine goesL_ (some 24) rfl rfl Tryd.func99 (by kernel_rfl) rfl #[.int .i64 (l0.length : Int), .int .i64 1, .int .i64 6] rfl (by (try simp only [List.map_toArray, List.map_cons, List.map_nil]); first | done | rfl | (simp only [List.length_drop, List.length_take]; rfl)) ?_; (with_reducible refine (impl_in.calls (l0.length : Int) 1 6 false _ A6.out).mono ?_); rintro e w' ⟨rfl, ⟨nd, rfl⟩⟩; refine ⟨_, rfl, ?_⟩))
     go_ret
     exact ⟨by first | rfl | (simp; done) | (simp [*]; done), by repeat (first | exact Drawn0.refl _ | apply Drawn0.step)⟩

end Go.Proofs.YtfkjjmhbljlbkaaDoor.P
