-- Typed by a program of this session (wip/print2.sh, given.py), after the kit's print: functions as plain Lean, and their contracts.
import Derived.Test.YtfkjjmhbljlbkaaDoorAFnPipe0
import Derived.Test.YtfkjjmhbljlbkaaDoorAFnPipe3
import Derived.Test.YtfkjjmhbljlbkaaDoorAFnPipe4
import Derived.Test.YtfkjjmhbljlbkaaDoorAFnPipe6
import Derived.Test.YtfkjjmhbljlbkaaDoorAFnPipe7
import Derived.Test.YtfkjjmhbljlbkaaDoorAFnPipe9
namespace Go.Proofs.YtfkjjmhbljlbkaaDoor.P
open Go.RowKit Go.Proofs.YtfkjjmhbljlbkaaDoorW.PrintWords Go.Proofs.YtfkjjmhbljlbkaaDoorW.PrintLast Go.Proofs.YtfkjjmhbljlbkaaDoorW.PrintMore
attribute [local go_sem] max2_int min2_int max_two min_two max_three min_three max_four min_four   -- for this text's walks alone
set_option linter.unusedVariables false
set_option linter.unusedSimpArgs false

/-! ### laws_FnPipe: function 8 -/
mutual
def laws_FnPipe.j0 : Nat → List Int → List Int → Bool → Option (Bool)
  | 0, _, _, _ => none
  | k + 1, x0, x1, x25 => if x25 = true then (some true) else ((spec_DrawPipeFeed.f k x0).bind fun bt294 => ((impl_PipeFeed.f k bt294.1 bt294.2.1 bt294.2.2).bind fun bt298 => ((spec_PipeFeed.f k bt294.1 bt294.2.1 bt294.2.2).bind fun bt304 => ((laws_qnPipe.f bt298.1 bt298.2.1 bt304.1 bt304.2.1).bind fun t310 => (if t310 = true then (if (bt298.2.2.length : Int) = (bt304.2.2.length : Int) then ((impl_PipeOk.f k bt294.1 bt294.2.1).bind fun t311 => ((spec_PipeOk.f k bt294.1 bt294.2.1).bind fun t312 => (if (t311 != t312) = true then (none) else ((spec_PipeOk.f k bt294.1 bt294.2.1).bind fun t313 => (if t313 = true then (laws_FnPipe.j1 k x1 bt294.2.2 bt298.2.2 bt304.2.2 (decide ((bt294.2.2.size : Int) > 4000)) bt294.1 bt294.2.1 bt298.1 bt298.2.1 bt304.1 bt304.2.1) else (laws_FnPipe.j1 k x1 bt294.2.2 bt298.2.2 bt304.2.2 true bt294.1 bt294.2.1 bt298.1 bt298.2.1 bt304.1 bt304.2.1)))))) else (none)) else (none))))))
def laws_FnPipe.j1 : Nat → List Int → ByteArray → List (List ByteArray) → List (List ByteArray) → Bool → ByteArray → Bool → ByteArray → Bool → ByteArray → Bool → Option (Bool)
  | 0, _, _, _, _, _, _, _, _, _, _, _ => none
  | k + 1, x1, x6, x8, x10, x70, x298000, x298001, x304000, x304001, x310000, x310001 => if x70 = true then ((laws_qnPipe.f x304000 x304001 x310000 x310001).bind fun t314 => (if t314 = true then (if (x8.length : Int) = (x10.length : Int) then ((impl_PipeOk.f k x298000 x298001).bind fun t315 => ((spec_PipeOk.f k x298000 x298001).bind fun t316 => (some (t315 == t316)))) else (none)) else (none))) else (if (wrap64 ((x6.size : Int) + 1)) = 0 then (none) else (if 0 ≤ ((x1.length : Int) % (wrap64 ((x6.size : Int) + 1))) then (if ((x1.length : Int) % (wrap64 ((x6.size : Int) + 1))) ≤ (x6.size : Int) then ((impl_PipeFeed.f k x298000 x298001 (x6.extract 0 (((x1.length : Int) % (wrap64 ((x6.size : Int) + 1))) : Int).toNat)).bind fun bt317 => ((impl_PipeFeed.f k bt317.1 bt317.2.1 (x6.extract (((x1.length : Int) % (wrap64 ((x6.size : Int) + 1))) : Int).toNat x6.size)).bind fun bt323 => ((some (([] : List (List ByteArray)) : List (List ByteArray))).bind fun y329 => (if y329.length + bt317.2.2.length < 5864062014805 then ((some (y329 ++ bt317.2.2 : List (List ByteArray))).bind fun y332 => (if y332.length + bt323.2.2.length < 5864062014805 then ((some (y332 ++ bt323.2.2 : List (List ByteArray))).bind fun y335 => (if (y335.length : Int) = (x8.length : Int) then (laws_FnPipe.l0 k x8 x10 y335 0 x304000 x304001 bt323.1 bt323.2.1) else (none))) else (none))) else (none))))) else (none)) else (none)))
def laws_FnPipe.l0 : Nat → List (List ByteArray) → List (List ByteArray) → List (List ByteArray) → Int → ByteArray → Bool → ByteArray → Bool → Option (Bool)
  | 0, _, _, _, _, _, _, _, _ => none
  | k + 1, x8, x10, x16, x17, x304000, x304001, x329000, x329001 => if x17 < (x8.length : Int) then (if 0 ≤ x17 then (if x17 < (x10.length : Int) then ((laws_qnTexts.f k (rd_L2 x8 x17) (rd_L2 x10 x17)).bind fun t342 => (if t342 = true then (if x17 < (x16.length : Int) then ((laws_qnTexts.f k (rd_L2 x16 x17) (rd_L2 x8 x17)).bind fun t345 => (if t345 = true then ((impl_FrameOk.f k (rd_L2 x8 x17)).bind fun t347 => (if t347 = true then (laws_FnPipe.l0 k x8 x10 x16 (wrap64 (x17 + 1)) x304000 x304001 x329000 x329001) else (none))) else (none))) else (none)) else (none))) else (none)) else (none)) else ((impl_PipeOk.f k x304000 x304001).bind fun t338 => (if t338 = true then ((laws_qnPipe.f x329000 x329001 x304000 x304001).bind fun t339 => (some t339)) else (none)))
end
def laws_FnPipe.f (k : Nat) (l0 : List Int) (l1 : List Int) : Option (Bool) := if (l0.length : Int) > 1048576 then (laws_FnPipe.j0 k l0 l1 true) else (laws_FnPipe.j0 k l0 l1 (decide ((l1.length : Int) > 1048576)))
theorem laws_FnPipe.mono_l : ∀ k, (∀ y0 y1 y2, LeO (laws_FnPipe.j0 k y0 y1 y2) (laws_FnPipe.j0 (k + 1) y0 y1 y2)) ∧ (∀ y0 y1 y2 y3 y4 y5 y6 y7 y8 y9 y10, LeO (laws_FnPipe.j1 k y0 y1 y2 y3 y4 y5 y6 y7 y8 y9 y10) (laws_FnPipe.j1 (k + 1) y0 y1 y2 y3 y4 y5 y6 y7 y8 y9 y10)) ∧ (∀ y0 y1 y2 y3 y4 y5 y6 y7, LeO (laws_FnPipe.l0 k y0 y1 y2 y3 y4 y5 y6 y7) (laws_FnPipe.l0 (k + 1) y0 y1 y2 y3 y4 y5 y6 y7))
 | 0 => ⟨fun _ _ _ r h => by simp [laws_FnPipe.j0] at h, fun _ _ _ _ _ _ _ _ _ _ _ r h => by simp [laws_FnPipe.j1] at h, fun _ _ _ _ _ _ _ _ r h => by simp [laws_FnPipe.l0] at h⟩
 | k + 1 => by
  obtain ⟨ih0, ih1, ih2⟩ := laws_FnPipe.mono_l k
  refine ⟨?_, ?_, ?_⟩
  ·intro y0 y1 y2
   unfold laws_FnPipe.j0
   repeat' first
   | (with_reducible exact ih0 _ _ _)
   | (with_reducible exact ih1 _ _ _ _ _ _ _ _ _ _ _)
   | (with_reducible exact ih2 _ _ _ _ _ _ _ _)
   | (with_reducible exact impl_FrameOk.mono _ _)
   | (with_reducible exact impl_PipeFeed.mono _ _ _ _)
   | (with_reducible exact impl_PipeOk.mono _ _ _)
   | (with_reducible exact laws_qnTexts.mono _ _ _)
   | (with_reducible exact spec_DrawPipeFeed.mono _ _)
   | (with_reducible exact spec_PipeFeed.mono _ _ _ _)
   | (with_reducible exact spec_PipeOk.mono _ _ _)
   | (with_reducible exact LeO.refl _)
   | (with_reducible exact LeO.none _)
   | (with_reducible refine LeO.ite ?_ ?_)
   | (with_reducible refine LeO.bind ?_ (fun _ => ?_))
   | exact ih0 _ _ _
   | exact ih1 _ _ _ _ _ _ _ _ _ _ _
   | exact ih2 _ _ _ _ _ _ _ _
   | exact impl_FrameOk.mono _ _
   | exact impl_PipeFeed.mono _ _ _ _
   | exact impl_PipeOk.mono _ _ _
   | exact laws_qnTexts.mono _ _ _
   | exact spec_DrawPipeFeed.mono _ _
   | exact spec_PipeFeed.mono _ _ _ _
   | exact spec_PipeOk.mono _ _ _
   | exact LeO.none _
   | refine LeO.ite ?_ ?_
   | refine LeO.bind ?_ (fun _ => ?_)
  ·intro y0 y1 y2 y3 y4 y5 y6 y7 y8 y9 y10
   unfold laws_FnPipe.j1
   repeat' first
   | (with_reducible exact ih0 _ _ _)
   | (with_reducible exact ih1 _ _ _ _ _ _ _ _ _ _ _)
   | (with_reducible exact ih2 _ _ _ _ _ _ _ _)
   | (with_reducible exact impl_FrameOk.mono _ _)
   | (with_reducible exact impl_PipeFeed.mono _ _ _ _)
   | (with_reducible exact impl_PipeOk.mono _ _ _)
   | (with_reducible exact laws_qnTexts.mono _ _ _)
   | (with_reducible exact spec_DrawPipeFeed.mono _ _)
   | (with_reducible exact spec_PipeFeed.mono _ _ _ _)
   | (with_reducible exact spec_PipeOk.mono _ _ _)
   | (with_reducible exact LeO.refl _)
   | (with_reducible exact LeO.none _)
   | (with_reducible refine LeO.ite ?_ ?_)
   | (with_reducible refine LeO.bind ?_ (fun _ => ?_))
   | exact ih0 _ _ _
   | exact ih1 _ _ _ _ _ _ _ _ _ _ _
   | exact ih2 _ _ _ _ _ _ _ _
   | exact impl_FrameOk.mono _ _
   | exact impl_PipeFeed.mono _ _ _ _
   | exact impl_PipeOk.mono _ _ _
   | exact laws_qnTexts.mono _ _ _
   | exact spec_DrawPipeFeed.mono _ _
   | exact spec_PipeFeed.mono _ _ _ _
   | exact spec_PipeOk.mono _ _ _
   | exact LeO.none _
   | refine LeO.ite ?_ ?_
   | refine LeO.bind ?_ (fun _ => ?_)
  ·intro y0 y1 y2 y3 y4 y5 y6 y7
   unfold laws_FnPipe.l0
   repeat' first
   | (with_reducible exact ih0 _ _ _)
   | (with_reducible exact ih1 _ _ _ _ _ _ _ _ _ _ _)
   | (with_reducible exact ih2 _ _ _ _ _ _ _ _)
   | (with_reducible exact impl_FrameOk.mono _ _)
   | (with_reducible exact impl_PipeFeed.mono _ _ _ _)
   | (with_reducible exact impl_PipeOk.mono _ _ _)
   | (with_reducible exact laws_qnTexts.mono _ _ _)
   | (with_reducible exact spec_DrawPipeFeed.mono _ _)
   | (with_reducible exact spec_PipeFeed.mono _ _ _ _)
   | (with_reducible exact spec_PipeOk.mono _ _ _)
   | (with_reducible exact LeO.refl _)
   | (with_reducible exact LeO.none _)
   | (with_reducible refine LeO.ite ?_ ?_)
   | (with_reducible refine LeO.bind ?_ (fun _ => ?_))
   | exact ih0 _ _ _
   | exact ih1 _ _ _ _ _ _ _ _ _ _ _
   | exact ih2 _ _ _ _ _ _ _ _
   | exact impl_FrameOk.mono _ _
   | exact impl_PipeFeed.mono _ _ _ _
   | exact impl_PipeOk.mono _ _ _
   | exact laws_qnTexts.mono _ _ _
   | exact spec_DrawPipeFeed.mono _ _
   | exact spec_PipeFeed.mono _ _ _ _
   | exact spec_PipeOk.mono _ _ _
   | exact LeO.none _
   | refine LeO.ite ?_ ?_
   | refine LeO.bind ?_ (fun _ => ?_)
theorem laws_FnPipe.mono : ∀ a0 a1 k, LeO (laws_FnPipe.f k a0 a1) (laws_FnPipe.f (k + 1) a0 a1) := by
 intro a0 a1 k
 obtain ⟨ih0, ih1, ih2⟩ := laws_FnPipe.mono_l k
 unfold laws_FnPipe.f
 repeat' first
   | (with_reducible exact ih0 _ _ _)
   | (with_reducible exact ih1 _ _ _ _ _ _ _ _ _ _ _)
   | (with_reducible exact ih2 _ _ _ _ _ _ _ _)
   | (with_reducible exact impl_FrameOk.mono _ _)
   | (with_reducible exact impl_PipeFeed.mono _ _ _ _)
   | (with_reducible exact impl_PipeOk.mono _ _ _)
   | (with_reducible exact laws_qnTexts.mono _ _ _)
   | (with_reducible exact spec_DrawPipeFeed.mono _ _)
   | (with_reducible exact spec_PipeFeed.mono _ _ _ _)
   | (with_reducible exact spec_PipeOk.mono _ _ _)
   | (with_reducible exact LeO.refl _)
   | (with_reducible exact LeO.none _)
   | (with_reducible refine LeO.ite ?_ ?_)
   | (with_reducible refine LeO.bind ?_ (fun _ => ?_))
   | exact ih0 _ _ _
   | exact ih1 _ _ _ _ _ _ _ _ _ _ _
   | exact ih2 _ _ _ _ _ _ _ _
   | exact impl_FrameOk.mono _ _
   | exact impl_PipeFeed.mono _ _ _ _
   | exact impl_PipeOk.mono _ _ _
   | exact laws_qnTexts.mono _ _ _
   | exact spec_DrawPipeFeed.mono _ _
   | exact spec_PipeFeed.mono _ _ _ _
   | exact spec_PipeOk.mono _ _ _
   | exact LeO.none _
   | refine LeO.ite ?_ ?_
   | refine LeO.bind ?_ (fun _ => ?_)
def laws_FnPipe.T6 : Bool × List (List Nat × List Nat) := (true, [([], []), ([], []), ([0, 1], [0, 1]), ([2], [2]), ([3, 2], [3]), ([4], [4]), ([5, 4], [4, 5]), ([4], [4]), ([7, 4], [4, 7]), ([6, 8, 4], [4, 6, 8]), ([4, 9], [4, 9]), ([10, 4], [10]), ([11], [11]), ([12, 11, 11], [11, 12]), ([11], [11]), ([14, 13, 11], [11, 14]), ([13, 15, 11], [11, 13, 15]), ([11, 16], [11, 16]), ([17, 15], [17]), ([18], [18]), ([19, 18, 18], [18, 19]), ([20, 18], [18, 20]), ([18, 21], [18, 21]), ([22, 20], [22]), ([23], [23]), ([24, 23], [23, 24]), ([25, 23], [23, 25]), ([23, 26], [23, 26])])
def laws_FnPipe.B6 : List Nat := [0, 0, 3, 7, 15, 31, 63, 31, 159, 511, 1023, 2047, 4095, 8191, 4095, 32767, 65535, 131071, 262143, 524287, 1048575, 2097151, 4194303, 8388607, 16777215, 33554431, 67108863, 134217727]
theorem laws_FnPipe.tab6 : rtab .any (opsOf Tryd.f8 6) = laws_FnPipe.T6 := by kernel_rfl
theorem laws_FnPipe.bits6 : waitsOk laws_FnPipe.T6.2 laws_FnPipe.B6 = true := by kernel_rfl
def laws_FnPipe.T7 : Bool × List (List Nat × List Nat) := (true, [([], []), ([], []), ([0, 1], [0, 1]), ([2, 2], [2]), ([3], [3]), ([4, 3], [3, 4]), ([3], [3]), ([6, 3], [3, 6]), ([5, 7, 3], [3, 5, 7]), ([3, 8], [3, 8]), ([9, 3], [9]), ([10], [10]), ([11, 10, 10], [10, 11]), ([10], [10]), ([13, 12, 10], [10, 13]), ([12, 14, 10], [10, 12, 14]), ([10, 15], [10, 15]), ([16, 14, 0, 1, 2, 3, 4, 5, 6, 7, 8, 9, 10, 11, 12, 13, 14, 15, 16], [16])])
def laws_FnPipe.B7 : List Nat := [0, 0, 3, 7, 15, 31, 15, 79, 255, 511, 1023, 2047, 4095, 2047, 16383, 32767, 65535, 131071]
theorem laws_FnPipe.tab7 : rtab .any (opsOf Tryd.f8 7) = laws_FnPipe.T7 := by kernel_rfl
theorem laws_FnPipe.bits7 : waitsOk laws_FnPipe.T7.2 laws_FnPipe.B7 = true := by kernel_rfl
def laws_FnPipe.T9 : Bool × List (List Nat × List Nat) := (true, [([], []), ([], []), ([], []), ([1, 2], [1, 2]), ([0, 3], [0, 3]), ([4], [4]), ([5], [5]), ([5], [5]), ([], []), ([8, 6, 4, 0, 1, 2, 3, 4, 5, 6, 8], [6, 8]), ([7, 9, 0, 1, 2, 3, 4, 5, 6, 7, 8, 9], [7])])
def laws_FnPipe.B9 : List Nat := [0, 0, 0, 6, 15, 31, 63, 63, 0, 383, 1023]
theorem laws_FnPipe.tab9 : rtab .any (opsOf Tryd.f8 9) = laws_FnPipe.T9 := by kernel_rfl
theorem laws_FnPipe.bits9 : waitsOk laws_FnPipe.T9.2 laws_FnPipe.B9 = true := by kernel_rfl
def laws_FnPipe.T10 : Bool × List (List Nat × List Nat) := (true, [([], []), ([], []), ([], []), ([1, 2], [1, 2]), ([0, 3], [0, 3]), ([4], [4]), ([5], [5]), ([5], [5]), ([], []), ([8, 6, 4, 0, 1, 2, 3, 4, 5, 6, 8], [6, 8]), ([7, 9, 0, 1, 2, 3, 4, 5, 6, 7, 8, 9], [7])])
def laws_FnPipe.B10 : List Nat := [0, 0, 0, 6, 15, 31, 63, 63, 0, 383, 1023]
theorem laws_FnPipe.tab10 : rtab .any (opsOf Tryd.f8 10) = laws_FnPipe.T10 := by kernel_rfl
theorem laws_FnPipe.bits10 : waitsOk laws_FnPipe.T10.2 laws_FnPipe.B10 = true := by kernel_rfl
def laws_FnPipe.T17 : Bool × List (List Nat × List Nat) := (true, [([], []), ([], []), ([0, 1], [0, 1]), ([2], [2]), ([], []), ([], []), ([4, 5], [4, 5]), ([6], [6]), ([3, 7], [3, 7]), ([8], [8]), ([9, 8], [9]), ([10], [10]), ([10], [10]), ([11, 12, 10], [10, 11, 12]), ([13, 10], [10, 13]), ([10], [10]), ([10], [10]), ([15, 16, 10], [10, 15, 16]), ([17, 10], [10, 17]), ([14, 18, 10, 10], [10, 14, 18]), ([19, 10], [10, 19]), ([10, 20], [10, 20]), ([21, 19], [21]), ([22], [22]), ([22], [22]), ([23, 24, 22], [22, 23, 24]), ([25, 22], [22, 25]), ([26, 22, 22], [22, 26]), ([27, 22], [22, 27]), ([22, 28], [22, 28])])
def laws_FnPipe.B17 : List Nat := [0, 0, 3, 7, 0, 0, 48, 112, 255, 511, 1023, 2047, 2047, 8191, 16383, 2047, 2047, 100351, 231423, 524287, 1048575, 2097151, 4194303, 8388607, 8388607, 33554431, 67108863, 134217727, 268435455, 536870911]
theorem laws_FnPipe.tab17 : rtab .any (opsOf Tryd.f8 17) = laws_FnPipe.T17 := by kernel_rfl
theorem laws_FnPipe.bits17 : waitsOk laws_FnPipe.T17.2 laws_FnPipe.B17 = true := by kernel_rfl
set_option maxHeartbeats 8000000 in
set_option maxRecDepth 100000 in
theorem laws_FnPipe.calls (k : Nat) (A0 : Option Addr) (c0 : Nat) (l0 : List Int) (A1 : Option Addr) (c1 : Nat) (l1 : List Int) (r : Bool) (w : World) (hr0 : Kd.C (Kd.int .u8) w A0 l0.length l0) (hc0 : l0.length ≤ c0) (hr1 : Kd.C (Kd.int .u8) w A1 l1.length l1) (hc1 : l1.length ≤ c1) (h : laws_FnPipe.f k l0 l1 = some r) :
  Calls Tryd.prog 8 #[.slice A0 l0.length c0, .slice A1 l1.length c1] w fun e w' => e = .returned (.bool r) ∧ Below w.heap.size w w' := by
 have hu34 := Tryd.underlying34
 have HR0 := AM hr0
 have HC0 := AM hc0
 clear hr0 hc0
 have HR1 := AM hr1
 have HC1 := AM hc1
 clear hr1 hc1
 have HB := AM (Below.refl w.heap.size w)
 have H : (if (l0.length : Int) > 1048576 then (laws_FnPipe.j0 k l0 l1 true) else (laws_FnPipe.j0 k l0 l1 (decide ((l1.length : Int) > 1048576)))) = some r := h
 clear h
 have HC3 := AM H
 clear H
 go_enter Tryd.func8, Tryd.ntmps8
 go_upto_region 1 with (fail)
 go_cut [25] (fun v25 wc => ∃ (kq : Nat) (x25_2 : Bool), v25 = .bool x25_2 ∧ Aside0 (laws_FnPipe.j0 kq l0 l1 x25_2 = some r) ∧ Aside0 (kq ≤ k) ∧ Aside0 (Below w.heap.size w wc))
 case first =>
  have H := HC3.out
  clear HC3
  by_cases c4 : (l0.length : Int) > 1048576
  ·rw [if_pos c4] at H
   have c4b0 : decide (1048576 < (l0.length : Int)) = true := decide_eq_true c4
   have c4b1 : decide (1048576 < l0.length) = true := decide_eq_true (by omega)
   clear c4
   (first | rw [c4b0] | (simp only [i64_w, i32_w]; rw [c4b0]) | skip)
   have H' := AM H
   clear H
   go_wp2
   go_meet
   case rel => exact ⟨_, (true), (by first | rfl | (simp; done) | (simp [*]; done)), H', ⟨by first | omega | exact Nat.le_refl _⟩, ⟨by repeat (first | (with_reducible first | exact HB.out | apply bA | apply bD | apply bE) | exact HB.out)⟩⟩
  ·rw [if_neg c4] at H
   have c4b0 : decide (1048576 < (l0.length : Int)) = false := decide_eq_false c4
   have c4b1 : decide (1048576 < l0.length) = false := decide_eq_false (by omega)
   clear c4
   (first | rw [c4b0] | (simp only [i64_w, i32_w]; rw [c4b0]) | skip)
   have H' := AM H
   clear H
   go_wp2
   go_meet
   case rel => exact ⟨_, (decide ((l1.length : Int) > 1048576)), (by first | rfl | (simp; done) | (simp [*]; done)), H', ⟨by first | omega | exact Nat.le_refl _⟩, ⟨by repeat (first | (with_reducible first | exact HB.out | apply bA | apply bD | apply bE) | exact HB.out)⟩⟩
 case rest =>
  clear HC3
  try clear c1
  try clear p2
  try clear c4
  try clear c4b0
  try clear c4b1
  obtain ⟨kq, x25_2, rfl, HA, HJ2, HB⟩ := hcut
  cases kq with
  | zero => exact absurd HA.out (by simp [laws_FnPipe.j0])
  | succ kj2 =>
   have H := HA.out
   clear HA
   simp only [laws_FnPipe.j0] at H
   by_cases c5 : x25_2 = true
   ·subst c5
    have H1 : (some true) = some r := by rw [if_pos rfl] at H; exact H
    clear H
    have H := H1
    clear H1
    obtain rfl := Option.some.inj H
    go_wp2
    go_ret
    exact ⟨by first | rfl | (simp [errW_none, errW_some] <;> rfl) | (simp [*, errW_none, errW_some] <;> rfl), by repeat (first | (with_reducible first | exact HB.out | apply bA | apply bD | apply bE) | exact HB.out)⟩
   ·replace c5 := Bool.eq_false_iff.mpr c5
    subst c5
    have H1 : ((spec_DrawPipeFeed.f kj2 l0).bind fun bt294 => ((impl_PipeFeed.f kj2 bt294.1 bt294.2.1 bt294.2.2).bind fun bt298 => ((spec_PipeFeed.f kj2 bt294.1 bt294.2.1 bt294.2.2).bind fun bt304 => ((laws_qnPipe.f bt298.1 bt298.2.1 bt304.1 bt304.2.1).bind fun t310 => (if t310 = true then (if (bt298.2.2.length : Int) = (bt304.2.2.length : Int) then ((impl_PipeOk.f kj2 bt294.1 bt294.2.1).bind fun t311 => ((spec_PipeOk.f kj2 bt294.1 bt294.2.1).bind fun t312 => (if (t311 != t312) = true then (none) else ((spec_PipeOk.f kj2 bt294.1 bt294.2.1).bind fun t313 => (if t313 = true then (laws_FnPipe.j1 kj2 l1 bt294.2.2 bt298.2.2 bt304.2.2 (decide ((bt294.2.2.size : Int) > 4000)) bt294.1 bt294.2.1 bt298.1 bt298.2.1 bt304.1 bt304.2.1) else (laws_FnPipe.j1 kj2 l1 bt294.2.2 bt298.2.2 bt304.2.2 true bt294.1 bt294.2.1 bt298.1 bt298.2.1 bt304.1 bt304.2.1)))))) else (none)) else (none)))))) = some r := by rw [if_neg (show ¬ (false = true) by decide)] at H; exact H
    clear H
    have H := H1
    clear H1
    replace H := Option.bind_eq_some_iff.mp H
    obtain ⟨⟨t294, t295, t296⟩, A60, H⟩ := H
    replace H : ((impl_PipeFeed.f kj2 t294 t295 t296).bind fun bt298 => ((spec_PipeFeed.f kj2 t294 t295 t296).bind fun bt304 => ((laws_qnPipe.f bt298.1 bt298.2.1 bt304.1 bt304.2.1).bind fun t310 => (if t310 = true then (if (bt298.2.2.length : Int) = (bt304.2.2.length : Int) then ((impl_PipeOk.f kj2 t294 t295).bind fun t311 => ((spec_PipeOk.f kj2 t294 t295).bind fun t312 => (if (t311 != t312) = true then (none) else ((spec_PipeOk.f kj2 t294 t295).bind fun t313 => (if t313 = true then (laws_FnPipe.j1 kj2 l1 t296 bt298.2.2 bt304.2.2 (decide ((t296.size : Int) > 4000)) t294 t295 bt298.1 bt298.2.1 bt304.1 bt304.2.1) else (laws_FnPipe.j1 kj2 l1 t296 bt298.2.2 bt304.2.2 true t294 t295 bt298.1 bt298.2.1 bt304.1 bt304.2.1)))))) else (none)) else (none))))) = some r := H
    have A6 := AM A60
    clear A60
    replace H := Option.bind_eq_some_iff.mp H
    obtain ⟨⟨t298, t299, t300⟩, A70, H⟩ := H
    replace H : ((spec_PipeFeed.f kj2 t294 t295 t296).bind fun bt304 => ((laws_qnPipe.f t298 t299 bt304.1 bt304.2.1).bind fun t310 => (if t310 = true then (if (t300.length : Int) = (bt304.2.2.length : Int) then ((impl_PipeOk.f kj2 t294 t295).bind fun t311 => ((spec_PipeOk.f kj2 t294 t295).bind fun t312 => (if (t311 != t312) = true then (none) else ((spec_PipeOk.f kj2 t294 t295).bind fun t313 => (if t313 = true then (laws_FnPipe.j1 kj2 l1 t296 t300 bt304.2.2 (decide ((t296.size : Int) > 4000)) t294 t295 t298 t299 bt304.1 bt304.2.1) else (laws_FnPipe.j1 kj2 l1 t296 t300 bt304.2.2 true t294 t295 t298 t299 bt304.1 bt304.2.1)))))) else (none)) else (none)))) = some r := H
    have A7 := AM A70
    clear A70
    replace H := Option.bind_eq_some_iff.mp H
    obtain ⟨⟨t304, t305, t306⟩, A80, H⟩ := H
    replace H : ((laws_qnPipe.f t298 t299 t304 t305).bind fun t310 => (if t310 = true then (if (t300.length : Int) = (t306.length : Int) then ((impl_PipeOk.f kj2 t294 t295).bind fun t311 => ((spec_PipeOk.f kj2 t294 t295).bind fun t312 => (if (t311 != t312) = true then (none) else ((spec_PipeOk.f kj2 t294 t295).bind fun t313 => (if t313 = true then (laws_FnPipe.j1 kj2 l1 t296 t300 t306 (decide ((t296.size : Int) > 4000)) t294 t295 t298 t299 t304 t305) else (laws_FnPipe.j1 kj2 l1 t296 t300 t306 true t294 t295 t298 t299 t304 t305)))))) else (none)) else (none))) = some r := H
    have A8 := AM A80
    clear A80
    have HC9 := AM H
    clear H
    go_upto_region 6 with (first | ((with_reducible refine gate_callee (f := 33) rfl ?_); refine goesL_ (some 28) rfl rfl Tryd.func33 (by kernel_rfl) rfl #[.slice A0 l0.length c0] rfl (by (try simp only [List.map_toArray, List.map_cons, List.map_nil]); first | done | rfl | (simp only [List.length_drop, List.length_take]; rfl)) ?_; (with_reducible refine (spec_DrawPipeFeed.calls kj2 _ _ l0 t294 t295 t296 _ ?side1 ?side2 A6.out).mono ?_); (case side1 => repeat (first | exact (Kd.C_below HR0.out HB.out) | (with_reducible refine Kd.C_alloc ?_ _) | (with_reducible refine Kd.C_drewN ?_ _) | (with_reducible refine Kd.C_drew ?_))); (case side2 => exact HC0.out); rintro e w10 ⟨rfl, hb⟩; refine ⟨_, rfl, ?_⟩; have n0_ := AM (bS (by repeat (first | (with_reducible first | exact HB.out | apply bA | apply bD | apply bE) | exact HB.out)) hb); clear HB; have HB := n0_; clear n0_; (try clear hb); (try clear hb2); (try clear hk); (try clear hi)) | ((with_reducible refine gate_dst (N := 5) rfl ?_); (try (refine gate_guard (by rfl) ?_; dsimp only)); refine box_event ?hg (N := 5) ?hd (cs := #[.string (⟨#[]⟩ : ByteArray), .bool false]) (t := 34) ?hr ?_; (case hd => rfl); (case hg => rfl); (case hr => first | (go_simp; done) | (go_simp; rfl)); intro gb297 hg w11 hbox hb; have n0_ := AM (bS (by repeat (first | (with_reducible first | exact HB.out | apply bA | apply bD | apply bE) | exact HB.out)) hb); have n1_ := AM (hbox); have n2_ := AM ((by rw [hg]; exact (bZ (by repeat (first | (with_reducible first | exact HB.out | apply bA | apply bD | apply bE) | exact HB.out))) : w.heap.size ≤ gb297)); have n3_ := AM ((by rw [hg]; exact (bZ (by repeat (first | (with_reducible first | exact HB.out | apply bA | apply bD | apply bE) | exact HB.out))) : w.heap.size ≤ gb297)); clear HB; have HB := n0_; have BK297 := n1_; have GW297 := n2_; have GE297 := n3_; clear n0_ n1_ n2_ n3_; clear hb hbox hg; have hcz12_0 : w11.cell? ⟨gb297, 0, none⟩ = some (.string (⟨#[]⟩ : ByteArray)) := (kC BK297.out 0).trans rfl; have hcz12_1 : w11.cell? ⟨gb297, 1, none⟩ = some (.bool false) := (kC BK297.out 1).trans rfl; have hfz12_0 := blk_frozen BK297.out 0; have hfz12_1 := blk_frozen BK297.out 1) | ((with_reducible refine gate_callee (f := 19) rfl ?_); refine goesL_ (some 34) rfl rfl Tryd.func19 (by kernel_rfl) rfl #[.agg #[.string t294, .bool t295], .string t296] rfl (by (try simp only [List.map_toArray, List.map_cons, List.map_nil]); first | done | rfl | (simp only [List.length_drop, List.length_take]; rfl)) ?_; (with_reducible refine (impl_PipeFeed.calls kj2 t294 t295 t296 t298 t299 t300 _ A7.out).mono ?_); rintro e w13 ⟨v301, rfl, ho0, hb⟩; refine ⟨_, rfl, ?_⟩; have n0_ := AM (Kd.N_lower (nM (ok' := fun k_ => k_ ≠ gb297) (Kd.S_N (Kd.S_bound ho0)) (fun k_ hk_ => (Kd.freshB (g := gb297) (o := .cells #[.string t294, .bool t295] 34 (0, 0)) (by (with_reducible repeat (first | refine kD ?_ _ | refine kE ?_ | refine kA ?_ _)); refine blk_put (cs := #[.string t294, .bool false]) ?_ 1 _ rfl; (with_reducible repeat (first | refine kD ?_ _ | refine kE ?_ | refine kA ?_ _)); refine blk_put (cs := #[.string (⟨#[]⟩ : ByteArray), .bool false]) ?_ 0 _ rfl; (with_reducible repeat (first | refine kD ?_ _ | refine kE ?_ | refine kA ?_ _)); exact BK297.out) k_ hk_.2.1))) (bZ (by repeat (first | (with_reducible first | exact HB.out | apply bA | apply bD | apply bE | refine below_set ?_ GE297.out) | exact HB.out)))); have n1_ := AM (kB (g := gb297) (o := .cells #[.string t294, .bool t295] 34 (0, 0)) (by (with_reducible repeat (first | refine kD ?_ _ | refine kE ?_ | refine kA ?_ _)); refine blk_put (cs := #[.string t294, .bool false]) ?_ 1 _ rfl; (with_reducible repeat (first | refine kD ?_ _ | refine kE ?_ | refine kA ?_ _)); refine blk_put (cs := #[.string (⟨#[]⟩ : ByteArray), .bool false]) ?_ 0 _ rfl; (with_reducible repeat (first | refine kD ?_ _ | refine kE ?_ | refine kA ?_ _)); exact BK297.out) hb); have n2_ := AM (bS (by repeat (first | (with_reducible first | exact HB.out | apply bA | apply bD | apply bE | refine below_set ?_ GE297.out) | exact HB.out)) hb); clear BK297; clear HB; have HO302 := n0_; have BK297 := n1_; have HB := n2_; clear n0_ n1_ n2_; (try clear hb); (try clear hb2); (try clear hk); (try clear hi); (try clear ho0)) | ((with_reducible refine gate_dst (N := 7) rfl ?_); (try (refine gate_guard (by rfl) ?_; dsimp only)); refine box_event ?hg (N := 7) ?hd (cs := #[.string (⟨#[]⟩ : ByteArray), .bool false]) (t := 34) ?hr ?_; (case hd => rfl); (case hg => rfl); (case hr => first | (go_simp; done) | (go_simp; rfl)); intro gb303 hg w14 hbox hb; have n0_ := AM (nB (Kd.N_elderB (by (with_reducible repeat (first | apply nA | apply nD | apply nE)); exact HO302.out) gb303 (Nat.le_of_eq hg.symm)) hb); have n1_ := AM (kB (g := gb297) (o := .cells #[.string t294, .bool t295] 34 (0, 0)) (by (with_reducible repeat (first | refine kD ?_ _ | refine kE ?_ | refine kA ?_ _)); exact BK297.out) hb); have n2_ := AM (bS (by repeat (first | (with_reducible first | exact HB.out | apply bA | apply bD | apply bE | refine below_set ?_ GE297.out) | exact HB.out)) hb); have n3_ := AM (hbox); have n4_ := AM ((by rw [hg]; exact (bZ (by repeat (first | (with_reducible first | exact HB.out | apply bA | apply bD | apply bE | refine below_set ?_ GE297.out) | exact HB.out))) : w.heap.size ≤ gb303)); have n5_ := AM ((by rw [hg]; exact (bZ (by repeat (first | (with_reducible first | exact HB.out | apply bA | apply bD | apply bE | refine below_set ?_ GE297.out) | exact HB.out))) : w.heap.size ≤ gb303)); have n6_ := AM ((by rw [hg]; exact Nat.ne_of_lt (blk_lt (g := gb297) (o := .cells #[.string t294, .bool t295] 34 (0, 0)) (by (with_reducible repeat (first | refine kD ?_ _ | refine kE ?_ | refine kA ?_ _)); exact BK297.out)) : gb297 ≠ gb303)); have n7_ := AM ((by rw [hg]; exact Nat.ne_of_gt (blk_lt (g := gb297) (o := .cells #[.string t294, .bool t295] 34 (0, 0)) (by (with_reducible repeat (first | refine kD ?_ _ | refine kE ?_ | refine kA ?_ _)); exact BK297.out)) : gb303 ≠ gb297)); clear HO302; clear BK297; clear HB; have HO302 := n0_; have BK297 := n1_; have HB := n2_; have BK303 := n3_; have GW303 := n4_; have GE303 := n5_; have NB297_303 := n6_; have NB303_297 := n7_; clear n0_ n1_ n2_ n3_ n4_ n5_ n6_ n7_; clear hb hbox hg; have hnb15 := NB303_297.out; have hnc15 := NB297_303.out; have hcz16_0 : w14.cell? ⟨gb303, 0, none⟩ = some (.string (⟨#[]⟩ : ByteArray)) := (kC BK303.out 0).trans rfl; have hcz16_1 : w14.cell? ⟨gb303, 1, none⟩ = some (.bool false) := (kC BK303.out 1).trans rfl; have hfz16_0 := blk_frozen BK303.out 0; have hfz16_1 := blk_frozen BK303.out 1; have hcz17_0 : w14.cell? ⟨gb297, 0, none⟩ = some (.string t294) := (kC BK297.out 0).trans rfl; have hcz17_1 : w14.cell? ⟨gb297, 1, none⟩ = some (.bool t295) := (kC BK297.out 1).trans rfl; have hfz17_0 := blk_frozen BK297.out 0; have hfz17_1 := blk_frozen BK297.out 1) | ((with_reducible refine gate_callee (f := 34) rfl ?_); refine goesL_ (some 40) rfl rfl Tryd.func34 (by kernel_rfl) rfl #[.agg #[.string t294, .bool t295], .string t296] rfl (by (try simp only [List.map_toArray, List.map_cons, List.map_nil]); first | done | rfl | (simp only [List.length_drop, List.length_take]; rfl)) ?_; (with_reducible refine (spec_PipeFeed.calls kj2 t294 t295 t296 t304 t305 t306 _ A8.out).mono ?_); rintro e w18 ⟨v307, rfl, ho0, hb⟩; refine ⟨_, rfl, ?_⟩; have n0_ := AM (Kd.N_elder' (by (with_reducible repeat (first | apply nA | apply nD | apply nE)); exact (nM (Kd.N_far (p := ⟨gb303, 1, none⟩) (Kd.N_far (p := ⟨gb303, 0, none⟩) (nM HO302.out (fun k_ hk => (⟨hk, hk.2⟩ : _ ∧ k_ ≠ gb303))) (fun _ hk => hk.2) (.string t298)) (fun _ hk => hk.2) (.bool t299)) (fun _ h_ => h_.1))) (Kd.S_base ho0) hb); have n1_ := AM (Kd.N_lower (nM (ok' := fun k_ => some k_ ≠ (v301 : Value).ownBlock ∧ k_ ≠ gb297 ∧ k_ ≠ gb303) (Kd.S_N (Kd.S_bound ho0)) (fun k_ hk_ => ⟨(Kd.fresh' (Kd.N_lt (by (with_reducible repeat (first | apply nA | apply nD | apply nE)); exact (nM (Kd.N_far (p := ⟨gb303, 1, none⟩) (Kd.N_far (p := ⟨gb303, 0, none⟩) (nM HO302.out (fun k_ hk => (⟨hk, hk.2⟩ : _ ∧ k_ ≠ gb303))) (fun _ hk => hk.2) (.string t298)) (fun _ hk => hk.2) (.bool t299)) (fun _ h_ => h_.1)))) k_ hk_.2.1), (Kd.freshB (g := gb297) (o := .cells #[.string t294, .bool t295] 34 (0, 0)) (by (with_reducible repeat (first | refine kD ?_ _ | refine kE ?_ | refine kA ?_ _)); refine blk_far ?_ NB297_303.out _; (with_reducible repeat (first | refine kD ?_ _ | refine kE ?_ | refine kA ?_ _)); refine blk_far ?_ NB297_303.out _; (with_reducible repeat (first | refine kD ?_ _ | refine kE ?_ | refine kA ?_ _)); exact BK297.out) k_ hk_.2.1), (Kd.freshB (g := gb303) (o := .cells #[.string t298, .bool t299] 34 (0, 0)) (by (with_reducible repeat (first | refine kD ?_ _ | refine kE ?_ | refine kA ?_ _)); refine blk_put (cs := #[.string t298, .bool false]) ?_ 1 _ rfl; (with_reducible repeat (first | refine kD ?_ _ | refine kE ?_ | refine kA ?_ _)); refine blk_put (cs := #[.string (⟨#[]⟩ : ByteArray), .bool false]) ?_ 0 _ rfl; (with_reducible repeat (first | refine kD ?_ _ | refine kE ?_ | refine kA ?_ _)); exact BK303.out) k_ hk_.2.1)⟩)) (bZ (by repeat (first | (with_reducible first | exact HB.out | apply bA | apply bD | apply bE | refine below_set ?_ GE297.out | refine below_set ?_ GE303.out) | exact HB.out)))); have n2_ := AM (kB (g := gb297) (o := .cells #[.string t294, .bool t295] 34 (0, 0)) (by (with_reducible repeat (first | refine kD ?_ _ | refine kE ?_ | refine kA ?_ _)); refine blk_far ?_ NB297_303.out _; (with_reducible repeat (first | refine kD ?_ _ | refine kE ?_ | refine kA ?_ _)); refine blk_far ?_ NB297_303.out _; (with_reducible repeat (first | refine kD ?_ _ | refine kE ?_ | refine kA ?_ _)); exact BK297.out) hb); have n3_ := AM (kB (g := gb303) (o := .cells #[.string t298, .bool t299] 34 (0, 0)) (by (with_reducible repeat (first | refine kD ?_ _ | refine kE ?_ | refine kA ?_ _)); refine blk_put (cs := #[.string t298, .bool false]) ?_ 1 _ rfl; (with_reducible repeat (first | refine kD ?_ _ | refine kE ?_ | refine kA ?_ _)); refine blk_put (cs := #[.string (⟨#[]⟩ : ByteArray), .bool false]) ?_ 0 _ rfl; (with_reducible repeat (first | refine kD ?_ _ | refine kE ?_ | refine kA ?_ _)); exact BK303.out) hb); have n4_ := AM (bS (by repeat (first | (with_reducible first | exact HB.out | apply bA | apply bD | apply bE | refine below_set ?_ GE297.out | refine below_set ?_ GE303.out) | exact HB.out)) hb); clear HO302; clear BK297; clear BK303; clear HB; have HO302 := n0_; have HO308 := n1_; have BK297 := n2_; have BK303 := n3_; have HB := n4_; clear n0_ n1_ n2_ n3_ n4_; (try clear hb); (try clear hb2); (try clear hk); (try clear hi); (try clear ho0)) | ((with_reducible refine gate_dst (N := 9) rfl ?_); (try (refine gate_guard (by rfl) ?_; dsimp only)); refine box_event ?hg (N := 9) ?hd (cs := #[.string (⟨#[]⟩ : ByteArray), .bool false]) (t := 34) ?hr ?_; (case hd => rfl); (case hg => rfl); (case hr => first | (go_simp; done) | (go_simp; rfl)); intro gb309 hg w19 hbox hb; have n0_ := AM (nB (Kd.N_elderB (by (with_reducible repeat (first | apply nA | apply nD | apply nE)); exact HO302.out) gb309 (Nat.le_of_eq hg.symm)) hb); have n1_ := AM (nB (Kd.N_elderB (by (with_reducible repeat (first | apply nA | apply nD | apply nE)); exact HO308.out) gb309 (Nat.le_of_eq hg.symm)) hb); have n2_ := AM (kB (g := gb297) (o := .cells #[.string t294, .bool t295] 34 (0, 0)) (by (with_reducible repeat (first | refine kD ?_ _ | refine kE ?_ | refine kA ?_ _)); exact BK297.out) hb); have n3_ := AM (kB (g := gb303) (o := .cells #[.string t298, .bool t299] 34 (0, 0)) (by (with_reducible repeat (first | refine kD ?_ _ | refine kE ?_ | refine kA ?_ _)); exact BK303.out) hb); have n4_ := AM (bS (by repeat (first | (with_reducible first | exact HB.out | apply bA | apply bD | apply bE | refine below_set ?_ GE297.out | refine below_set ?_ GE303.out) | exact HB.out)) hb); have n5_ := AM (hbox); have n6_ := AM ((by rw [hg]; exact (bZ (by repeat (first | (with_reducible first | exact HB.out | apply bA | apply bD | apply bE | refine below_set ?_ GE297.out | refine below_set ?_ GE303.out) | exact HB.out))) : w.heap.size ≤ gb309)); have n7_ := AM ((by rw [hg]; exact (bZ (by repeat (first | (with_reducible first | exact HB.out | apply bA | apply bD | apply bE | refine below_set ?_ GE297.out | refine below_set ?_ GE303.out) | exact HB.out))) : w.heap.size ≤ gb309)); have n8_ := AM ((by rw [hg]; exact Nat.ne_of_lt (blk_lt (g := gb297) (o := .cells #[.string t294, .bool t295] 34 (0, 0)) (by (with_reducible repeat (first | refine kD ?_ _ | refine kE ?_ | refine kA ?_ _)); exact BK297.out)) : gb297 ≠ gb309)); have n9_ := AM ((by rw [hg]; exact Nat.ne_of_gt (blk_lt (g := gb297) (o := .cells #[.string t294, .bool t295] 34 (0, 0)) (by (with_reducible repeat (first | refine kD ?_ _ | refine kE ?_ | refine kA ?_ _)); exact BK297.out)) : gb309 ≠ gb297)); have n10_ := AM ((by rw [hg]; exact Nat.ne_of_lt (blk_lt (g := gb303) (o := .cells #[.string t298, .bool t299] 34 (0, 0)) (by (with_reducible repeat (first | refine kD ?_ _ | refine kE ?_ | refine kA ?_ _)); exact BK303.out)) : gb303 ≠ gb309)); have n11_ := AM ((by rw [hg]; exact Nat.ne_of_gt (blk_lt (g := gb303) (o := .cells #[.string t298, .bool t299] 34 (0, 0)) (by (with_reducible repeat (first | refine kD ?_ _ | refine kE ?_ | refine kA ?_ _)); exact BK303.out)) : gb309 ≠ gb303)); clear HO302; clear HO308; clear BK297; clear BK303; clear HB; have HO302 := n0_; have HO308 := n1_; have BK297 := n2_; have BK303 := n3_; have HB := n4_; have BK309 := n5_; have GW309 := n6_; have GE309 := n7_; have NB297_309 := n8_; have NB309_297 := n9_; have NB303_309 := n10_; have NB309_303 := n11_; clear n0_ n1_ n2_ n3_ n4_ n5_ n6_ n7_ n8_ n9_ n10_ n11_; clear hb hbox hg; have hnb20 := NB309_297.out; have hnc20 := NB297_309.out; have hnb21 := NB309_303.out; have hnc21 := NB303_309.out; have hcz22_0 : w19.cell? ⟨gb309, 0, none⟩ = some (.string (⟨#[]⟩ : ByteArray)) := (kC BK309.out 0).trans rfl; have hcz22_1 : w19.cell? ⟨gb309, 1, none⟩ = some (.bool false) := (kC BK309.out 1).trans rfl; have hfz22_0 := blk_frozen BK309.out 0; have hfz22_1 := blk_frozen BK309.out 1))
    (try simp only [Act.put, lA, lZ, lS])
    go_cut [70] (fun v70 wc => ∃ (kq : Nat) (x70_8 : Bool), v70 = .bool x70_8 ∧ Aside0 (laws_FnPipe.j1 kq l1 t296 t300 t306 x70_8 t294 t295 t298 t299 t304 t305 = some r) ∧ Aside0 (kq ≤ kj2) ∧ Aside0 (Kd.N (Kd.slice 9 Kd.string) 30 wc w.heap.size (fun k_ => some k_ ≠ (v307 : Value).ownBlock ∧ k_ ≠ gb297 ∧ k_ ≠ gb303 ∧ k_ ≠ gb309) v301 t300) ∧ Aside0 (Kd.N (Kd.slice 9 Kd.string) 30 wc w.heap.size (fun k_ => some k_ ≠ (v301 : Value).ownBlock ∧ k_ ≠ gb297 ∧ k_ ≠ gb303 ∧ k_ ≠ gb309) v307 t306) ∧ Aside0 (wc.heap[gb297]? = some (.cells #[.string t294, .bool t295] 34 (0, 0))) ∧ Aside0 (wc.heap[gb303]? = some (.cells #[.string t298, .bool t299] 34 (0, 0))) ∧ Aside0 (wc.heap[gb309]? = some (.cells #[.string t304, .bool t305] 34 (0, 0))) ∧ Aside0 (Below w.heap.size w wc))
    case first =>
     have H := HC9.out
     clear HC9
     replace H := Option.bind_eq_some_iff.mp H
     obtain ⟨t310, A230, H⟩ := H
     replace H : (if t310 = true then (if (t300.length : Int) = (t306.length : Int) then ((impl_PipeOk.f kj2 t294 t295).bind fun t311 => ((spec_PipeOk.f kj2 t294 t295).bind fun t312 => (if (t311 != t312) = true then (none) else ((spec_PipeOk.f kj2 t294 t295).bind fun t313 => (if t313 = true then (laws_FnPipe.j1 kj2 l1 t296 t300 t306 (decide ((t296.size : Int) > 4000)) t294 t295 t298 t299 t304 t305) else (laws_FnPipe.j1 kj2 l1 t296 t300 t306 true t294 t295 t298 t299 t304 t305)))))) else (none)) else (none)) = some r := H
     have A23 := AM A230
     clear A230
     by_cases c24 : t310 = true
     ·subst c24
      have H1 : (if (t300.length : Int) = (t306.length : Int) then ((impl_PipeOk.f kj2 t294 t295).bind fun t311 => ((spec_PipeOk.f kj2 t294 t295).bind fun t312 => (if (t311 != t312) = true then (none) else ((spec_PipeOk.f kj2 t294 t295).bind fun t313 => (if t313 = true then (laws_FnPipe.j1 kj2 l1 t296 t300 t306 (decide ((t296.size : Int) > 4000)) t294 t295 t298 t299 t304 t305) else (laws_FnPipe.j1 kj2 l1 t296 t300 t306 true t294 t295 t298 t299 t304 t305)))))) else (none)) = some r := by rw [if_pos rfl] at H; exact H
      clear H
      have H := H1
      clear H1
      by_cases c25 : (t300.length : Int) = (t306.length : Int)
      ·rw [if_pos c25] at H
       have c25b0 : ((t300.length : Int) == (t306.length : Int)) = true := beq_iff_eq.mpr c25
       have c25b1 : ((t300.length : Int) != (t306.length : Int)) = false := bne_eq_false_iff_eq.mpr c25
       have c25b2 : (t300.length == t306.length) = true := by first | simpa using c25 | (simp at c25 ⊢; omega)
       clear c25
       (first | rw [c25b0] | (simp only [i64_w, i32_w]; rw [c25b0]) | skip)
       replace H := Option.bind_eq_some_iff.mp H
       obtain ⟨t311, A260, H⟩ := H
       replace H : ((spec_PipeOk.f kj2 t294 t295).bind fun t312 => (if (t311 != t312) = true then (none) else ((spec_PipeOk.f kj2 t294 t295).bind fun t313 => (if t313 = true then (laws_FnPipe.j1 kj2 l1 t296 t300 t306 (decide ((t296.size : Int) > 4000)) t294 t295 t298 t299 t304 t305) else (laws_FnPipe.j1 kj2 l1 t296 t300 t306 true t294 t295 t298 t299 t304 t305))))) = some r := H
       have A26 := AM A260
       clear A260
       replace H := Option.bind_eq_some_iff.mp H
       obtain ⟨t312, A270, H⟩ := H
       replace H : (if (t311 != t312) = true then (none) else ((spec_PipeOk.f kj2 t294 t295).bind fun t313 => (if t313 = true then (laws_FnPipe.j1 kj2 l1 t296 t300 t306 (decide ((t296.size : Int) > 4000)) t294 t295 t298 t299 t304 t305) else (laws_FnPipe.j1 kj2 l1 t296 t300 t306 true t294 t295 t298 t299 t304 t305)))) = some r := H
       have A27 := AM A270
       clear A270
       by_cases c28 : (t311 != t312) = true
       ·rw [if_pos c28] at H
        exact absurd H (by simp)
       ·rw [if_neg c28] at H
        have c28b0 : (t311 != t312) = false := by simpa using c28
        (try (have c28b1 : decide (t311 = t312) = true := by simpa using c28))
        (try (have c28b2 : (t311 == t312) = true := by simpa using c28))
        clear c28
        replace H := Option.bind_eq_some_iff.mp H
        obtain ⟨t313, A290, H⟩ := H
        replace H : (if t313 = true then (laws_FnPipe.j1 kj2 l1 t296 t300 t306 (decide ((t296.size : Int) > 4000)) t294 t295 t298 t299 t304 t305) else (laws_FnPipe.j1 kj2 l1 t296 t300 t306 true t294 t295 t298 t299 t304 t305)) = some r := H
        have A29 := AM A290
        clear A290
        by_cases c30 : t313 = true
        ·subst c30
         have H1 : (laws_FnPipe.j1 kj2 l1 t296 t300 t306 (decide ((t296.size : Int) > 4000)) t294 t295 t298 t299 t304 t305) = some r := by rw [if_pos rfl] at H; exact H
         clear H
         have H := H1
         clear H1
         have H' := AM H
         clear H
         try go_wp2
         have n0_ : Aside0 (Kd.N (Kd.slice 9 Kd.string) 30 ((w19.setCell ⟨gb309, 0, none⟩ (.string t304)).setCell ⟨gb309, 1, none⟩ (.bool t305)) w.heap.size (fun k_ => some k_ ≠ (v307 : Value).ownBlock ∧ k_ ≠ gb297 ∧ k_ ≠ gb303 ∧ k_ ≠ gb309) v301 t300) := ⟨by (with_reducible repeat (first | apply nA | apply nD | apply nE)); exact nM (Kd.N_far (p := ⟨gb309, 1, none⟩) (Kd.N_far (p := ⟨gb309, 0, none⟩) (nM HO302.out (fun k_ hk => (⟨hk, hk.2⟩ : _ ∧ k_ ≠ gb309))) (fun _ hk => hk.2) (.string t304)) (fun _ hk => hk.2) (.bool t305)) (fun _ hk => ⟨hk.1.1.2, ⟨hk.1.1.1.1, ⟨hk.1.1.1.2, hk.1.2⟩⟩⟩)⟩
         have n1_ : Aside0 (Kd.N (Kd.slice 9 Kd.string) 30 ((w19.setCell ⟨gb309, 0, none⟩ (.string t304)).setCell ⟨gb309, 1, none⟩ (.bool t305)) w.heap.size (fun k_ => some k_ ≠ (v301 : Value).ownBlock ∧ k_ ≠ gb297 ∧ k_ ≠ gb303 ∧ k_ ≠ gb309) v307 t306) := ⟨by (with_reducible repeat (first | apply nA | apply nD | apply nE)); exact nM (Kd.N_far (p := ⟨gb309, 1, none⟩) (Kd.N_far (p := ⟨gb309, 0, none⟩) (nM HO308.out (fun k_ hk => (⟨hk, hk.2⟩ : _ ∧ k_ ≠ gb309))) (fun _ hk => hk.2) (.string t304)) (fun _ hk => hk.2) (.bool t305)) (fun _ hk => ⟨hk.1.1.1, ⟨hk.1.1.2.1, ⟨hk.1.1.2.2, hk.1.2⟩⟩⟩)⟩
         have n2_ : Aside0 (((w19.setCell ⟨gb309, 0, none⟩ (.string t304)).setCell ⟨gb309, 1, none⟩ (.bool t305)).heap[gb297]? = some (.cells #[.string t294, .bool t295] 34 (0, 0))) := ⟨by (with_reducible repeat (first | refine kD ?_ _ | refine kE ?_ | refine kA ?_ _)); refine blk_far ?_ NB297_309.out _; (with_reducible repeat (first | refine kD ?_ _ | refine kE ?_ | refine kA ?_ _)); refine blk_far ?_ NB297_309.out _; (with_reducible repeat (first | refine kD ?_ _ | refine kE ?_ | refine kA ?_ _)); exact BK297.out⟩
         have n3_ : Aside0 (((w19.setCell ⟨gb309, 0, none⟩ (.string t304)).setCell ⟨gb309, 1, none⟩ (.bool t305)).heap[gb303]? = some (.cells #[.string t298, .bool t299] 34 (0, 0))) := ⟨by (with_reducible repeat (first | refine kD ?_ _ | refine kE ?_ | refine kA ?_ _)); refine blk_far ?_ NB303_309.out _; (with_reducible repeat (first | refine kD ?_ _ | refine kE ?_ | refine kA ?_ _)); refine blk_far ?_ NB303_309.out _; (with_reducible repeat (first | refine kD ?_ _ | refine kE ?_ | refine kA ?_ _)); exact BK303.out⟩
         have n4_ : Aside0 (((w19.setCell ⟨gb309, 0, none⟩ (.string t304)).setCell ⟨gb309, 1, none⟩ (.bool t305)).heap[gb309]? = some (.cells #[.string t304, .bool t305] 34 (0, 0))) := ⟨by (with_reducible repeat (first | refine kD ?_ _ | refine kE ?_ | refine kA ?_ _)); refine blk_put (cs := #[.string t304, .bool false]) ?_ 1 _ rfl; (with_reducible repeat (first | refine kD ?_ _ | refine kE ?_ | refine kA ?_ _)); refine blk_put (cs := #[.string (⟨#[]⟩ : ByteArray), .bool false]) ?_ 0 _ rfl; (with_reducible repeat (first | refine kD ?_ _ | refine kE ?_ | refine kA ?_ _)); exact BK309.out⟩
         have n5_ : Aside0 (Below w.heap.size w ((w19.setCell ⟨gb309, 0, none⟩ (.string t304)).setCell ⟨gb309, 1, none⟩ (.bool t305))) := ⟨by repeat (first | (with_reducible first | exact HB.out | apply bA | apply bD | apply bE | refine below_set ?_ GE297.out | refine below_set ?_ GE303.out | refine below_set ?_ GE309.out) | exact HB.out)⟩
         (try clear HO302)
         (try clear HO308)
         (try clear BK297)
         (try clear BK303)
         (try clear BK309)
         (try clear HB)
         generalize ((w19.setCell ⟨gb309, 0, none⟩ (.string t304)).setCell ⟨gb309, 1, none⟩ (.bool t305)) = w31 at n0_ n1_ n2_ n3_ n4_ n5_ ⊢
         have HO302 := n0_
         have HO308 := n1_
         have BK297 := n2_
         have BK303 := n3_
         have BK309 := n4_
         have HB := n5_
         clear n0_ n1_ n2_ n3_ n4_ n5_
         have n0_ := AM (nE HO302.out)
         have n1_ := AM (nE HO308.out)
         have n2_ := AM (kE BK297.out)
         have n3_ := AM (kE BK303.out)
         have n4_ := AM (kE BK309.out)
         have n5_ := AM (bE HB.out)
         clear HO302
         clear HO308
         clear BK297
         clear BK303
         clear BK309
         clear HB
         have HO302 := n0_
         have HO308 := n1_
         have BK297 := n2_
         have BK303 := n3_
         have BK309 := n4_
         have HB := n5_
         clear n0_ n1_ n2_ n3_ n4_ n5_
         refine start_ (n := 28) (S := fun w' => w'.cell? ⟨gb303, 0, none⟩ = some (.string t298) ∧ w'.cell? ⟨gb303, 1, none⟩ = some (.bool t299) ∧ w'.cell? ⟨gb309, 0, none⟩ = some (.string t304) ∧ w'.cell? ⟨gb309, 1, none⟩ = some (.bool t305) ∧ w'.cell? ⟨gb297, 0, none⟩ = some (.string t294) ∧ w'.cell? ⟨gb297, 1, none⟩ = some (.bool t295)) (ds := []) #[false, false, false, false, false, false, false, false, false, false, false, false, false, false, false, false, false, false, false, false, false, false, false, false, false, false, false, false] (by kernel_rfl) rfl rfl ⟨(kC BK303.out 0).trans rfl, (kC BK303.out 1).trans rfl, (kC BK309.out 0).trans rfl, (kC BK309.out 1).trans rfl, (kC BK297.out 0).trans rfl, (kC BK297.out 1).trans rfl⟩ (fun hHeld => ?_); refine with_tabW laws_FnPipe.tab6 laws_FnPipe.bits6 (fun HT_ HW_ => ?_)
         generalize w31.drew = w32 at HO302 HO308 BK297 BK303 BK309 HB hHeld ⊢
         refine take_ (i := 0) (N := some 43) (v := ?_) (a' := ?_) #[true, false, false, false, false, false, false, false, false, false, false, false, false, false, false, false, false, false, false, false, false, false, false, false, false, false, false, false] rfl rfl (take_ofW HT_.out HW_.out (by kernel_rfl)) (fun _ _ _ h => h) (Or.inl ⟨by rfl, ?_⟩) hHeld ?_ ?_
         rotate_left
         ·rintro w' ⟨s0, s1, s2, s3, s4, s5⟩
          go_simp
          with_reducible rfl
         rotate_left
         ·simp only [Act.put, lA, lZ, lS, i64_w, i32_w]
          rfl
         refine take_ (i := 1) (N := some 44) (v := ?_) (a' := ?_) #[true, true, false, false, false, false, false, false, false, false, false, false, false, false, false, false, false, false, false, false, false, false, false, false, false, false, false, false] rfl rfl (take_ofW HT_.out HW_.out (by kernel_rfl)) (fun _ _ _ h => h) (Or.inl ⟨by rfl, ?_⟩) hHeld ?_ ?_
         rotate_left
         ·rintro w' ⟨s0, s1, s2, s3, s4, s5⟩
          go_simp
          with_reducible rfl
         rotate_left
         ·simp only [Act.put, lA, lZ, lS, i64_w, i32_w]
          rfl
         refine one_ (i := 2) (N := some 45) #[true, true, true, false, false, false, false, false, false, false, false, false, false, false, false, false, false, false, false, false, false, false, false, false, false, false, false, false] rfl rfl (one_of HT_.out (by kernel_rfl)) (by decide) (fun K hK => ?_)
         refine goes_ Tryd.func35 (by kernel_rfl) rfl #[.agg #[.string t298, .bool t299], .agg #[.string t304, .bool t305]] (by rfl) rfl rfl (by (try simp only [List.map_toArray, List.map_cons, List.map_nil]); first | done | rfl | (simp only [List.length_drop, List.length_take]; rfl)) ?_
         with_reducible refine (laws_qnPipe.calls t298 t299 t304 t305 true _ A23.out).mono ?_
         rintro e w33 ⟨rfl, hb⟩
         refine ⟨_, rfl, ?_⟩
         have n0_ := AM (nB (by (with_reducible repeat (first | apply nA | apply nD | apply nE)); exact HO302.out) hb)
         have n1_ := AM (nB (by (with_reducible repeat (first | apply nA | apply nD | apply nE)); exact HO308.out) hb)
         have n2_ := AM (kB (g := gb297) (o := .cells #[.string t294, .bool t295] 34 (0, 0)) (by (with_reducible repeat (first | refine kD ?_ _ | refine kE ?_ | refine kA ?_ _)); exact BK297.out) hb)
         have n3_ := AM (kB (g := gb303) (o := .cells #[.string t298, .bool t299] 34 (0, 0)) (by (with_reducible repeat (first | refine kD ?_ _ | refine kE ?_ | refine kA ?_ _)); exact BK303.out) hb)
         have n4_ := AM (kB (g := gb309) (o := .cells #[.string t304, .bool t305] 34 (0, 0)) (by (with_reducible repeat (first | refine kD ?_ _ | refine kE ?_ | refine kA ?_ _)); exact BK309.out) hb)
         have n5_ := AM (bS (by repeat (first | (with_reducible first | exact HB.out | apply bA | apply bD | apply bE | refine below_set ?_ GE297.out | refine below_set ?_ GE303.out | refine below_set ?_ GE309.out) | exact HB.out)) hb)
         clear HO302
         clear HO308
         clear BK297
         clear BK303
         clear BK309
         clear HB
         have HO302 := n0_
         have HO308 := n1_
         have BK297 := n2_
         have BK303 := n3_
         have BK309 := n4_
         have HB := n5_
         clear n0_ n1_ n2_ n3_ n4_ n5_
         (try clear hb)
         (try clear hb2)
         (try clear hk)
         (try clear hi)
         obtain ⟨Ao34, co34, eo34⟩ := Kd.N_slice HO302.out
         (first | subst eo34 | (injection eo34 with f1_ f2_ f3_; have f4_ := f1_.symm; have f5_ := f3_.symm; clear f1_ f2_ f3_; subst f4_; subst f5_))
         obtain ⟨Ao35, co35, eo35⟩ := Kd.N_slice HO308.out
         (first | subst eo35 | (injection eo35 with f1_ f2_ f3_; have f4_ := f1_.symm; have f5_ := f3_.symm; clear f1_ f2_ f3_; subst f4_; subst f5_))
         refine hK.out _ _ ⟨(kC BK303.out 0).trans rfl, (kC BK303.out 1).trans rfl, (kC BK309.out 0).trans rfl, (kC BK309.out 1).trans rfl, (kC BK297.out 0).trans rfl, (kC BK297.out 1).trans rfl⟩ (fun hHeld => ?_)
         clear hK K
         refine norm_ (a' := ?_) ?_ ?_
         rotate_left
         ·show Act.put _ (some 45) _ = _
          simp only [Act.put, lA, lZ, lS, i64_w, i32_w]
          rfl
         refine pure_ (i := 3) (N := some 46) (v := ?_) (a' := ?_) #[true, true, true, true, false, false, false, false, false, false, false, false, false, false, false, false, false, false, false, false, false, false, false, false, false, false, false, false] rfl rfl (any_of HT_.out (by kernel_rfl)) (fun _ _ _ h => h) (Or.inl ⟨by rfl, ?_⟩) ?_ ?_
         rotate_left
         ·intro w'
          go_simp
          with_reducible rfl
         rotate_left
         ·simp only [Act.put, lA, lZ, lS, i64_w, i32_w]
          rfl
         refine pure_ (i := 4) (N := some 47) (v := ?_) (a' := ?_) #[true, true, true, true, true, false, false, false, false, false, false, false, false, false, false, false, false, false, false, false, false, false, false, false, false, false, false, false] rfl rfl (any_of HT_.out (by kernel_rfl)) (fun _ _ _ h => h) (Or.inl ⟨by rfl, ?_⟩) ?_ ?_
         rotate_left
         ·intro w'
          go_simp
          with_reducible rfl
         rotate_left
         ·simp only [Act.put, lA, lZ, lS, i64_w, i32_w]
          rfl
         refine pure_ (i := 5) (N := some 48) (v := ?_) (a' := ?_) #[true, true, true, true, true, true, false, false, false, false, false, false, false, false, false, false, false, false, false, false, false, false, false, false, false, false, false, false] rfl rfl (any_of HT_.out (by kernel_rfl)) (fun _ _ _ h => h) (Or.inl ⟨by rfl, ?_⟩) ?_ ?_
         rotate_left
         ·intro w'
          go_simp
          with_reducible rfl
         rotate_left
         ·simp only [Act.put, lA, lZ, lS, i64_w, i32_w]
          rfl
         refine pure_ (i := 6) (N := some 49) (v := ?_) (a' := ?_) #[true, true, true, true, true, true, true, false, false, false, false, false, false, false, false, false, false, false, false, false, false, false, false, false, false, false, false, false] rfl rfl (any_of HT_.out (by kernel_rfl)) (fun _ _ _ h => h) (Or.inl ⟨by rfl, ?_⟩) ?_ ?_
         rotate_left
         ·intro w'
          go_simp
          with_reducible rfl
         rotate_left
         ·simp only [Act.put, lA, lZ, lS, i64_w, i32_w]
          rfl
         refine pure_ (i := 7) (N := some 50) (v := ?_) (a' := ?_) #[true, true, true, true, true, true, true, true, false, false, false, false, false, false, false, false, false, false, false, false, false, false, false, false, false, false, false, false] rfl rfl (any_of HT_.out (by kernel_rfl)) (fun _ _ _ h => h) (Or.inl ⟨by rfl, ?_⟩) ?_ ?_
         rotate_left
         ·intro w'
          go_simp
          with_reducible rfl
         rotate_left
         ·simp only [Act.put, lA, lZ, lS, i64_w, i32_w]
          rfl
         refine pure_ (i := 8) (N := some 51) (v := ?_) (a' := ?_) #[true, true, true, true, true, true, true, true, true, false, false, false, false, false, false, false, false, false, false, false, false, false, false, false, false, false, false, false] rfl rfl (any_of HT_.out (by kernel_rfl)) (fun _ _ _ h => h) (Or.inl ⟨by rfl, ?_⟩) ?_ ?_
         rotate_left
         ·intro w'
          go_simp
          with_reducible rfl
         rotate_left
         ·simp only [Act.put, lA, lZ, lS, i64_w, i32_w]
          rfl
         refine pure_ (i := 9) (N := some 52) (v := ?_) (a' := ?_) #[true, true, true, true, true, true, true, true, true, true, false, false, false, false, false, false, false, false, false, false, false, false, false, false, false, false, false, false] rfl rfl (any_of HT_.out (by kernel_rfl)) (fun _ _ _ h => h) (Or.inl ⟨by rfl, ?_⟩) ?_ ?_
         rotate_left
         ·intro w'
          go_simp
          with_reducible rfl
         rotate_left
         ·simp only [Act.put, lA, lZ, lS, i64_w, i32_w]
          rfl
         refine pure_ (i := 10) (N := some 53) (v := ?_) (a' := ?_) #[true, true, true, true, true, true, true, true, true, true, true, false, false, false, false, false, false, false, false, false, false, false, false, false, false, false, false, false] rfl rfl (any_of HT_.out (by kernel_rfl)) (fun _ _ _ h => h) (Or.inl ⟨by rfl, ?_⟩) ?_ ?_
         rotate_left
         ·intro w'
          go_simp
          with_reducible rfl
         rotate_left
         ·simp only [Act.put, lA, lZ, lS, i64_w, i32_w]
          rfl
         refine pure_ (i := 11) (N := some 54) (v := ?_) (a' := ?_) #[true, true, true, true, true, true, true, true, true, true, true, true, false, false, false, false, false, false, false, false, false, false, false, false, false, false, false, false] rfl rfl (any_of HT_.out (by kernel_rfl)) (fun _ _ _ h => h) (Or.inl ⟨by rfl, ?_⟩) ?_ ?_
         rotate_left
         ·intro w'
          go_simp
          with_reducible rfl
         rotate_left
         ·simp only [Act.put, lA, lZ, lS, i64_w, i32_w]
          rfl
         refine take_ (i := 12) (N := some 55) (v := ?_) (a' := ?_) #[true, true, true, true, true, true, true, true, true, true, true, true, true, false, false, false, false, false, false, false, false, false, false, false, false, false, false, false] rfl rfl (take_ofW HT_.out HW_.out (by kernel_rfl)) (fun _ _ _ h => h) (Or.inl ⟨by rfl, ?_⟩) hHeld ?_ ?_
         rotate_left
         ·rintro w' ⟨s0, s1, s2, s3, s4, s5⟩
          go_simp
          with_reducible rfl
         rotate_left
         ·simp only [Act.put, lA, lZ, lS, i64_w, i32_w]
          rfl
         refine take_ (i := 14) (N := some 57) (v := ?_) (a' := ?_) #[true, true, true, true, true, true, true, true, true, true, true, true, true, false, true, false, false, false, false, false, false, false, false, false, false, false, false, false] rfl rfl (take_ofW HT_.out HW_.out (by kernel_rfl)) (fun _ _ _ h => h) (Or.inl ⟨by rfl, ?_⟩) hHeld ?_ ?_
         rotate_left
         ·rintro w' ⟨s0, s1, s2, s3, s4, s5⟩
          go_simp
          with_reducible rfl
         rotate_left
         ·simp only [Act.put, lA, lZ, lS, i64_w, i32_w]
          rfl
         refine one_ (i := 13) (N := some 56) #[true, true, true, true, true, true, true, true, true, true, true, true, true, true, true, false, false, false, false, false, false, false, false, false, false, false, false, false] rfl rfl (one_of HT_.out (by kernel_rfl)) (by decide) (fun K hK => ?_)
         refine goes_ Tryd.func37 (by kernel_rfl) rfl #[.agg #[.string t294, .bool t295]] (by rfl) rfl rfl (by (try simp only [List.map_toArray, List.map_cons, List.map_nil]); first | done | rfl | (simp only [List.length_drop, List.length_take]; rfl)) ?_
         with_reducible refine (impl_PipeOk.calls kj2 t294 t295 t311 _ A26.out).mono ?_
         rintro e w36 ⟨rfl, hb⟩
         refine ⟨_, rfl, ?_⟩
         have n0_ := AM (nB (by (with_reducible repeat (first | apply nA | apply nD | apply nE)); exact HO302.out) hb)
         have n1_ := AM (nB (by (with_reducible repeat (first | apply nA | apply nD | apply nE)); exact HO308.out) hb)
         have n2_ := AM (kB (g := gb297) (o := .cells #[.string t294, .bool t295] 34 (0, 0)) (by (with_reducible repeat (first | refine kD ?_ _ | refine kE ?_ | refine kA ?_ _)); exact BK297.out) hb)
         have n3_ := AM (kB (g := gb303) (o := .cells #[.string t298, .bool t299] 34 (0, 0)) (by (with_reducible repeat (first | refine kD ?_ _ | refine kE ?_ | refine kA ?_ _)); exact BK303.out) hb)
         have n4_ := AM (kB (g := gb309) (o := .cells #[.string t304, .bool t305] 34 (0, 0)) (by (with_reducible repeat (first | refine kD ?_ _ | refine kE ?_ | refine kA ?_ _)); exact BK309.out) hb)
         have n5_ := AM (bS (by repeat (first | (with_reducible first | exact HB.out | apply bA | apply bD | apply bE | refine below_set ?_ GE297.out | refine below_set ?_ GE303.out | refine below_set ?_ GE309.out) | exact HB.out)) hb)
         clear HO302
         clear HO308
         clear BK297
         clear BK303
         clear BK309
         clear HB
         have HO302 := n0_
         have HO308 := n1_
         have BK297 := n2_
         have BK303 := n3_
         have BK309 := n4_
         have HB := n5_
         clear n0_ n1_ n2_ n3_ n4_ n5_
         (try clear hb)
         (try clear hb2)
         (try clear hk)
         (try clear hi)
         refine hK.out _ _ ⟨(kC BK303.out 0).trans rfl, (kC BK303.out 1).trans rfl, (kC BK309.out 0).trans rfl, (kC BK309.out 1).trans rfl, (kC BK297.out 0).trans rfl, (kC BK297.out 1).trans rfl⟩ (fun hHeld => ?_)
         clear hK K
         refine norm_ (a' := ?_) ?_ ?_
         rotate_left
         ·show Act.put _ (some 56) _ = _
          simp only [Act.put, lA, lZ, lS, i64_w, i32_w]
          rfl
         refine one_ (i := 15) (N := some 58) #[true, true, true, true, true, true, true, true, true, true, true, true, true, true, true, true, false, false, false, false, false, false, false, false, false, false, false, false] rfl rfl (one_of HT_.out (by kernel_rfl)) (by decide) (fun K hK => ?_)
         refine goes_ Tryd.func36 (by kernel_rfl) rfl #[.agg #[.string t294, .bool t295]] (by rfl) rfl rfl (by (try simp only [List.map_toArray, List.map_cons, List.map_nil]); first | done | rfl | (simp only [List.length_drop, List.length_take]; rfl)) ?_
         with_reducible refine (spec_PipeOk.calls kj2 t294 t295 t312 _ A27.out).mono ?_
         rintro e w37 ⟨rfl, hb⟩
         refine ⟨_, rfl, ?_⟩
         have n0_ := AM (nB (by (with_reducible repeat (first | apply nA | apply nD | apply nE)); exact HO302.out) hb)
         have n1_ := AM (nB (by (with_reducible repeat (first | apply nA | apply nD | apply nE)); exact HO308.out) hb)
         have n2_ := AM (kB (g := gb297) (o := .cells #[.string t294, .bool t295] 34 (0, 0)) (by (with_reducible repeat (first | refine kD ?_ _ | refine kE ?_ | refine kA ?_ _)); exact BK297.out) hb)
         have n3_ := AM (kB (g := gb303) (o := .cells #[.string t298, .bool t299] 34 (0, 0)) (by (with_reducible repeat (first | refine kD ?_ _ | refine kE ?_ | refine kA ?_ _)); exact BK303.out) hb)
         have n4_ := AM (kB (g := gb309) (o := .cells #[.string t304, .bool t305] 34 (0, 0)) (by (with_reducible repeat (first | refine kD ?_ _ | refine kE ?_ | refine kA ?_ _)); exact BK309.out) hb)
         have n5_ := AM (bS (by repeat (first | (with_reducible first | exact HB.out | apply bA | apply bD | apply bE | refine below_set ?_ GE297.out | refine below_set ?_ GE303.out | refine below_set ?_ GE309.out) | exact HB.out)) hb)
         clear HO302
         clear HO308
         clear BK297
         clear BK303
         clear BK309
         clear HB
         have HO302 := n0_
         have HO308 := n1_
         have BK297 := n2_
         have BK303 := n3_
         have BK309 := n4_
         have HB := n5_
         clear n0_ n1_ n2_ n3_ n4_ n5_
         (try clear hb)
         (try clear hb2)
         (try clear hk)
         (try clear hi)
         refine hK.out _ _ ⟨(kC BK303.out 0).trans rfl, (kC BK303.out 1).trans rfl, (kC BK309.out 0).trans rfl, (kC BK309.out 1).trans rfl, (kC BK297.out 0).trans rfl, (kC BK297.out 1).trans rfl⟩ (fun hHeld => ?_)
         clear hK K
         refine norm_ (a' := ?_) ?_ ?_
         rotate_left
         ·show Act.put _ (some 58) _ = _
          simp only [Act.put, lA, lZ, lS, i64_w, i32_w]
          rfl
         refine pure_ (i := 16) (N := some 59) (v := ?_) (a' := ?_) #[true, true, true, true, true, true, true, true, true, true, true, true, true, true, true, true, true, false, false, false, false, false, false, false, false, false, false, false] rfl rfl (any_of HT_.out (by kernel_rfl)) (fun _ _ _ h => h) (Or.inl ⟨by rfl, ?_⟩) ?_ ?_
         rotate_left
         ·intro w'
          go_simp
          with_reducible rfl
         rotate_left
         ·simp only [Act.put, lA, lZ, lS, i64_w, i32_w]
          rfl
         refine pure_ (i := 17) (N := some 60) (v := ?_) (a' := ?_) #[true, true, true, true, true, true, true, true, true, true, true, true, true, true, true, true, true, true, false, false, false, false, false, false, false, false, false, false] rfl rfl (any_of HT_.out (by kernel_rfl)) (fun _ _ _ h => h) (Or.inl ⟨by rfl, ?_⟩) ?_ ?_
         rotate_left
         ·intro w'
          go_simp
          with_reducible rfl
         rotate_left
         ·simp only [Act.put, lA, lZ, lS, i64_w, i32_w]
          rfl
         refine pure_ (i := 18) (N := some 61) (v := ?_) (a' := ?_) #[true, true, true, true, true, true, true, true, true, true, true, true, true, true, true, true, true, true, true, false, false, false, false, false, false, false, false, false] rfl rfl (any_of HT_.out (by kernel_rfl)) (fun _ _ _ h => h) (Or.inl ⟨by rfl, ?_⟩) ?_ ?_
         rotate_left
         ·intro w'
          go_simp
          with_reducible rfl
         rotate_left
         ·simp only [Act.put, lA, lZ, lS, i64_w, i32_w]
          rfl
         refine take_ (i := 19) (N := some 62) (v := ?_) (a' := ?_) #[true, true, true, true, true, true, true, true, true, true, true, true, true, true, true, true, true, true, true, true, false, false, false, false, false, false, false, false] rfl rfl (take_ofW HT_.out HW_.out (by kernel_rfl)) (fun _ _ _ h => h) (Or.inl ⟨by rfl, ?_⟩) hHeld ?_ ?_
         rotate_left
         ·rintro w' ⟨s0, s1, s2, s3, s4, s5⟩
          go_simp
          with_reducible rfl
         rotate_left
         ·simp only [Act.put, lA, lZ, lS, i64_w, i32_w]
          rfl
         refine one_ (i := 20) (N := some 63) #[true, true, true, true, true, true, true, true, true, true, true, true, true, true, true, true, true, true, true, true, true, false, false, false, false, false, false, false] rfl rfl (one_of HT_.out (by kernel_rfl)) (by decide) (fun K hK => ?_)
         refine goes_ Tryd.func36 (by kernel_rfl) rfl #[.agg #[.string t294, .bool t295]] (by rfl) rfl rfl (by (try simp only [List.map_toArray, List.map_cons, List.map_nil]); first | done | rfl | (simp only [List.length_drop, List.length_take]; rfl)) ?_
         with_reducible refine (spec_PipeOk.calls kj2 t294 t295 true _ A29.out).mono ?_
         rintro e w38 ⟨rfl, hb⟩
         refine ⟨_, rfl, ?_⟩
         have n0_ := AM (nB (by (with_reducible repeat (first | apply nA | apply nD | apply nE)); exact HO302.out) hb)
         have n1_ := AM (nB (by (with_reducible repeat (first | apply nA | apply nD | apply nE)); exact HO308.out) hb)
         have n2_ := AM (kB (g := gb297) (o := .cells #[.string t294, .bool t295] 34 (0, 0)) (by (with_reducible repeat (first | refine kD ?_ _ | refine kE ?_ | refine kA ?_ _)); exact BK297.out) hb)
         have n3_ := AM (kB (g := gb303) (o := .cells #[.string t298, .bool t299] 34 (0, 0)) (by (with_reducible repeat (first | refine kD ?_ _ | refine kE ?_ | refine kA ?_ _)); exact BK303.out) hb)
         have n4_ := AM (kB (g := gb309) (o := .cells #[.string t304, .bool t305] 34 (0, 0)) (by (with_reducible repeat (first | refine kD ?_ _ | refine kE ?_ | refine kA ?_ _)); exact BK309.out) hb)
         have n5_ := AM (bS (by repeat (first | (with_reducible first | exact HB.out | apply bA | apply bD | apply bE | refine below_set ?_ GE297.out | refine below_set ?_ GE303.out | refine below_set ?_ GE309.out) | exact HB.out)) hb)
         clear HO302
         clear HO308
         clear BK297
         clear BK303
         clear BK309
         clear HB
         have HO302 := n0_
         have HO308 := n1_
         have BK297 := n2_
         have BK303 := n3_
         have BK309 := n4_
         have HB := n5_
         clear n0_ n1_ n2_ n3_ n4_ n5_
         (try clear hb)
         (try clear hb2)
         (try clear hk)
         (try clear hi)
         refine hK.out _ _ ⟨(kC BK303.out 0).trans rfl, (kC BK303.out 1).trans rfl, (kC BK309.out 0).trans rfl, (kC BK309.out 1).trans rfl, (kC BK297.out 0).trans rfl, (kC BK297.out 1).trans rfl⟩ (fun hHeld => ?_)
         clear hK K
         refine norm_ (a' := ?_) ?_ ?_
         rotate_left
         ·show Act.put _ (some 63) _ = _
          simp only [Act.put, lA, lZ, lS, i64_w, i32_w]
          rfl
         refine pure_ (i := 21) (N := some 64) (v := ?_) (a' := ?_) #[true, true, true, true, true, true, true, true, true, true, true, true, true, true, true, true, true, true, true, true, true, true, false, false, false, false, false, false] rfl rfl (any_of HT_.out (by kernel_rfl)) (fun _ _ _ h => h) (Or.inl ⟨by rfl, ?_⟩) ?_ ?_
         rotate_left
         ·intro w'
          go_simp
          with_reducible rfl
         rotate_left
         ·simp only [Act.put, lA, lZ, lS, i64_w, i32_w]
          rfl
         refine pure_ (i := 22) (N := some 65) (v := ?_) (a' := ?_) #[true, true, true, true, true, true, true, true, true, true, true, true, true, true, true, true, true, true, true, true, true, true, true, false, false, false, false, false] rfl rfl (any_of HT_.out (by kernel_rfl)) (fun _ _ _ h => h) (Or.inl ⟨by rfl, ?_⟩) ?_ ?_
         rotate_left
         ·intro w'
          go_simp
          with_reducible rfl
         rotate_left
         ·simp only [Act.put, lA, lZ, lS, i64_w, i32_w]
          rfl
         refine pure_ (i := 23) (N := some 66) (v := ?_) (a' := ?_) #[true, true, true, true, true, true, true, true, true, true, true, true, true, true, true, true, true, true, true, true, true, true, true, true, false, false, false, false] rfl rfl (any_of HT_.out (by kernel_rfl)) (fun _ _ _ h => h) (Or.inl ⟨by rfl, ?_⟩) ?_ ?_
         rotate_left
         ·intro w'
          go_simp
          with_reducible rfl
         rotate_left
         ·simp only [Act.put, lA, lZ, lS, i64_w, i32_w]
          rfl
         refine pure_ (i := 24) (N := some 67) (v := ?_) (a' := ?_) #[true, true, true, true, true, true, true, true, true, true, true, true, true, true, true, true, true, true, true, true, true, true, true, true, true, false, false, false] rfl rfl (any_of HT_.out (by kernel_rfl)) (fun _ _ _ h => h) (Or.inl ⟨by rfl, ?_⟩) ?_ ?_
         rotate_left
         ·intro w'
          go_simp
          with_reducible rfl
         rotate_left
         ·simp only [Act.put, lA, lZ, lS, i64_w, i32_w]
          rfl
         refine pure_ (i := 25) (N := some 68) (v := ?_) (a' := ?_) #[true, true, true, true, true, true, true, true, true, true, true, true, true, true, true, true, true, true, true, true, true, true, true, true, true, true, false, false] rfl rfl (any_of HT_.out (by kernel_rfl)) (fun _ _ _ h => h) (Or.inl ⟨by rfl, ?_⟩) ?_ ?_
         rotate_left
         ·intro w'
          go_simp
          with_reducible rfl
         rotate_left
         ·simp only [Act.put, lA, lZ, lS, i64_w, i32_w]
          rfl
         refine pure_ (i := 26) (N := some 69) (v := ?_) (a' := ?_) #[true, true, true, true, true, true, true, true, true, true, true, true, true, true, true, true, true, true, true, true, true, true, true, true, true, true, true, false] rfl rfl (any_of HT_.out (by kernel_rfl)) (fun _ _ _ h => h) (Or.inl ⟨by rfl, ?_⟩) ?_ ?_
         rotate_left
         ·intro w'
          go_simp
          with_reducible rfl
         rotate_left
         ·simp only [Act.put, lA, lZ, lS, i64_w, i32_w]
          rfl
         refine pure_ (i := 27) (N := some 70) (v := ?_) (a' := ?_) #[true, true, true, true, true, true, true, true, true, true, true, true, true, true, true, true, true, true, true, true, true, true, true, true, true, true, true, true] rfl rfl (any_of HT_.out (by kernel_rfl)) (fun _ _ _ h => h) (Or.inl ⟨by rfl, ?_⟩) ?_ ?_
         rotate_left
         ·intro w'
          go_simp
          with_reducible rfl
         rotate_left
         ·simp only [Act.put, lA, lZ, lS, i64_w, i32_w]
          rfl
         refine done_ (done_of HT_.out (by kernel_rfl)) ?_
         try go_wp2
         go_meet
         case rel => exact ⟨_, (decide ((t296.size : Int) > 4000)), (by first | rfl | (simp; done) | (simp [*]; done)), H', ⟨by have := HJ2.out; first | omega | exact Nat.le_refl _⟩, ⟨by (with_reducible repeat (first | apply nA | apply nD | apply nE)); exact HO302.out⟩, ⟨by (with_reducible repeat (first | apply nA | apply nD | apply nE)); exact HO308.out⟩, ⟨by (with_reducible repeat (first | refine kD ?_ _ | refine kE ?_ | refine kA ?_ _)); exact BK297.out⟩, ⟨by (with_reducible repeat (first | refine kD ?_ _ | refine kE ?_ | refine kA ?_ _)); exact BK303.out⟩, ⟨by (with_reducible repeat (first | refine kD ?_ _ | refine kE ?_ | refine kA ?_ _)); exact BK309.out⟩, ⟨by repeat (first | (with_reducible first | exact HB.out | apply bA | apply bD | apply bE | refine below_set ?_ GE297.out | refine below_set ?_ GE303.out | refine below_set ?_ GE309.out) | exact HB.out)⟩⟩
        ·replace c30 := Bool.eq_false_iff.mpr c30
         subst c30
         have H1 : (laws_FnPipe.j1 kj2 l1 t296 t300 t306 true t294 t295 t298 t299 t304 t305) = some r := by rw [if_neg (show ¬ (false = true) by decide)] at H; exact H
         clear H
         have H := H1
         clear H1
         have H' := AM H
         clear H
         try go_wp2
         have n0_ : Aside0 (Kd.N (Kd.slice 9 Kd.string) 30 ((w19.setCell ⟨gb309, 0, none⟩ (.string t304)).setCell ⟨gb309, 1, none⟩ (.bool t305)) w.heap.size (fun k_ => some k_ ≠ (v307 : Value).ownBlock ∧ k_ ≠ gb297 ∧ k_ ≠ gb303 ∧ k_ ≠ gb309) v301 t300) := ⟨by (with_reducible repeat (first | apply nA | apply nD | apply nE)); exact nM (Kd.N_far (p := ⟨gb309, 1, none⟩) (Kd.N_far (p := ⟨gb309, 0, none⟩) (nM HO302.out (fun k_ hk => (⟨hk, hk.2⟩ : _ ∧ k_ ≠ gb309))) (fun _ hk => hk.2) (.string t304)) (fun _ hk => hk.2) (.bool t305)) (fun _ hk => ⟨hk.1.1.2, ⟨hk.1.1.1.1, ⟨hk.1.1.1.2, hk.1.2⟩⟩⟩)⟩
         have n1_ : Aside0 (Kd.N (Kd.slice 9 Kd.string) 30 ((w19.setCell ⟨gb309, 0, none⟩ (.string t304)).setCell ⟨gb309, 1, none⟩ (.bool t305)) w.heap.size (fun k_ => some k_ ≠ (v301 : Value).ownBlock ∧ k_ ≠ gb297 ∧ k_ ≠ gb303 ∧ k_ ≠ gb309) v307 t306) := ⟨by (with_reducible repeat (first | apply nA | apply nD | apply nE)); exact nM (Kd.N_far (p := ⟨gb309, 1, none⟩) (Kd.N_far (p := ⟨gb309, 0, none⟩) (nM HO308.out (fun k_ hk => (⟨hk, hk.2⟩ : _ ∧ k_ ≠ gb309))) (fun _ hk => hk.2) (.string t304)) (fun _ hk => hk.2) (.bool t305)) (fun _ hk => ⟨hk.1.1.1, ⟨hk.1.1.2.1, ⟨hk.1.1.2.2, hk.1.2⟩⟩⟩)⟩
         have n2_ : Aside0 (((w19.setCell ⟨gb309, 0, none⟩ (.string t304)).setCell ⟨gb309, 1, none⟩ (.bool t305)).heap[gb297]? = some (.cells #[.string t294, .bool t295] 34 (0, 0))) := ⟨by (with_reducible repeat (first | refine kD ?_ _ | refine kE ?_ | refine kA ?_ _)); refine blk_far ?_ NB297_309.out _; (with_reducible repeat (first | refine kD ?_ _ | refine kE ?_ | refine kA ?_ _)); refine blk_far ?_ NB297_309.out _; (with_reducible repeat (first | refine kD ?_ _ | refine kE ?_ | refine kA ?_ _)); exact BK297.out⟩
         have n3_ : Aside0 (((w19.setCell ⟨gb309, 0, none⟩ (.string t304)).setCell ⟨gb309, 1, none⟩ (.bool t305)).heap[gb303]? = some (.cells #[.string t298, .bool t299] 34 (0, 0))) := ⟨by (with_reducible repeat (first | refine kD ?_ _ | refine kE ?_ | refine kA ?_ _)); refine blk_far ?_ NB303_309.out _; (with_reducible repeat (first | refine kD ?_ _ | refine kE ?_ | refine kA ?_ _)); refine blk_far ?_ NB303_309.out _; (with_reducible repeat (first | refine kD ?_ _ | refine kE ?_ | refine kA ?_ _)); exact BK303.out⟩
         have n4_ : Aside0 (((w19.setCell ⟨gb309, 0, none⟩ (.string t304)).setCell ⟨gb309, 1, none⟩ (.bool t305)).heap[gb309]? = some (.cells #[.string t304, .bool t305] 34 (0, 0))) := ⟨by (with_reducible repeat (first | refine kD ?_ _ | refine kE ?_ | refine kA ?_ _)); refine blk_put (cs := #[.string t304, .bool false]) ?_ 1 _ rfl; (with_reducible repeat (first | refine kD ?_ _ | refine kE ?_ | refine kA ?_ _)); refine blk_put (cs := #[.string (⟨#[]⟩ : ByteArray), .bool false]) ?_ 0 _ rfl; (with_reducible repeat (first | refine kD ?_ _ | refine kE ?_ | refine kA ?_ _)); exact BK309.out⟩
         have n5_ : Aside0 (Below w.heap.size w ((w19.setCell ⟨gb309, 0, none⟩ (.string t304)).setCell ⟨gb309, 1, none⟩ (.bool t305))) := ⟨by repeat (first | (with_reducible first | exact HB.out | apply bA | apply bD | apply bE | refine below_set ?_ GE297.out | refine below_set ?_ GE303.out | refine below_set ?_ GE309.out) | exact HB.out)⟩
         (try clear HO302)
         (try clear HO308)
         (try clear BK297)
         (try clear BK303)
         (try clear BK309)
         (try clear HB)
         generalize ((w19.setCell ⟨gb309, 0, none⟩ (.string t304)).setCell ⟨gb309, 1, none⟩ (.bool t305)) = w39 at n0_ n1_ n2_ n3_ n4_ n5_ ⊢
         have HO302 := n0_
         have HO308 := n1_
         have BK297 := n2_
         have BK303 := n3_
         have BK309 := n4_
         have HB := n5_
         clear n0_ n1_ n2_ n3_ n4_ n5_
         have n0_ := AM (nE HO302.out)
         have n1_ := AM (nE HO308.out)
         have n2_ := AM (kE BK297.out)
         have n3_ := AM (kE BK303.out)
         have n4_ := AM (kE BK309.out)
         have n5_ := AM (bE HB.out)
         clear HO302
         clear HO308
         clear BK297
         clear BK303
         clear BK309
         clear HB
         have HO302 := n0_
         have HO308 := n1_
         have BK297 := n2_
         have BK303 := n3_
         have BK309 := n4_
         have HB := n5_
         clear n0_ n1_ n2_ n3_ n4_ n5_
         refine start_ (n := 28) (S := fun w' => w'.cell? ⟨gb303, 0, none⟩ = some (.string t298) ∧ w'.cell? ⟨gb303, 1, none⟩ = some (.bool t299) ∧ w'.cell? ⟨gb309, 0, none⟩ = some (.string t304) ∧ w'.cell? ⟨gb309, 1, none⟩ = some (.bool t305) ∧ w'.cell? ⟨gb297, 0, none⟩ = some (.string t294) ∧ w'.cell? ⟨gb297, 1, none⟩ = some (.bool t295)) (ds := []) #[false, false, false, false, false, false, false, false, false, false, false, false, false, false, false, false, false, false, false, false, false, false, false, false, false, false, false, false] (by kernel_rfl) rfl rfl ⟨(kC BK303.out 0).trans rfl, (kC BK303.out 1).trans rfl, (kC BK309.out 0).trans rfl, (kC BK309.out 1).trans rfl, (kC BK297.out 0).trans rfl, (kC BK297.out 1).trans rfl⟩ (fun hHeld => ?_); refine with_tabW laws_FnPipe.tab6 laws_FnPipe.bits6 (fun HT_ HW_ => ?_)
         generalize w39.drew = w40 at HO302 HO308 BK297 BK303 BK309 HB hHeld ⊢
         refine take_ (i := 0) (N := some 43) (v := ?_) (a' := ?_) #[true, false, false, false, false, false, false, false, false, false, false, false, false, false, false, false, false, false, false, false, false, false, false, false, false, false, false, false] rfl rfl (take_ofW HT_.out HW_.out (by kernel_rfl)) (fun _ _ _ h => h) (Or.inl ⟨by rfl, ?_⟩) hHeld ?_ ?_
         rotate_left
         ·rintro w' ⟨s0, s1, s2, s3, s4, s5⟩
          go_simp
          with_reducible rfl
         rotate_left
         ·simp only [Act.put, lA, lZ, lS, i64_w, i32_w]
          rfl
         refine take_ (i := 1) (N := some 44) (v := ?_) (a' := ?_) #[true, true, false, false, false, false, false, false, false, false, false, false, false, false, false, false, false, false, false, false, false, false, false, false, false, false, false, false] rfl rfl (take_ofW HT_.out HW_.out (by kernel_rfl)) (fun _ _ _ h => h) (Or.inl ⟨by rfl, ?_⟩) hHeld ?_ ?_
         rotate_left
         ·rintro w' ⟨s0, s1, s2, s3, s4, s5⟩
          go_simp
          with_reducible rfl
         rotate_left
         ·simp only [Act.put, lA, lZ, lS, i64_w, i32_w]
          rfl
         refine one_ (i := 2) (N := some 45) #[true, true, true, false, false, false, false, false, false, false, false, false, false, false, false, false, false, false, false, false, false, false, false, false, false, false, false, false] rfl rfl (one_of HT_.out (by kernel_rfl)) (by decide) (fun K hK => ?_)
         refine goes_ Tryd.func35 (by kernel_rfl) rfl #[.agg #[.string t298, .bool t299], .agg #[.string t304, .bool t305]] (by rfl) rfl rfl (by (try simp only [List.map_toArray, List.map_cons, List.map_nil]); first | done | rfl | (simp only [List.length_drop, List.length_take]; rfl)) ?_
         with_reducible refine (laws_qnPipe.calls t298 t299 t304 t305 true _ A23.out).mono ?_
         rintro e w41 ⟨rfl, hb⟩
         refine ⟨_, rfl, ?_⟩
         have n0_ := AM (nB (by (with_reducible repeat (first | apply nA | apply nD | apply nE)); exact HO302.out) hb)
         have n1_ := AM (nB (by (with_reducible repeat (first | apply nA | apply nD | apply nE)); exact HO308.out) hb)
         have n2_ := AM (kB (g := gb297) (o := .cells #[.string t294, .bool t295] 34 (0, 0)) (by (with_reducible repeat (first | refine kD ?_ _ | refine kE ?_ | refine kA ?_ _)); exact BK297.out) hb)
         have n3_ := AM (kB (g := gb303) (o := .cells #[.string t298, .bool t299] 34 (0, 0)) (by (with_reducible repeat (first | refine kD ?_ _ | refine kE ?_ | refine kA ?_ _)); exact BK303.out) hb)
         have n4_ := AM (kB (g := gb309) (o := .cells #[.string t304, .bool t305] 34 (0, 0)) (by (with_reducible repeat (first | refine kD ?_ _ | refine kE ?_ | refine kA ?_ _)); exact BK309.out) hb)
         have n5_ := AM (bS (by repeat (first | (with_reducible first | exact HB.out | apply bA | apply bD | apply bE | refine below_set ?_ GE297.out | refine below_set ?_ GE303.out | refine below_set ?_ GE309.out) | exact HB.out)) hb)
         clear HO302
         clear HO308
         clear BK297
         clear BK303
         clear BK309
         clear HB
         have HO302 := n0_
         have HO308 := n1_
         have BK297 := n2_
         have BK303 := n3_
         have BK309 := n4_
         have HB := n5_
         clear n0_ n1_ n2_ n3_ n4_ n5_
         (try clear hb)
         (try clear hb2)
         (try clear hk)
         (try clear hi)
         obtain ⟨Ao42, co42, eo42⟩ := Kd.N_slice HO302.out
         (first | subst eo42 | (injection eo42 with f1_ f2_ f3_; have f4_ := f1_.symm; have f5_ := f3_.symm; clear f1_ f2_ f3_; subst f4_; subst f5_))
         obtain ⟨Ao43, co43, eo43⟩ := Kd.N_slice HO308.out
         (first | subst eo43 | (injection eo43 with f1_ f2_ f3_; have f4_ := f1_.symm; have f5_ := f3_.symm; clear f1_ f2_ f3_; subst f4_; subst f5_))
         refine hK.out _ _ ⟨(kC BK303.out 0).trans rfl, (kC BK303.out 1).trans rfl, (kC BK309.out 0).trans rfl, (kC BK309.out 1).trans rfl, (kC BK297.out 0).trans rfl, (kC BK297.out 1).trans rfl⟩ (fun hHeld => ?_)
         clear hK K
         refine norm_ (a' := ?_) ?_ ?_
         rotate_left
         ·show Act.put _ (some 45) _ = _
          simp only [Act.put, lA, lZ, lS, i64_w, i32_w]
          rfl
         refine pure_ (i := 3) (N := some 46) (v := ?_) (a' := ?_) #[true, true, true, true, false, false, false, false, false, false, false, false, false, false, false, false, false, false, false, false, false, false, false, false, false, false, false, false] rfl rfl (any_of HT_.out (by kernel_rfl)) (fun _ _ _ h => h) (Or.inl ⟨by rfl, ?_⟩) ?_ ?_
         rotate_left
         ·intro w'
          go_simp
          with_reducible rfl
         rotate_left
         ·simp only [Act.put, lA, lZ, lS, i64_w, i32_w]
          rfl
         refine pure_ (i := 4) (N := some 47) (v := ?_) (a' := ?_) #[true, true, true, true, true, false, false, false, false, false, false, false, false, false, false, false, false, false, false, false, false, false, false, false, false, false, false, false] rfl rfl (any_of HT_.out (by kernel_rfl)) (fun _ _ _ h => h) (Or.inl ⟨by rfl, ?_⟩) ?_ ?_
         rotate_left
         ·intro w'
          go_simp
          with_reducible rfl
         rotate_left
         ·simp only [Act.put, lA, lZ, lS, i64_w, i32_w]
          rfl
         refine pure_ (i := 5) (N := some 48) (v := ?_) (a' := ?_) #[true, true, true, true, true, true, false, false, false, false, false, false, false, false, false, false, false, false, false, false, false, false, false, false, false, false, false, false] rfl rfl (any_of HT_.out (by kernel_rfl)) (fun _ _ _ h => h) (Or.inl ⟨by rfl, ?_⟩) ?_ ?_
         rotate_left
         ·intro w'
          go_simp
          with_reducible rfl
         rotate_left
         ·simp only [Act.put, lA, lZ, lS, i64_w, i32_w]
          rfl
         refine pure_ (i := 6) (N := some 49) (v := ?_) (a' := ?_) #[true, true, true, true, true, true, true, false, false, false, false, false, false, false, false, false, false, false, false, false, false, false, false, false, false, false, false, false] rfl rfl (any_of HT_.out (by kernel_rfl)) (fun _ _ _ h => h) (Or.inl ⟨by rfl, ?_⟩) ?_ ?_
         rotate_left
         ·intro w'
          go_simp
          with_reducible rfl
         rotate_left
         ·simp only [Act.put, lA, lZ, lS, i64_w, i32_w]
          rfl
         refine pure_ (i := 7) (N := some 50) (v := ?_) (a' := ?_) #[true, true, true, true, true, true, true, true, false, false, false, false, false, false, false, false, false, false, false, false, false, false, false, false, false, false, false, false] rfl rfl (any_of HT_.out (by kernel_rfl)) (fun _ _ _ h => h) (Or.inl ⟨by rfl, ?_⟩) ?_ ?_
         rotate_left
         ·intro w'
          go_simp
          with_reducible rfl
         rotate_left
         ·simp only [Act.put, lA, lZ, lS, i64_w, i32_w]
          rfl
         refine pure_ (i := 8) (N := some 51) (v := ?_) (a' := ?_) #[true, true, true, true, true, true, true, true, true, false, false, false, false, false, false, false, false, false, false, false, false, false, false, false, false, false, false, false] rfl rfl (any_of HT_.out (by kernel_rfl)) (fun _ _ _ h => h) (Or.inl ⟨by rfl, ?_⟩) ?_ ?_
         rotate_left
         ·intro w'
          go_simp
          with_reducible rfl
         rotate_left
         ·simp only [Act.put, lA, lZ, lS, i64_w, i32_w]
          rfl
         refine pure_ (i := 9) (N := some 52) (v := ?_) (a' := ?_) #[true, true, true, true, true, true, true, true, true, true, false, false, false, false, false, false, false, false, false, false, false, false, false, false, false, false, false, false] rfl rfl (any_of HT_.out (by kernel_rfl)) (fun _ _ _ h => h) (Or.inl ⟨by rfl, ?_⟩) ?_ ?_
         rotate_left
         ·intro w'
          go_simp
          with_reducible rfl
         rotate_left
         ·simp only [Act.put, lA, lZ, lS, i64_w, i32_w]
          rfl
         refine pure_ (i := 10) (N := some 53) (v := ?_) (a' := ?_) #[true, true, true, true, true, true, true, true, true, true, true, false, false, false, false, false, false, false, false, false, false, false, false, false, false, false, false, false] rfl rfl (any_of HT_.out (by kernel_rfl)) (fun _ _ _ h => h) (Or.inl ⟨by rfl, ?_⟩) ?_ ?_
         rotate_left
         ·intro w'
          go_simp
          with_reducible rfl
         rotate_left
         ·simp only [Act.put, lA, lZ, lS, i64_w, i32_w]
          rfl
         refine pure_ (i := 11) (N := some 54) (v := ?_) (a' := ?_) #[true, true, true, true, true, true, true, true, true, true, true, true, false, false, false, false, false, false, false, false, false, false, false, false, false, false, false, false] rfl rfl (any_of HT_.out (by kernel_rfl)) (fun _ _ _ h => h) (Or.inl ⟨by rfl, ?_⟩) ?_ ?_
         rotate_left
         ·intro w'
          go_simp
          with_reducible rfl
         rotate_left
         ·simp only [Act.put, lA, lZ, lS, i64_w, i32_w]
          rfl
         refine take_ (i := 12) (N := some 55) (v := ?_) (a' := ?_) #[true, true, true, true, true, true, true, true, true, true, true, true, true, false, false, false, false, false, false, false, false, false, false, false, false, false, false, false] rfl rfl (take_ofW HT_.out HW_.out (by kernel_rfl)) (fun _ _ _ h => h) (Or.inl ⟨by rfl, ?_⟩) hHeld ?_ ?_
         rotate_left
         ·rintro w' ⟨s0, s1, s2, s3, s4, s5⟩
          go_simp
          with_reducible rfl
         rotate_left
         ·simp only [Act.put, lA, lZ, lS, i64_w, i32_w]
          rfl
         refine take_ (i := 14) (N := some 57) (v := ?_) (a' := ?_) #[true, true, true, true, true, true, true, true, true, true, true, true, true, false, true, false, false, false, false, false, false, false, false, false, false, false, false, false] rfl rfl (take_ofW HT_.out HW_.out (by kernel_rfl)) (fun _ _ _ h => h) (Or.inl ⟨by rfl, ?_⟩) hHeld ?_ ?_
         rotate_left
         ·rintro w' ⟨s0, s1, s2, s3, s4, s5⟩
          go_simp
          with_reducible rfl
         rotate_left
         ·simp only [Act.put, lA, lZ, lS, i64_w, i32_w]
          rfl
         refine one_ (i := 13) (N := some 56) #[true, true, true, true, true, true, true, true, true, true, true, true, true, true, true, false, false, false, false, false, false, false, false, false, false, false, false, false] rfl rfl (one_of HT_.out (by kernel_rfl)) (by decide) (fun K hK => ?_)
         refine goes_ Tryd.func37 (by kernel_rfl) rfl #[.agg #[.string t294, .bool t295]] (by rfl) rfl rfl (by (try simp only [List.map_toArray, List.map_cons, List.map_nil]); first | done | rfl | (simp only [List.length_drop, List.length_take]; rfl)) ?_
         with_reducible refine (impl_PipeOk.calls kj2 t294 t295 t311 _ A26.out).mono ?_
         rintro e w44 ⟨rfl, hb⟩
         refine ⟨_, rfl, ?_⟩
         have n0_ := AM (nB (by (with_reducible repeat (first | apply nA | apply nD | apply nE)); exact HO302.out) hb)
         have n1_ := AM (nB (by (with_reducible repeat (first | apply nA | apply nD | apply nE)); exact HO308.out) hb)
         have n2_ := AM (kB (g := gb297) (o := .cells #[.string t294, .bool t295] 34 (0, 0)) (by (with_reducible repeat (first | refine kD ?_ _ | refine kE ?_ | refine kA ?_ _)); exact BK297.out) hb)
         have n3_ := AM (kB (g := gb303) (o := .cells #[.string t298, .bool t299] 34 (0, 0)) (by (with_reducible repeat (first | refine kD ?_ _ | refine kE ?_ | refine kA ?_ _)); exact BK303.out) hb)
         have n4_ := AM (kB (g := gb309) (o := .cells #[.string t304, .bool t305] 34 (0, 0)) (by (with_reducible repeat (first | refine kD ?_ _ | refine kE ?_ | refine kA ?_ _)); exact BK309.out) hb)
         have n5_ := AM (bS (by repeat (first | (with_reducible first | exact HB.out | apply bA | apply bD | apply bE | refine below_set ?_ GE297.out | refine below_set ?_ GE303.out | refine below_set ?_ GE309.out) | exact HB.out)) hb)
         clear HO302
         clear HO308
         clear BK297
         clear BK303
         clear BK309
         clear HB
         have HO302 := n0_
         have HO308 := n1_
         have BK297 := n2_
         have BK303 := n3_
         have BK309 := n4_
         have HB := n5_
         clear n0_ n1_ n2_ n3_ n4_ n5_
         (try clear hb)
         (try clear hb2)
         (try clear hk)
         (try clear hi)
         refine hK.out _ _ ⟨(kC BK303.out 0).trans rfl, (kC BK303.out 1).trans rfl, (kC BK309.out 0).trans rfl, (kC BK309.out 1).trans rfl, (kC BK297.out 0).trans rfl, (kC BK297.out 1).trans rfl⟩ (fun hHeld => ?_)
         clear hK K
         refine norm_ (a' := ?_) ?_ ?_
         rotate_left
         ·show Act.put _ (some 56) _ = _
          simp only [Act.put, lA, lZ, lS, i64_w, i32_w]
          rfl
         refine one_ (i := 15) (N := some 58) #[true, true, true, true, true, true, true, true, true, true, true, true, true, true, true, true, false, false, false, false, false, false, false, false, false, false, false, false] rfl rfl (one_of HT_.out (by kernel_rfl)) (by decide) (fun K hK => ?_)
         refine goes_ Tryd.func36 (by kernel_rfl) rfl #[.agg #[.string t294, .bool t295]] (by rfl) rfl rfl (by (try simp only [List.map_toArray, List.map_cons, List.map_nil]); first | done | rfl | (simp only [List.length_drop, List.length_take]; rfl)) ?_
         with_reducible refine (spec_PipeOk.calls kj2 t294 t295 t312 _ A27.out).mono ?_
         rintro e w45 ⟨rfl, hb⟩
         refine ⟨_, rfl, ?_⟩
         have n0_ := AM (nB (by (with_reducible repeat (first | apply nA | apply nD | apply nE)); exact HO302.out) hb)
         have n1_ := AM (nB (by (with_reducible repeat (first | apply nA | apply nD | apply nE)); exact HO308.out) hb)
         have n2_ := AM (kB (g := gb297) (o := .cells #[.string t294, .bool t295] 34 (0, 0)) (by (with_reducible repeat (first | refine kD ?_ _ | refine kE ?_ | refine kA ?_ _)); exact BK297.out) hb)
         have n3_ := AM (kB (g := gb303) (o := .cells #[.string t298, .bool t299] 34 (0, 0)) (by (with_reducible repeat (first | refine kD ?_ _ | refine kE ?_ | refine kA ?_ _)); exact BK303.out) hb)
         have n4_ := AM (kB (g := gb309) (o := .cells #[.string t304, .bool t305] 34 (0, 0)) (by (with_reducible repeat (first | refine kD ?_ _ | refine kE ?_ | refine kA ?_ _)); exact BK309.out) hb)
         have n5_ := AM (bS (by repeat (first | (with_reducible first | exact HB.out | apply bA | apply bD | apply bE | refine below_set ?_ GE297.out | refine below_set ?_ GE303.out | refine below_set ?_ GE309.out) | exact HB.out)) hb)
         clear HO302
         clear HO308
         clear BK297
         clear BK303
         clear BK309
         clear HB
         have HO302 := n0_
         have HO308 := n1_
         have BK297 := n2_
         have BK303 := n3_
         have BK309 := n4_
         have HB := n5_
         clear n0_ n1_ n2_ n3_ n4_ n5_
         (try clear hb)
         (try clear hb2)
         (try clear hk)
         (try clear hi)
         refine hK.out _ _ ⟨(kC BK303.out 0).trans rfl, (kC BK303.out 1).trans rfl, (kC BK309.out 0).trans rfl, (kC BK309.out 1).trans rfl, (kC BK297.out 0).trans rfl, (kC BK297.out 1).trans rfl⟩ (fun hHeld => ?_)
         clear hK K
         refine norm_ (a' := ?_) ?_ ?_
         rotate_left
         ·show Act.put _ (some 58) _ = _
          simp only [Act.put, lA, lZ, lS, i64_w, i32_w]
          rfl
         refine pure_ (i := 16) (N := some 59) (v := ?_) (a' := ?_) #[true, true, true, true, true, true, true, true, true, true, true, true, true, true, true, true, true, false, false, false, false, false, false, false, false, false, false, false] rfl rfl (any_of HT_.out (by kernel_rfl)) (fun _ _ _ h => h) (Or.inl ⟨by rfl, ?_⟩) ?_ ?_
         rotate_left
         ·intro w'
          go_simp
          with_reducible rfl
         rotate_left
         ·simp only [Act.put, lA, lZ, lS, i64_w, i32_w]
          rfl
         refine pure_ (i := 17) (N := some 60) (v := ?_) (a' := ?_) #[true, true, true, true, true, true, true, true, true, true, true, true, true, true, true, true, true, true, false, false, false, false, false, false, false, false, false, false] rfl rfl (any_of HT_.out (by kernel_rfl)) (fun _ _ _ h => h) (Or.inl ⟨by rfl, ?_⟩) ?_ ?_
         rotate_left
         ·intro w'
          go_simp
          with_reducible rfl
         rotate_left
         ·simp only [Act.put, lA, lZ, lS, i64_w, i32_w]
          rfl
         refine pure_ (i := 18) (N := some 61) (v := ?_) (a' := ?_) #[true, true, true, true, true, true, true, true, true, true, true, true, true, true, true, true, true, true, true, false, false, false, false, false, false, false, false, false] rfl rfl (any_of HT_.out (by kernel_rfl)) (fun _ _ _ h => h) (Or.inl ⟨by rfl, ?_⟩) ?_ ?_
         rotate_left
         ·intro w'
          go_simp
          with_reducible rfl
         rotate_left
         ·simp only [Act.put, lA, lZ, lS, i64_w, i32_w]
          rfl
         refine take_ (i := 19) (N := some 62) (v := ?_) (a' := ?_) #[true, true, true, true, true, true, true, true, true, true, true, true, true, true, true, true, true, true, true, true, false, false, false, false, false, false, false, false] rfl rfl (take_ofW HT_.out HW_.out (by kernel_rfl)) (fun _ _ _ h => h) (Or.inl ⟨by rfl, ?_⟩) hHeld ?_ ?_
         rotate_left
         ·rintro w' ⟨s0, s1, s2, s3, s4, s5⟩
          go_simp
          with_reducible rfl
         rotate_left
         ·simp only [Act.put, lA, lZ, lS, i64_w, i32_w]
          rfl
         refine one_ (i := 20) (N := some 63) #[true, true, true, true, true, true, true, true, true, true, true, true, true, true, true, true, true, true, true, true, true, false, false, false, false, false, false, false] rfl rfl (one_of HT_.out (by kernel_rfl)) (by decide) (fun K hK => ?_)
         refine goes_ Tryd.func36 (by kernel_rfl) rfl #[.agg #[.string t294, .bool t295]] (by rfl) rfl rfl (by (try simp only [List.map_toArray, List.map_cons, List.map_nil]); first | done | rfl | (simp only [List.length_drop, List.length_take]; rfl)) ?_
         with_reducible refine (spec_PipeOk.calls kj2 t294 t295 false _ A29.out).mono ?_
         rintro e w46 ⟨rfl, hb⟩
         refine ⟨_, rfl, ?_⟩
         have n0_ := AM (nB (by (with_reducible repeat (first | apply nA | apply nD | apply nE)); exact HO302.out) hb)
         have n1_ := AM (nB (by (with_reducible repeat (first | apply nA | apply nD | apply nE)); exact HO308.out) hb)
         have n2_ := AM (kB (g := gb297) (o := .cells #[.string t294, .bool t295] 34 (0, 0)) (by (with_reducible repeat (first | refine kD ?_ _ | refine kE ?_ | refine kA ?_ _)); exact BK297.out) hb)
         have n3_ := AM (kB (g := gb303) (o := .cells #[.string t298, .bool t299] 34 (0, 0)) (by (with_reducible repeat (first | refine kD ?_ _ | refine kE ?_ | refine kA ?_ _)); exact BK303.out) hb)
         have n4_ := AM (kB (g := gb309) (o := .cells #[.string t304, .bool t305] 34 (0, 0)) (by (with_reducible repeat (first | refine kD ?_ _ | refine kE ?_ | refine kA ?_ _)); exact BK309.out) hb)
         have n5_ := AM (bS (by repeat (first | (with_reducible first | exact HB.out | apply bA | apply bD | apply bE | refine below_set ?_ GE297.out | refine below_set ?_ GE303.out | refine below_set ?_ GE309.out) | exact HB.out)) hb)
         clear HO302
         clear HO308
         clear BK297
         clear BK303
         clear BK309
         clear HB
         have HO302 := n0_
         have HO308 := n1_
         have BK297 := n2_
         have BK303 := n3_
         have BK309 := n4_
         have HB := n5_
         clear n0_ n1_ n2_ n3_ n4_ n5_
         (try clear hb)
         (try clear hb2)
         (try clear hk)
         (try clear hi)
         refine hK.out _ _ ⟨(kC BK303.out 0).trans rfl, (kC BK303.out 1).trans rfl, (kC BK309.out 0).trans rfl, (kC BK309.out 1).trans rfl, (kC BK297.out 0).trans rfl, (kC BK297.out 1).trans rfl⟩ (fun hHeld => ?_)
         clear hK K
         refine norm_ (a' := ?_) ?_ ?_
         rotate_left
         ·show Act.put _ (some 63) _ = _
          simp only [Act.put, lA, lZ, lS, i64_w, i32_w]
          rfl
         refine pure_ (i := 21) (N := some 64) (v := ?_) (a' := ?_) #[true, true, true, true, true, true, true, true, true, true, true, true, true, true, true, true, true, true, true, true, true, true, false, false, false, false, false, false] rfl rfl (any_of HT_.out (by kernel_rfl)) (fun _ _ _ h => h) (Or.inl ⟨by rfl, ?_⟩) ?_ ?_
         rotate_left
         ·intro w'
          go_simp
          with_reducible rfl
         rotate_left
         ·simp only [Act.put, lA, lZ, lS, i64_w, i32_w]
          rfl
         refine pure_ (i := 22) (N := some 65) (v := ?_) (a' := ?_) #[true, true, true, true, true, true, true, true, true, true, true, true, true, true, true, true, true, true, true, true, true, true, true, false, false, false, false, false] rfl rfl (any_of HT_.out (by kernel_rfl)) (fun _ _ _ h => h) (Or.inl ⟨by rfl, ?_⟩) ?_ ?_
         rotate_left
         ·intro w'
          go_simp
          with_reducible rfl
         rotate_left
         ·simp only [Act.put, lA, lZ, lS, i64_w, i32_w]
          rfl
         refine pure_ (i := 23) (N := some 66) (v := ?_) (a' := ?_) #[true, true, true, true, true, true, true, true, true, true, true, true, true, true, true, true, true, true, true, true, true, true, true, true, false, false, false, false] rfl rfl (any_of HT_.out (by kernel_rfl)) (fun _ _ _ h => h) (Or.inl ⟨by rfl, ?_⟩) ?_ ?_
         rotate_left
         ·intro w'
          go_simp
          with_reducible rfl
         rotate_left
         ·simp only [Act.put, lA, lZ, lS, i64_w, i32_w]
          rfl
         refine pure_ (i := 24) (N := some 67) (v := undef) (a' := ?_) #[true, true, true, true, true, true, true, true, true, true, true, true, true, true, true, true, true, true, true, true, true, true, true, true, true, false, false, false] rfl rfl (any_of HT_.out (by kernel_rfl)) (fun _ _ _ h => h) (Or.inr ⟨by rfl, rfl⟩) ?_ ?_
         rotate_left
         ·simp only [Act.put, lA, lZ, lS, i64_w, i32_w]
          rfl
         refine pure_ (i := 25) (N := some 68) (v := undef) (a' := ?_) #[true, true, true, true, true, true, true, true, true, true, true, true, true, true, true, true, true, true, true, true, true, true, true, true, true, true, false, false] rfl rfl (any_of HT_.out (by kernel_rfl)) (fun _ _ _ h => h) (Or.inr ⟨by rfl, rfl⟩) ?_ ?_
         rotate_left
         ·simp only [Act.put, lA, lZ, lS, i64_w, i32_w]
          rfl
         refine pure_ (i := 26) (N := some 69) (v := undef) (a' := ?_) #[true, true, true, true, true, true, true, true, true, true, true, true, true, true, true, true, true, true, true, true, true, true, true, true, true, true, true, false] rfl rfl (any_of HT_.out (by kernel_rfl)) (fun _ _ _ h => h) (Or.inr ⟨by rfl, rfl⟩) ?_ ?_
         rotate_left
         ·simp only [Act.put, lA, lZ, lS, i64_w, i32_w]
          rfl
         refine pure_ (i := 27) (N := some 70) (v := ?_) (a' := ?_) #[true, true, true, true, true, true, true, true, true, true, true, true, true, true, true, true, true, true, true, true, true, true, true, true, true, true, true, true] rfl rfl (any_of HT_.out (by kernel_rfl)) (fun _ _ _ h => h) (Or.inl ⟨by rfl, ?_⟩) ?_ ?_
         rotate_left
         ·intro w'
          go_simp
          with_reducible rfl
         rotate_left
         ·simp only [Act.put, lA, lZ, lS, i64_w, i32_w]
          rfl
         refine done_ (done_of HT_.out (by kernel_rfl)) ?_
         try go_wp2
         go_meet
         case rel => exact ⟨_, (true), (by first | rfl | (simp; done) | (simp [*]; done)), H', ⟨by have := HJ2.out; first | omega | exact Nat.le_refl _⟩, ⟨by (with_reducible repeat (first | apply nA | apply nD | apply nE)); exact HO302.out⟩, ⟨by (with_reducible repeat (first | apply nA | apply nD | apply nE)); exact HO308.out⟩, ⟨by (with_reducible repeat (first | refine kD ?_ _ | refine kE ?_ | refine kA ?_ _)); exact BK297.out⟩, ⟨by (with_reducible repeat (first | refine kD ?_ _ | refine kE ?_ | refine kA ?_ _)); exact BK303.out⟩, ⟨by (with_reducible repeat (first | refine kD ?_ _ | refine kE ?_ | refine kA ?_ _)); exact BK309.out⟩, ⟨by repeat (first | (with_reducible first | exact HB.out | apply bA | apply bD | apply bE | refine below_set ?_ GE297.out | refine below_set ?_ GE303.out | refine below_set ?_ GE309.out) | exact HB.out)⟩⟩
      ·rw [if_neg c25] at H
       exact absurd H (by simp)
     ·replace c24 := Bool.eq_false_iff.mpr c24
      subst c24
      have H1 : (none) = some r := by rw [if_neg (show ¬ (false = true) by decide)] at H; exact H
      clear H
      have H := H1
      clear H1
      exact absurd H (by simp)
    case rest =>
     clear HC9
     try clear c2
     try clear p2
     try clear c3
     try clear c24
     try clear c25
     try clear c30
     try clear c35
     try clear c36
     try clear c37
     obtain ⟨kq, x70_8, rfl, HA, HJ8, HO_8, HO_10, BK297, BK303, BK309, HB⟩ := hcut
     cases kq with
     | zero => exact absurd HA.out (by simp [laws_FnPipe.j1])
     | succ kj8 =>
      have H := HA.out
      clear HA
      simp only [laws_FnPipe.j1] at H
      by_cases c47 : x70_8 = true
      ·subst c47
       have H1 : ((laws_qnPipe.f t298 t299 t304 t305).bind fun t314 => (if t314 = true then (if (t300.length : Int) = (t306.length : Int) then ((impl_PipeOk.f kj8 t294 t295).bind fun t315 => ((spec_PipeOk.f kj8 t294 t295).bind fun t316 => (some (t315 == t316)))) else (none)) else (none))) = some r := by rw [if_pos rfl] at H; exact H
       clear H
       have H := H1
       clear H1
       replace H := Option.bind_eq_some_iff.mp H
       obtain ⟨t314, A480, H⟩ := H
       replace H : (if t314 = true then (if (t300.length : Int) = (t306.length : Int) then ((impl_PipeOk.f kj8 t294 t295).bind fun t315 => ((spec_PipeOk.f kj8 t294 t295).bind fun t316 => (some (t315 == t316)))) else (none)) else (none)) = some r := H
       have A48 := AM A480
       clear A480
       by_cases c49 : t314 = true
       ·subst c49
        have H1 : (if (t300.length : Int) = (t306.length : Int) then ((impl_PipeOk.f kj8 t294 t295).bind fun t315 => ((spec_PipeOk.f kj8 t294 t295).bind fun t316 => (some (t315 == t316)))) else (none)) = some r := by rw [if_pos rfl] at H; exact H
        clear H
        have H := H1
        clear H1
        by_cases c50 : (t300.length : Int) = (t306.length : Int)
        ·rw [if_pos c50] at H
         have c50b0 : ((t300.length : Int) == (t306.length : Int)) = true := beq_iff_eq.mpr c50
         have c50b1 : ((t300.length : Int) != (t306.length : Int)) = false := bne_eq_false_iff_eq.mpr c50
         have c50b2 : (t300.length == t306.length) = true := by first | simpa using c50 | (simp at c50 ⊢; omega)
         clear c50
         replace H := Option.bind_eq_some_iff.mp H
         obtain ⟨t315, A510, H⟩ := H
         replace H : ((spec_PipeOk.f kj8 t294 t295).bind fun t316 => (some (t315 == t316))) = some r := H
         have A51 := AM A510
         clear A510
         replace H := Option.bind_eq_some_iff.mp H
         obtain ⟨t316, A520, H⟩ := H
         replace H : (some (t315 == t316)) = some r := H
         have A52 := AM A520
         clear A520
         obtain rfl := Option.some.inj H
         try go_wp2
         have n0_ := AM (nE HO_8.out)
         have n1_ := AM (nE HO_10.out)
         have n2_ := AM (kE BK297.out)
         have n3_ := AM (kE BK303.out)
         have n4_ := AM (kE BK309.out)
         have n5_ := AM (bE HB.out)
         clear HO_8
         clear HO_10
         clear BK297
         clear BK303
         clear BK309
         clear HB
         have HO_8 := n0_
         have HO_10 := n1_
         have BK297 := n2_
         have BK303 := n3_
         have BK309 := n4_
         have HB := n5_
         clear n0_ n1_ n2_ n3_ n4_ n5_
         refine start_ (n := 18) (S := fun w' => w'.cell? ⟨gb303, 0, none⟩ = some (.string t298) ∧ w'.cell? ⟨gb303, 1, none⟩ = some (.bool t299) ∧ w'.cell? ⟨gb309, 0, none⟩ = some (.string t304) ∧ w'.cell? ⟨gb309, 1, none⟩ = some (.bool t305) ∧ w'.cell? ⟨gb297, 0, none⟩ = some (.string t294) ∧ w'.cell? ⟨gb297, 1, none⟩ = some (.bool t295)) (ds := []) #[false, false, false, false, false, false, false, false, false, false, false, false, false, false, false, false, false, false] (by kernel_rfl) rfl rfl ⟨(kC BK303.out 0).trans rfl, (kC BK303.out 1).trans rfl, (kC BK309.out 0).trans rfl, (kC BK309.out 1).trans rfl, (kC BK297.out 0).trans rfl, (kC BK297.out 1).trans rfl⟩ (fun hHeld => ?_); refine with_tabW laws_FnPipe.tab7 laws_FnPipe.bits7 (fun HT_ HW_ => ?_)
         generalize wc.drew = w53 at HO_8 HO_10 BK297 BK303 BK309 HB hHeld ⊢
         refine take_ (i := 0) (N := some 71) (v := ?_) (a' := ?_) #[true, false, false, false, false, false, false, false, false, false, false, false, false, false, false, false, false, false] rfl rfl (take_ofW HT_.out HW_.out (by kernel_rfl)) (fun _ _ _ h => h) (Or.inl ⟨by rfl, ?_⟩) hHeld ?_ ?_
         rotate_left
         ·rintro w' ⟨s0, s1, s2, s3, s4, s5⟩
          go_simp
          with_reducible rfl
         rotate_left
         ·simp only [Act.put, lA, lZ, lS, i64_w, i32_w]
          rfl
         refine take_ (i := 1) (N := some 72) (v := ?_) (a' := ?_) #[true, true, false, false, false, false, false, false, false, false, false, false, false, false, false, false, false, false] rfl rfl (take_ofW HT_.out HW_.out (by kernel_rfl)) (fun _ _ _ h => h) (Or.inl ⟨by rfl, ?_⟩) hHeld ?_ ?_
         rotate_left
         ·rintro w' ⟨s0, s1, s2, s3, s4, s5⟩
          go_simp
          with_reducible rfl
         rotate_left
         ·simp only [Act.put, lA, lZ, lS, i64_w, i32_w]
          rfl
         refine one_ (i := 2) (N := some 73) #[true, true, true, false, false, false, false, false, false, false, false, false, false, false, false, false, false, false] rfl rfl (one_of HT_.out (by kernel_rfl)) (by decide) (fun K hK => ?_)
         refine goes_ Tryd.func35 (by kernel_rfl) rfl #[.agg #[.string t298, .bool t299], .agg #[.string t304, .bool t305]] (by rfl) rfl rfl (by (try simp only [List.map_toArray, List.map_cons, List.map_nil]); first | done | rfl | (simp only [List.length_drop, List.length_take]; rfl)) ?_
         with_reducible refine (laws_qnPipe.calls t298 t299 t304 t305 true _ A48.out).mono ?_
         rintro e w54 ⟨rfl, hb⟩
         refine ⟨_, rfl, ?_⟩
         have n0_ := AM (nB (by (with_reducible repeat (first | apply nA | apply nD | apply nE)); exact HO_8.out) hb)
         have n1_ := AM (nB (by (with_reducible repeat (first | apply nA | apply nD | apply nE)); exact HO_10.out) hb)
         have n2_ := AM (kB (g := gb297) (o := .cells #[.string t294, .bool t295] 34 (0, 0)) (by (with_reducible repeat (first | refine kD ?_ _ | refine kE ?_ | refine kA ?_ _)); exact BK297.out) hb)
         have n3_ := AM (kB (g := gb303) (o := .cells #[.string t298, .bool t299] 34 (0, 0)) (by (with_reducible repeat (first | refine kD ?_ _ | refine kE ?_ | refine kA ?_ _)); exact BK303.out) hb)
         have n4_ := AM (kB (g := gb309) (o := .cells #[.string t304, .bool t305] 34 (0, 0)) (by (with_reducible repeat (first | refine kD ?_ _ | refine kE ?_ | refine kA ?_ _)); exact BK309.out) hb)
         have n5_ := AM (bS (by repeat (first | (with_reducible first | exact HB.out | apply bA | apply bD | apply bE | refine below_set ?_ GE297.out | refine below_set ?_ GE303.out | refine below_set ?_ GE309.out) | exact HB.out)) hb)
         clear HO_8
         clear HO_10
         clear BK297
         clear BK303
         clear BK309
         clear HB
         have HO_8 := n0_
         have HO_10 := n1_
         have BK297 := n2_
         have BK303 := n3_
         have BK309 := n4_
         have HB := n5_
         clear n0_ n1_ n2_ n3_ n4_ n5_
         (try clear hb)
         (try clear hb2)
         (try clear hk)
         (try clear hi)
         obtain ⟨Ao55, co55, eo55⟩ := Kd.N_slice HO_8.out
         (first | subst eo55 | (injection eo55 with f1_ f2_ f3_; have f4_ := f1_.symm; have f5_ := f3_.symm; clear f1_ f2_ f3_; subst f4_; subst f5_))
         obtain ⟨Ao56, co56, eo56⟩ := Kd.N_slice HO_10.out
         (first | subst eo56 | (injection eo56 with f1_ f2_ f3_; have f4_ := f1_.symm; have f5_ := f3_.symm; clear f1_ f2_ f3_; subst f4_; subst f5_))
         refine hK.out _ _ ⟨(kC BK303.out 0).trans rfl, (kC BK303.out 1).trans rfl, (kC BK309.out 0).trans rfl, (kC BK309.out 1).trans rfl, (kC BK297.out 0).trans rfl, (kC BK297.out 1).trans rfl⟩ (fun hHeld => ?_)
         clear hK K
         refine norm_ (a' := ?_) ?_ ?_
         rotate_left
         ·show Act.put _ (some 73) _ = _
          simp only [Act.put, lA, lZ, lS, i64_w, i32_w]
          rfl
         refine pure_ (i := 3) (N := some 74) (v := ?_) (a' := ?_) #[true, true, true, true, false, false, false, false, false, false, false, false, false, false, false, false, false, false] rfl rfl (any_of HT_.out (by kernel_rfl)) (fun _ _ _ h => h) (Or.inl ⟨by rfl, ?_⟩) ?_ ?_
         rotate_left
         ·intro w'
          go_simp
          with_reducible rfl
         rotate_left
         ·simp only [Act.put, lA, lZ, lS, i64_w, i32_w]
          rfl
         refine pure_ (i := 4) (N := some 75) (v := ?_) (a' := ?_) #[true, true, true, true, true, false, false, false, false, false, false, false, false, false, false, false, false, false] rfl rfl (any_of HT_.out (by kernel_rfl)) (fun _ _ _ h => h) (Or.inl ⟨by rfl, ?_⟩) ?_ ?_
         rotate_left
         ·intro w'
          go_simp
          with_reducible rfl
         rotate_left
         ·simp only [Act.put, lA, lZ, lS, i64_w, i32_w]
          rfl
         refine pure_ (i := 5) (N := some 76) (v := ?_) (a' := ?_) #[true, true, true, true, true, true, false, false, false, false, false, false, false, false, false, false, false, false] rfl rfl (any_of HT_.out (by kernel_rfl)) (fun _ _ _ h => h) (Or.inl ⟨by rfl, ?_⟩) ?_ ?_
         rotate_left
         ·intro w'
          go_simp
          with_reducible rfl
         rotate_left
         ·simp only [Act.put, lA, lZ, lS, i64_w, i32_w]
          rfl
         refine pure_ (i := 6) (N := some 77) (v := ?_) (a' := ?_) #[true, true, true, true, true, true, true, false, false, false, false, false, false, false, false, false, false, false] rfl rfl (any_of HT_.out (by kernel_rfl)) (fun _ _ _ h => h) (Or.inl ⟨by rfl, ?_⟩) ?_ ?_
         rotate_left
         ·intro w'
          go_simp
          with_reducible rfl
         rotate_left
         ·simp only [Act.put, lA, lZ, lS, i64_w, i32_w]
          rfl
         refine pure_ (i := 7) (N := some 78) (v := ?_) (a' := ?_) #[true, true, true, true, true, true, true, true, false, false, false, false, false, false, false, false, false, false] rfl rfl (any_of HT_.out (by kernel_rfl)) (fun _ _ _ h => h) (Or.inl ⟨by rfl, ?_⟩) ?_ ?_
         rotate_left
         ·intro w'
          go_simp
          with_reducible rfl
         rotate_left
         ·simp only [Act.put, lA, lZ, lS, i64_w, i32_w]
          rfl
         refine pure_ (i := 8) (N := some 79) (v := ?_) (a' := ?_) #[true, true, true, true, true, true, true, true, true, false, false, false, false, false, false, false, false, false] rfl rfl (any_of HT_.out (by kernel_rfl)) (fun _ _ _ h => h) (Or.inl ⟨by rfl, ?_⟩) ?_ ?_
         rotate_left
         ·intro w'
          go_simp
          with_reducible rfl
         rotate_left
         ·simp only [Act.put, lA, lZ, lS, i64_w, i32_w]
          rfl
         refine pure_ (i := 9) (N := some 80) (v := ?_) (a' := ?_) #[true, true, true, true, true, true, true, true, true, true, false, false, false, false, false, false, false, false] rfl rfl (any_of HT_.out (by kernel_rfl)) (fun _ _ _ h => h) (Or.inl ⟨by rfl, ?_⟩) ?_ ?_
         rotate_left
         ·intro w'
          go_simp
          with_reducible rfl
         rotate_left
         ·simp only [Act.put, lA, lZ, lS, i64_w, i32_w]
          rfl
         refine pure_ (i := 10) (N := some 81) (v := ?_) (a' := ?_) #[true, true, true, true, true, true, true, true, true, true, true, false, false, false, false, false, false, false] rfl rfl (any_of HT_.out (by kernel_rfl)) (fun _ _ _ h => h) (Or.inl ⟨by rfl, ?_⟩) ?_ ?_
         rotate_left
         ·intro w'
          go_simp
          with_reducible rfl
         rotate_left
         ·simp only [Act.put, lA, lZ, lS, i64_w, i32_w]
          rfl
         refine take_ (i := 11) (N := some 82) (v := ?_) (a' := ?_) #[true, true, true, true, true, true, true, true, true, true, true, true, false, false, false, false, false, false] rfl rfl (take_ofW HT_.out HW_.out (by kernel_rfl)) (fun _ _ _ h => h) (Or.inl ⟨by rfl, ?_⟩) hHeld ?_ ?_
         rotate_left
         ·rintro w' ⟨s0, s1, s2, s3, s4, s5⟩
          go_simp
          with_reducible rfl
         rotate_left
         ·simp only [Act.put, lA, lZ, lS, i64_w, i32_w]
          rfl
         refine take_ (i := 13) (N := some 84) (v := ?_) (a' := ?_) #[true, true, true, true, true, true, true, true, true, true, true, true, false, true, false, false, false, false] rfl rfl (take_ofW HT_.out HW_.out (by kernel_rfl)) (fun _ _ _ h => h) (Or.inl ⟨by rfl, ?_⟩) hHeld ?_ ?_
         rotate_left
         ·rintro w' ⟨s0, s1, s2, s3, s4, s5⟩
          go_simp
          with_reducible rfl
         rotate_left
         ·simp only [Act.put, lA, lZ, lS, i64_w, i32_w]
          rfl
         refine one_ (i := 12) (N := some 83) #[true, true, true, true, true, true, true, true, true, true, true, true, true, true, false, false, false, false] rfl rfl (one_of HT_.out (by kernel_rfl)) (by decide) (fun K hK => ?_)
         refine goes_ Tryd.func37 (by kernel_rfl) rfl #[.agg #[.string t294, .bool t295]] (by rfl) rfl rfl (by (try simp only [List.map_toArray, List.map_cons, List.map_nil]); first | done | rfl | (simp only [List.length_drop, List.length_take]; rfl)) ?_
         with_reducible refine (impl_PipeOk.calls kj8 t294 t295 t315 _ A51.out).mono ?_
         rintro e w57 ⟨rfl, hb⟩
         refine ⟨_, rfl, ?_⟩
         have n0_ := AM (nB (by (with_reducible repeat (first | apply nA | apply nD | apply nE)); exact HO_8.out) hb)
         have n1_ := AM (nB (by (with_reducible repeat (first | apply nA | apply nD | apply nE)); exact HO_10.out) hb)
         have n2_ := AM (kB (g := gb297) (o := .cells #[.string t294, .bool t295] 34 (0, 0)) (by (with_reducible repeat (first | refine kD ?_ _ | refine kE ?_ | refine kA ?_ _)); exact BK297.out) hb)
         have n3_ := AM (kB (g := gb303) (o := .cells #[.string t298, .bool t299] 34 (0, 0)) (by (with_reducible repeat (first | refine kD ?_ _ | refine kE ?_ | refine kA ?_ _)); exact BK303.out) hb)
         have n4_ := AM (kB (g := gb309) (o := .cells #[.string t304, .bool t305] 34 (0, 0)) (by (with_reducible repeat (first | refine kD ?_ _ | refine kE ?_ | refine kA ?_ _)); exact BK309.out) hb)
         have n5_ := AM (bS (by repeat (first | (with_reducible first | exact HB.out | apply bA | apply bD | apply bE | refine below_set ?_ GE297.out | refine below_set ?_ GE303.out | refine below_set ?_ GE309.out) | exact HB.out)) hb)
         clear HO_8
         clear HO_10
         clear BK297
         clear BK303
         clear BK309
         clear HB
         have HO_8 := n0_
         have HO_10 := n1_
         have BK297 := n2_
         have BK303 := n3_
         have BK309 := n4_
         have HB := n5_
         clear n0_ n1_ n2_ n3_ n4_ n5_
         (try clear hb)
         (try clear hb2)
         (try clear hk)
         (try clear hi)
         refine hK.out _ _ ⟨(kC BK303.out 0).trans rfl, (kC BK303.out 1).trans rfl, (kC BK309.out 0).trans rfl, (kC BK309.out 1).trans rfl, (kC BK297.out 0).trans rfl, (kC BK297.out 1).trans rfl⟩ (fun hHeld => ?_)
         clear hK K
         refine norm_ (a' := ?_) ?_ ?_
         rotate_left
         ·show Act.put _ (some 83) _ = _
          simp only [Act.put, lA, lZ, lS, i64_w, i32_w]
          rfl
         refine one_ (i := 14) (N := some 85) #[true, true, true, true, true, true, true, true, true, true, true, true, true, true, true, false, false, false] rfl rfl (one_of HT_.out (by kernel_rfl)) (by decide) (fun K hK => ?_)
         refine goes_ Tryd.func36 (by kernel_rfl) rfl #[.agg #[.string t294, .bool t295]] (by rfl) rfl rfl (by (try simp only [List.map_toArray, List.map_cons, List.map_nil]); first | done | rfl | (simp only [List.length_drop, List.length_take]; rfl)) ?_
         with_reducible refine (spec_PipeOk.calls kj8 t294 t295 t316 _ A52.out).mono ?_
         rintro e w58 ⟨rfl, hb⟩
         refine ⟨_, rfl, ?_⟩
         have n0_ := AM (nB (by (with_reducible repeat (first | apply nA | apply nD | apply nE)); exact HO_8.out) hb)
         have n1_ := AM (nB (by (with_reducible repeat (first | apply nA | apply nD | apply nE)); exact HO_10.out) hb)
         have n2_ := AM (kB (g := gb297) (o := .cells #[.string t294, .bool t295] 34 (0, 0)) (by (with_reducible repeat (first | refine kD ?_ _ | refine kE ?_ | refine kA ?_ _)); exact BK297.out) hb)
         have n3_ := AM (kB (g := gb303) (o := .cells #[.string t298, .bool t299] 34 (0, 0)) (by (with_reducible repeat (first | refine kD ?_ _ | refine kE ?_ | refine kA ?_ _)); exact BK303.out) hb)
         have n4_ := AM (kB (g := gb309) (o := .cells #[.string t304, .bool t305] 34 (0, 0)) (by (with_reducible repeat (first | refine kD ?_ _ | refine kE ?_ | refine kA ?_ _)); exact BK309.out) hb)
         have n5_ := AM (bS (by repeat (first | (with_reducible first | exact HB.out | apply bA | apply bD | apply bE | refine below_set ?_ GE297.out | refine below_set ?_ GE303.out | refine below_set ?_ GE309.out) | exact HB.out)) hb)
         clear HO_8
         clear HO_10
         clear BK297
         clear BK303
         clear BK309
         clear HB
         have HO_8 := n0_
         have HO_10 := n1_
         have BK297 := n2_
         have BK303 := n3_
         have BK309 := n4_
         have HB := n5_
         clear n0_ n1_ n2_ n3_ n4_ n5_
         (try clear hb)
         (try clear hb2)
         (try clear hk)
         (try clear hi)
         refine hK.out _ _ ⟨(kC BK303.out 0).trans rfl, (kC BK303.out 1).trans rfl, (kC BK309.out 0).trans rfl, (kC BK309.out 1).trans rfl, (kC BK297.out 0).trans rfl, (kC BK297.out 1).trans rfl⟩ (fun hHeld => ?_)
         clear hK K
         refine norm_ (a' := ?_) ?_ ?_
         rotate_left
         ·show Act.put _ (some 85) _ = _
          simp only [Act.put, lA, lZ, lS, i64_w, i32_w]
          rfl
         refine pure_ (i := 15) (N := some 86) (v := ?_) (a' := ?_) #[true, true, true, true, true, true, true, true, true, true, true, true, true, true, true, true, false, false] rfl rfl (any_of HT_.out (by kernel_rfl)) (fun _ _ _ h => h) (Or.inl ⟨by rfl, ?_⟩) ?_ ?_
         rotate_left
         ·intro w'
          go_simp
          with_reducible rfl
         rotate_left
         ·simp only [Act.put, lA, lZ, lS, i64_w, i32_w]
          rfl
         refine pure_ (i := 16) (N := some 87) (v := ?_) (a' := ?_) #[true, true, true, true, true, true, true, true, true, true, true, true, true, true, true, true, true, false] rfl rfl (any_of HT_.out (by kernel_rfl)) (fun _ _ _ h => h) (Or.inl ⟨by rfl, ?_⟩) ?_ ?_
         rotate_left
         ·intro w'
          go_simp
          with_reducible rfl
         rotate_left
         ·simp only [Act.put, lA, lZ, lS, i64_w, i32_w]
          rfl
         refine pure_ (i := 17) (N := some 4) (v := ?_) (a' := ?_) #[true, true, true, true, true, true, true, true, true, true, true, true, true, true, true, true, true, true] rfl rfl (any_of HT_.out (by kernel_rfl)) (fun _ _ _ h => h) (Or.inl ⟨by rfl, ?_⟩) ?_ ?_
         rotate_left
         ·intro w'
          go_simp
          with_reducible rfl
         rotate_left
         ·simp only [Act.put, lA, lZ, lS, i64_w, i32_w]
          rfl
         refine done_ (done_of HT_.out (by kernel_rfl)) ?_
         try go_wp2
         go_ret
         exact ⟨by first | rfl | (simp [errW_none, errW_some] <;> rfl) | (simp [*, errW_none, errW_some] <;> rfl), by repeat (first | (with_reducible first | exact HB.out | apply bA | apply bD | apply bE | refine below_set ?_ GE297.out | refine below_set ?_ GE303.out | refine below_set ?_ GE309.out) | exact HB.out)⟩
        ·rw [if_neg c50] at H
         exact absurd H (by simp)
       ·replace c49 := Bool.eq_false_iff.mpr c49
        subst c49
        have H1 : (none) = some r := by rw [if_neg (show ¬ (false = true) by decide)] at H; exact H
        clear H
        have H := H1
        clear H1
        exact absurd H (by simp)
      ·replace c47 := Bool.eq_false_iff.mpr c47
       subst c47
       have H1 : (if (wrap64 ((t296.size : Int) + 1)) = 0 then (none) else (if 0 ≤ ((l1.length : Int) % (wrap64 ((t296.size : Int) + 1))) then (if ((l1.length : Int) % (wrap64 ((t296.size : Int) + 1))) ≤ (t296.size : Int) then ((impl_PipeFeed.f kj8 t294 t295 (t296.extract 0 (((l1.length : Int) % (wrap64 ((t296.size : Int) + 1))) : Int).toNat)).bind fun bt317 => ((impl_PipeFeed.f kj8 bt317.1 bt317.2.1 (t296.extract (((l1.length : Int) % (wrap64 ((t296.size : Int) + 1))) : Int).toNat t296.size)).bind fun bt323 => ((some (([] : List (List ByteArray)) : List (List ByteArray))).bind fun y329 => (if y329.length + bt317.2.2.length < 5864062014805 then ((some (y329 ++ bt317.2.2 : List (List ByteArray))).bind fun y332 => (if y332.length + bt323.2.2.length < 5864062014805 then ((some (y332 ++ bt323.2.2 : List (List ByteArray))).bind fun y335 => (if (y335.length : Int) = (t300.length : Int) then (laws_FnPipe.l0 kj8 t300 t306 y335 0 t298 t299 bt323.1 bt323.2.1) else (none))) else (none))) else (none))))) else (none)) else (none))) = some r := by rw [if_neg (show ¬ (false = true) by decide)] at H; exact H
       clear H
       have H := H1
       clear H1
       by_cases c59 : (wrap64 ((t296.size : Int) + 1)) = 0
       ·rw [if_pos c59] at H
        exact absurd H (by simp)
       ·rw [if_neg c59] at H
        have c59b0 : ((wrap64 ((t296.size : Int) + 1)) == 0) = false := beq_eq_false_iff_ne.mpr c59
        have c59b1 : ((wrap64 ((t296.size : Int) + 1)) != 0) = true := bne_iff_ne.mpr c59
        obtain ⟨ji60, hji60⟩ : ∃ j_ : Int, ((l1.length : Int) % (wrap64 ((t296.size : Int) + 1))) = j_ := ⟨_, rfl⟩
        replace H : (if 0 ≤ (ji60) then (if (ji60) ≤ (t296.size : Int) then ((impl_PipeFeed.f kj8 t294 t295 (t296.extract 0 ((ji60) : Int).toNat)).bind fun bt317 => ((impl_PipeFeed.f kj8 bt317.1 bt317.2.1 (t296.extract ((ji60) : Int).toNat t296.size)).bind fun bt323 => ((some (([] : List (List ByteArray)) : List (List ByteArray))).bind fun y329 => (if y329.length + bt317.2.2.length < 5864062014805 then ((some (y329 ++ bt317.2.2 : List (List ByteArray))).bind fun y332 => (if y332.length + bt323.2.2.length < 5864062014805 then ((some (y332 ++ bt323.2.2 : List (List ByteArray))).bind fun y335 => (if (y335.length : Int) = (t300.length : Int) then (laws_FnPipe.l0 kj8 t300 t306 y335 0 t298 t299 bt323.1 bt323.2.1) else (none))) else (none))) else (none))))) else (none)) else (none)) = some r := by first | (rw [hji60] at H; exact H) | (simp only [hji60] at H ⊢; exact H)
        by_cases c61 : 0 ≤ (ji60)
        ·rw [if_pos c61] at H
         have c61b0 := eq_true c61
         have c61b1 : decide (0 ≤ (ji60)) = true := decide_eq_true c61
         clear c61
         by_cases c62 : (ji60) ≤ (t296.size : Int)
         ·rw [if_pos c62] at H
          have c62b0 := eq_true c62
          have c62b1 : decide ((ji60) ≤ (t296.size : Int)) = true := decide_eq_true c62
          clear c62
          replace H := Option.bind_eq_some_iff.mp H
          obtain ⟨⟨t317, t318, t319⟩, A630, H⟩ := H
          replace H : ((impl_PipeFeed.f kj8 t317 t318 (t296.extract ((ji60) : Int).toNat t296.size)).bind fun bt323 => ((some (([] : List (List ByteArray)) : List (List ByteArray))).bind fun y329 => (if y329.length + t319.length < 5864062014805 then ((some (y329 ++ t319 : List (List ByteArray))).bind fun y332 => (if y332.length + bt323.2.2.length < 5864062014805 then ((some (y332 ++ bt323.2.2 : List (List ByteArray))).bind fun y335 => (if (y335.length : Int) = (t300.length : Int) then (laws_FnPipe.l0 kj8 t300 t306 y335 0 t298 t299 bt323.1 bt323.2.1) else (none))) else (none))) else (none)))) = some r := H
          have A63 := AM A630
          clear A630
          have c64b0 := eq_true (of_decide_eq_true (by first | (with_reducible assumption) | assumption) : 0 ≤ (ji60))
          have c65b0 := eq_true (of_decide_eq_true (by first | (with_reducible assumption) | assumption) : (ji60) ≤ (t296.size : Int))
          replace H := Option.bind_eq_some_iff.mp H
          obtain ⟨⟨t323, t324, t325⟩, A660, H⟩ := H
          replace H : ((some (([] : List (List ByteArray)) : List (List ByteArray))).bind fun y329 => (if y329.length + t319.length < 5864062014805 then ((some (y329 ++ t319 : List (List ByteArray))).bind fun y332 => (if y332.length + t325.length < 5864062014805 then ((some (y332 ++ t325 : List (List ByteArray))).bind fun y335 => (if (y335.length : Int) = (t300.length : Int) then (laws_FnPipe.l0 kj8 t300 t306 y335 0 t298 t299 t323 t324) else (none))) else (none))) else (none))) = some r := H
          have A66 := AM A660
          clear A660
          obtain ⟨y329, hy329⟩ : ∃ y_ : List (List ByteArray), y_ = (([] : List (List ByteArray))) := ⟨_, rfl⟩
          replace H : (if y329.length + t319.length < 5864062014805 then ((some (y329 ++ t319 : List (List ByteArray))).bind fun y332 => (if y332.length + t325.length < 5864062014805 then ((some (y332 ++ t325 : List (List ByteArray))).bind fun y335 => (if (y335.length : Int) = (t300.length : Int) then (laws_FnPipe.l0 kj8 t300 t306 y335 0 t298 t299 t323 t324) else (none))) else (none))) else (none)) = some r := by first | (rw [hy329]; with_reducible exact H) | (have H2_ := (Option.bind_some _ _).symm.trans H; rw [hy329]; with_reducible exact H2_) | (have H2_ := (Option.bind_some _ _).symm.trans H; with_reducible exact H2_) | with_reducible exact H | (rw [hy329]; exact H) | exact H
          have Ny329 := AM hy329
          clear hy329
          by_cases c67 : y329.length + t319.length < 5864062014805
          ·rw [if_pos c67] at H
           have LMc67 := AM c67
           clear c67
           obtain ⟨y332, hy332⟩ : ∃ y_ : List (List ByteArray), y_ = (y329 ++ t319) := ⟨_, rfl⟩
           replace H : (if y332.length + t325.length < 5864062014805 then ((some (y332 ++ t325 : List (List ByteArray))).bind fun y335 => (if (y335.length : Int) = (t300.length : Int) then (laws_FnPipe.l0 kj8 t300 t306 y335 0 t298 t299 t323 t324) else (none))) else (none)) = some r := by first | (rw [hy332]; with_reducible exact H) | (have H2_ := (Option.bind_some _ _).symm.trans H; rw [hy332]; with_reducible exact H2_) | (have H2_ := (Option.bind_some _ _).symm.trans H; with_reducible exact H2_) | with_reducible exact H | (rw [hy332]; exact H) | exact H
           have Ny332 := AM hy332
           clear hy332
           by_cases c68 : y332.length + t325.length < 5864062014805
           ·rw [if_pos c68] at H
            have LMc68 := AM c68
            clear c68
            obtain ⟨y335, hy335⟩ : ∃ y_ : List (List ByteArray), y_ = (y332 ++ t325) := ⟨_, rfl⟩
            replace H : (if (y335.length : Int) = (t300.length : Int) then (laws_FnPipe.l0 kj8 t300 t306 y335 0 t298 t299 t323 t324) else (none)) = some r := by first | (rw [hy335]; with_reducible exact H) | (have H2_ := (Option.bind_some _ _).symm.trans H; rw [hy335]; with_reducible exact H2_) | (have H2_ := (Option.bind_some _ _).symm.trans H; with_reducible exact H2_) | with_reducible exact H | (rw [hy335]; exact H) | exact H
            have Ny335 := AM hy335
            clear hy335
            by_cases c69 : (y335.length : Int) = (t300.length : Int)
            ·rw [if_pos c69] at H
             have c69b0 : ((y335.length : Int) == (t300.length : Int)) = true := beq_iff_eq.mpr c69
             have c69b1 : ((y335.length : Int) != (t300.length : Int)) = false := bne_eq_false_iff_eq.mpr c69
             have c69b2 : (y335.length == t300.length) = true := by first | simpa using c69 | (simp at c69 ⊢; omega)
             clear c69
             have H' := AM H
             clear H
             try go_wp2
             have n0_ := AM (nE HO_8.out)
             have n1_ := AM (nE HO_10.out)
             have n2_ := AM (kE BK297.out)
             have n3_ := AM (kE BK303.out)
             have n4_ := AM (kE BK309.out)
             have n5_ := AM (bE HB.out)
             clear HO_8
             clear HO_10
             clear BK297
             clear BK303
             clear BK309
             clear HB
             have HO_8 := n0_
             have HO_10 := n1_
             have BK297 := n2_
             have BK303 := n3_
             have BK309 := n4_
             have HB := n5_
             clear n0_ n1_ n2_ n3_ n4_ n5_
             refine start_ (n := 11) (S := fun w' => w'.cell? ⟨gb297, 0, none⟩ = some (.string t294) ∧ w'.cell? ⟨gb297, 1, none⟩ = some (.bool t295)) (ds := []) #[false, false, false, false, false, false, false, false, false, false, false] (by kernel_rfl) rfl rfl ⟨(kC BK297.out 0).trans rfl, (kC BK297.out 1).trans rfl⟩ (fun hHeld => ?_); refine with_tabW laws_FnPipe.tab9 laws_FnPipe.bits9 (fun HT_ HW_ => ?_)
             generalize wc.drew = w70 at HO_8 HO_10 BK297 BK303 BK309 HB hHeld ⊢
             refine pure_ (i := 1) (N := some 96) (v := ?_) (a' := ?_) #[false, true, false, false, false, false, false, false, false, false, false] rfl rfl (any_of HT_.out (by kernel_rfl)) (fun _ _ _ h => h) (Or.inl ⟨by rfl, ?_⟩) ?_ ?_
             rotate_left
             ·intro w'
              go_simp
              with_reducible rfl
             rotate_left
             ·simp only [Act.put, lA, lZ, lS, i64_w, i32_w]
              rfl
             refine pure_ (i := 2) (N := some 97) (v := ?_) (a' := ?_) #[false, true, true, false, false, false, false, false, false, false, false] rfl rfl (any_of HT_.out (by kernel_rfl)) (fun _ _ _ h => h) (Or.inl ⟨by rfl, ?_⟩) ?_ ?_
             rotate_left
             ·intro w'
              go_simp
              with_reducible rfl
             rotate_left
             ·simp only [Act.put, lA, lZ, lS, i64_w, i32_w]
              rfl
             refine pure_ (i := 3) (N := some 98) (v := ?_) (a' := ?_) #[false, true, true, true, false, false, false, false, false, false, false] rfl rfl (any_of HT_.out (by kernel_rfl)) (fun _ _ _ h => h) (Or.inl ⟨by rfl, ?_⟩) ?_ ?_
             rotate_left
             ·intro w'
              go_simp
              with_reducible rfl
             rotate_left
             ·simp only [Act.put, lA, lZ, lS, i64_w, i32_w]
              rfl
             refine take_ (i := 0) (N := some 95) (v := ?_) (a' := ?_) #[true, true, true, true, false, false, false, false, false, false, false] rfl rfl (take_ofW HT_.out HW_.out (by kernel_rfl)) (fun _ _ _ h => h) (Or.inl ⟨by rfl, ?_⟩) hHeld ?_ ?_
             rotate_left
             ·rintro w' ⟨s0, s1⟩
              go_simp
              with_reducible rfl
             rotate_left
             ·simp only [Act.put, lA, lZ, lS, i64_w, i32_w]
              rfl
             refine join_ (σ := Value × Nat) 2 #[true, true, true, true, true, true, true, true, true, false, false] (fun s_ => [(99, .tuple #[.agg #[.string t317, .bool t318], s_.1]), (12, .pointer (some ⟨s_.2, 0, none⟩)), (94, .tuple #[.agg #[.string t317, .bool t318], s_.1]), (100, .agg #[.string t317, .bool t318]), (101, s_.1)]) (fun s_ w' => (w'.cell? ⟨gb297, 0, none⟩ = some (.string t294) ∧ w'.cell? ⟨gb297, 1, none⟩ = some (.bool t295)) ∧ (Kd.N (Kd.slice 9 Kd.string) 30 w' w.heap.size (fun k_ => some k_ ≠ (v307 : Value).ownBlock ∧ some k_ ≠ (v301 : Value).ownBlock ∧ k_ ≠ gb297 ∧ k_ ≠ gb303 ∧ k_ ≠ gb309 ∧ k_ ≠ s_.2) s_.1 t319) ∧ (Kd.N (Kd.slice 9 Kd.string) 30 w' w.heap.size (fun k_ => some k_ ≠ (s_.1 : Value).ownBlock ∧ some k_ ≠ (v301 : Value).ownBlock ∧ k_ ≠ gb297 ∧ k_ ≠ gb303 ∧ k_ ≠ gb309 ∧ k_ ≠ s_.2) v307 t306) ∧ (Kd.N (Kd.slice 9 Kd.string) 30 w' w.heap.size (fun k_ => some k_ ≠ (s_.1 : Value).ownBlock ∧ some k_ ≠ (v307 : Value).ownBlock ∧ k_ ≠ gb297 ∧ k_ ≠ gb303 ∧ k_ ≠ gb309 ∧ k_ ≠ s_.2) v301 t300) ∧ (w'.heap[gb297]? = some (.cells #[.string t294, .bool t295] 34 (0, 0))) ∧ (w'.heap[gb303]? = some (.cells #[.string t298, .bool t299] 34 (0, 0))) ∧ (w'.heap[gb309]? = some (.cells #[.string t304, .bool t305] 34 (0, 0))) ∧ (w'.heap[s_.2]? = some (.cells #[.string (⟨#[]⟩ : ByteArray), .bool false] 34 (0, 0))) ∧ (w.heap.size ≤ s_.2) ∧ (w.heap.size ≤ s_.2) ∧ (gb297 ≠ s_.2) ∧ (s_.2 ≠ gb297) ∧ (gb303 ≠ s_.2) ∧ (s_.2 ≠ gb303) ∧ (gb309 ≠ s_.2) ∧ (s_.2 ≠ gb309) ∧ (Below w.heap.size w w')) ?_ ?_
             rotate_left
             ·intro hCont
              refine two_ (i := 4) (j := 8) (Ni := some 99) (Nj := some 12) #[true, true, true, true, true, false, false, false, false, false, false] #[true, true, true, true, false, false, false, false, true, false, false] rfl rfl rfl rfl (two_of HT_.out (by kernel_rfl)) (by decide) (by decide) (fun K hK => ?_) (fun K hK => ?_)
              ·skip
               refine goes_ Tryd.func19 (by kernel_rfl) rfl #[.agg #[.string t294, .bool t295], .string (t296.extract 0 ((ji60) : Int).toNat)] (by rfl) rfl rfl (by (try simp only [List.map_toArray, List.map_cons, List.map_nil]); first | done | (simp only [hji60]; rfl) | rfl | (simp only [List.length_drop, List.length_take]; rfl)) ?_
               with_reducible refine (impl_PipeFeed.calls kj8 t294 t295 (t296.extract 0 ((ji60) : Int).toNat) t317 t318 t319 _ A63.out).mono ?_
               rintro e w71 ⟨v320, rfl, ho0, hb⟩
               refine ⟨_, rfl, ?_⟩
               have n0_ := AM (Kd.N_elder' (by (with_reducible repeat (first | apply nA | apply nD | apply nE)); exact HO_8.out) (Kd.S_base ho0) hb)
               have n1_ := AM (Kd.N_elder' (by (with_reducible repeat (first | apply nA | apply nD | apply nE)); exact HO_10.out) (Kd.S_base ho0) hb)
               have n2_ := AM (Kd.N_lower (nM (ok' := fun k_ => some k_ ≠ (v301 : Value).ownBlock ∧ some k_ ≠ (v307 : Value).ownBlock ∧ k_ ≠ gb297 ∧ k_ ≠ gb303 ∧ k_ ≠ gb309) (Kd.S_N (Kd.S_bound ho0)) (fun k_ hk_ => ⟨(Kd.fresh' (Kd.N_lt (by (with_reducible repeat (first | apply nA | apply nD | apply nE)); exact HO_8.out)) k_ hk_.2.1), (Kd.fresh' (Kd.N_lt (by (with_reducible repeat (first | apply nA | apply nD | apply nE)); exact HO_10.out)) k_ hk_.2.1), (Kd.freshB (g := gb297) (o := .cells #[.string t294, .bool t295] 34 (0, 0)) (by (with_reducible repeat (first | refine kD ?_ _ | refine kE ?_ | refine kA ?_ _)); exact BK297.out) k_ hk_.2.1), (Kd.freshB (g := gb303) (o := .cells #[.string t298, .bool t299] 34 (0, 0)) (by (with_reducible repeat (first | refine kD ?_ _ | refine kE ?_ | refine kA ?_ _)); exact BK303.out) k_ hk_.2.1), (Kd.freshB (g := gb309) (o := .cells #[.string t304, .bool t305] 34 (0, 0)) (by (with_reducible repeat (first | refine kD ?_ _ | refine kE ?_ | refine kA ?_ _)); exact BK309.out) k_ hk_.2.1)⟩)) (bZ (by repeat (first | (with_reducible first | exact HB.out | apply bA | apply bD | apply bE | refine below_set ?_ GE297.out | refine below_set ?_ GE303.out | refine below_set ?_ GE309.out) | exact HB.out))))
               have n3_ := AM (kB (g := gb297) (o := .cells #[.string t294, .bool t295] 34 (0, 0)) (by (with_reducible repeat (first | refine kD ?_ _ | refine kE ?_ | refine kA ?_ _)); exact BK297.out) hb)
               have n4_ := AM (kB (g := gb303) (o := .cells #[.string t298, .bool t299] 34 (0, 0)) (by (with_reducible repeat (first | refine kD ?_ _ | refine kE ?_ | refine kA ?_ _)); exact BK303.out) hb)
               have n5_ := AM (kB (g := gb309) (o := .cells #[.string t304, .bool t305] 34 (0, 0)) (by (with_reducible repeat (first | refine kD ?_ _ | refine kE ?_ | refine kA ?_ _)); exact BK309.out) hb)
               have n6_ := AM (bS (by repeat (first | (with_reducible first | exact HB.out | apply bA | apply bD | apply bE | refine below_set ?_ GE297.out | refine below_set ?_ GE303.out | refine below_set ?_ GE309.out) | exact HB.out)) hb)
               clear HO_8
               clear HO_10
               clear BK297
               clear BK303
               clear BK309
               clear HB
               have HO_8 := n0_
               have HO_10 := n1_
               have HO321 := n2_
               have BK297 := n3_
               have BK303 := n4_
               have BK309 := n5_
               have HB := n6_
               clear n0_ n1_ n2_ n3_ n4_ n5_ n6_
               (try clear hb)
               (try clear hb2)
               (try clear hk)
               (try clear hi)
               (try clear ho0)
               refine hK.out _ _ ⟨(kC BK297.out 0).trans rfl, (kC BK297.out 1).trans rfl⟩ (fun hHeld => ?_)
               clear hK K
               refine norm_ (a' := ?_) ?_ ?_
               rotate_left
               ·show Act.put _ (some 99) _ = _
                simp only [Act.put, lA, lZ, lS, i64_w, i32_w]
                rfl
               refine pure_ (i := 5) (N := some 94) (v := ?_) (a' := ?_) #[true, true, true, true, true, true, false, false, false, false, false] rfl rfl (any_of HT_.out (by kernel_rfl)) (fun _ _ _ h => h) (Or.inl ⟨by rfl, ?_⟩) ?_ ?_
               rotate_left
               ·intro w'
                go_simp
                with_reducible rfl
               rotate_left
               ·simp only [Act.put, lA, lZ, lS, i64_w, i32_w]
                rfl
               refine pure_ (i := 6) (N := some 100) (v := ?_) (a' := ?_) #[true, true, true, true, true, true, true, false, false, false, false] rfl rfl (any_of HT_.out (by kernel_rfl)) (fun _ _ _ h => h) (Or.inl ⟨by rfl, ?_⟩) ?_ ?_
               rotate_left
               ·intro w'
                go_simp
                with_reducible rfl
               rotate_left
               ·simp only [Act.put, lA, lZ, lS, i64_w, i32_w]
                rfl
               refine pure_ (i := 7) (N := some 101) (v := ?_) (a' := ?_) #[true, true, true, true, true, true, true, true, false, false, false] rfl rfl (any_of HT_.out (by kernel_rfl)) (fun _ _ _ h => h) (Or.inl ⟨by rfl, ?_⟩) ?_ ?_
               rotate_left
               ·intro w'
                go_simp
                with_reducible rfl
               rotate_left
               ·simp only [Act.put, lA, lZ, lS, i64_w, i32_w]
                rfl
               refine one_ (i := 8) (N := some 12) #[true, true, true, true, true, true, true, true, true, false, false] rfl rfl (one_of HT_.out (by kernel_rfl)) (by decide) (fun K hK => ?_)
               refine box_step ?hg (N := 12) ?hd (cs := #[.string (⟨#[]⟩ : ByteArray), .bool false]) (t := 34) ?hr ?_; (case hd => rfl); (case hg => rfl); (case hr => first | (go_simp; done) | (go_simp; rfl))
               intro gb322 hg w72 hbox hb
               have n0_ := AM (nB (Kd.N_elderB (by (with_reducible repeat (first | apply nA | apply nD | apply nE)); exact HO_8.out) gb322 (Nat.le_of_eq hg.symm)) hb)
               have n1_ := AM (nB (Kd.N_elderB (by (with_reducible repeat (first | apply nA | apply nD | apply nE)); exact HO_10.out) gb322 (Nat.le_of_eq hg.symm)) hb)
               have n2_ := AM (nB (Kd.N_elderB (by (with_reducible repeat (first | apply nA | apply nD | apply nE)); exact HO321.out) gb322 (Nat.le_of_eq hg.symm)) hb)
               have n3_ := AM (kB (g := gb297) (o := .cells #[.string t294, .bool t295] 34 (0, 0)) (by (with_reducible repeat (first | refine kD ?_ _ | refine kE ?_ | refine kA ?_ _)); exact BK297.out) hb)
               have n4_ := AM (kB (g := gb303) (o := .cells #[.string t298, .bool t299] 34 (0, 0)) (by (with_reducible repeat (first | refine kD ?_ _ | refine kE ?_ | refine kA ?_ _)); exact BK303.out) hb)
               have n5_ := AM (kB (g := gb309) (o := .cells #[.string t304, .bool t305] 34 (0, 0)) (by (with_reducible repeat (first | refine kD ?_ _ | refine kE ?_ | refine kA ?_ _)); exact BK309.out) hb)
               have n6_ := AM (bS (by repeat (first | (with_reducible first | exact HB.out | apply bA | apply bD | apply bE | refine below_set ?_ GE297.out | refine below_set ?_ GE303.out | refine below_set ?_ GE309.out) | exact HB.out)) hb)
               have n7_ := AM (hbox)
               have n8_ := AM ((by rw [hg]; exact (bZ (by repeat (first | (with_reducible first | exact HB.out | apply bA | apply bD | apply bE | refine below_set ?_ GE297.out | refine below_set ?_ GE303.out | refine below_set ?_ GE309.out) | exact HB.out))) : w.heap.size ≤ gb322))
               have n9_ := AM ((by rw [hg]; exact (bZ (by repeat (first | (with_reducible first | exact HB.out | apply bA | apply bD | apply bE | refine below_set ?_ GE297.out | refine below_set ?_ GE303.out | refine below_set ?_ GE309.out) | exact HB.out))) : w.heap.size ≤ gb322))
               have n10_ := AM ((by rw [hg]; exact Nat.ne_of_lt (blk_lt (g := gb297) (o := .cells #[.string t294, .bool t295] 34 (0, 0)) (by (with_reducible repeat (first | refine kD ?_ _ | refine kE ?_ | refine kA ?_ _)); exact BK297.out)) : gb297 ≠ gb322))
               have n11_ := AM ((by rw [hg]; exact Nat.ne_of_gt (blk_lt (g := gb297) (o := .cells #[.string t294, .bool t295] 34 (0, 0)) (by (with_reducible repeat (first | refine kD ?_ _ | refine kE ?_ | refine kA ?_ _)); exact BK297.out)) : gb322 ≠ gb297))
               have n12_ := AM ((by rw [hg]; exact Nat.ne_of_lt (blk_lt (g := gb303) (o := .cells #[.string t298, .bool t299] 34 (0, 0)) (by (with_reducible repeat (first | refine kD ?_ _ | refine kE ?_ | refine kA ?_ _)); exact BK303.out)) : gb303 ≠ gb322))
               have n13_ := AM ((by rw [hg]; exact Nat.ne_of_gt (blk_lt (g := gb303) (o := .cells #[.string t298, .bool t299] 34 (0, 0)) (by (with_reducible repeat (first | refine kD ?_ _ | refine kE ?_ | refine kA ?_ _)); exact BK303.out)) : gb322 ≠ gb303))
               have n14_ := AM ((by rw [hg]; exact Nat.ne_of_lt (blk_lt (g := gb309) (o := .cells #[.string t304, .bool t305] 34 (0, 0)) (by (with_reducible repeat (first | refine kD ?_ _ | refine kE ?_ | refine kA ?_ _)); exact BK309.out)) : gb309 ≠ gb322))
               have n15_ := AM ((by rw [hg]; exact Nat.ne_of_gt (blk_lt (g := gb309) (o := .cells #[.string t304, .bool t305] 34 (0, 0)) (by (with_reducible repeat (first | refine kD ?_ _ | refine kE ?_ | refine kA ?_ _)); exact BK309.out)) : gb322 ≠ gb309))
               clear HO_8
               clear HO_10
               clear HO321
               clear BK297
               clear BK303
               clear BK309
               clear HB
               have HO_8 := n0_
               have HO_10 := n1_
               have HO321 := n2_
               have BK297 := n3_
               have BK303 := n4_
               have BK309 := n5_
               have HB := n6_
               have BK322 := n7_
               have GW322 := n8_
               have GE322 := n9_
               have NB297_322 := n10_
               have NB322_297 := n11_
               have NB303_322 := n12_
               have NB322_303 := n13_
               have NB309_322 := n14_
               have NB322_309 := n15_
               clear n0_ n1_ n2_ n3_ n4_ n5_ n6_ n7_ n8_ n9_ n10_ n11_ n12_ n13_ n14_ n15_
               clear hb hbox hg
               refine hK.out _ _ ⟨(kC BK297.out 0).trans rfl, (kC BK297.out 1).trans rfl⟩ (fun hHeld => ?_)
               clear hK K
               refine norm_ (a' := ?_) ?_ ?_
               rotate_left
               ·show Act.put _ (some 12) _ = _
                simp only [Act.put, lA, lZ, lS, i64_w, i32_w]
                rfl
               exact norm_ (by simp only [putAll, Act.put, lA, lZ, lS]) (hCont (v320, gb322) _ ⟨hHeld, (by (with_reducible repeat (first | apply nA | apply nD | apply nE)); exact nM HO321.out (fun _ hk => ⟨hk.1.2.1, ⟨hk.1.1, ⟨hk.1.2.2.1, ⟨hk.1.2.2.2.1, ⟨hk.1.2.2.2.2, hk.2⟩⟩⟩⟩⟩)), (by (with_reducible repeat (first | apply nA | apply nD | apply nE)); exact nM HO_10.out (fun _ hk => ⟨hk.1.2, ⟨hk.1.1.1, ⟨hk.1.1.2.1, ⟨hk.1.1.2.2.1, ⟨hk.1.1.2.2.2, hk.2⟩⟩⟩⟩⟩)), (by (with_reducible repeat (first | apply nA | apply nD | apply nE)); exact nM HO_8.out (fun _ hk => ⟨hk.1.2, ⟨hk.1.1.1, ⟨hk.1.1.2.1, ⟨hk.1.1.2.2.1, ⟨hk.1.1.2.2.2, hk.2⟩⟩⟩⟩⟩)), (by (with_reducible repeat (first | refine kD ?_ _ | refine kE ?_ | refine kA ?_ _)); exact BK297.out), (by (with_reducible repeat (first | refine kD ?_ _ | refine kE ?_ | refine kA ?_ _)); exact BK303.out), (by (with_reducible repeat (first | refine kD ?_ _ | refine kE ?_ | refine kA ?_ _)); exact BK309.out), (by (with_reducible repeat (first | refine kD ?_ _ | refine kE ?_ | refine kA ?_ _)); exact BK322.out), GW322.out, GE322.out, NB297_322.out, NB322_297.out, NB303_322.out, NB322_303.out, NB309_322.out, NB322_309.out, (by repeat (first | (with_reducible first | exact HB.out | apply bA | apply bD | apply bE | refine below_set ?_ GE297.out | refine below_set ?_ GE303.out | refine below_set ?_ GE309.out | refine below_set ?_ GE322.out) | exact HB.out))⟩)
              ·skip
               refine box_step ?hg (N := 12) ?hd (cs := #[.string (⟨#[]⟩ : ByteArray), .bool false]) (t := 34) ?hr ?_; (case hd => rfl); (case hg => rfl); (case hr => first | (go_simp; done) | (go_simp; rfl))
               intro gb322 hg w71 hbox hb
               have n0_ := AM (nB (Kd.N_elderB (by (with_reducible repeat (first | apply nA | apply nD | apply nE)); exact HO_8.out) gb322 (Nat.le_of_eq hg.symm)) hb)
               have n1_ := AM (nB (Kd.N_elderB (by (with_reducible repeat (first | apply nA | apply nD | apply nE)); exact HO_10.out) gb322 (Nat.le_of_eq hg.symm)) hb)
               have n2_ := AM (kB (g := gb297) (o := .cells #[.string t294, .bool t295] 34 (0, 0)) (by (with_reducible repeat (first | refine kD ?_ _ | refine kE ?_ | refine kA ?_ _)); exact BK297.out) hb)
               have n3_ := AM (kB (g := gb303) (o := .cells #[.string t298, .bool t299] 34 (0, 0)) (by (with_reducible repeat (first | refine kD ?_ _ | refine kE ?_ | refine kA ?_ _)); exact BK303.out) hb)
               have n4_ := AM (kB (g := gb309) (o := .cells #[.string t304, .bool t305] 34 (0, 0)) (by (with_reducible repeat (first | refine kD ?_ _ | refine kE ?_ | refine kA ?_ _)); exact BK309.out) hb)
               have n5_ := AM (bS (by repeat (first | (with_reducible first | exact HB.out | apply bA | apply bD | apply bE | refine below_set ?_ GE297.out | refine below_set ?_ GE303.out | refine below_set ?_ GE309.out) | exact HB.out)) hb)
               have n6_ := AM (hbox)
               have n7_ := AM ((by rw [hg]; exact (bZ (by repeat (first | (with_reducible first | exact HB.out | apply bA | apply bD | apply bE | refine below_set ?_ GE297.out | refine below_set ?_ GE303.out | refine below_set ?_ GE309.out) | exact HB.out))) : w.heap.size ≤ gb322))
               have n8_ := AM ((by rw [hg]; exact (bZ (by repeat (first | (with_reducible first | exact HB.out | apply bA | apply bD | apply bE | refine below_set ?_ GE297.out | refine below_set ?_ GE303.out | refine below_set ?_ GE309.out) | exact HB.out))) : w.heap.size ≤ gb322))
               have n9_ := AM ((by rw [hg]; exact Nat.ne_of_lt (blk_lt (g := gb297) (o := .cells #[.string t294, .bool t295] 34 (0, 0)) (by (with_reducible repeat (first | refine kD ?_ _ | refine kE ?_ | refine kA ?_ _)); exact BK297.out)) : gb297 ≠ gb322))
               have n10_ := AM ((by rw [hg]; exact Nat.ne_of_gt (blk_lt (g := gb297) (o := .cells #[.string t294, .bool t295] 34 (0, 0)) (by (with_reducible repeat (first | refine kD ?_ _ | refine kE ?_ | refine kA ?_ _)); exact BK297.out)) : gb322 ≠ gb297))
               have n11_ := AM ((by rw [hg]; exact Nat.ne_of_lt (blk_lt (g := gb303) (o := .cells #[.string t298, .bool t299] 34 (0, 0)) (by (with_reducible repeat (first | refine kD ?_ _ | refine kE ?_ | refine kA ?_ _)); exact BK303.out)) : gb303 ≠ gb322))
               have n12_ := AM ((by rw [hg]; exact Nat.ne_of_gt (blk_lt (g := gb303) (o := .cells #[.string t298, .bool t299] 34 (0, 0)) (by (with_reducible repeat (first | refine kD ?_ _ | refine kE ?_ | refine kA ?_ _)); exact BK303.out)) : gb322 ≠ gb303))
               have n13_ := AM ((by rw [hg]; exact Nat.ne_of_lt (blk_lt (g := gb309) (o := .cells #[.string t304, .bool t305] 34 (0, 0)) (by (with_reducible repeat (first | refine kD ?_ _ | refine kE ?_ | refine kA ?_ _)); exact BK309.out)) : gb309 ≠ gb322))
               have n14_ := AM ((by rw [hg]; exact Nat.ne_of_gt (blk_lt (g := gb309) (o := .cells #[.string t304, .bool t305] 34 (0, 0)) (by (with_reducible repeat (first | refine kD ?_ _ | refine kE ?_ | refine kA ?_ _)); exact BK309.out)) : gb322 ≠ gb309))
               clear HO_8
               clear HO_10
               clear BK297
               clear BK303
               clear BK309
               clear HB
               have HO_8 := n0_
               have HO_10 := n1_
               have BK297 := n2_
               have BK303 := n3_
               have BK309 := n4_
               have HB := n5_
               have BK322 := n6_
               have GW322 := n7_
               have GE322 := n8_
               have NB297_322 := n9_
               have NB322_297 := n10_
               have NB303_322 := n11_
               have NB322_303 := n12_
               have NB309_322 := n13_
               have NB322_309 := n14_
               clear n0_ n1_ n2_ n3_ n4_ n5_ n6_ n7_ n8_ n9_ n10_ n11_ n12_ n13_ n14_
               clear hb hbox hg
               refine hK.out _ _ ⟨(kC BK297.out 0).trans rfl, (kC BK297.out 1).trans rfl⟩ (fun hHeld => ?_)
               clear hK K
               refine norm_ (a' := ?_) ?_ ?_
               rotate_left
               ·show Act.put _ (some 12) _ = _
                simp only [Act.put, lA, lZ, lS, i64_w, i32_w]
                rfl
               refine one_ (i := 4) (N := some 99) #[true, true, true, true, true, false, false, false, true, false, false] rfl rfl (one_of HT_.out (by kernel_rfl)) (by decide) (fun K hK => ?_)
               refine goes_ Tryd.func19 (by kernel_rfl) rfl #[.agg #[.string t294, .bool t295], .string (t296.extract 0 ((ji60) : Int).toNat)] (by rfl) rfl rfl (by (try simp only [List.map_toArray, List.map_cons, List.map_nil]); first | done | (simp only [hji60]; rfl) | rfl | (simp only [List.length_drop, List.length_take]; rfl)) ?_
               with_reducible refine (impl_PipeFeed.calls kj8 t294 t295 (t296.extract 0 ((ji60) : Int).toNat) t317 t318 t319 _ A63.out).mono ?_
               rintro e w72 ⟨v320, rfl, ho0, hb⟩
               refine ⟨_, rfl, ?_⟩
               have n0_ := AM (Kd.N_elder' (by (with_reducible repeat (first | apply nA | apply nD | apply nE)); exact HO_8.out) (Kd.S_base ho0) hb)
               have n1_ := AM (Kd.N_elder' (by (with_reducible repeat (first | apply nA | apply nD | apply nE)); exact HO_10.out) (Kd.S_base ho0) hb)
               have n2_ := AM (Kd.N_lower (nM (ok' := fun k_ => some k_ ≠ (v301 : Value).ownBlock ∧ some k_ ≠ (v307 : Value).ownBlock ∧ k_ ≠ gb297 ∧ k_ ≠ gb303 ∧ k_ ≠ gb309 ∧ k_ ≠ gb322) (Kd.S_N (Kd.S_bound ho0)) (fun k_ hk_ => ⟨(Kd.fresh' (Kd.N_lt (by (with_reducible repeat (first | apply nA | apply nD | apply nE)); exact HO_8.out)) k_ hk_.2.1), (Kd.fresh' (Kd.N_lt (by (with_reducible repeat (first | apply nA | apply nD | apply nE)); exact HO_10.out)) k_ hk_.2.1), (Kd.freshB (g := gb297) (o := .cells #[.string t294, .bool t295] 34 (0, 0)) (by (with_reducible repeat (first | refine kD ?_ _ | refine kE ?_ | refine kA ?_ _)); exact BK297.out) k_ hk_.2.1), (Kd.freshB (g := gb303) (o := .cells #[.string t298, .bool t299] 34 (0, 0)) (by (with_reducible repeat (first | refine kD ?_ _ | refine kE ?_ | refine kA ?_ _)); exact BK303.out) k_ hk_.2.1), (Kd.freshB (g := gb309) (o := .cells #[.string t304, .bool t305] 34 (0, 0)) (by (with_reducible repeat (first | refine kD ?_ _ | refine kE ?_ | refine kA ?_ _)); exact BK309.out) k_ hk_.2.1), (Kd.freshB (g := gb322) (o := .cells #[.string (⟨#[]⟩ : ByteArray), .bool false] 34 (0, 0)) (by (with_reducible repeat (first | refine kD ?_ _ | refine kE ?_ | refine kA ?_ _)); exact BK322.out) k_ hk_.2.1)⟩)) (bZ (by repeat (first | (with_reducible first | exact HB.out | apply bA | apply bD | apply bE | refine below_set ?_ GE297.out | refine below_set ?_ GE303.out | refine below_set ?_ GE309.out | refine below_set ?_ GE322.out) | exact HB.out))))
               have n3_ := AM (kB (g := gb297) (o := .cells #[.string t294, .bool t295] 34 (0, 0)) (by (with_reducible repeat (first | refine kD ?_ _ | refine kE ?_ | refine kA ?_ _)); exact BK297.out) hb)
               have n4_ := AM (kB (g := gb303) (o := .cells #[.string t298, .bool t299] 34 (0, 0)) (by (with_reducible repeat (first | refine kD ?_ _ | refine kE ?_ | refine kA ?_ _)); exact BK303.out) hb)
               have n5_ := AM (kB (g := gb309) (o := .cells #[.string t304, .bool t305] 34 (0, 0)) (by (with_reducible repeat (first | refine kD ?_ _ | refine kE ?_ | refine kA ?_ _)); exact BK309.out) hb)
               have n6_ := AM (kB (g := gb322) (o := .cells #[.string (⟨#[]⟩ : ByteArray), .bool false] 34 (0, 0)) (by (with_reducible repeat (first | refine kD ?_ _ | refine kE ?_ | refine kA ?_ _)); exact BK322.out) hb)
               have n7_ := AM (bS (by repeat (first | (with_reducible first | exact HB.out | apply bA | apply bD | apply bE | refine below_set ?_ GE297.out | refine below_set ?_ GE303.out | refine below_set ?_ GE309.out | refine below_set ?_ GE322.out) | exact HB.out)) hb)
               clear HO_8
               clear HO_10
               clear BK297
               clear BK303
               clear BK309
               clear BK322
               clear HB
               have HO_8 := n0_
               have HO_10 := n1_
               have HO321 := n2_
               have BK297 := n3_
               have BK303 := n4_
               have BK309 := n5_
               have BK322 := n6_
               have HB := n7_
               clear n0_ n1_ n2_ n3_ n4_ n5_ n6_ n7_
               (try clear hb)
               (try clear hb2)
               (try clear hk)
               (try clear hi)
               (try clear ho0)
               refine hK.out _ _ ⟨(kC BK297.out 0).trans rfl, (kC BK297.out 1).trans rfl⟩ (fun hHeld => ?_)
               clear hK K
               refine norm_ (a' := ?_) ?_ ?_
               rotate_left
               ·show Act.put _ (some 99) _ = _
                simp only [Act.put, lA, lZ, lS, i64_w, i32_w]
                rfl
               refine pure_ (i := 5) (N := some 94) (v := ?_) (a' := ?_) #[true, true, true, true, true, true, false, false, true, false, false] rfl rfl (any_of HT_.out (by kernel_rfl)) (fun _ _ _ h => h) (Or.inl ⟨by rfl, ?_⟩) ?_ ?_
               rotate_left
               ·intro w'
                go_simp
                with_reducible rfl
               rotate_left
               ·simp only [Act.put, lA, lZ, lS, i64_w, i32_w]
                rfl
               refine pure_ (i := 6) (N := some 100) (v := ?_) (a' := ?_) #[true, true, true, true, true, true, true, false, true, false, false] rfl rfl (any_of HT_.out (by kernel_rfl)) (fun _ _ _ h => h) (Or.inl ⟨by rfl, ?_⟩) ?_ ?_
               rotate_left
               ·intro w'
                go_simp
                with_reducible rfl
               rotate_left
               ·simp only [Act.put, lA, lZ, lS, i64_w, i32_w]
                rfl
               refine pure_ (i := 7) (N := some 101) (v := ?_) (a' := ?_) #[true, true, true, true, true, true, true, true, true, false, false] rfl rfl (any_of HT_.out (by kernel_rfl)) (fun _ _ _ h => h) (Or.inl ⟨by rfl, ?_⟩) ?_ ?_
               rotate_left
               ·intro w'
                go_simp
                with_reducible rfl
               rotate_left
               ·simp only [Act.put, lA, lZ, lS, i64_w, i32_w]
                rfl
               exact norm_ (by simp only [putAll, Act.put, lA, lZ, lS]) (hCont (v320, gb322) _ ⟨hHeld, (by (with_reducible repeat (first | apply nA | apply nD | apply nE)); exact nM HO321.out (fun _ hk => ⟨hk.2.1, ⟨hk.1, ⟨hk.2.2.1, ⟨hk.2.2.2.1, ⟨hk.2.2.2.2.1, hk.2.2.2.2.2⟩⟩⟩⟩⟩)), (by (with_reducible repeat (first | apply nA | apply nD | apply nE)); exact nM HO_10.out (fun _ hk => ⟨hk.2, ⟨hk.1.1.1, ⟨hk.1.1.2.1, ⟨hk.1.1.2.2.1, ⟨hk.1.1.2.2.2, hk.1.2⟩⟩⟩⟩⟩)), (by (with_reducible repeat (first | apply nA | apply nD | apply nE)); exact nM HO_8.out (fun _ hk => ⟨hk.2, ⟨hk.1.1.1, ⟨hk.1.1.2.1, ⟨hk.1.1.2.2.1, ⟨hk.1.1.2.2.2, hk.1.2⟩⟩⟩⟩⟩)), (by (with_reducible repeat (first | refine kD ?_ _ | refine kE ?_ | refine kA ?_ _)); exact BK297.out), (by (with_reducible repeat (first | refine kD ?_ _ | refine kE ?_ | refine kA ?_ _)); exact BK303.out), (by (with_reducible repeat (first | refine kD ?_ _ | refine kE ?_ | refine kA ?_ _)); exact BK309.out), (by (with_reducible repeat (first | refine kD ?_ _ | refine kE ?_ | refine kA ?_ _)); exact BK322.out), GW322.out, GE322.out, NB297_322.out, NB322_297.out, NB303_322.out, NB322_303.out, NB309_322.out, NB322_309.out, (by repeat (first | (with_reducible first | exact HB.out | apply bA | apply bD | apply bE | refine below_set ?_ GE297.out | refine below_set ?_ GE303.out | refine below_set ?_ GE309.out | refine below_set ?_ GE322.out) | exact HB.out))⟩)
             rintro ⟨v320, gb322⟩ w73 ⟨hS_, h0_, h1_, h2_, h3_, h4_, h5_, h6_, h7_, h8_, h9_, h10_, h11_, h12_, h13_, h14_, h15_⟩
             have n0_ : Aside0 (Kd.N (Kd.slice 9 Kd.string) 30 w73 w.heap.size (fun k_ => some k_ ≠ (v307 : Value).ownBlock ∧ some k_ ≠ (v301 : Value).ownBlock ∧ k_ ≠ gb297 ∧ k_ ≠ gb303 ∧ k_ ≠ gb309 ∧ k_ ≠ gb322) v320 t319) := ⟨h0_⟩
             have n1_ : Aside0 (Kd.N (Kd.slice 9 Kd.string) 30 w73 w.heap.size (fun k_ => some k_ ≠ (v320 : Value).ownBlock ∧ some k_ ≠ (v301 : Value).ownBlock ∧ k_ ≠ gb297 ∧ k_ ≠ gb303 ∧ k_ ≠ gb309 ∧ k_ ≠ gb322) v307 t306) := ⟨h1_⟩
             have n2_ : Aside0 (Kd.N (Kd.slice 9 Kd.string) 30 w73 w.heap.size (fun k_ => some k_ ≠ (v320 : Value).ownBlock ∧ some k_ ≠ (v307 : Value).ownBlock ∧ k_ ≠ gb297 ∧ k_ ≠ gb303 ∧ k_ ≠ gb309 ∧ k_ ≠ gb322) v301 t300) := ⟨h2_⟩
             have n3_ : Aside0 (w73.heap[gb297]? = some (.cells #[.string t294, .bool t295] 34 (0, 0))) := ⟨h3_⟩
             have n4_ : Aside0 (w73.heap[gb303]? = some (.cells #[.string t298, .bool t299] 34 (0, 0))) := ⟨h4_⟩
             have n5_ : Aside0 (w73.heap[gb309]? = some (.cells #[.string t304, .bool t305] 34 (0, 0))) := ⟨h5_⟩
             have n6_ : Aside0 (w73.heap[gb322]? = some (.cells #[.string (⟨#[]⟩ : ByteArray), .bool false] 34 (0, 0))) := ⟨h6_⟩
             have n7_ : Aside0 (w.heap.size ≤ gb322) := ⟨h7_⟩
             have n8_ : Aside0 (w.heap.size ≤ gb322) := ⟨h8_⟩
             have n9_ : Aside0 (gb297 ≠ gb322) := ⟨h9_⟩
             have n10_ : Aside0 (gb322 ≠ gb297) := ⟨h10_⟩
             have n11_ : Aside0 (gb303 ≠ gb322) := ⟨h11_⟩
             have n12_ : Aside0 (gb322 ≠ gb303) := ⟨h12_⟩
             have n13_ : Aside0 (gb309 ≠ gb322) := ⟨h13_⟩
             have n14_ : Aside0 (gb322 ≠ gb309) := ⟨h14_⟩
             have n15_ : Aside0 (Below w.heap.size w w73) := ⟨h15_⟩
             clear HO_8
             clear HO_10
             clear BK297
             clear BK303
             clear BK309
             clear HB
             clear h0_ h1_ h2_ h3_ h4_ h5_ h6_ h7_ h8_ h9_ h10_ h11_ h12_ h13_ h14_ h15_
             have HO321 := n0_
             have HO_10 := n1_
             have HO_8 := n2_
             have BK297 := n3_
             have BK303 := n4_
             have BK309 := n5_
             have BK322 := n6_
             have GW322 := n7_
             have GE322 := n8_
             have NB297_322 := n9_
             have NB322_297 := n10_
             have NB303_322 := n11_
             have NB322_303 := n12_
             have NB309_322 := n13_
             have NB322_309 := n14_
             have HB := n15_
             clear n0_ n1_ n2_ n3_ n4_ n5_ n6_ n7_ n8_ n9_ n10_ n11_ n12_ n13_ n14_ n15_
             have hHeld : w73.cell? ⟨gb297, 0, none⟩ = some (.string t294) ∧ w73.cell? ⟨gb297, 1, none⟩ = some (.bool t295) := hS_
             refine norm_ (a' := ?_) ?_ ?_
             rotate_left
             ·simp only [putAll, Act.put, lA, lZ, lS]
              rfl
             refine one_ (i := 9) (N := none) #[true, true, true, true, true, true, true, true, true, true, false] rfl rfl (one_of HT_.out (by kernel_rfl)) (by decide) (fun K hK => ?_)
             have hs74 : w73.cell? ⟨gb322, 0, none⟩ = some (.string (⟨#[]⟩ : ByteArray)) := (kC BK322.out 0).trans rfl
             have hfs74 := blk_frozen BK322.out 0
             have hns74_0 := NB297_322.out
             have hns74_1 := NB303_322.out
             have hns74_2 := NB309_322.out
             have hms74_0 := NB322_297.out
             have hms74_1 := NB322_303.out
             have hms74_2 := NB322_309.out
             have hs75 : w73.cell? ⟨gb322, 1, none⟩ = some (.bool false) := (kC BK322.out 1).trans rfl
             have hfs75 := blk_frozen BK322.out 1
             have hns75_0 := NB297_322.out
             have hns75_1 := NB303_322.out
             have hns75_2 := NB309_322.out
             have hms75_0 := NB322_297.out
             have hms75_1 := NB322_303.out
             have hms75_2 := NB322_309.out
             refine skip_ (w1 := ?_) (by rfl) rfl ?_ ?_
             rotate_left
             ·go_simp
              rfl
             refine hK.out _ _ ⟨((cell_far (p := ⟨gb322, _, none⟩) NB297_322.out _).trans (((cell_far (p := ⟨gb322, _, none⟩) NB297_322.out _).trans (hHeld.1)))), ((cell_far (p := ⟨gb322, _, none⟩) NB297_322.out _).trans (((cell_far (p := ⟨gb322, _, none⟩) NB297_322.out _).trans (hHeld.2))))⟩ (fun hHeld => ?_)
             clear hK K
             refine pure_ (i := 10) (N := some 13) (v := ?_) (a' := ?_) #[true, true, true, true, true, true, true, true, true, true, true] rfl rfl (any_of HT_.out (by kernel_rfl)) (fun _ _ _ h => h) (Or.inl ⟨by rfl, ?_⟩) ?_ ?_
             rotate_left
             ·intro w'
              go_simp
              with_reducible rfl
             rotate_left
             ·simp only [Act.put, lA, lZ, lS, i64_w, i32_w]
              rfl
             refine done_ (done_of HT_.out (by kernel_rfl)) ?_
             try go_wp2
             have n0_ : Aside0 (Kd.N (Kd.slice 9 Kd.string) 30 ((w73.setCell ⟨gb322, 0, none⟩ (.string t317)).setCell ⟨gb322, 1, none⟩ (.bool t318)) w.heap.size (fun k_ => some k_ ≠ (v307 : Value).ownBlock ∧ some k_ ≠ (v320 : Value).ownBlock ∧ k_ ≠ gb297 ∧ k_ ≠ gb303 ∧ k_ ≠ gb309 ∧ k_ ≠ gb322) v301 t300) := ⟨by (with_reducible repeat (first | apply nA | apply nD | apply nE)); exact nM (Kd.N_far (p := ⟨gb322, 1, none⟩) (Kd.N_far (p := ⟨gb322, 0, none⟩) (nM HO_8.out (fun k_ hk => (⟨hk, hk.2.2.2.2.2⟩ : _ ∧ k_ ≠ gb322))) (fun _ hk => hk.2) (.string t317)) (fun _ hk => hk.2) (.bool t318)) (fun _ hk => ⟨hk.1.2.1, ⟨hk.1.1, ⟨hk.1.2.2.1, ⟨hk.1.2.2.2.1, ⟨hk.1.2.2.2.2.1, hk.1.2.2.2.2.2⟩⟩⟩⟩⟩)⟩
             have n1_ : Aside0 (Kd.N (Kd.slice 9 Kd.string) 30 ((w73.setCell ⟨gb322, 0, none⟩ (.string t317)).setCell ⟨gb322, 1, none⟩ (.bool t318)) w.heap.size (fun k_ => some k_ ≠ (v301 : Value).ownBlock ∧ some k_ ≠ (v320 : Value).ownBlock ∧ k_ ≠ gb297 ∧ k_ ≠ gb303 ∧ k_ ≠ gb309 ∧ k_ ≠ gb322) v307 t306) := ⟨by (with_reducible repeat (first | apply nA | apply nD | apply nE)); exact nM (Kd.N_far (p := ⟨gb322, 1, none⟩) (Kd.N_far (p := ⟨gb322, 0, none⟩) (nM HO_10.out (fun k_ hk => (⟨hk, hk.2.2.2.2.2⟩ : _ ∧ k_ ≠ gb322))) (fun _ hk => hk.2) (.string t317)) (fun _ hk => hk.2) (.bool t318)) (fun _ hk => ⟨hk.1.2.1, ⟨hk.1.1, ⟨hk.1.2.2.1, ⟨hk.1.2.2.2.1, ⟨hk.1.2.2.2.2.1, hk.1.2.2.2.2.2⟩⟩⟩⟩⟩)⟩
             have n2_ : Aside0 (Kd.N (Kd.slice 9 Kd.string) 30 ((w73.setCell ⟨gb322, 0, none⟩ (.string t317)).setCell ⟨gb322, 1, none⟩ (.bool t318)) w.heap.size (fun k_ => some k_ ≠ (v301 : Value).ownBlock ∧ some k_ ≠ (v307 : Value).ownBlock ∧ k_ ≠ gb297 ∧ k_ ≠ gb303 ∧ k_ ≠ gb309 ∧ k_ ≠ gb322) v320 t319) := ⟨by (with_reducible repeat (first | apply nA | apply nD | apply nE)); exact nM (Kd.N_far (p := ⟨gb322, 1, none⟩) (Kd.N_far (p := ⟨gb322, 0, none⟩) (nM HO321.out (fun k_ hk => (⟨hk, hk.2.2.2.2.2⟩ : _ ∧ k_ ≠ gb322))) (fun _ hk => hk.2) (.string t317)) (fun _ hk => hk.2) (.bool t318)) (fun _ hk => ⟨hk.1.2.1, ⟨hk.1.1, ⟨hk.1.2.2.1, ⟨hk.1.2.2.2.1, ⟨hk.1.2.2.2.2.1, hk.1.2.2.2.2.2⟩⟩⟩⟩⟩)⟩
             have n3_ : Aside0 (((w73.setCell ⟨gb322, 0, none⟩ (.string t317)).setCell ⟨gb322, 1, none⟩ (.bool t318)).heap[gb297]? = some (.cells #[.string t294, .bool t295] 34 (0, 0))) := ⟨by (with_reducible repeat (first | refine kD ?_ _ | refine kE ?_ | refine kA ?_ _)); refine blk_far ?_ NB297_322.out _; (with_reducible repeat (first | refine kD ?_ _ | refine kE ?_ | refine kA ?_ _)); refine blk_far ?_ NB297_322.out _; (with_reducible repeat (first | refine kD ?_ _ | refine kE ?_ | refine kA ?_ _)); exact BK297.out⟩
             have n4_ : Aside0 (((w73.setCell ⟨gb322, 0, none⟩ (.string t317)).setCell ⟨gb322, 1, none⟩ (.bool t318)).heap[gb303]? = some (.cells #[.string t298, .bool t299] 34 (0, 0))) := ⟨by (with_reducible repeat (first | refine kD ?_ _ | refine kE ?_ | refine kA ?_ _)); refine blk_far ?_ NB303_322.out _; (with_reducible repeat (first | refine kD ?_ _ | refine kE ?_ | refine kA ?_ _)); refine blk_far ?_ NB303_322.out _; (with_reducible repeat (first | refine kD ?_ _ | refine kE ?_ | refine kA ?_ _)); exact BK303.out⟩
             have n5_ : Aside0 (((w73.setCell ⟨gb322, 0, none⟩ (.string t317)).setCell ⟨gb322, 1, none⟩ (.bool t318)).heap[gb309]? = some (.cells #[.string t304, .bool t305] 34 (0, 0))) := ⟨by (with_reducible repeat (first | refine kD ?_ _ | refine kE ?_ | refine kA ?_ _)); refine blk_far ?_ NB309_322.out _; (with_reducible repeat (first | refine kD ?_ _ | refine kE ?_ | refine kA ?_ _)); refine blk_far ?_ NB309_322.out _; (with_reducible repeat (first | refine kD ?_ _ | refine kE ?_ | refine kA ?_ _)); exact BK309.out⟩
             have n6_ : Aside0 (((w73.setCell ⟨gb322, 0, none⟩ (.string t317)).setCell ⟨gb322, 1, none⟩ (.bool t318)).heap[gb322]? = some (.cells #[.string t317, .bool t318] 34 (0, 0))) := ⟨by (with_reducible repeat (first | refine kD ?_ _ | refine kE ?_ | refine kA ?_ _)); refine blk_put (cs := #[.string t317, .bool false]) ?_ 1 _ rfl; (with_reducible repeat (first | refine kD ?_ _ | refine kE ?_ | refine kA ?_ _)); refine blk_put (cs := #[.string (⟨#[]⟩ : ByteArray), .bool false]) ?_ 0 _ rfl; (with_reducible repeat (first | refine kD ?_ _ | refine kE ?_ | refine kA ?_ _)); exact BK322.out⟩
             have n7_ : Aside0 (Below w.heap.size w ((w73.setCell ⟨gb322, 0, none⟩ (.string t317)).setCell ⟨gb322, 1, none⟩ (.bool t318))) := ⟨by repeat (first | (with_reducible first | exact HB.out | apply bA | apply bD | apply bE | refine below_set ?_ GE297.out | refine below_set ?_ GE303.out | refine below_set ?_ GE309.out | refine below_set ?_ GE322.out) | exact HB.out)⟩
             (try clear HO_8)
             (try clear HO_10)
             (try clear HO321)
             (try clear BK297)
             (try clear BK303)
             (try clear BK309)
             (try clear BK322)
             (try clear HB)
             generalize ((w73.setCell ⟨gb322, 0, none⟩ (.string t317)).setCell ⟨gb322, 1, none⟩ (.bool t318)) = w76 at n0_ n1_ n2_ n3_ n4_ n5_ n6_ n7_ ⊢
             have HO_8 := n0_
             have HO_10 := n1_
             have HO321 := n2_
             have BK297 := n3_
             have BK303 := n4_
             have BK309 := n5_
             have BK322 := n6_
             have HB := n7_
             clear n0_ n1_ n2_ n3_ n4_ n5_ n6_ n7_
             have n0_ := AM (nE HO_8.out)
             have n1_ := AM (nE HO_10.out)
             have n2_ := AM (nE HO321.out)
             have n3_ := AM (kE BK297.out)
             have n4_ := AM (kE BK303.out)
             have n5_ := AM (kE BK309.out)
             have n6_ := AM (kE BK322.out)
             have n7_ := AM (bE HB.out)
             clear HO_8
             clear HO_10
             clear HO321
             clear BK297
             clear BK303
             clear BK309
             clear BK322
             clear HB
             have HO_8 := n0_
             have HO_10 := n1_
             have HO321 := n2_
             have BK297 := n3_
             have BK303 := n4_
             have BK309 := n5_
             have BK322 := n6_
             have HB := n7_
             clear n0_ n1_ n2_ n3_ n4_ n5_ n6_ n7_
             refine start_ (n := 11) (S := fun w' => w'.cell? ⟨gb322, 0, none⟩ = some (.string t317) ∧ w'.cell? ⟨gb322, 1, none⟩ = some (.bool t318)) (ds := []) #[false, false, false, false, false, false, false, false, false, false, false] (by kernel_rfl) rfl rfl ⟨(kC BK322.out 0).trans rfl, (kC BK322.out 1).trans rfl⟩ (fun hHeld => ?_); refine with_tabW laws_FnPipe.tab10 laws_FnPipe.bits10 (fun HT_ HW_ => ?_)
             generalize w76.drew = w77 at HO_8 HO_10 HO321 BK297 BK303 BK309 BK322 HB hHeld ⊢
             refine pure_ (i := 1) (N := some 104) (v := ?_) (a' := ?_) #[false, true, false, false, false, false, false, false, false, false, false] rfl rfl (any_of HT_.out (by kernel_rfl)) (fun _ _ _ h => h) (Or.inl ⟨by rfl, ?_⟩) ?_ ?_
             rotate_left
             ·intro w'
              go_simp
              with_reducible rfl
             rotate_left
             ·simp only [Act.put, lA, lZ, lS, i64_w, i32_w]
              rfl
             refine pure_ (i := 2) (N := some 105) (v := ?_) (a' := ?_) #[false, true, true, false, false, false, false, false, false, false, false] rfl rfl (any_of HT_.out (by kernel_rfl)) (fun _ _ _ h => h) (Or.inl ⟨by rfl, ?_⟩) ?_ ?_
             rotate_left
             ·intro w'
              go_simp
              with_reducible rfl
             rotate_left
             ·simp only [Act.put, lA, lZ, lS, i64_w, i32_w]
              rfl
             refine pure_ (i := 3) (N := some 106) (v := ?_) (a' := ?_) #[false, true, true, true, false, false, false, false, false, false, false] rfl rfl (any_of HT_.out (by kernel_rfl)) (fun _ _ _ h => h) (Or.inl ⟨by rfl, ?_⟩) ?_ ?_
             rotate_left
             ·intro w'
              go_simp
              with_reducible rfl
             rotate_left
             ·simp only [Act.put, lA, lZ, lS, i64_w, i32_w]
              rfl
             refine take_ (i := 0) (N := some 103) (v := ?_) (a' := ?_) #[true, true, true, true, false, false, false, false, false, false, false] rfl rfl (take_ofW HT_.out HW_.out (by kernel_rfl)) (fun _ _ _ h => h) (Or.inl ⟨by rfl, ?_⟩) hHeld ?_ ?_
             rotate_left
             ·rintro w' ⟨s0, s1⟩
              go_simp
              with_reducible rfl
             rotate_left
             ·simp only [Act.put, lA, lZ, lS, i64_w, i32_w]
              rfl
             refine join_ (σ := Value × Nat) 2 #[true, true, true, true, true, true, true, true, true, false, false] (fun s_ => [(107, .tuple #[.agg #[.string t323, .bool t324], s_.1]), (14, .pointer (some ⟨s_.2, 0, none⟩)), (102, .tuple #[.agg #[.string t323, .bool t324], s_.1]), (108, .agg #[.string t323, .bool t324]), (109, s_.1)]) (fun s_ w' => (w'.cell? ⟨gb322, 0, none⟩ = some (.string t317) ∧ w'.cell? ⟨gb322, 1, none⟩ = some (.bool t318)) ∧ (Kd.N (Kd.slice 9 Kd.string) 30 w' w.heap.size (fun k_ => some k_ ≠ (s_.1 : Value).ownBlock ∧ some k_ ≠ (v307 : Value).ownBlock ∧ some k_ ≠ (v301 : Value).ownBlock ∧ k_ ≠ gb297 ∧ k_ ≠ gb303 ∧ k_ ≠ gb309 ∧ k_ ≠ gb322 ∧ k_ ≠ s_.2) v320 t319) ∧ (Kd.N (Kd.slice 9 Kd.string) 30 w' w.heap.size (fun k_ => some k_ ≠ (v320 : Value).ownBlock ∧ some k_ ≠ (v307 : Value).ownBlock ∧ some k_ ≠ (v301 : Value).ownBlock ∧ k_ ≠ gb297 ∧ k_ ≠ gb303 ∧ k_ ≠ gb309 ∧ k_ ≠ gb322 ∧ k_ ≠ s_.2) s_.1 t325) ∧ (Kd.N (Kd.slice 9 Kd.string) 30 w' w.heap.size (fun k_ => some k_ ≠ (v320 : Value).ownBlock ∧ some k_ ≠ (s_.1 : Value).ownBlock ∧ some k_ ≠ (v301 : Value).ownBlock ∧ k_ ≠ gb297 ∧ k_ ≠ gb303 ∧ k_ ≠ gb309 ∧ k_ ≠ gb322 ∧ k_ ≠ s_.2) v307 t306) ∧ (Kd.N (Kd.slice 9 Kd.string) 30 w' w.heap.size (fun k_ => some k_ ≠ (v320 : Value).ownBlock ∧ some k_ ≠ (s_.1 : Value).ownBlock ∧ some k_ ≠ (v307 : Value).ownBlock ∧ k_ ≠ gb297 ∧ k_ ≠ gb303 ∧ k_ ≠ gb309 ∧ k_ ≠ gb322 ∧ k_ ≠ s_.2) v301 t300) ∧ (w'.heap[gb297]? = some (.cells #[.string t294, .bool t295] 34 (0, 0))) ∧ (w'.heap[gb303]? = some (.cells #[.string t298, .bool t299] 34 (0, 0))) ∧ (w'.heap[gb309]? = some (.cells #[.string t304, .bool t305] 34 (0, 0))) ∧ (w'.heap[gb322]? = some (.cells #[.string t317, .bool t318] 34 (0, 0))) ∧ (w'.heap[s_.2]? = some (.cells #[.string (⟨#[]⟩ : ByteArray), .bool false] 34 (0, 0))) ∧ (w.heap.size ≤ s_.2) ∧ (w.heap.size ≤ s_.2) ∧ (gb297 ≠ s_.2) ∧ (s_.2 ≠ gb297) ∧ (gb303 ≠ s_.2) ∧ (s_.2 ≠ gb303) ∧ (gb309 ≠ s_.2) ∧ (s_.2 ≠ gb309) ∧ (gb322 ≠ s_.2) ∧ (s_.2 ≠ gb322) ∧ (Below w.heap.size w w')) ?_ ?_
             rotate_left
             ·intro hCont
              refine two_ (i := 4) (j := 8) (Ni := some 107) (Nj := some 14) #[true, true, true, true, true, false, false, false, false, false, false] #[true, true, true, true, false, false, false, false, true, false, false] rfl rfl rfl rfl (two_of HT_.out (by kernel_rfl)) (by decide) (by decide) (fun K hK => ?_) (fun K hK => ?_)
              ·skip
               refine goes_ Tryd.func19 (by kernel_rfl) rfl #[.agg #[.string t317, .bool t318], .string (t296.extract ((ji60) : Int).toNat t296.size)] (by rfl) rfl rfl (by (try simp only [List.map_toArray, List.map_cons, List.map_nil]); first | done | (simp only [hji60]; rfl) | rfl | (simp only [List.length_drop, List.length_take]; rfl)) ?_
               with_reducible refine (impl_PipeFeed.calls kj8 t317 t318 (t296.extract ((ji60) : Int).toNat t296.size) t323 t324 t325 _ A66.out).mono ?_
               rintro e w78 ⟨v326, rfl, ho0, hb⟩
               refine ⟨_, rfl, ?_⟩
               have n0_ := AM (Kd.N_elder' (by (with_reducible repeat (first | apply nA | apply nD | apply nE)); exact HO_8.out) (Kd.S_base ho0) hb)
               have n1_ := AM (Kd.N_elder' (by (with_reducible repeat (first | apply nA | apply nD | apply nE)); exact HO_10.out) (Kd.S_base ho0) hb)
               have n2_ := AM (Kd.N_elder' (by (with_reducible repeat (first | apply nA | apply nD | apply nE)); exact HO321.out) (Kd.S_base ho0) hb)
               have n3_ := AM (Kd.N_lower (nM (ok' := fun k_ => some k_ ≠ (v301 : Value).ownBlock ∧ some k_ ≠ (v307 : Value).ownBlock ∧ some k_ ≠ (v320 : Value).ownBlock ∧ k_ ≠ gb297 ∧ k_ ≠ gb303 ∧ k_ ≠ gb309 ∧ k_ ≠ gb322) (Kd.S_N (Kd.S_bound ho0)) (fun k_ hk_ => ⟨(Kd.fresh' (Kd.N_lt (by (with_reducible repeat (first | apply nA | apply nD | apply nE)); exact HO_8.out)) k_ hk_.2.1), (Kd.fresh' (Kd.N_lt (by (with_reducible repeat (first | apply nA | apply nD | apply nE)); exact HO_10.out)) k_ hk_.2.1), (Kd.fresh' (Kd.N_lt (by (with_reducible repeat (first | apply nA | apply nD | apply nE)); exact HO321.out)) k_ hk_.2.1), (Kd.freshB (g := gb297) (o := .cells #[.string t294, .bool t295] 34 (0, 0)) (by (with_reducible repeat (first | refine kD ?_ _ | refine kE ?_ | refine kA ?_ _)); exact BK297.out) k_ hk_.2.1), (Kd.freshB (g := gb303) (o := .cells #[.string t298, .bool t299] 34 (0, 0)) (by (with_reducible repeat (first | refine kD ?_ _ | refine kE ?_ | refine kA ?_ _)); exact BK303.out) k_ hk_.2.1), (Kd.freshB (g := gb309) (o := .cells #[.string t304, .bool t305] 34 (0, 0)) (by (with_reducible repeat (first | refine kD ?_ _ | refine kE ?_ | refine kA ?_ _)); exact BK309.out) k_ hk_.2.1), (Kd.freshB (g := gb322) (o := .cells #[.string t317, .bool t318] 34 (0, 0)) (by (with_reducible repeat (first | refine kD ?_ _ | refine kE ?_ | refine kA ?_ _)); exact BK322.out) k_ hk_.2.1)⟩)) (bZ (by repeat (first | (with_reducible first | exact HB.out | apply bA | apply bD | apply bE | refine below_set ?_ GE297.out | refine below_set ?_ GE303.out | refine below_set ?_ GE309.out | refine below_set ?_ GE322.out) | exact HB.out))))
               have n4_ := AM (kB (g := gb297) (o := .cells #[.string t294, .bool t295] 34 (0, 0)) (by (with_reducible repeat (first | refine kD ?_ _ | refine kE ?_ | refine kA ?_ _)); exact BK297.out) hb)
               have n5_ := AM (kB (g := gb303) (o := .cells #[.string t298, .bool t299] 34 (0, 0)) (by (with_reducible repeat (first | refine kD ?_ _ | refine kE ?_ | refine kA ?_ _)); exact BK303.out) hb)
               have n6_ := AM (kB (g := gb309) (o := .cells #[.string t304, .bool t305] 34 (0, 0)) (by (with_reducible repeat (first | refine kD ?_ _ | refine kE ?_ | refine kA ?_ _)); exact BK309.out) hb)
               have n7_ := AM (kB (g := gb322) (o := .cells #[.string t317, .bool t318] 34 (0, 0)) (by (with_reducible repeat (first | refine kD ?_ _ | refine kE ?_ | refine kA ?_ _)); exact BK322.out) hb)
               have n8_ := AM (bS (by repeat (first | (with_reducible first | exact HB.out | apply bA | apply bD | apply bE | refine below_set ?_ GE297.out | refine below_set ?_ GE303.out | refine below_set ?_ GE309.out | refine below_set ?_ GE322.out) | exact HB.out)) hb)
               clear HO_8
               clear HO_10
               clear HO321
               clear BK297
               clear BK303
               clear BK309
               clear BK322
               clear HB
               have HO_8 := n0_
               have HO_10 := n1_
               have HO321 := n2_
               have HO327 := n3_
               have BK297 := n4_
               have BK303 := n5_
               have BK309 := n6_
               have BK322 := n7_
               have HB := n8_
               clear n0_ n1_ n2_ n3_ n4_ n5_ n6_ n7_ n8_
               (try clear hb)
               (try clear hb2)
               (try clear hk)
               (try clear hi)
               (try clear ho0)
               refine hK.out _ _ ⟨(kC BK322.out 0).trans rfl, (kC BK322.out 1).trans rfl⟩ (fun hHeld => ?_)
               clear hK K
               refine norm_ (a' := ?_) ?_ ?_
               rotate_left
               ·show Act.put _ (some 107) _ = _
                simp only [Act.put, lA, lZ, lS, i64_w, i32_w]
                rfl
               refine pure_ (i := 5) (N := some 102) (v := ?_) (a' := ?_) #[true, true, true, true, true, true, false, false, false, false, false] rfl rfl (any_of HT_.out (by kernel_rfl)) (fun _ _ _ h => h) (Or.inl ⟨by rfl, ?_⟩) ?_ ?_
               rotate_left
               ·intro w'
                go_simp
                with_reducible rfl
               rotate_left
               ·simp only [Act.put, lA, lZ, lS, i64_w, i32_w]
                rfl
               refine pure_ (i := 6) (N := some 108) (v := ?_) (a' := ?_) #[true, true, true, true, true, true, true, false, false, false, false] rfl rfl (any_of HT_.out (by kernel_rfl)) (fun _ _ _ h => h) (Or.inl ⟨by rfl, ?_⟩) ?_ ?_
               rotate_left
               ·intro w'
                go_simp
                with_reducible rfl
               rotate_left
               ·simp only [Act.put, lA, lZ, lS, i64_w, i32_w]
                rfl
               refine pure_ (i := 7) (N := some 109) (v := ?_) (a' := ?_) #[true, true, true, true, true, true, true, true, false, false, false] rfl rfl (any_of HT_.out (by kernel_rfl)) (fun _ _ _ h => h) (Or.inl ⟨by rfl, ?_⟩) ?_ ?_
               rotate_left
               ·intro w'
                go_simp
                with_reducible rfl
               rotate_left
               ·simp only [Act.put, lA, lZ, lS, i64_w, i32_w]
                rfl
               refine one_ (i := 8) (N := some 14) #[true, true, true, true, true, true, true, true, true, false, false] rfl rfl (one_of HT_.out (by kernel_rfl)) (by decide) (fun K hK => ?_)
               refine box_step ?hg (N := 14) ?hd (cs := #[.string (⟨#[]⟩ : ByteArray), .bool false]) (t := 34) ?hr ?_; (case hd => rfl); (case hg => rfl); (case hr => first | (go_simp; done) | (go_simp; rfl))
               intro gb328 hg w79 hbox hb
               have n0_ := AM (nB (Kd.N_elderB (by (with_reducible repeat (first | apply nA | apply nD | apply nE)); exact HO_8.out) gb328 (Nat.le_of_eq hg.symm)) hb)
               have n1_ := AM (nB (Kd.N_elderB (by (with_reducible repeat (first | apply nA | apply nD | apply nE)); exact HO_10.out) gb328 (Nat.le_of_eq hg.symm)) hb)
               have n2_ := AM (nB (Kd.N_elderB (by (with_reducible repeat (first | apply nA | apply nD | apply nE)); exact HO321.out) gb328 (Nat.le_of_eq hg.symm)) hb)
               have n3_ := AM (nB (Kd.N_elderB (by (with_reducible repeat (first | apply nA | apply nD | apply nE)); exact HO327.out) gb328 (Nat.le_of_eq hg.symm)) hb)
               have n4_ := AM (kB (g := gb297) (o := .cells #[.string t294, .bool t295] 34 (0, 0)) (by (with_reducible repeat (first | refine kD ?_ _ | refine kE ?_ | refine kA ?_ _)); exact BK297.out) hb)
               have n5_ := AM (kB (g := gb303) (o := .cells #[.string t298, .bool t299] 34 (0, 0)) (by (with_reducible repeat (first | refine kD ?_ _ | refine kE ?_ | refine kA ?_ _)); exact BK303.out) hb)
               have n6_ := AM (kB (g := gb309) (o := .cells #[.string t304, .bool t305] 34 (0, 0)) (by (with_reducible repeat (first | refine kD ?_ _ | refine kE ?_ | refine kA ?_ _)); exact BK309.out) hb)
               have n7_ := AM (kB (g := gb322) (o := .cells #[.string t317, .bool t318] 34 (0, 0)) (by (with_reducible repeat (first | refine kD ?_ _ | refine kE ?_ | refine kA ?_ _)); exact BK322.out) hb)
               have n8_ := AM (bS (by repeat (first | (with_reducible first | exact HB.out | apply bA | apply bD | apply bE | refine below_set ?_ GE297.out | refine below_set ?_ GE303.out | refine below_set ?_ GE309.out | refine below_set ?_ GE322.out) | exact HB.out)) hb)
               have n9_ := AM (hbox)
               have n10_ := AM ((by rw [hg]; exact (bZ (by repeat (first | (with_reducible first | exact HB.out | apply bA | apply bD | apply bE | refine below_set ?_ GE297.out | refine below_set ?_ GE303.out | refine below_set ?_ GE309.out | refine below_set ?_ GE322.out) | exact HB.out))) : w.heap.size ≤ gb328))
               have n11_ := AM ((by rw [hg]; exact (bZ (by repeat (first | (with_reducible first | exact HB.out | apply bA | apply bD | apply bE | refine below_set ?_ GE297.out | refine below_set ?_ GE303.out | refine below_set ?_ GE309.out | refine below_set ?_ GE322.out) | exact HB.out))) : w.heap.size ≤ gb328))
               have n12_ := AM ((by rw [hg]; exact Nat.ne_of_lt (blk_lt (g := gb297) (o := .cells #[.string t294, .bool t295] 34 (0, 0)) (by (with_reducible repeat (first | refine kD ?_ _ | refine kE ?_ | refine kA ?_ _)); exact BK297.out)) : gb297 ≠ gb328))
               have n13_ := AM ((by rw [hg]; exact Nat.ne_of_gt (blk_lt (g := gb297) (o := .cells #[.string t294, .bool t295] 34 (0, 0)) (by (with_reducible repeat (first | refine kD ?_ _ | refine kE ?_ | refine kA ?_ _)); exact BK297.out)) : gb328 ≠ gb297))
               have n14_ := AM ((by rw [hg]; exact Nat.ne_of_lt (blk_lt (g := gb303) (o := .cells #[.string t298, .bool t299] 34 (0, 0)) (by (with_reducible repeat (first | refine kD ?_ _ | refine kE ?_ | refine kA ?_ _)); exact BK303.out)) : gb303 ≠ gb328))
               have n15_ := AM ((by rw [hg]; exact Nat.ne_of_gt (blk_lt (g := gb303) (o := .cells #[.string t298, .bool t299] 34 (0, 0)) (by (with_reducible repeat (first | refine kD ?_ _ | refine kE ?_ | refine kA ?_ _)); exact BK303.out)) : gb328 ≠ gb303))
               have n16_ := AM ((by rw [hg]; exact Nat.ne_of_lt (blk_lt (g := gb309) (o := .cells #[.string t304, .bool t305] 34 (0, 0)) (by (with_reducible repeat (first | refine kD ?_ _ | refine kE ?_ | refine kA ?_ _)); exact BK309.out)) : gb309 ≠ gb328))
               have n17_ := AM ((by rw [hg]; exact Nat.ne_of_gt (blk_lt (g := gb309) (o := .cells #[.string t304, .bool t305] 34 (0, 0)) (by (with_reducible repeat (first | refine kD ?_ _ | refine kE ?_ | refine kA ?_ _)); exact BK309.out)) : gb328 ≠ gb309))
               have n18_ := AM ((by rw [hg]; exact Nat.ne_of_lt (blk_lt (g := gb322) (o := .cells #[.string t317, .bool t318] 34 (0, 0)) (by (with_reducible repeat (first | refine kD ?_ _ | refine kE ?_ | refine kA ?_ _)); exact BK322.out)) : gb322 ≠ gb328))
               have n19_ := AM ((by rw [hg]; exact Nat.ne_of_gt (blk_lt (g := gb322) (o := .cells #[.string t317, .bool t318] 34 (0, 0)) (by (with_reducible repeat (first | refine kD ?_ _ | refine kE ?_ | refine kA ?_ _)); exact BK322.out)) : gb328 ≠ gb322))
               clear HO_8
               clear HO_10
               clear HO321
               clear HO327
               clear BK297
               clear BK303
               clear BK309
               clear BK322
               clear HB
               have HO_8 := n0_
               have HO_10 := n1_
               have HO321 := n2_
               have HO327 := n3_
               have BK297 := n4_
               have BK303 := n5_
               have BK309 := n6_
               have BK322 := n7_
               have HB := n8_
               have BK328 := n9_
               have GW328 := n10_
               have GE328 := n11_
               have NB297_328 := n12_
               have NB328_297 := n13_
               have NB303_328 := n14_
               have NB328_303 := n15_
               have NB309_328 := n16_
               have NB328_309 := n17_
               have NB322_328 := n18_
               have NB328_322 := n19_
               clear n0_ n1_ n2_ n3_ n4_ n5_ n6_ n7_ n8_ n9_ n10_ n11_ n12_ n13_ n14_ n15_ n16_ n17_ n18_ n19_
               clear hb hbox hg
               refine hK.out _ _ ⟨(kC BK322.out 0).trans rfl, (kC BK322.out 1).trans rfl⟩ (fun hHeld => ?_)
               clear hK K
               refine norm_ (a' := ?_) ?_ ?_
               rotate_left
               ·show Act.put _ (some 14) _ = _
                simp only [Act.put, lA, lZ, lS, i64_w, i32_w]
                rfl
               exact norm_ (by simp only [putAll, Act.put, lA, lZ, lS]) (hCont (v326, gb328) _ ⟨hHeld, (by (with_reducible repeat (first | apply nA | apply nD | apply nE)); exact nM HO321.out (fun _ hk => ⟨hk.1.2, ⟨hk.1.1.2.1, ⟨hk.1.1.1, ⟨hk.1.1.2.2.1, ⟨hk.1.1.2.2.2.1, ⟨hk.1.1.2.2.2.2.1, ⟨hk.1.1.2.2.2.2.2, hk.2⟩⟩⟩⟩⟩⟩⟩)), (by (with_reducible repeat (first | apply nA | apply nD | apply nE)); exact nM HO327.out (fun _ hk => ⟨hk.1.2.2.1, ⟨hk.1.2.1, ⟨hk.1.1, ⟨hk.1.2.2.2.1, ⟨hk.1.2.2.2.2.1, ⟨hk.1.2.2.2.2.2.1, ⟨hk.1.2.2.2.2.2.2, hk.2⟩⟩⟩⟩⟩⟩⟩)), (by (with_reducible repeat (first | apply nA | apply nD | apply nE)); exact nM HO_10.out (fun _ hk => ⟨hk.1.1.2.1, ⟨hk.1.2, ⟨hk.1.1.1, ⟨hk.1.1.2.2.1, ⟨hk.1.1.2.2.2.1, ⟨hk.1.1.2.2.2.2.1, ⟨hk.1.1.2.2.2.2.2, hk.2⟩⟩⟩⟩⟩⟩⟩)), (by (with_reducible repeat (first | apply nA | apply nD | apply nE)); exact nM HO_8.out (fun _ hk => ⟨hk.1.1.2.1, ⟨hk.1.2, ⟨hk.1.1.1, ⟨hk.1.1.2.2.1, ⟨hk.1.1.2.2.2.1, ⟨hk.1.1.2.2.2.2.1, ⟨hk.1.1.2.2.2.2.2, hk.2⟩⟩⟩⟩⟩⟩⟩)), (by (with_reducible repeat (first | refine kD ?_ _ | refine kE ?_ | refine kA ?_ _)); exact BK297.out), (by (with_reducible repeat (first | refine kD ?_ _ | refine kE ?_ | refine kA ?_ _)); exact BK303.out), (by (with_reducible repeat (first | refine kD ?_ _ | refine kE ?_ | refine kA ?_ _)); exact BK309.out), (by (with_reducible repeat (first | refine kD ?_ _ | refine kE ?_ | refine kA ?_ _)); exact BK322.out), (by (with_reducible repeat (first | refine kD ?_ _ | refine kE ?_ | refine kA ?_ _)); exact BK328.out), GW328.out, GE328.out, NB297_328.out, NB328_297.out, NB303_328.out, NB328_303.out, NB309_328.out, NB328_309.out, NB322_328.out, NB328_322.out, (by repeat (first | (with_reducible first | exact HB.out | apply bA | apply bD | apply bE | refine below_set ?_ GE297.out | refine below_set ?_ GE303.out | refine below_set ?_ GE309.out | refine below_set ?_ GE322.out | refine below_set ?_ GE328.out) | exact HB.out))⟩)
              ·skip
               refine box_step ?hg (N := 14) ?hd (cs := #[.string (⟨#[]⟩ : ByteArray), .bool false]) (t := 34) ?hr ?_; (case hd => rfl); (case hg => rfl); (case hr => first | (go_simp; done) | (go_simp; rfl))
               intro gb328 hg w78 hbox hb
               have n0_ := AM (nB (Kd.N_elderB (by (with_reducible repeat (first | apply nA | apply nD | apply nE)); exact HO_8.out) gb328 (Nat.le_of_eq hg.symm)) hb)
               have n1_ := AM (nB (Kd.N_elderB (by (with_reducible repeat (first | apply nA | apply nD | apply nE)); exact HO_10.out) gb328 (Nat.le_of_eq hg.symm)) hb)
               have n2_ := AM (nB (Kd.N_elderB (by (with_reducible repeat (first | apply nA | apply nD | apply nE)); exact HO321.out) gb328 (Nat.le_of_eq hg.symm)) hb)
               have n3_ := AM (kB (g := gb297) (o := .cells #[.string t294, .bool t295] 34 (0, 0)) (by (with_reducible repeat (first | refine kD ?_ _ | refine kE ?_ | refine kA ?_ _)); exact BK297.out) hb)
               have n4_ := AM (kB (g := gb303) (o := .cells #[.string t298, .bool t299] 34 (0, 0)) (by (with_reducible repeat (first | refine kD ?_ _ | refine kE ?_ | refine kA ?_ _)); exact BK303.out) hb)
               have n5_ := AM (kB (g := gb309) (o := .cells #[.string t304, .bool t305] 34 (0, 0)) (by (with_reducible repeat (first | refine kD ?_ _ | refine kE ?_ | refine kA ?_ _)); exact BK309.out) hb)
               have n6_ := AM (kB (g := gb322) (o := .cells #[.string t317, .bool t318] 34 (0, 0)) (by (with_reducible repeat (first | refine kD ?_ _ | refine kE ?_ | refine kA ?_ _)); exact BK322.out) hb)
               have n7_ := AM (bS (by repeat (first | (with_reducible first | exact HB.out | apply bA | apply bD | apply bE | refine below_set ?_ GE297.out | refine below_set ?_ GE303.out | refine below_set ?_ GE309.out | refine below_set ?_ GE322.out) | exact HB.out)) hb)
               have n8_ := AM (hbox)
               have n9_ := AM ((by rw [hg]; exact (bZ (by repeat (first | (with_reducible first | exact HB.out | apply bA | apply bD | apply bE | refine below_set ?_ GE297.out | refine below_set ?_ GE303.out | refine below_set ?_ GE309.out | refine below_set ?_ GE322.out) | exact HB.out))) : w.heap.size ≤ gb328))
               have n10_ := AM ((by rw [hg]; exact (bZ (by repeat (first | (with_reducible first | exact HB.out | apply bA | apply bD | apply bE | refine below_set ?_ GE297.out | refine below_set ?_ GE303.out | refine below_set ?_ GE309.out | refine below_set ?_ GE322.out) | exact HB.out))) : w.heap.size ≤ gb328))
               have n11_ := AM ((by rw [hg]; exact Nat.ne_of_lt (blk_lt (g := gb297) (o := .cells #[.string t294, .bool t295] 34 (0, 0)) (by (with_reducible repeat (first | refine kD ?_ _ | refine kE ?_ | refine kA ?_ _)); exact BK297.out)) : gb297 ≠ gb328))
               have n12_ := AM ((by rw [hg]; exact Nat.ne_of_gt (blk_lt (g := gb297) (o := .cells #[.string t294, .bool t295] 34 (0, 0)) (by (with_reducible repeat (first | refine kD ?_ _ | refine kE ?_ | refine kA ?_ _)); exact BK297.out)) : gb328 ≠ gb297))
               have n13_ := AM ((by rw [hg]; exact Nat.ne_of_lt (blk_lt (g := gb303) (o := .cells #[.string t298, .bool t299] 34 (0, 0)) (by (with_reducible repeat (first | refine kD ?_ _ | refine kE ?_ | refine kA ?_ _)); exact BK303.out)) : gb303 ≠ gb328))
               have n14_ := AM ((by rw [hg]; exact Nat.ne_of_gt (blk_lt (g := gb303) (o := .cells #[.string t298, .bool t299] 34 (0, 0)) (by (with_reducible repeat (first | refine kD ?_ _ | refine kE ?_ | refine kA ?_ _)); exact BK303.out)) : gb328 ≠ gb303))
               have n15_ := AM ((by rw [hg]; exact Nat.ne_of_lt (blk_lt (g := gb309) (o := .cells #[.string t304, .bool t305] 34 (0, 0)) (by (with_reducible repeat (first | refine kD ?_ _ | refine kE ?_ | refine kA ?_ _)); exact BK309.out)) : gb309 ≠ gb328))
               have n16_ := AM ((by rw [hg]; exact Nat.ne_of_gt (blk_lt (g := gb309) (o := .cells #[.string t304, .bool t305] 34 (0, 0)) (by (with_reducible repeat (first | refine kD ?_ _ | refine kE ?_ | refine kA ?_ _)); exact BK309.out)) : gb328 ≠ gb309))
               have n17_ := AM ((by rw [hg]; exact Nat.ne_of_lt (blk_lt (g := gb322) (o := .cells #[.string t317, .bool t318] 34 (0, 0)) (by (with_reducible repeat (first | refine kD ?_ _ | refine kE ?_ | refine kA ?_ _)); exact BK322.out)) : gb322 ≠ gb328))
               have n18_ := AM ((by rw [hg]; exact Nat.ne_of_gt (blk_lt (g := gb322) (o := .cells #[.string t317, .bool t318] 34 (0, 0)) (by (with_reducible repeat (first | refine kD ?_ _ | refine kE ?_ | refine kA ?_ _)); exact BK322.out)) : gb328 ≠ gb322))
               clear HO_8
               clear HO_10
               clear HO321
               clear BK297
               clear BK303
               clear BK309
               clear BK322
               clear HB
               have HO_8 := n0_
               have HO_10 := n1_
               have HO321 := n2_
               have BK297 := n3_
               have BK303 := n4_
               have BK309 := n5_
               have BK322 := n6_
               have HB := n7_
               have BK328 := n8_
               have GW328 := n9_
               have GE328 := n10_
               have NB297_328 := n11_
               have NB328_297 := n12_
               have NB303_328 := n13_
               have NB328_303 := n14_
               have NB309_328 := n15_
               have NB328_309 := n16_
               have NB322_328 := n17_
               have NB328_322 := n18_
               clear n0_ n1_ n2_ n3_ n4_ n5_ n6_ n7_ n8_ n9_ n10_ n11_ n12_ n13_ n14_ n15_ n16_ n17_ n18_
               clear hb hbox hg
               refine hK.out _ _ ⟨(kC BK322.out 0).trans rfl, (kC BK322.out 1).trans rfl⟩ (fun hHeld => ?_)
               clear hK K
               refine norm_ (a' := ?_) ?_ ?_
               rotate_left
               ·show Act.put _ (some 14) _ = _
                simp only [Act.put, lA, lZ, lS, i64_w, i32_w]
                rfl
               refine one_ (i := 4) (N := some 107) #[true, true, true, true, true, false, false, false, true, false, false] rfl rfl (one_of HT_.out (by kernel_rfl)) (by decide) (fun K hK => ?_)
               refine goes_ Tryd.func19 (by kernel_rfl) rfl #[.agg #[.string t317, .bool t318], .string (t296.extract ((ji60) : Int).toNat t296.size)] (by rfl) rfl rfl (by (try simp only [List.map_toArray, List.map_cons, List.map_nil]); first | done | (simp only [hji60]; rfl) | rfl | (simp only [List.length_drop, List.length_take]; rfl)) ?_
               with_reducible refine (impl_PipeFeed.calls kj8 t317 t318 (t296.extract ((ji60) : Int).toNat t296.size) t323 t324 t325 _ A66.out).mono ?_
               rintro e w79 ⟨v326, rfl, ho0, hb⟩
               refine ⟨_, rfl, ?_⟩
               have n0_ := AM (Kd.N_elder' (by (with_reducible repeat (first | apply nA | apply nD | apply nE)); exact HO_8.out) (Kd.S_base ho0) hb)
               have n1_ := AM (Kd.N_elder' (by (with_reducible repeat (first | apply nA | apply nD | apply nE)); exact HO_10.out) (Kd.S_base ho0) hb)
               have n2_ := AM (Kd.N_elder' (by (with_reducible repeat (first | apply nA | apply nD | apply nE)); exact HO321.out) (Kd.S_base ho0) hb)
               have n3_ := AM (Kd.N_lower (nM (ok' := fun k_ => some k_ ≠ (v301 : Value).ownBlock ∧ some k_ ≠ (v307 : Value).ownBlock ∧ some k_ ≠ (v320 : Value).ownBlock ∧ k_ ≠ gb297 ∧ k_ ≠ gb303 ∧ k_ ≠ gb309 ∧ k_ ≠ gb322 ∧ k_ ≠ gb328) (Kd.S_N (Kd.S_bound ho0)) (fun k_ hk_ => ⟨(Kd.fresh' (Kd.N_lt (by (with_reducible repeat (first | apply nA | apply nD | apply nE)); exact HO_8.out)) k_ hk_.2.1), (Kd.fresh' (Kd.N_lt (by (with_reducible repeat (first | apply nA | apply nD | apply nE)); exact HO_10.out)) k_ hk_.2.1), (Kd.fresh' (Kd.N_lt (by (with_reducible repeat (first | apply nA | apply nD | apply nE)); exact HO321.out)) k_ hk_.2.1), (Kd.freshB (g := gb297) (o := .cells #[.string t294, .bool t295] 34 (0, 0)) (by (with_reducible repeat (first | refine kD ?_ _ | refine kE ?_ | refine kA ?_ _)); exact BK297.out) k_ hk_.2.1), (Kd.freshB (g := gb303) (o := .cells #[.string t298, .bool t299] 34 (0, 0)) (by (with_reducible repeat (first | refine kD ?_ _ | refine kE ?_ | refine kA ?_ _)); exact BK303.out) k_ hk_.2.1), (Kd.freshB (g := gb309) (o := .cells #[.string t304, .bool t305] 34 (0, 0)) (by (with_reducible repeat (first | refine kD ?_ _ | refine kE ?_ | refine kA ?_ _)); exact BK309.out) k_ hk_.2.1), (Kd.freshB (g := gb322) (o := .cells #[.string t317, .bool t318] 34 (0, 0)) (by (with_reducible repeat (first | refine kD ?_ _ | refine kE ?_ | refine kA ?_ _)); exact BK322.out) k_ hk_.2.1), (Kd.freshB (g := gb328) (o := .cells #[.string (⟨#[]⟩ : ByteArray), .bool false] 34 (0, 0)) (by (with_reducible repeat (first | refine kD ?_ _ | refine kE ?_ | refine kA ?_ _)); exact BK328.out) k_ hk_.2.1)⟩)) (bZ (by repeat (first | (with_reducible first | exact HB.out | apply bA | apply bD | apply bE | refine below_set ?_ GE297.out | refine below_set ?_ GE303.out | refine below_set ?_ GE309.out | refine below_set ?_ GE322.out | refine below_set ?_ GE328.out) | exact HB.out))))
               have n4_ := AM (kB (g := gb297) (o := .cells #[.string t294, .bool t295] 34 (0, 0)) (by (with_reducible repeat (first | refine kD ?_ _ | refine kE ?_ | refine kA ?_ _)); exact BK297.out) hb)
               have n5_ := AM (kB (g := gb303) (o := .cells #[.string t298, .bool t299] 34 (0, 0)) (by (with_reducible repeat (first | refine kD ?_ _ | refine kE ?_ | refine kA ?_ _)); exact BK303.out) hb)
               have n6_ := AM (kB (g := gb309) (o := .cells #[.string t304, .bool t305] 34 (0, 0)) (by (with_reducible repeat (first | refine kD ?_ _ | refine kE ?_ | refine kA ?_ _)); exact BK309.out) hb)
               have n7_ := AM (kB (g := gb322) (o := .cells #[.string t317, .bool t318] 34 (0, 0)) (by (with_reducible repeat (first | refine kD ?_ _ | refine kE ?_ | refine kA ?_ _)); exact BK322.out) hb)
               have n8_ := AM (kB (g := gb328) (o := .cells #[.string (⟨#[]⟩ : ByteArray), .bool false] 34 (0, 0)) (by (with_reducible repeat (first | refine kD ?_ _ | refine kE ?_ | refine kA ?_ _)); exact BK328.out) hb)
               have n9_ := AM (bS (by repeat (first | (with_reducible first | exact HB.out | apply bA | apply bD | apply bE | refine below_set ?_ GE297.out | refine below_set ?_ GE303.out | refine below_set ?_ GE309.out | refine below_set ?_ GE322.out | refine below_set ?_ GE328.out) | exact HB.out)) hb)
               clear HO_8
               clear HO_10
               clear HO321
               clear BK297
               clear BK303
               clear BK309
               clear BK322
               clear BK328
               clear HB
               have HO_8 := n0_
               have HO_10 := n1_
               have HO321 := n2_
               have HO327 := n3_
               have BK297 := n4_
               have BK303 := n5_
               have BK309 := n6_
               have BK322 := n7_
               have BK328 := n8_
               have HB := n9_
               clear n0_ n1_ n2_ n3_ n4_ n5_ n6_ n7_ n8_ n9_
               (try clear hb)
               (try clear hb2)
               (try clear hk)
               (try clear hi)
               (try clear ho0)
               refine hK.out _ _ ⟨(kC BK322.out 0).trans rfl, (kC BK322.out 1).trans rfl⟩ (fun hHeld => ?_)
               clear hK K
               refine norm_ (a' := ?_) ?_ ?_
               rotate_left
               ·show Act.put _ (some 107) _ = _
                simp only [Act.put, lA, lZ, lS, i64_w, i32_w]
                rfl
               refine pure_ (i := 5) (N := some 102) (v := ?_) (a' := ?_) #[true, true, true, true, true, true, false, false, true, false, false] rfl rfl (any_of HT_.out (by kernel_rfl)) (fun _ _ _ h => h) (Or.inl ⟨by rfl, ?_⟩) ?_ ?_
               rotate_left
               ·intro w'
                go_simp
                with_reducible rfl
               rotate_left
               ·simp only [Act.put, lA, lZ, lS, i64_w, i32_w]
                rfl
               refine pure_ (i := 6) (N := some 108) (v := ?_) (a' := ?_) #[true, true, true, true, true, true, true, false, true, false, false] rfl rfl (any_of HT_.out (by kernel_rfl)) (fun _ _ _ h => h) (Or.inl ⟨by rfl, ?_⟩) ?_ ?_
               rotate_left
               ·intro w'
                go_simp
                with_reducible rfl
               rotate_left
               ·simp only [Act.put, lA, lZ, lS, i64_w, i32_w]
                rfl
               refine pure_ (i := 7) (N := some 109) (v := ?_) (a' := ?_) #[true, true, true, true, true, true, true, true, true, false, false] rfl rfl (any_of HT_.out (by kernel_rfl)) (fun _ _ _ h => h) (Or.inl ⟨by rfl, ?_⟩) ?_ ?_
               rotate_left
               ·intro w'
                go_simp
                with_reducible rfl
               rotate_left
               ·simp only [Act.put, lA, lZ, lS, i64_w, i32_w]
                rfl
               exact norm_ (by simp only [putAll, Act.put, lA, lZ, lS]) (hCont (v326, gb328) _ ⟨hHeld, (by (with_reducible repeat (first | apply nA | apply nD | apply nE)); exact nM HO321.out (fun _ hk => ⟨hk.2, ⟨hk.1.1.2.1, ⟨hk.1.1.1, ⟨hk.1.1.2.2.1, ⟨hk.1.1.2.2.2.1, ⟨hk.1.1.2.2.2.2.1, ⟨hk.1.1.2.2.2.2.2, hk.1.2⟩⟩⟩⟩⟩⟩⟩)), (by (with_reducible repeat (first | apply nA | apply nD | apply nE)); exact nM HO327.out (fun _ hk => ⟨hk.2.2.1, ⟨hk.2.1, ⟨hk.1, ⟨hk.2.2.2.1, ⟨hk.2.2.2.2.1, ⟨hk.2.2.2.2.2.1, ⟨hk.2.2.2.2.2.2.1, hk.2.2.2.2.2.2.2⟩⟩⟩⟩⟩⟩⟩)), (by (with_reducible repeat (first | apply nA | apply nD | apply nE)); exact nM HO_10.out (fun _ hk => ⟨hk.1.1.2.1, ⟨hk.2, ⟨hk.1.1.1, ⟨hk.1.1.2.2.1, ⟨hk.1.1.2.2.2.1, ⟨hk.1.1.2.2.2.2.1, ⟨hk.1.1.2.2.2.2.2, hk.1.2⟩⟩⟩⟩⟩⟩⟩)), (by (with_reducible repeat (first | apply nA | apply nD | apply nE)); exact nM HO_8.out (fun _ hk => ⟨hk.1.1.2.1, ⟨hk.2, ⟨hk.1.1.1, ⟨hk.1.1.2.2.1, ⟨hk.1.1.2.2.2.1, ⟨hk.1.1.2.2.2.2.1, ⟨hk.1.1.2.2.2.2.2, hk.1.2⟩⟩⟩⟩⟩⟩⟩)), (by (with_reducible repeat (first | refine kD ?_ _ | refine kE ?_ | refine kA ?_ _)); exact BK297.out), (by (with_reducible repeat (first | refine kD ?_ _ | refine kE ?_ | refine kA ?_ _)); exact BK303.out), (by (with_reducible repeat (first | refine kD ?_ _ | refine kE ?_ | refine kA ?_ _)); exact BK309.out), (by (with_reducible repeat (first | refine kD ?_ _ | refine kE ?_ | refine kA ?_ _)); exact BK322.out), (by (with_reducible repeat (first | refine kD ?_ _ | refine kE ?_ | refine kA ?_ _)); exact BK328.out), GW328.out, GE328.out, NB297_328.out, NB328_297.out, NB303_328.out, NB328_303.out, NB309_328.out, NB328_309.out, NB322_328.out, NB328_322.out, (by repeat (first | (with_reducible first | exact HB.out | apply bA | apply bD | apply bE | refine below_set ?_ GE297.out | refine below_set ?_ GE303.out | refine below_set ?_ GE309.out | refine below_set ?_ GE322.out | refine below_set ?_ GE328.out) | exact HB.out))⟩)
             rintro ⟨v326, gb328⟩ w80 ⟨hS_, h0_, h1_, h2_, h3_, h4_, h5_, h6_, h7_, h8_, h9_, h10_, h11_, h12_, h13_, h14_, h15_, h16_, h17_, h18_, h19_⟩
             have n0_ : Aside0 (Kd.N (Kd.slice 9 Kd.string) 30 w80 w.heap.size (fun k_ => some k_ ≠ (v326 : Value).ownBlock ∧ some k_ ≠ (v307 : Value).ownBlock ∧ some k_ ≠ (v301 : Value).ownBlock ∧ k_ ≠ gb297 ∧ k_ ≠ gb303 ∧ k_ ≠ gb309 ∧ k_ ≠ gb322 ∧ k_ ≠ gb328) v320 t319) := ⟨h0_⟩
             have n1_ : Aside0 (Kd.N (Kd.slice 9 Kd.string) 30 w80 w.heap.size (fun k_ => some k_ ≠ (v320 : Value).ownBlock ∧ some k_ ≠ (v307 : Value).ownBlock ∧ some k_ ≠ (v301 : Value).ownBlock ∧ k_ ≠ gb297 ∧ k_ ≠ gb303 ∧ k_ ≠ gb309 ∧ k_ ≠ gb322 ∧ k_ ≠ gb328) v326 t325) := ⟨h1_⟩
             have n2_ : Aside0 (Kd.N (Kd.slice 9 Kd.string) 30 w80 w.heap.size (fun k_ => some k_ ≠ (v320 : Value).ownBlock ∧ some k_ ≠ (v326 : Value).ownBlock ∧ some k_ ≠ (v301 : Value).ownBlock ∧ k_ ≠ gb297 ∧ k_ ≠ gb303 ∧ k_ ≠ gb309 ∧ k_ ≠ gb322 ∧ k_ ≠ gb328) v307 t306) := ⟨h2_⟩
             have n3_ : Aside0 (Kd.N (Kd.slice 9 Kd.string) 30 w80 w.heap.size (fun k_ => some k_ ≠ (v320 : Value).ownBlock ∧ some k_ ≠ (v326 : Value).ownBlock ∧ some k_ ≠ (v307 : Value).ownBlock ∧ k_ ≠ gb297 ∧ k_ ≠ gb303 ∧ k_ ≠ gb309 ∧ k_ ≠ gb322 ∧ k_ ≠ gb328) v301 t300) := ⟨h3_⟩
             have n4_ : Aside0 (w80.heap[gb297]? = some (.cells #[.string t294, .bool t295] 34 (0, 0))) := ⟨h4_⟩
             have n5_ : Aside0 (w80.heap[gb303]? = some (.cells #[.string t298, .bool t299] 34 (0, 0))) := ⟨h5_⟩
             have n6_ : Aside0 (w80.heap[gb309]? = some (.cells #[.string t304, .bool t305] 34 (0, 0))) := ⟨h6_⟩
             have n7_ : Aside0 (w80.heap[gb322]? = some (.cells #[.string t317, .bool t318] 34 (0, 0))) := ⟨h7_⟩
             have n8_ : Aside0 (w80.heap[gb328]? = some (.cells #[.string (⟨#[]⟩ : ByteArray), .bool false] 34 (0, 0))) := ⟨h8_⟩
             have n9_ : Aside0 (w.heap.size ≤ gb328) := ⟨h9_⟩
             have n10_ : Aside0 (w.heap.size ≤ gb328) := ⟨h10_⟩
             have n11_ : Aside0 (gb297 ≠ gb328) := ⟨h11_⟩
             have n12_ : Aside0 (gb328 ≠ gb297) := ⟨h12_⟩
             have n13_ : Aside0 (gb303 ≠ gb328) := ⟨h13_⟩
             have n14_ : Aside0 (gb328 ≠ gb303) := ⟨h14_⟩
             have n15_ : Aside0 (gb309 ≠ gb328) := ⟨h15_⟩
             have n16_ : Aside0 (gb328 ≠ gb309) := ⟨h16_⟩
             have n17_ : Aside0 (gb322 ≠ gb328) := ⟨h17_⟩
             have n18_ : Aside0 (gb328 ≠ gb322) := ⟨h18_⟩
             have n19_ : Aside0 (Below w.heap.size w w80) := ⟨h19_⟩
             clear HO_8
             clear HO_10
             clear HO321
             clear BK297
             clear BK303
             clear BK309
             clear BK322
             clear HB
             clear h0_ h1_ h2_ h3_ h4_ h5_ h6_ h7_ h8_ h9_ h10_ h11_ h12_ h13_ h14_ h15_ h16_ h17_ h18_ h19_
             have HO321 := n0_
             have HO327 := n1_
             have HO_10 := n2_
             have HO_8 := n3_
             have BK297 := n4_
             have BK303 := n5_
             have BK309 := n6_
             have BK322 := n7_
             have BK328 := n8_
             have GW328 := n9_
             have GE328 := n10_
             have NB297_328 := n11_
             have NB328_297 := n12_
             have NB303_328 := n13_
             have NB328_303 := n14_
             have NB309_328 := n15_
             have NB328_309 := n16_
             have NB322_328 := n17_
             have NB328_322 := n18_
             have HB := n19_
             clear n0_ n1_ n2_ n3_ n4_ n5_ n6_ n7_ n8_ n9_ n10_ n11_ n12_ n13_ n14_ n15_ n16_ n17_ n18_ n19_
             have hHeld : w80.cell? ⟨gb322, 0, none⟩ = some (.string t317) ∧ w80.cell? ⟨gb322, 1, none⟩ = some (.bool t318) := hS_
             refine norm_ (a' := ?_) ?_ ?_
             rotate_left
             ·simp only [putAll, Act.put, lA, lZ, lS]
              rfl
             refine one_ (i := 9) (N := none) #[true, true, true, true, true, true, true, true, true, true, false] rfl rfl (one_of HT_.out (by kernel_rfl)) (by decide) (fun K hK => ?_)
             have hs81 : w80.cell? ⟨gb328, 0, none⟩ = some (.string (⟨#[]⟩ : ByteArray)) := (kC BK328.out 0).trans rfl
             have hfs81 := blk_frozen BK328.out 0
             have hns81_0 := NB297_328.out
             have hns81_1 := NB303_328.out
             have hns81_2 := NB309_328.out
             have hns81_3 := NB322_328.out
             have hms81_0 := NB328_297.out
             have hms81_1 := NB328_303.out
             have hms81_2 := NB328_309.out
             have hms81_3 := NB328_322.out
             have hs82 : w80.cell? ⟨gb328, 1, none⟩ = some (.bool false) := (kC BK328.out 1).trans rfl
             have hfs82 := blk_frozen BK328.out 1
             have hns82_0 := NB297_328.out
             have hns82_1 := NB303_328.out
             have hns82_2 := NB309_328.out
             have hns82_3 := NB322_328.out
             have hms82_0 := NB328_297.out
             have hms82_1 := NB328_303.out
             have hms82_2 := NB328_309.out
             have hms82_3 := NB328_322.out
             refine skip_ (w1 := ?_) (by rfl) rfl ?_ ?_
             rotate_left
             ·go_simp
              rfl
             refine hK.out _ _ ⟨((cell_far (p := ⟨gb328, _, none⟩) NB322_328.out _).trans (((cell_far (p := ⟨gb328, _, none⟩) NB322_328.out _).trans (hHeld.1)))), ((cell_far (p := ⟨gb328, _, none⟩) NB322_328.out _).trans (((cell_far (p := ⟨gb328, _, none⟩) NB322_328.out _).trans (hHeld.2))))⟩ (fun hHeld => ?_)
             clear hK K
             refine pure_ (i := 10) (N := some 15) (v := ?_) (a' := ?_) #[true, true, true, true, true, true, true, true, true, true, true] rfl rfl (any_of HT_.out (by kernel_rfl)) (fun _ _ _ h => h) (Or.inl ⟨by rfl, ?_⟩) ?_ ?_
             rotate_left
             ·intro w'
              go_simp
              with_reducible rfl
             rotate_left
             ·simp only [Act.put, lA, lZ, lS, i64_w, i32_w]
              rfl
             refine done_ (done_of HT_.out (by kernel_rfl)) ?_
             try go_wp2_with (first | ((with_reducible refine gate_dst (N := 110) rfl ?_); (try (refine gate_guard (by rfl) ?_; dsimp only)); refine Kd.N_lit (Kd.slice 9 Kd.string) _ 30 ?hg (N' := 110) ?hd (xs := ([] : List (List ByteArray))) (inner := []) (ok := (fun k_ => some k_ ≠ (v301 : Value).ownBlock ∧ some k_ ≠ (v307 : Value).ownBlock ∧ some k_ ≠ (v320 : Value).ownBlock ∧ some k_ ≠ (v326 : Value).ownBlock ∧ k_ ≠ gb297 ∧ k_ ≠ gb303 ∧ k_ ≠ gb309 ∧ k_ ≠ gb322 ∧ k_ ≠ gb328)) (okp := (fun k_ => some k_ ≠ (v301 : Value).ownBlock ∧ some k_ ≠ (v307 : Value).ownBlock ∧ some k_ ≠ (v320 : Value).ownBlock ∧ some k_ ≠ (v326 : Value).ownBlock ∧ k_ ≠ gb297 ∧ k_ ≠ gb303 ∧ k_ ≠ gb309 ∧ k_ ≠ gb322 ∧ k_ ≠ gb328)) ?hr ?hp (fun _ hk => hk) ((show ∀ k_, w80.heap.size ≤ k_ → (fun k_ => some k_ ≠ (v301 : Value).ownBlock ∧ some k_ ≠ (v307 : Value).ownBlock ∧ some k_ ≠ (v320 : Value).ownBlock ∧ some k_ ≠ (v326 : Value).ownBlock ∧ k_ ≠ gb297 ∧ k_ ≠ gb303 ∧ k_ ≠ gb309 ∧ k_ ≠ gb322 ∧ k_ ≠ gb328) k_ from fun k_ hk => ⟨Kd.fresh' (Kd.N_lt HO_8.out) k_ hk, Kd.fresh' (Kd.N_lt HO_10.out) k_ hk, Kd.fresh' (Kd.N_lt HO321.out) k_ hk, Kd.fresh' (Kd.N_lt HO327.out) k_ hk, Kd.freshB BK297.out k_ hk, Kd.freshB BK303.out k_ hk, Kd.freshB BK309.out k_ hk, Kd.freshB BK322.out k_ hk, Kd.freshB BK328.out k_ hk⟩) _ (by first | with_reducible exact Nat.le_refl _ | simp)) (Below.refl _ _) (Nat.le_refl _) (by simp) ?_; (case hd => rfl); (case hg => rfl); (case hr => first | (go_simp; done) | (go_simp; rfl)); (case hp => exact (Reps.none _ _)); intro v330 w83 ho84 hb hg_ hnew_; clear hg_ hnew_; (first | rw [← Ny329.out] at ho84 | (simp only [Int.reduceToNat] at ho84; rw [← Ny329.out] at ho84)); have n0_ := AM (Kd.N_elder' (by (with_reducible repeat (first | apply nA | apply nD | apply nE)); exact (nM (Kd.N_far (p := ⟨gb328, 1, none⟩) (Kd.N_far (p := ⟨gb328, 0, none⟩) (nM HO_8.out (fun k_ hk => (⟨hk, hk.2.2.2.2.2.2.2⟩ : _ ∧ k_ ≠ gb328))) (fun _ hk => hk.2) (.string t323)) (fun _ hk => hk.2) (.bool t324)) (fun _ h_ => h_.1))) (Kd.N_base ho84) hb); have n1_ := AM (Kd.N_elder' (by (with_reducible repeat (first | apply nA | apply nD | apply nE)); exact (nM (Kd.N_far (p := ⟨gb328, 1, none⟩) (Kd.N_far (p := ⟨gb328, 0, none⟩) (nM HO_10.out (fun k_ hk => (⟨hk, hk.2.2.2.2.2.2.2⟩ : _ ∧ k_ ≠ gb328))) (fun _ hk => hk.2) (.string t323)) (fun _ hk => hk.2) (.bool t324)) (fun _ h_ => h_.1))) (Kd.N_base ho84) hb); have n2_ := AM (Kd.N_elder' (by (with_reducible repeat (first | apply nA | apply nD | apply nE)); exact (nM (Kd.N_far (p := ⟨gb328, 1, none⟩) (Kd.N_far (p := ⟨gb328, 0, none⟩) (nM HO321.out (fun k_ hk => (⟨hk, hk.2.2.2.2.2.2.2⟩ : _ ∧ k_ ≠ gb328))) (fun _ hk => hk.2) (.string t323)) (fun _ hk => hk.2) (.bool t324)) (fun _ h_ => h_.1))) (Kd.N_base ho84) hb); have n3_ := AM (Kd.N_elder' (by (with_reducible repeat (first | apply nA | apply nD | apply nE)); exact (nM (Kd.N_far (p := ⟨gb328, 1, none⟩) (Kd.N_far (p := ⟨gb328, 0, none⟩) (nM HO327.out (fun k_ hk => (⟨hk, hk.2.2.2.2.2.2.2⟩ : _ ∧ k_ ≠ gb328))) (fun _ hk => hk.2) (.string t323)) (fun _ hk => hk.2) (.bool t324)) (fun _ h_ => h_.1))) (Kd.N_base ho84) hb); have n4_ := AM (Kd.N_lower ho84 (bZ (by repeat (first | (with_reducible first | exact HB.out | apply bA | apply bD | apply bE | refine below_set ?_ GE297.out | refine below_set ?_ GE303.out | refine below_set ?_ GE309.out | refine below_set ?_ GE322.out | refine below_set ?_ GE328.out) | exact HB.out)))); have n5_ := AM (kB (g := gb297) (o := .cells #[.string t294, .bool t295] 34 (0, 0)) (by (with_reducible repeat (first | refine kD ?_ _ | refine kE ?_ | refine kA ?_ _)); refine blk_far ?_ NB297_328.out _; (with_reducible repeat (first | refine kD ?_ _ | refine kE ?_ | refine kA ?_ _)); refine blk_far ?_ NB297_328.out _; (with_reducible repeat (first | refine kD ?_ _ | refine kE ?_ | refine kA ?_ _)); exact BK297.out) hb); have n6_ := AM (kB (g := gb303) (o := .cells #[.string t298, .bool t299] 34 (0, 0)) (by (with_reducible repeat (first | refine kD ?_ _ | refine kE ?_ | refine kA ?_ _)); refine blk_far ?_ NB303_328.out _; (with_reducible repeat (first | refine kD ?_ _ | refine kE ?_ | refine kA ?_ _)); refine blk_far ?_ NB303_328.out _; (with_reducible repeat (first | refine kD ?_ _ | refine kE ?_ | refine kA ?_ _)); exact BK303.out) hb); have n7_ := AM (kB (g := gb309) (o := .cells #[.string t304, .bool t305] 34 (0, 0)) (by (with_reducible repeat (first | refine kD ?_ _ | refine kE ?_ | refine kA ?_ _)); refine blk_far ?_ NB309_328.out _; (with_reducible repeat (first | refine kD ?_ _ | refine kE ?_ | refine kA ?_ _)); refine blk_far ?_ NB309_328.out _; (with_reducible repeat (first | refine kD ?_ _ | refine kE ?_ | refine kA ?_ _)); exact BK309.out) hb); have n8_ := AM (kB (g := gb322) (o := .cells #[.string t317, .bool t318] 34 (0, 0)) (by (with_reducible repeat (first | refine kD ?_ _ | refine kE ?_ | refine kA ?_ _)); refine blk_far ?_ NB322_328.out _; (with_reducible repeat (first | refine kD ?_ _ | refine kE ?_ | refine kA ?_ _)); refine blk_far ?_ NB322_328.out _; (with_reducible repeat (first | refine kD ?_ _ | refine kE ?_ | refine kA ?_ _)); exact BK322.out) hb); have n9_ := AM (kB (g := gb328) (o := .cells #[.string t323, .bool t324] 34 (0, 0)) (by (with_reducible repeat (first | refine kD ?_ _ | refine kE ?_ | refine kA ?_ _)); refine blk_put (cs := #[.string t323, .bool false]) ?_ 1 _ rfl; (with_reducible repeat (first | refine kD ?_ _ | refine kE ?_ | refine kA ?_ _)); refine blk_put (cs := #[.string (⟨#[]⟩ : ByteArray), .bool false]) ?_ 0 _ rfl; (with_reducible repeat (first | refine kD ?_ _ | refine kE ?_ | refine kA ?_ _)); exact BK328.out) hb); have n10_ := AM (bS (by repeat (first | (with_reducible first | exact HB.out | apply bA | apply bD | apply bE | refine below_set ?_ GE297.out | refine below_set ?_ GE303.out | refine below_set ?_ GE309.out | refine below_set ?_ GE322.out | refine below_set ?_ GE328.out) | exact HB.out)) hb); clear HO_8; clear HO_10; clear HO321; clear HO327; clear BK297; clear BK303; clear BK309; clear BK322; clear BK328; clear HB; have HO_8 := n0_; have HO_10 := n1_; have HO321 := n2_; have HO327 := n3_; have HO331 := n4_; have BK297 := n5_; have BK303 := n6_; have BK309 := n7_; have BK322 := n8_; have BK328 := n9_; have HB := n10_; clear n0_ n1_ n2_ n3_ n4_ n5_ n6_ n7_ n8_ n9_ n10_; clear hb ho84; obtain ⟨Ao86, co86, eo86⟩ := Kd.N_slice HO321.out; subst eo86) | ((with_reducible refine gate_builtin (b := .append) (xs := #[.tmp 110, .tmp 111]) rfl ?_); (try (refine gate_guard (by rfl) ?_; dsimp only)); at_builtin; refine Kd.N_append_rows (Kd.slice 9 Kd.string) (w0 := w) w.heap.size rfl (.tmp 110) (.tmp 111) 35 30 (.slice none 0 0) 24 rfl Tryd.underlying35 info30 rfl (by decide) (by omega) v330 y329 t319 _ _ _ (fun k_ => some k_ ≠ (v301 : Value).ownBlock ∧ some k_ ≠ (v307 : Value).ownBlock ∧ some k_ ≠ (v326 : Value).ownBlock ∧ k_ ≠ gb297 ∧ k_ ≠ gb303 ∧ k_ ≠ gb309 ∧ k_ ≠ gb322 ∧ k_ ≠ gb328) (fun k_ => ((fun k_ => some k_ ≠ (v301 : Value).ownBlock ∧ some k_ ≠ (v307 : Value).ownBlock ∧ some k_ ≠ (v326 : Value).ownBlock ∧ k_ ≠ gb297 ∧ k_ ≠ gb303 ∧ k_ ≠ gb309 ∧ k_ ≠ gb322 ∧ k_ ≠ gb328)) k_ ∧ some k_ ≠ (v330 : Value).ownBlock) rfl rfl ?aO ?aR (fun _ hk => hk) ?aF ?aB ?aS ?aL ?_; (case aR => exact (by skip; exact Kd.N_F (nM (ok' := (fun k_ => ((fun k_ => some k_ ≠ (v301 : Value).ownBlock ∧ some k_ ≠ (v307 : Value).ownBlock ∧ some k_ ≠ (v326 : Value).ownBlock ∧ k_ ≠ gb297 ∧ k_ ≠ gb303 ∧ k_ ≠ gb309 ∧ k_ ≠ gb322 ∧ k_ ≠ gb328)) k_ ∧ some k_ ≠ (v330 : Value).ownBlock)) (HO321.out) (fun k_ hk => ⟨⟨hk.1.2.2.1, ⟨hk.1.2.1, ⟨hk.1.1, ⟨hk.1.2.2.2.1, ⟨hk.1.2.2.2.2.1, ⟨hk.1.2.2.2.2.2.1, ⟨hk.1.2.2.2.2.2.2.1, hk.1.2.2.2.2.2.2.2⟩⟩⟩⟩⟩⟩⟩, hk.2⟩)))); (case aB => exact (by repeat (first | (with_reducible first | exact HB.out | apply bA | apply bD | apply bE | refine below_set ?_ GE297.out | refine below_set ?_ GE303.out | refine below_set ?_ GE309.out | refine below_set ?_ GE322.out | refine below_set ?_ GE328.out) | exact HB.out))); (case aF => exact (fun k_ hk => ⟨Kd.fresh' (Kd.N_lt (by (with_reducible repeat (first | apply nA | apply nD | apply nE)); exact HO_8.out)) k_ hk, Kd.fresh' (Kd.N_lt (by (with_reducible repeat (first | apply nA | apply nD | apply nE)); exact HO_10.out)) k_ hk, Kd.fresh' (Kd.N_lt (by (with_reducible repeat (first | apply nA | apply nD | apply nE)); exact HO327.out)) k_ hk, Kd.freshB (g := gb297) (o := .cells #[.string t294, .bool t295] 34 (0, 0)) (by (with_reducible repeat (first | refine kD ?_ _ | refine kE ?_ | refine kA ?_ _)); exact BK297.out) k_ hk, Kd.freshB (g := gb303) (o := .cells #[.string t298, .bool t299] 34 (0, 0)) (by (with_reducible repeat (first | refine kD ?_ _ | refine kE ?_ | refine kA ?_ _)); exact BK303.out) k_ hk, Kd.freshB (g := gb309) (o := .cells #[.string t304, .bool t305] 34 (0, 0)) (by (with_reducible repeat (first | refine kD ?_ _ | refine kE ?_ | refine kA ?_ _)); exact BK309.out) k_ hk, Kd.freshB (g := gb322) (o := .cells #[.string t317, .bool t318] 34 (0, 0)) (by (with_reducible repeat (first | refine kD ?_ _ | refine kE ?_ | refine kA ?_ _)); exact BK322.out) k_ hk, Kd.freshB (g := gb328) (o := .cells #[.string t323, .bool t324] 34 (0, 0)) (by (with_reducible repeat (first | refine kD ?_ _ | refine kE ?_ | refine kA ?_ _)); exact BK328.out) k_ hk⟩)); (case aO => exact (by (with_reducible repeat (first | apply nA | apply nD | apply nE)); exact nM HO331.out (fun _ hk => ⟨hk.1, ⟨hk.2.1, ⟨hk.2.2.2.1, ⟨hk.2.2.2.2.1, ⟨hk.2.2.2.2.2.1, ⟨hk.2.2.2.2.2.2.1, ⟨hk.2.2.2.2.2.2.2.1, hk.2.2.2.2.2.2.2.2⟩⟩⟩⟩⟩⟩⟩))); (case aS => exact (bZ (by repeat (first | (with_reducible first | exact HB.out | apply bA | apply bD | apply bE | refine below_set ?_ GE297.out | refine below_set ?_ GE303.out | refine below_set ?_ GE309.out | refine below_set ?_ GE322.out | refine below_set ?_ GE328.out) | exact HB.out)))); (case aL => have := LMc67.out; omega); intro v333 w85 ho hb hg hat; rw [← Ny332.out] at ho; have n0_ := AM (Kd.N_afterv (ok := (fun k_ => some k_ ≠ (v307 : Value).ownBlock ∧ some k_ ≠ (.slice Ao86 t319.length co86 : Value).ownBlock ∧ some k_ ≠ (v326 : Value).ownBlock ∧ k_ ≠ gb297 ∧ k_ ≠ gb303 ∧ k_ ≠ gb309 ∧ k_ ≠ gb322 ∧ k_ ≠ gb328)) (by (with_reducible repeat (first | apply nA | apply nD | apply nE)); exact nM HO_8.out (fun _ hk => ⟨⟨hk.1.2.2.1, ⟨hk.1.1, ⟨hk.1.2.1, ⟨hk.1.2.2.2.1, ⟨hk.1.2.2.2.2.1, ⟨hk.1.2.2.2.2.2.1, ⟨hk.1.2.2.2.2.2.2.1, hk.1.2.2.2.2.2.2.2⟩⟩⟩⟩⟩⟩⟩, hk.2⟩)) hg hat); have n1_ := AM (Kd.N_afterv (ok := (fun k_ => some k_ ≠ (v301 : Value).ownBlock ∧ some k_ ≠ (.slice Ao86 t319.length co86 : Value).ownBlock ∧ some k_ ≠ (v326 : Value).ownBlock ∧ k_ ≠ gb297 ∧ k_ ≠ gb303 ∧ k_ ≠ gb309 ∧ k_ ≠ gb322 ∧ k_ ≠ gb328)) (by (with_reducible repeat (first | apply nA | apply nD | apply nE)); exact nM HO_10.out (fun _ hk => ⟨⟨hk.1.2.2.1, ⟨hk.1.1, ⟨hk.1.2.1, ⟨hk.1.2.2.2.1, ⟨hk.1.2.2.2.2.1, ⟨hk.1.2.2.2.2.2.1, ⟨hk.1.2.2.2.2.2.2.1, hk.1.2.2.2.2.2.2.2⟩⟩⟩⟩⟩⟩⟩, hk.2⟩)) hg hat); have n2_ := AM (blk_grown (g := gb297) (o := .cells #[.string t294, .bool t295] 34 (0, 0)) (by (with_reducible repeat (first | refine kD ?_ _ | refine kE ?_ | refine kA ?_ _)); exact BK297.out) hg (Kd.N_ne HO331.out BK297.out (by decide))); have n3_ := AM (blk_grown (g := gb303) (o := .cells #[.string t298, .bool t299] 34 (0, 0)) (by (with_reducible repeat (first | refine kD ?_ _ | refine kE ?_ | refine kA ?_ _)); exact BK303.out) hg (Kd.N_ne HO331.out BK303.out (by decide))); have n4_ := AM (blk_grown (g := gb309) (o := .cells #[.string t304, .bool t305] 34 (0, 0)) (by (with_reducible repeat (first | refine kD ?_ _ | refine kE ?_ | refine kA ?_ _)); exact BK309.out) hg (Kd.N_ne HO331.out BK309.out (by decide))); have n5_ := AM (Kd.N_afterv (ok := (fun k_ => some k_ ≠ (v301 : Value).ownBlock ∧ some k_ ≠ (v307 : Value).ownBlock ∧ some k_ ≠ (v326 : Value).ownBlock ∧ k_ ≠ gb297 ∧ k_ ≠ gb303 ∧ k_ ≠ gb309 ∧ k_ ≠ gb322 ∧ k_ ≠ gb328)) (by (with_reducible repeat (first | apply nA | apply nD | apply nE)); exact nM HO321.out (fun _ hk => ⟨⟨hk.1.2.2.1, ⟨hk.1.2.1, ⟨hk.1.1, ⟨hk.1.2.2.2.1, ⟨hk.1.2.2.2.2.1, ⟨hk.1.2.2.2.2.2.1, ⟨hk.1.2.2.2.2.2.2.1, hk.1.2.2.2.2.2.2.2⟩⟩⟩⟩⟩⟩⟩, hk.2⟩)) hg hat); have n6_ := AM (blk_grown (g := gb322) (o := .cells #[.string t317, .bool t318] 34 (0, 0)) (by (with_reducible repeat (first | refine kD ?_ _ | refine kE ?_ | refine kA ?_ _)); exact BK322.out) hg (Kd.N_ne HO331.out BK322.out (by decide))); have n7_ := AM (Kd.N_afterv (ok := (fun k_ => some k_ ≠ (v301 : Value).ownBlock ∧ some k_ ≠ (v307 : Value).ownBlock ∧ some k_ ≠ (.slice Ao86 t319.length co86 : Value).ownBlock ∧ k_ ≠ gb297 ∧ k_ ≠ gb303 ∧ k_ ≠ gb309 ∧ k_ ≠ gb322 ∧ k_ ≠ gb328)) (by (with_reducible repeat (first | apply nA | apply nD | apply nE)); exact nM HO327.out (fun _ hk => ⟨⟨hk.1.2.2.1, ⟨hk.1.2.1, ⟨hk.1.1, ⟨hk.1.2.2.2.1, ⟨hk.1.2.2.2.2.1, ⟨hk.1.2.2.2.2.2.1, ⟨hk.1.2.2.2.2.2.2.1, hk.1.2.2.2.2.2.2.2⟩⟩⟩⟩⟩⟩⟩, hk.2⟩)) hg hat); have n8_ := AM (blk_grown (g := gb328) (o := .cells #[.string t323, .bool t324] 34 (0, 0)) (by (with_reducible repeat (first | refine kD ?_ _ | refine kE ?_ | refine kA ?_ _)); exact BK328.out) hg (Kd.N_ne HO331.out BK328.out (by decide))); have n9_ := AM (hb); have n10_ := AM (ho); clear HO_8; clear HO_10; clear BK297; clear BK303; clear BK309; clear HO321; clear BK322; clear HO327; clear BK328; clear HB; clear HO331; have HO_8 := n0_; have HO_10 := n1_; have BK297 := n2_; have BK303 := n3_; have BK309 := n4_; have HO321 := n5_; have BK322 := n6_; have HO327 := n7_; have BK328 := n8_; have HB := n9_; have HO334 := n10_; clear n0_ n1_ n2_ n3_ n4_ n5_ n6_ n7_ n8_ n9_ n10_; clear ho hb hg hat; obtain ⟨Ao88, co88, eo88⟩ := Kd.N_slice HO327.out; subst eo88) | ((with_reducible refine gate_builtin (b := .append) (xs := #[.tmp 112, .tmp 113]) rfl ?_); (try (refine gate_guard (by rfl) ?_; dsimp only)); at_builtin; refine Kd.N_append_rows (Kd.slice 9 Kd.string) (w0 := w) w.heap.size rfl (.tmp 112) (.tmp 113) 35 30 (.slice none 0 0) 24 rfl Tryd.underlying35 info30 rfl (by decide) (by omega) v333 y332 t325 _ _ _ (fun k_ => some k_ ≠ (v301 : Value).ownBlock ∧ some k_ ≠ (v307 : Value).ownBlock ∧ k_ ≠ gb297 ∧ k_ ≠ gb303 ∧ k_ ≠ gb309 ∧ k_ ≠ gb322 ∧ k_ ≠ gb328) (fun k_ => ((fun k_ => some k_ ≠ (v301 : Value).ownBlock ∧ some k_ ≠ (v307 : Value).ownBlock ∧ k_ ≠ gb297 ∧ k_ ≠ gb303 ∧ k_ ≠ gb309 ∧ k_ ≠ gb322 ∧ k_ ≠ gb328)) k_ ∧ some k_ ≠ (v333 : Value).ownBlock) rfl rfl ?aO ?aR (fun _ hk => hk) ?aF ?aB ?aS ?aL ?_; (case aR => exact (by skip; exact Kd.N_F (nM (ok' := (fun k_ => ((fun k_ => some k_ ≠ (v301 : Value).ownBlock ∧ some k_ ≠ (v307 : Value).ownBlock ∧ k_ ≠ gb297 ∧ k_ ≠ gb303 ∧ k_ ≠ gb309 ∧ k_ ≠ gb322 ∧ k_ ≠ gb328)) k_ ∧ some k_ ≠ (v333 : Value).ownBlock)) (HO327.out) (fun k_ hk => ⟨⟨hk.1.1, ⟨hk.1.2.1, ⟨hk.1.2.2.2.1, ⟨hk.1.2.2.2.2.1, ⟨hk.1.2.2.2.2.2.1, ⟨hk.1.2.2.2.2.2.2.1, hk.1.2.2.2.2.2.2.2⟩⟩⟩⟩⟩⟩, hk.2⟩)))); (case aB => exact (by repeat (first | (with_reducible first | exact HB.out | apply bA | apply bD | apply bE | refine below_set ?_ GE297.out | refine below_set ?_ GE303.out | refine below_set ?_ GE309.out | refine below_set ?_ GE322.out | refine below_set ?_ GE328.out) | exact HB.out))); (case aF => exact (fun k_ hk => ⟨Kd.fresh' (Kd.N_lt (by (with_reducible repeat (first | apply nA | apply nD | apply nE)); exact HO_8.out)) k_ hk, Kd.fresh' (Kd.N_lt (by (with_reducible repeat (first | apply nA | apply nD | apply nE)); exact HO_10.out)) k_ hk, Kd.freshB (g := gb297) (o := .cells #[.string t294, .bool t295] 34 (0, 0)) (by (with_reducible repeat (first | refine kD ?_ _ | refine kE ?_ | refine kA ?_ _)); exact BK297.out) k_ hk, Kd.freshB (g := gb303) (o := .cells #[.string t298, .bool t299] 34 (0, 0)) (by (with_reducible repeat (first | refine kD ?_ _ | refine kE ?_ | refine kA ?_ _)); exact BK303.out) k_ hk, Kd.freshB (g := gb309) (o := .cells #[.string t304, .bool t305] 34 (0, 0)) (by (with_reducible repeat (first | refine kD ?_ _ | refine kE ?_ | refine kA ?_ _)); exact BK309.out) k_ hk, Kd.freshB (g := gb322) (o := .cells #[.string t317, .bool t318] 34 (0, 0)) (by (with_reducible repeat (first | refine kD ?_ _ | refine kE ?_ | refine kA ?_ _)); exact BK322.out) k_ hk, Kd.freshB (g := gb328) (o := .cells #[.string t323, .bool t324] 34 (0, 0)) (by (with_reducible repeat (first | refine kD ?_ _ | refine kE ?_ | refine kA ?_ _)); exact BK328.out) k_ hk⟩)); (case aO => exact (by (with_reducible repeat (first | apply nA | apply nD | apply nE)); exact nM HO334.out (fun _ hk => ⟨hk.1, ⟨hk.2.1, ⟨hk.2.2.2.1, ⟨hk.2.2.2.2.1, ⟨hk.2.2.2.2.2.1, ⟨hk.2.2.2.2.2.2.1, hk.2.2.2.2.2.2.2⟩⟩⟩⟩⟩⟩))); (case aS => exact (bZ (by repeat (first | (with_reducible first | exact HB.out | apply bA | apply bD | apply bE | refine below_set ?_ GE297.out | refine below_set ?_ GE303.out | refine below_set ?_ GE309.out | refine below_set ?_ GE322.out | refine below_set ?_ GE328.out) | exact HB.out)))); (case aL => have := LMc68.out; omega); intro v336 w87 ho hb hg hat; rw [← Ny335.out] at ho; have n0_ := AM (Kd.N_afterv (ok := (fun k_ => some k_ ≠ (v307 : Value).ownBlock ∧ some k_ ≠ (.slice Ao86 t319.length co86 : Value).ownBlock ∧ some k_ ≠ (.slice Ao88 t325.length co88 : Value).ownBlock ∧ k_ ≠ gb297 ∧ k_ ≠ gb303 ∧ k_ ≠ gb309 ∧ k_ ≠ gb322 ∧ k_ ≠ gb328)) (by (with_reducible repeat (first | apply nA | apply nD | apply nE)); exact HO_8.out) hg hat); have n1_ := AM (Kd.N_afterv (ok := (fun k_ => some k_ ≠ (v301 : Value).ownBlock ∧ some k_ ≠ (.slice Ao86 t319.length co86 : Value).ownBlock ∧ some k_ ≠ (.slice Ao88 t325.length co88 : Value).ownBlock ∧ k_ ≠ gb297 ∧ k_ ≠ gb303 ∧ k_ ≠ gb309 ∧ k_ ≠ gb322 ∧ k_ ≠ gb328)) (by (with_reducible repeat (first | apply nA | apply nD | apply nE)); exact HO_10.out) hg hat); have n2_ := AM (blk_grown (g := gb297) (o := .cells #[.string t294, .bool t295] 34 (0, 0)) (by (with_reducible repeat (first | refine kD ?_ _ | refine kE ?_ | refine kA ?_ _)); exact BK297.out) hg (Kd.N_ne HO334.out BK297.out (by decide))); have n3_ := AM (blk_grown (g := gb303) (o := .cells #[.string t298, .bool t299] 34 (0, 0)) (by (with_reducible repeat (first | refine kD ?_ _ | refine kE ?_ | refine kA ?_ _)); exact BK303.out) hg (Kd.N_ne HO334.out BK303.out (by decide))); have n4_ := AM (blk_grown (g := gb309) (o := .cells #[.string t304, .bool t305] 34 (0, 0)) (by (with_reducible repeat (first | refine kD ?_ _ | refine kE ?_ | refine kA ?_ _)); exact BK309.out) hg (Kd.N_ne HO334.out BK309.out (by decide))); have n5_ := AM (Kd.N_afterv (ok := (fun k_ => some k_ ≠ (v301 : Value).ownBlock ∧ some k_ ≠ (v307 : Value).ownBlock ∧ some k_ ≠ (.slice Ao88 t325.length co88 : Value).ownBlock ∧ k_ ≠ gb297 ∧ k_ ≠ gb303 ∧ k_ ≠ gb309 ∧ k_ ≠ gb322 ∧ k_ ≠ gb328)) (by (with_reducible repeat (first | apply nA | apply nD | apply nE)); exact HO321.out) hg hat); have n6_ := AM (blk_grown (g := gb322) (o := .cells #[.string t317, .bool t318] 34 (0, 0)) (by (with_reducible repeat (first | refine kD ?_ _ | refine kE ?_ | refine kA ?_ _)); exact BK322.out) hg (Kd.N_ne HO334.out BK322.out (by decide))); have n7_ := AM (Kd.N_afterv (ok := (fun k_ => some k_ ≠ (v301 : Value).ownBlock ∧ some k_ ≠ (v307 : Value).ownBlock ∧ some k_ ≠ (.slice Ao86 t319.length co86 : Value).ownBlock ∧ k_ ≠ gb297 ∧ k_ ≠ gb303 ∧ k_ ≠ gb309 ∧ k_ ≠ gb322 ∧ k_ ≠ gb328)) (by (with_reducible repeat (first | apply nA | apply nD | apply nE)); exact HO327.out) hg hat); have n8_ := AM (blk_grown (g := gb328) (o := .cells #[.string t323, .bool t324] 34 (0, 0)) (by (with_reducible repeat (first | refine kD ?_ _ | refine kE ?_ | refine kA ?_ _)); exact BK328.out) hg (Kd.N_ne HO334.out BK328.out (by decide))); have n9_ := AM (hb); have n10_ := AM (ho); clear HO_8; clear HO_10; clear BK297; clear BK303; clear BK309; clear HO321; clear BK322; clear HO327; clear BK328; clear HB; clear HO334; have HO_8 := n0_; have HO_10 := n1_; have BK297 := n2_; have BK303 := n3_; have BK309 := n4_; have HO321 := n5_; have BK322 := n6_; have HO327 := n7_; have BK328 := n8_; have HB := n9_; have HO337 := n10_; clear n0_ n1_ n2_ n3_ n4_ n5_ n6_ n7_ n8_ n9_ n10_; clear ho hb hg hat; obtain ⟨Ao89, co89, eo89⟩ := Kd.N_slice HO337.out; subst eo89; obtain ⟨Ao90, co90, eo90⟩ := Kd.N_slice HO_8.out; subst eo90))
             go_loopg [17] kj8 (fun kq v17 w' => ∃ (x17_3 : Int), v17 = .int .i64 x17_3 ∧ Aside0 (laws_FnPipe.l0 kq t300 t306 y335 x17_3 t298 t299 t323 t324 = some r) ∧ Aside0 (kq ≤ kj8) ∧ Aside0 (Kd.N (Kd.slice 9 Kd.string) 30 w' w.heap.size (fun k_ => some k_ ≠ (v307 : Value).ownBlock ∧ some k_ ≠ ((.slice Ao89 y335.length co89) : Value).ownBlock ∧ k_ ≠ gb297 ∧ k_ ≠ gb303 ∧ k_ ≠ gb309 ∧ k_ ≠ gb322 ∧ k_ ≠ gb328) (.slice Ao90 t300.length co90) t300) ∧ Aside0 (Kd.N (Kd.slice 9 Kd.string) 30 w' w.heap.size (fun k_ => some k_ ≠ ((.slice Ao90 t300.length co90) : Value).ownBlock ∧ some k_ ≠ ((.slice Ao89 y335.length co89) : Value).ownBlock ∧ k_ ≠ gb297 ∧ k_ ≠ gb303 ∧ k_ ≠ gb309 ∧ k_ ≠ gb322 ∧ k_ ≠ gb328) v307 t306) ∧ Aside0 (Kd.N (Kd.slice 9 Kd.string) 30 w' w.heap.size (fun k_ => some k_ ≠ ((.slice Ao90 t300.length co90) : Value).ownBlock ∧ some k_ ≠ (v307 : Value).ownBlock ∧ k_ ≠ gb297 ∧ k_ ≠ gb303 ∧ k_ ≠ gb309 ∧ k_ ≠ gb322 ∧ k_ ≠ gb328) (.slice Ao89 y335.length co89) y335) ∧ Aside0 (w'.heap[gb297]? = some (.cells #[.string t294, .bool t295] 34 (0, 0))) ∧ Aside0 (w'.heap[gb303]? = some (.cells #[.string t298, .bool t299] 34 (0, 0))) ∧ Aside0 (w'.heap[gb309]? = some (.cells #[.string t304, .bool t305] 34 (0, 0))) ∧ Aside0 (w'.heap[gb322]? = some (.cells #[.string t317, .bool t318] 34 (0, 0))) ∧ Aside0 (w'.heap[gb328]? = some (.cells #[.string t323, .bool t324] 34 (0, 0))) ∧ Aside0 (Below w.heap.size w w'))
             case atStart => exact ⟨(0), (by first | rfl | (simp; done) | (simp [*]; done)), H', ⟨Nat.le_refl _⟩, ⟨by (with_reducible repeat (first | apply nA | apply nD | apply nE)); exact nM HO_8.out (fun _ hk => ⟨hk.1.1, ⟨hk.2, ⟨hk.1.2.2.2.1, ⟨hk.1.2.2.2.2.1, ⟨hk.1.2.2.2.2.2.1, ⟨hk.1.2.2.2.2.2.2.1, hk.1.2.2.2.2.2.2.2⟩⟩⟩⟩⟩⟩)⟩, ⟨by (with_reducible repeat (first | apply nA | apply nD | apply nE)); exact nM HO_10.out (fun _ hk => ⟨hk.1.1, ⟨hk.2, ⟨hk.1.2.2.2.1, ⟨hk.1.2.2.2.2.1, ⟨hk.1.2.2.2.2.2.1, ⟨hk.1.2.2.2.2.2.2.1, hk.1.2.2.2.2.2.2.2⟩⟩⟩⟩⟩⟩)⟩, ⟨by (with_reducible repeat (first | apply nA | apply nD | apply nE)); exact HO337.out⟩, ⟨by (with_reducible repeat (first | refine kD ?_ _ | refine kE ?_ | refine kA ?_ _)); exact BK297.out⟩, ⟨by (with_reducible repeat (first | refine kD ?_ _ | refine kE ?_ | refine kA ?_ _)); exact BK303.out⟩, ⟨by (with_reducible repeat (first | refine kD ?_ _ | refine kE ?_ | refine kA ?_ _)); exact BK309.out⟩, ⟨by (with_reducible repeat (first | refine kD ?_ _ | refine kE ?_ | refine kA ?_ _)); exact BK322.out⟩, ⟨by (with_reducible repeat (first | refine kD ?_ _ | refine kE ?_ | refine kA ?_ _)); exact BK328.out⟩, ⟨by repeat (first | (with_reducible first | exact HB.out | apply bA | apply bD | apply bE | refine below_set ?_ GE297.out | refine below_set ?_ GE303.out | refine below_set ?_ GE309.out | refine below_set ?_ GE322.out | refine below_set ?_ GE328.out) | exact HB.out)⟩⟩
             case round =>
              clear H'
              try clear c1
              try clear p2
              try clear c6
              try clear c19
              try clear c67
              try clear c68
              obtain ⟨x17_3, rfl, HA, HK3, HO_8, HO_10, HO_16, BK297, BK303, BK309, BK322, BK328, HB⟩ := hrel
              cases gk with
              | zero => exact absurd HA.out (by simp [laws_FnPipe.l0])
              | succ k3 =>
               have H := HA.out
               clear HA
               simp only [laws_FnPipe.l0] at H
               by_cases c91 : x17_3 < (t300.length : Int)
               ·rw [if_pos c91] at H
                have c91b0 : decide (x17_3 < (t300.length : Int)) = true := decide_eq_true c91
                clear c91
                by_cases c92 : 0 ≤ x17_3
                ·rw [if_pos c92] at H
                 have c92b0 : decide (0 ≤ x17_3) = true := decide_eq_true c92
                 clear c92
                 by_cases c93 : x17_3 < (t306.length : Int)
                 ·rw [if_pos c93] at H
                  have c93b0 : decide (x17_3 < (t306.length : Int)) = true := decide_eq_true c93
                  clear c93
                  replace H := Option.bind_eq_some_iff.mp H
                  obtain ⟨t342, A940, H⟩ := H
                  replace H : (if t342 = true then (if x17_3 < (y335.length : Int) then ((laws_qnTexts.f k3 (rd_L2 y335 x17_3) (rd_L2 t300 x17_3)).bind fun t345 => (if t345 = true then ((impl_FrameOk.f k3 (rd_L2 t300 x17_3)).bind fun t347 => (if t347 = true then (laws_FnPipe.l0 k3 t300 t306 y335 (wrap64 (x17_3 + 1)) t298 t299 t323 t324) else (none))) else (none))) else (none)) else (none)) = some r := H
                  have A94 := AM A940
                  clear A940
                  by_cases c95 : t342 = true
                  ·subst c95
                   have H1 : (if x17_3 < (y335.length : Int) then ((laws_qnTexts.f k3 (rd_L2 y335 x17_3) (rd_L2 t300 x17_3)).bind fun t345 => (if t345 = true then ((impl_FrameOk.f k3 (rd_L2 t300 x17_3)).bind fun t347 => (if t347 = true then (laws_FnPipe.l0 k3 t300 t306 y335 (wrap64 (x17_3 + 1)) t298 t299 t323 t324) else (none))) else (none))) else (none)) = some r := by rw [if_pos rfl] at H; exact H
                   clear H
                   have H := H1
                   clear H1
                   by_cases c96 : x17_3 < (y335.length : Int)
                   ·rw [if_pos c96] at H
                    have c96b0 : decide (x17_3 < (y335.length : Int)) = true := decide_eq_true c96
                    clear c96
                    replace H := Option.bind_eq_some_iff.mp H
                    obtain ⟨t345, A970, H⟩ := H
                    replace H : (if t345 = true then ((impl_FrameOk.f k3 (rd_L2 t300 x17_3)).bind fun t347 => (if t347 = true then (laws_FnPipe.l0 k3 t300 t306 y335 (wrap64 (x17_3 + 1)) t298 t299 t323 t324) else (none))) else (none)) = some r := H
                    have A97 := AM A970
                    clear A970
                    by_cases c98 : t345 = true
                    ·subst c98
                     have H1 : ((impl_FrameOk.f k3 (rd_L2 t300 x17_3)).bind fun t347 => (if t347 = true then (laws_FnPipe.l0 k3 t300 t306 y335 (wrap64 (x17_3 + 1)) t298 t299 t323 t324) else (none))) = some r := by rw [if_pos rfl] at H; exact H
                     clear H
                     have H := H1
                     clear H1
                     replace H := Option.bind_eq_some_iff.mp H
                     obtain ⟨t347, A990, H⟩ := H
                     replace H : (if t347 = true then (laws_FnPipe.l0 k3 t300 t306 y335 (wrap64 (x17_3 + 1)) t298 t299 t323 t324) else (none)) = some r := H
                     have A99 := AM A990
                     clear A990
                     by_cases c100 : t347 = true
                     ·subst c100
                      have H1 : (laws_FnPipe.l0 k3 t300 t306 y335 (wrap64 (x17_3 + 1)) t298 t299 t323 t324) = some r := by rw [if_pos rfl] at H; exact H
                      clear H
                      have H := H1
                      clear H1
                      have H' := AM H
                      clear H
                      try go_wp2
                      have n0_ := AM (nE HO_8.out)
                      have n1_ := AM (nE HO_10.out)
                      have n2_ := AM (nE HO_16.out)
                      have n3_ := AM (kE BK297.out)
                      have n4_ := AM (kE BK303.out)
                      have n5_ := AM (kE BK309.out)
                      have n6_ := AM (kE BK322.out)
                      have n7_ := AM (kE BK328.out)
                      have n8_ := AM (bE HB.out)
                      clear HO_8
                      clear HO_10
                      clear HO_16
                      clear BK297
                      clear BK303
                      clear BK309
                      clear BK322
                      clear BK328
                      clear HB
                      have HO_8 := n0_
                      have HO_10 := n1_
                      have HO_16 := n2_
                      have BK297 := n3_
                      have BK303 := n4_
                      have BK309 := n5_
                      have BK322 := n6_
                      have BK328 := n7_
                      have HB := n8_
                      clear n0_ n1_ n2_ n3_ n4_ n5_ n6_ n7_ n8_
                      have p340 : 0 ≤ (x17_3 : Int) := of_decide_eq_true (by first | (with_reducible assumption) | assumption)
                      have q340 : x17_3 < (t300.length : Int) := of_decide_eq_true (by first | (with_reducible assumption) | assumption)
                      obtain ⟨ad340, A340_0, c340_0, e340, hx340_0, hl340_0, hi340_0⟩ := at_L2 (Kd.N_reads' HO_8.out).2.2 x17_3 p340 q340
                      cases e340
                      obtain ⟨ce340, hce340, hMe340, hcc340⟩ := Kd.N_get HO_8.out [] x17_3 p340 (by first | exact q340 | exact of_decide_eq_true (by first | (with_reducible assumption) | assumption) | (have e_ := (Kd.N_reads' HO_8.out).1; omega))
                      obtain ⟨ua340_0, uc340_0, rfl, ul340_0, ge340_0⟩ := Kd.FK_slice_open hMe340
                      have hv340_0 := hcc340 0 _ rfl
                      rw [Nat.add_zero, show ((Kd.slice 9 Kd.string)).sz = 1 from rfl, Nat.mul_one] at hv340_0
                      replace hv340_0 := Option.some.inj (hv340_0.symm.trans hx340_0)
                      injection hv340_0 with hva_ hvn_ hvc_
                      rw [hva_] at ge340_0
                      rw [hvc_] at ul340_0
                      have HL340_0 := AM (show Kd.V Kd.string 9 _ w.heap.size _ _ (rd_L2 t300 x17_3) from Kd.V_mk ul340_0 ge340_0)
                      clear hva_ hvn_ hvc_ ge340_0 ul340_0
                      clear hcc340 hce340
                      have HR340_0 := AM hi340_0
                      have HC340_0 := AM hl340_0
                      clear hi340_0 hl340_0
                      replace p340 := eq_true p340
                      replace q340 := eq_true q340
                      obtain ⟨Ao102, co102, eo102⟩ := Kd.N_slice HO_10.out
                      (first | subst eo102 | (injection eo102 with f1_ f2_ f3_; have f4_ := f1_.symm; have f5_ := f3_.symm; clear f1_ f2_ f3_; subst f4_; subst f5_))
                      have p341 : 0 ≤ (x17_3 : Int) := of_decide_eq_true (by first | (with_reducible assumption) | assumption)
                      have q341 : x17_3 < (t306.length : Int) := of_decide_eq_true (by first | (with_reducible assumption) | assumption)
                      obtain ⟨ad341, A341_0, c341_0, e341, hx341_0, hl341_0, hi341_0⟩ := at_L2 (Kd.N_reads' HO_10.out).2.2 x17_3 p341 q341
                      cases e341
                      obtain ⟨ce341, hce341, hMe341, hcc341⟩ := Kd.N_get HO_10.out [] x17_3 p341 (by first | exact q341 | exact of_decide_eq_true (by first | (with_reducible assumption) | assumption) | (have e_ := (Kd.N_reads' HO_10.out).1; omega))
                      obtain ⟨ua341_0, uc341_0, rfl, ul341_0, ge341_0⟩ := Kd.FK_slice_open hMe341
                      have hv341_0 := hcc341 0 _ rfl
                      rw [Nat.add_zero, show ((Kd.slice 9 Kd.string)).sz = 1 from rfl, Nat.mul_one] at hv341_0
                      replace hv341_0 := Option.some.inj (hv341_0.symm.trans hx341_0)
                      injection hv341_0 with hva_ hvn_ hvc_
                      rw [hva_] at ge341_0
                      rw [hvc_] at ul341_0
                      have HL341_0 := AM (show Kd.V Kd.string 9 _ w.heap.size _ _ (rd_L2 t306 x17_3) from Kd.V_mk ul341_0 ge341_0)
                      clear hva_ hvn_ hvc_ ge341_0 ul341_0
                      clear hcc341 hce341
                      have HR341_0 := AM hi341_0
                      have HC341_0 := AM hl341_0
                      clear hi341_0 hl341_0
                      replace p341 := eq_true p341
                      replace q341 := eq_true q341
                      have p343 : 0 ≤ (x17_3 : Int) := of_decide_eq_true (by first | (with_reducible assumption) | assumption)
                      have q343 : x17_3 < (y335.length : Int) := of_decide_eq_true (by first | (with_reducible assumption) | assumption)
                      obtain ⟨ad343, A343_0, c343_0, e343, hx343_0, hl343_0, hi343_0⟩ := at_L2 (Kd.N_reads' HO_16.out).2.2 x17_3 p343 q343
                      cases e343
                      obtain ⟨ce343, hce343, hMe343, hcc343⟩ := Kd.N_get HO_16.out [] x17_3 p343 (by first | exact q343 | exact of_decide_eq_true (by first | (with_reducible assumption) | assumption) | (have e_ := (Kd.N_reads' HO_16.out).1; omega))
                      obtain ⟨ua343_0, uc343_0, rfl, ul343_0, ge343_0⟩ := Kd.FK_slice_open hMe343
                      have hv343_0 := hcc343 0 _ rfl
                      rw [Nat.add_zero, show ((Kd.slice 9 Kd.string)).sz = 1 from rfl, Nat.mul_one] at hv343_0
                      replace hv343_0 := Option.some.inj (hv343_0.symm.trans hx343_0)
                      injection hv343_0 with hva_ hvn_ hvc_
                      rw [hva_] at ge343_0
                      rw [hvc_] at ul343_0
                      have HL343_0 := AM (show Kd.V Kd.string 9 _ w.heap.size _ _ (rd_L2 y335 x17_3) from Kd.V_mk ul343_0 ge343_0)
                      clear hva_ hvn_ hvc_ ge343_0 ul343_0
                      clear hcc343 hce343
                      have HR343_0 := AM hi343_0
                      have HC343_0 := AM hl343_0
                      clear hi343_0 hl343_0
                      replace p343 := eq_true p343
                      replace q343 := eq_true q343
                      have p344 : 0 ≤ (x17_3 : Int) := of_decide_eq_true (by first | (with_reducible assumption) | assumption)
                      have q344 : x17_3 < (t300.length : Int) := of_decide_eq_true (by first | (with_reducible assumption) | assumption)
                      obtain ⟨ad344, A344_0, c344_0, e344, hx344_0, hl344_0, hi344_0⟩ := at_L2 (Kd.N_reads' HO_8.out).2.2 x17_3 p344 q344
                      obtain rfl : ad340 = ad344 := (by injection e344)
                      obtain ⟨ce344, hce344, hMe344, hcc344⟩ := Kd.N_get HO_8.out [] x17_3 p344 (by first | exact q344 | exact of_decide_eq_true (by first | (with_reducible assumption) | assumption) | (have e_ := (Kd.N_reads' HO_8.out).1; omega))
                      obtain ⟨ua344_0, uc344_0, rfl, ul344_0, ge344_0⟩ := Kd.FK_slice_open hMe344
                      have hv344_0 := hcc344 0 _ rfl
                      rw [Nat.add_zero, show ((Kd.slice 9 Kd.string)).sz = 1 from rfl, Nat.mul_one] at hv344_0
                      replace hv344_0 := Option.some.inj (hv344_0.symm.trans hx344_0)
                      injection hv344_0 with hva_ hvn_ hvc_
                      rw [hva_] at ge344_0
                      rw [hvc_] at ul344_0
                      have HL344_0 := AM (show Kd.V Kd.string 9 _ w.heap.size _ _ (rd_L2 t300 x17_3) from Kd.V_mk ul344_0 ge344_0)
                      clear hva_ hvn_ hvc_ ge344_0 ul344_0
                      clear hcc344 hce344
                      have HR344_0 := AM hi344_0
                      have HC344_0 := AM hl344_0
                      clear hi344_0 hl344_0
                      replace p344 := eq_true p344
                      replace q344 := eq_true q344
                      have ea_ := Option.some.inj (hx340_0.symm.trans hx344_0)
                      injection ea_ with ea_ en_ ec_
                      subst ea_
                      subst ec_
                      clear en_
                      have p346 : 0 ≤ (x17_3 : Int) := of_decide_eq_true (by first | (with_reducible assumption) | assumption)
                      have q346 : x17_3 < (t300.length : Int) := of_decide_eq_true (by first | (with_reducible assumption) | assumption)
                      obtain ⟨ad346, A346_0, c346_0, e346, hx346_0, hl346_0, hi346_0⟩ := at_L2 (Kd.N_reads' HO_8.out).2.2 x17_3 p346 q346
                      obtain rfl : ad340 = ad346 := (by injection e346)
                      obtain ⟨ce346, hce346, hMe346, hcc346⟩ := Kd.N_get HO_8.out [] x17_3 p346 (by first | exact q346 | exact of_decide_eq_true (by first | (with_reducible assumption) | assumption) | (have e_ := (Kd.N_reads' HO_8.out).1; omega))
                      obtain ⟨ua346_0, uc346_0, rfl, ul346_0, ge346_0⟩ := Kd.FK_slice_open hMe346
                      have hv346_0 := hcc346 0 _ rfl
                      rw [Nat.add_zero, show ((Kd.slice 9 Kd.string)).sz = 1 from rfl, Nat.mul_one] at hv346_0
                      replace hv346_0 := Option.some.inj (hv346_0.symm.trans hx346_0)
                      injection hv346_0 with hva_ hvn_ hvc_
                      rw [hva_] at ge346_0
                      rw [hvc_] at ul346_0
                      have HL346_0 := AM (show Kd.V Kd.string 9 _ w.heap.size _ _ (rd_L2 t300 x17_3) from Kd.V_mk ul346_0 ge346_0)
                      clear hva_ hvn_ hvc_ ge346_0 ul346_0
                      clear hcc346 hce346
                      have HR346_0 := AM hi346_0
                      have HC346_0 := AM hl346_0
                      clear hi346_0 hl346_0
                      replace p346 := eq_true p346
                      replace q346 := eq_true q346
                      have ea_ := Option.some.inj (hx340_0.symm.trans hx346_0)
                      injection ea_ with ea_ en_ ec_
                      subst ea_
                      subst ec_
                      clear en_
                      refine start_ (n := 30) (S := fun w' => w'.cell? (ad340.add (x17_3).toNat) = some (.slice A340_0 (rd_L2 t300 x17_3).length c340_0) ∧ w'.cell? (ad341.add (x17_3).toNat) = some (.slice A341_0 (rd_L2 t306 x17_3).length c341_0) ∧ w'.cell? (ad343.add (x17_3).toNat) = some (.slice A343_0 (rd_L2 y335 x17_3).length c343_0) ∧ w'.cell? (ad340.add (x17_3).toNat) = some (.slice A340_0 (rd_L2 t300 x17_3).length c340_0) ∧ w'.cell? (ad340.add (x17_3).toNat) = some (.slice A340_0 (rd_L2 t300 x17_3).length c340_0)) (ds := []) #[false, false, false, false, false, false, false, false, false, false, false, false, false, false, false, false, false, false, false, false, false, false, false, false, false, false, false, false, false, false] (by kernel_rfl) rfl rfl ⟨hx340_0, hx341_0, hx343_0, hx344_0, hx346_0⟩ (fun hHeld => ?_); refine with_tabW laws_FnPipe.tab17 laws_FnPipe.bits17 (fun HT_ HW_ => ?_)
                      generalize wr.drew = w101 at HO_8 HO_10 HO_16 BK297 BK303 BK309 BK322 BK328 HB HL340_0 HL341_0 HL343_0 HL344_0 HL346_0 HR340_0 HR341_0 HR343_0 HR344_0 HR346_0 hx340_0 hx341_0 hx343_0 hx344_0 hx346_0 hHeld ⊢
                      refine pure_ (i := 0) (N := some 126) (v := ?_) (a' := ?_) #[true, false, false, false, false, false, false, false, false, false, false, false, false, false, false, false, false, false, false, false, false, false, false, false, false, false, false, false, false, false] rfl rfl (any_of HT_.out (by kernel_rfl)) (fun _ _ _ h => h) (Or.inl ⟨by rfl, ?_⟩) ?_ ?_
                      rotate_left
                      ·intro w'
                       go_simp
                       with_reducible rfl
                      rotate_left
                      ·simp only [Act.put, lA, lZ, lS, i64_w, i32_w]
                       rfl
                      refine pure_ (i := 1) (N := some 127) (v := ?_) (a' := ?_) #[true, true, false, false, false, false, false, false, false, false, false, false, false, false, false, false, false, false, false, false, false, false, false, false, false, false, false, false, false, false] rfl rfl (any_of HT_.out (by kernel_rfl)) (fun _ _ _ h => h) (Or.inl ⟨by rfl, ?_⟩) ?_ ?_
                      rotate_left
                      ·intro w'
                       go_simp
                       with_reducible rfl
                      rotate_left
                      ·simp only [Act.put, lA, lZ, lS, i64_w, i32_w]
                       rfl
                      refine pure_ (i := 2) (N := some 128) (v := ?_) (a' := ?_) #[true, true, true, false, false, false, false, false, false, false, false, false, false, false, false, false, false, false, false, false, false, false, false, false, false, false, false, false, false, false] rfl rfl (any_of HT_.out (by kernel_rfl)) (fun _ _ _ h => h) (Or.inl ⟨by rfl, ?_⟩) ?_ ?_
                      rotate_left
                      ·intro w'
                       go_simp
                       with_reducible rfl
                      rotate_left
                      ·simp only [Act.put, lA, lZ, lS, i64_w, i32_w]
                       rfl
                      refine pure_ (i := 4) (N := some 130) (v := ?_) (a' := ?_) #[true, true, true, false, true, false, false, false, false, false, false, false, false, false, false, false, false, false, false, false, false, false, false, false, false, false, false, false, false, false] rfl rfl (any_of HT_.out (by kernel_rfl)) (fun _ _ _ h => h) (Or.inl ⟨by rfl, ?_⟩) ?_ ?_
                      rotate_left
                      ·intro w'
                       go_simp
                       with_reducible rfl
                      rotate_left
                      ·simp only [Act.put, lA, lZ, lS, i64_w, i32_w]
                       rfl
                      refine pure_ (i := 5) (N := some 131) (v := ?_) (a' := ?_) #[true, true, true, false, true, true, false, false, false, false, false, false, false, false, false, false, false, false, false, false, false, false, false, false, false, false, false, false, false, false] rfl rfl (any_of HT_.out (by kernel_rfl)) (fun _ _ _ h => h) (Or.inl ⟨by rfl, ?_⟩) ?_ ?_
                      rotate_left
                      ·intro w'
                       go_simp
                       with_reducible rfl
                      rotate_left
                      ·simp only [Act.put, lA, lZ, lS, i64_w, i32_w]
                       rfl
                      refine pure_ (i := 6) (N := some 132) (v := ?_) (a' := ?_) #[true, true, true, false, true, true, true, false, false, false, false, false, false, false, false, false, false, false, false, false, false, false, false, false, false, false, false, false, false, false] rfl rfl (any_of HT_.out (by kernel_rfl)) (fun _ _ _ h => h) (Or.inl ⟨by rfl, ?_⟩) ?_ ?_
                      rotate_left
                      ·intro w'
                       go_simp
                       with_reducible rfl
                      rotate_left
                      ·simp only [Act.put, lA, lZ, lS, i64_w, i32_w]
                       rfl
                      refine take_ (i := 3) (N := some 129) (v := ?_) (a' := ?_) #[true, true, true, true, true, true, true, false, false, false, false, false, false, false, false, false, false, false, false, false, false, false, false, false, false, false, false, false, false, false] rfl rfl (take_ofW HT_.out HW_.out (by kernel_rfl)) (fun _ _ _ h => h) (Or.inl ⟨by rfl, ?_⟩) hHeld ?_ ?_
                      rotate_left
                      ·rintro w' ⟨s0, s1, s2, s3, s4⟩
                       go_simp
                       with_reducible rfl
                      rotate_left
                      ·simp only [Act.put, lA, lZ, lS, i64_w, i32_w]
                       rfl
                      refine take_ (i := 7) (N := some 133) (v := ?_) (a' := ?_) #[true, true, true, true, true, true, true, true, false, false, false, false, false, false, false, false, false, false, false, false, false, false, false, false, false, false, false, false, false, false] rfl rfl (take_ofW HT_.out HW_.out (by kernel_rfl)) (fun _ _ _ h => h) (Or.inl ⟨by rfl, ?_⟩) hHeld ?_ ?_
                      rotate_left
                      ·rintro w' ⟨s0, s1, s2, s3, s4⟩
                       go_simp
                       with_reducible rfl
                      rotate_left
                      ·simp only [Act.put, lA, lZ, lS, i64_w, i32_w]
                       rfl
                      refine one_ (i := 8) (N := some 134) #[true, true, true, true, true, true, true, true, true, false, false, false, false, false, false, false, false, false, false, false, false, false, false, false, false, false, false, false, false, false] rfl rfl (one_of HT_.out (by kernel_rfl)) (by decide) (fun K hK => ?_)
                      refine goes_ Tryd.func20 (by kernel_rfl) rfl #[.slice A340_0 (rd_L2 t300 x17_3).length c340_0, .slice A341_0 (rd_L2 t306 x17_3).length c341_0] (by rfl) rfl rfl (by (try simp only [List.map_toArray, List.map_cons, List.map_nil]); first | done | rfl | (simp only [List.length_drop, List.length_take]; rfl)) ?_
                      with_reducible refine (laws_qnTexts.calls k3 _ _ (rd_L2 t300 x17_3) _ _ (rd_L2 t306 x17_3) true _ ?side1 ?side2 ?side3 ?side4 A94.out).mono ?_
                      (case side1 => repeat (first | exact (by repeat (first | (with_reducible exact HR340_0.out) | (with_reducible refine Kd.C_alloc ?_ _) | (with_reducible refine Kd.C_drewN ?_ _) | (with_reducible refine Kd.C_drew ?_) | exact HR340_0.out)) | (with_reducible refine Kd.C_alloc ?_ _) | (with_reducible refine Kd.C_drewN ?_ _) | (with_reducible refine Kd.C_drew ?_)))
                      (case side2 => exact HC340_0.out)
                      (case side3 => repeat (first | exact (by repeat (first | (with_reducible exact HR341_0.out) | (with_reducible refine Kd.C_alloc ?_ _) | (with_reducible refine Kd.C_drewN ?_ _) | (with_reducible refine Kd.C_drew ?_) | exact HR341_0.out)) | (with_reducible refine Kd.C_alloc ?_ _) | (with_reducible refine Kd.C_drewN ?_ _) | (with_reducible refine Kd.C_drew ?_)))
                      (case side4 => exact HC341_0.out)
                      rintro e w' ⟨rfl, ⟨nd, rfl⟩⟩
                      refine ⟨_, rfl, ?_⟩
                      refine hK.out _ _ ⟨hHeld.1, hHeld.2.1, hHeld.2.2.1, hHeld.2.2.2.1, hHeld.2.2.2.2⟩ (fun hHeld => ?_)
                      clear hK K
                      refine norm_ (a' := ?_) ?_ ?_
                      rotate_left
                      ·show Act.put _ (some 134) _ = _
                       simp only [Act.put, lA, lZ, lS, i64_w, i32_w]
                       rfl
                      refine pure_ (i := 9) (N := some 135) (v := ?_) (a' := ?_) #[true, true, true, true, true, true, true, true, true, true, false, false, false, false, false, false, false, false, false, false, false, false, false, false, false, false, false, false, false, false] rfl rfl (any_of HT_.out (by kernel_rfl)) (fun _ _ _ h => h) (Or.inl ⟨by rfl, ?_⟩) ?_ ?_
                      rotate_left
                      ·intro w'
                       go_simp
                       with_reducible rfl
                      rotate_left
                      ·simp only [Act.put, lA, lZ, lS, i64_w, i32_w]
                       rfl
                      refine pure_ (i := 10) (N := some 136) (v := ?_) (a' := ?_) #[true, true, true, true, true, true, true, true, true, true, true, false, false, false, false, false, false, false, false, false, false, false, false, false, false, false, false, false, false, false] rfl rfl (any_of HT_.out (by kernel_rfl)) (fun _ _ _ h => h) (Or.inl ⟨by rfl, ?_⟩) ?_ ?_
                      rotate_left
                      ·intro w'
                       go_simp
                       with_reducible rfl
                      rotate_left
                      ·simp only [Act.put, lA, lZ, lS, i64_w, i32_w]
                       rfl
                      refine pure_ (i := 11) (N := some 137) (v := ?_) (a' := ?_) #[true, true, true, true, true, true, true, true, true, true, true, true, false, false, false, false, false, false, false, false, false, false, false, false, false, false, false, false, false, false] rfl rfl (any_of HT_.out (by kernel_rfl)) (fun _ _ _ h => h) (Or.inl ⟨by rfl, ?_⟩) ?_ ?_
                      rotate_left
                      ·intro w'
                       go_simp
                       with_reducible rfl
                      rotate_left
                      ·simp only [Act.put, lA, lZ, lS, i64_w, i32_w]
                       rfl
                      refine pure_ (i := 12) (N := some 138) (v := ?_) (a' := ?_) #[true, true, true, true, true, true, true, true, true, true, true, true, true, false, false, false, false, false, false, false, false, false, false, false, false, false, false, false, false, false] rfl rfl (any_of HT_.out (by kernel_rfl)) (fun _ _ _ h => h) (Or.inl ⟨by rfl, ?_⟩) ?_ ?_
                      rotate_left
                      ·intro w'
                       go_simp
                       with_reducible rfl
                      rotate_left
                      ·simp only [Act.put, lA, lZ, lS, i64_w, i32_w]
                       rfl
                      refine pure_ (i := 13) (N := some 139) (v := ?_) (a' := ?_) #[true, true, true, true, true, true, true, true, true, true, true, true, true, true, false, false, false, false, false, false, false, false, false, false, false, false, false, false, false, false] rfl rfl (any_of HT_.out (by kernel_rfl)) (fun _ _ _ h => h) (Or.inl ⟨by rfl, ?_⟩) ?_ ?_
                      rotate_left
                      ·intro w'
                       go_simp
                       with_reducible rfl
                      rotate_left
                      ·simp only [Act.put, lA, lZ, lS, i64_w, i32_w]
                       rfl
                      refine pure_ (i := 15) (N := some 141) (v := ?_) (a' := ?_) #[true, true, true, true, true, true, true, true, true, true, true, true, true, true, false, true, false, false, false, false, false, false, false, false, false, false, false, false, false, false] rfl rfl (any_of HT_.out (by kernel_rfl)) (fun _ _ _ h => h) (Or.inl ⟨by rfl, ?_⟩) ?_ ?_
                      rotate_left
                      ·intro w'
                       go_simp
                       with_reducible rfl
                      rotate_left
                      ·simp only [Act.put, lA, lZ, lS, i64_w, i32_w]
                       rfl
                      refine pure_ (i := 16) (N := some 142) (v := ?_) (a' := ?_) #[true, true, true, true, true, true, true, true, true, true, true, true, true, true, false, true, true, false, false, false, false, false, false, false, false, false, false, false, false, false] rfl rfl (any_of HT_.out (by kernel_rfl)) (fun _ _ _ h => h) (Or.inl ⟨by rfl, ?_⟩) ?_ ?_
                      rotate_left
                      ·intro w'
                       go_simp
                       with_reducible rfl
                      rotate_left
                      ·simp only [Act.put, lA, lZ, lS, i64_w, i32_w]
                       rfl
                      refine pure_ (i := 17) (N := some 143) (v := ?_) (a' := ?_) #[true, true, true, true, true, true, true, true, true, true, true, true, true, true, false, true, true, true, false, false, false, false, false, false, false, false, false, false, false, false] rfl rfl (any_of HT_.out (by kernel_rfl)) (fun _ _ _ h => h) (Or.inl ⟨by rfl, ?_⟩) ?_ ?_
                      rotate_left
                      ·intro w'
                       go_simp
                       with_reducible rfl
                      rotate_left
                      ·simp only [Act.put, lA, lZ, lS, i64_w, i32_w]
                       rfl
                      refine take_ (i := 14) (N := some 140) (v := ?_) (a' := ?_) #[true, true, true, true, true, true, true, true, true, true, true, true, true, true, true, true, true, true, false, false, false, false, false, false, false, false, false, false, false, false] rfl rfl (take_ofW HT_.out HW_.out (by kernel_rfl)) (fun _ _ _ h => h) (Or.inl ⟨by rfl, ?_⟩) hHeld ?_ ?_
                      rotate_left
                      ·rintro w' ⟨s0, s1, s2, s3, s4⟩
                       go_simp
                       with_reducible rfl
                      rotate_left
                      ·simp only [Act.put, lA, lZ, lS, i64_w, i32_w]
                       rfl
                      refine take_ (i := 18) (N := some 144) (v := ?_) (a' := ?_) #[true, true, true, true, true, true, true, true, true, true, true, true, true, true, true, true, true, true, true, false, false, false, false, false, false, false, false, false, false, false] rfl rfl (take_ofW HT_.out HW_.out (by kernel_rfl)) (fun _ _ _ h => h) (Or.inl ⟨by rfl, ?_⟩) hHeld ?_ ?_
                      rotate_left
                      ·rintro w' ⟨s0, s1, s2, s3, s4⟩
                       go_simp
                       with_reducible rfl
                      rotate_left
                      ·simp only [Act.put, lA, lZ, lS, i64_w, i32_w]
                       rfl
                      refine one_ (i := 19) (N := some 145) #[true, true, true, true, true, true, true, true, true, true, true, true, true, true, true, true, true, true, true, true, false, false, false, false, false, false, false, false, false, false] rfl rfl (one_of HT_.out (by kernel_rfl)) (by decide) (fun K hK => ?_)
                      refine goes_ Tryd.func20 (by kernel_rfl) rfl #[.slice A343_0 (rd_L2 y335 x17_3).length c343_0, .slice A340_0 (rd_L2 t300 x17_3).length c340_0] (by rfl) rfl rfl (by (try simp only [List.map_toArray, List.map_cons, List.map_nil]); first | done | rfl | (simp only [List.length_drop, List.length_take]; rfl)) ?_
                      with_reducible refine (laws_qnTexts.calls k3 _ _ (rd_L2 y335 x17_3) _ _ (rd_L2 t300 x17_3) true _ ?side1 ?side2 ?side3 ?side4 A97.out).mono ?_
                      (case side1 => repeat (first | exact (by repeat (first | (with_reducible exact HR343_0.out) | (with_reducible refine Kd.C_alloc ?_ _) | (with_reducible refine Kd.C_drewN ?_ _) | (with_reducible refine Kd.C_drew ?_) | exact HR343_0.out)) | (with_reducible refine Kd.C_alloc ?_ _) | (with_reducible refine Kd.C_drewN ?_ _) | (with_reducible refine Kd.C_drew ?_)))
                      (case side2 => exact HC343_0.out)
                      (case side3 => repeat (first | exact (by repeat (first | (with_reducible exact HR344_0.out) | (with_reducible refine Kd.C_alloc ?_ _) | (with_reducible refine Kd.C_drewN ?_ _) | (with_reducible refine Kd.C_drew ?_) | exact HR344_0.out)) | (with_reducible refine Kd.C_alloc ?_ _) | (with_reducible refine Kd.C_drewN ?_ _) | (with_reducible refine Kd.C_drew ?_)))
                      (case side4 => exact HC344_0.out)
                      rintro e w' ⟨rfl, ⟨nd, rfl⟩⟩
                      refine ⟨_, rfl, ?_⟩
                      refine hK.out _ _ ⟨hHeld.1, hHeld.2.1, hHeld.2.2.1, hHeld.2.2.2.1, hHeld.2.2.2.2⟩ (fun hHeld => ?_)
                      clear hK K
                      refine norm_ (a' := ?_) ?_ ?_
                      rotate_left
                      ·show Act.put _ (some 145) _ = _
                       simp only [Act.put, lA, lZ, lS, i64_w, i32_w]
                       rfl
                      refine pure_ (i := 20) (N := some 146) (v := ?_) (a' := ?_) #[true, true, true, true, true, true, true, true, true, true, true, true, true, true, true, true, true, true, true, true, true, false, false, false, false, false, false, false, false, false] rfl rfl (any_of HT_.out (by kernel_rfl)) (fun _ _ _ h => h) (Or.inl ⟨by rfl, ?_⟩) ?_ ?_
                      rotate_left
                      ·intro w'
                       go_simp
                       with_reducible rfl
                      rotate_left
                      ·simp only [Act.put, lA, lZ, lS, i64_w, i32_w]
                       rfl
                      refine pure_ (i := 21) (N := some 147) (v := ?_) (a' := ?_) #[true, true, true, true, true, true, true, true, true, true, true, true, true, true, true, true, true, true, true, true, true, true, false, false, false, false, false, false, false, false] rfl rfl (any_of HT_.out (by kernel_rfl)) (fun _ _ _ h => h) (Or.inl ⟨by rfl, ?_⟩) ?_ ?_
                      rotate_left
                      ·intro w'
                       go_simp
                       with_reducible rfl
                      rotate_left
                      ·simp only [Act.put, lA, lZ, lS, i64_w, i32_w]
                       rfl
                      refine pure_ (i := 22) (N := some 148) (v := ?_) (a' := ?_) #[true, true, true, true, true, true, true, true, true, true, true, true, true, true, true, true, true, true, true, true, true, true, true, false, false, false, false, false, false, false] rfl rfl (any_of HT_.out (by kernel_rfl)) (fun _ _ _ h => h) (Or.inl ⟨by rfl, ?_⟩) ?_ ?_
                      rotate_left
                      ·intro w'
                       go_simp
                       with_reducible rfl
                      rotate_left
                      ·simp only [Act.put, lA, lZ, lS, i64_w, i32_w]
                       rfl
                      refine pure_ (i := 23) (N := some 149) (v := ?_) (a' := ?_) #[true, true, true, true, true, true, true, true, true, true, true, true, true, true, true, true, true, true, true, true, true, true, true, true, false, false, false, false, false, false] rfl rfl (any_of HT_.out (by kernel_rfl)) (fun _ _ _ h => h) (Or.inl ⟨by rfl, ?_⟩) ?_ ?_
                      rotate_left
                      ·intro w'
                       go_simp
                       with_reducible rfl
                      rotate_left
                      ·simp only [Act.put, lA, lZ, lS, i64_w, i32_w]
                       rfl
                      refine pure_ (i := 24) (N := some 150) (v := ?_) (a' := ?_) #[true, true, true, true, true, true, true, true, true, true, true, true, true, true, true, true, true, true, true, true, true, true, true, true, true, false, false, false, false, false] rfl rfl (any_of HT_.out (by kernel_rfl)) (fun _ _ _ h => h) (Or.inl ⟨by rfl, ?_⟩) ?_ ?_
                      rotate_left
                      ·intro w'
                       go_simp
                       with_reducible rfl
                      rotate_left
                      ·simp only [Act.put, lA, lZ, lS, i64_w, i32_w]
                       rfl
                      refine pure_ (i := 25) (N := some 151) (v := ?_) (a' := ?_) #[true, true, true, true, true, true, true, true, true, true, true, true, true, true, true, true, true, true, true, true, true, true, true, true, true, true, false, false, false, false] rfl rfl (any_of HT_.out (by kernel_rfl)) (fun _ _ _ h => h) (Or.inl ⟨by rfl, ?_⟩) ?_ ?_
                      rotate_left
                      ·intro w'
                       go_simp
                       with_reducible rfl
                      rotate_left
                      ·simp only [Act.put, lA, lZ, lS, i64_w, i32_w]
                       rfl
                      refine take_ (i := 26) (N := some 152) (v := ?_) (a' := ?_) #[true, true, true, true, true, true, true, true, true, true, true, true, true, true, true, true, true, true, true, true, true, true, true, true, true, true, true, false, false, false] rfl rfl (take_ofW HT_.out HW_.out (by kernel_rfl)) (fun _ _ _ h => h) (Or.inl ⟨by rfl, ?_⟩) hHeld ?_ ?_
                      rotate_left
                      ·rintro w' ⟨s0, s1, s2, s3, s4⟩
                       go_simp
                       with_reducible rfl
                      rotate_left
                      ·simp only [Act.put, lA, lZ, lS, i64_w, i32_w]
                       rfl
                      refine one_ (i := 27) (N := some 153) #[true, true, true, true, true, true, true, true, true, true, true, true, true, true, true, true, true, true, true, true, true, true, true, true, true, true, true, true, false, false] rfl rfl (one_of HT_.out (by kernel_rfl)) (by decide) (fun K hK => ?_)
                      refine goes_ Tryd.func38 (by kernel_rfl) rfl #[.slice A340_0 (rd_L2 t300 x17_3).length c340_0] (by rfl) rfl rfl (by (try simp only [List.map_toArray, List.map_cons, List.map_nil]); first | done | rfl | (simp only [List.length_drop, List.length_take]; rfl)) ?_
                      with_reducible refine (impl_FrameOk.calls k3 _ _ (rd_L2 t300 x17_3) true _ ?side1 ?side2 A99.out).mono ?_
                      (case side1 => repeat (first | exact (by repeat (first | (with_reducible exact HR346_0.out) | (with_reducible refine Kd.C_alloc ?_ _) | (with_reducible refine Kd.C_drewN ?_ _) | (with_reducible refine Kd.C_drew ?_) | exact HR346_0.out)) | (with_reducible refine Kd.C_alloc ?_ _) | (with_reducible refine Kd.C_drewN ?_ _) | (with_reducible refine Kd.C_drew ?_)))
                      (case side2 => exact HC346_0.out)
                      rintro e w' ⟨rfl, ⟨nd, rfl⟩⟩
                      refine ⟨_, rfl, ?_⟩
                      refine hK.out _ _ ⟨hHeld.1, hHeld.2.1, hHeld.2.2.1, hHeld.2.2.2.1, hHeld.2.2.2.2⟩ (fun hHeld => ?_)
                      clear hK K
                      refine norm_ (a' := ?_) ?_ ?_
                      rotate_left
                      ·show Act.put _ (some 153) _ = _
                       simp only [Act.put, lA, lZ, lS, i64_w, i32_w]
                       rfl
                      refine pure_ (i := 28) (N := some 154) (v := ?_) (a' := ?_) #[true, true, true, true, true, true, true, true, true, true, true, true, true, true, true, true, true, true, true, true, true, true, true, true, true, true, true, true, true, false] rfl rfl (any_of HT_.out (by kernel_rfl)) (fun _ _ _ h => h) (Or.inl ⟨by rfl, ?_⟩) ?_ ?_
                      rotate_left
                      ·intro w'
                       go_simp
                       with_reducible rfl
                      rotate_left
                      ·simp only [Act.put, lA, lZ, lS, i64_w, i32_w]
                       rfl
                      refine pure_ (i := 29) (N := some 155) (v := ?_) (a' := ?_) #[true, true, true, true, true, true, true, true, true, true, true, true, true, true, true, true, true, true, true, true, true, true, true, true, true, true, true, true, true, true] rfl rfl (any_of HT_.out (by kernel_rfl)) (fun _ _ _ h => h) (Or.inl ⟨by rfl, ?_⟩) ?_ ?_
                      rotate_left
                      ·intro w'
                       go_simp
                       with_reducible rfl
                      rotate_left
                      ·simp only [Act.put, lA, lZ, lS, i64_w, i32_w]
                       rfl
                      refine done_ (done_of HT_.out (by kernel_rfl)) ?_
                      try go_wp2
                      go_roundg k3
                      case measure => have := HJ2.out; have := HJ8.out; have := HK3.out; omega
                      case rel => exact ⟨(wrap64 (x17_3 + 1)), (by first | rfl | (simp; done) | (simp [*]; done)), H', ⟨by have := HJ2.out; have := HJ8.out; have := HK3.out; omega⟩, ⟨by (with_reducible repeat (first | apply nA | apply nD | apply nE)); exact HO_8.out⟩, ⟨by (with_reducible repeat (first | apply nA | apply nD | apply nE)); exact HO_10.out⟩, ⟨by (with_reducible repeat (first | apply nA | apply nD | apply nE)); exact HO_16.out⟩, ⟨by (with_reducible repeat (first | refine kD ?_ _ | refine kE ?_ | refine kA ?_ _)); exact BK297.out⟩, ⟨by (with_reducible repeat (first | refine kD ?_ _ | refine kE ?_ | refine kA ?_ _)); exact BK303.out⟩, ⟨by (with_reducible repeat (first | refine kD ?_ _ | refine kE ?_ | refine kA ?_ _)); exact BK309.out⟩, ⟨by (with_reducible repeat (first | refine kD ?_ _ | refine kE ?_ | refine kA ?_ _)); exact BK322.out⟩, ⟨by (with_reducible repeat (first | refine kD ?_ _ | refine kE ?_ | refine kA ?_ _)); exact BK328.out⟩, ⟨by repeat (first | (with_reducible first | exact HB.out | apply bA | apply bD | apply bE | refine below_set ?_ GE297.out | refine below_set ?_ GE303.out | refine below_set ?_ GE309.out | refine below_set ?_ GE322.out | refine below_set ?_ GE328.out) | exact HB.out)⟩⟩
                     ·replace c100 := Bool.eq_false_iff.mpr c100
                      subst c100
                      have H1 : (none) = some r := by rw [if_neg (show ¬ (false = true) by decide)] at H; exact H
                      clear H
                      have H := H1
                      clear H1
                      exact absurd H (by simp)
                    ·replace c98 := Bool.eq_false_iff.mpr c98
                     subst c98
                     have H1 : (none) = some r := by rw [if_neg (show ¬ (false = true) by decide)] at H; exact H
                     clear H
                     have H := H1
                     clear H1
                     exact absurd H (by simp)
                   ·rw [if_neg c96] at H
                    exact absurd H (by simp)
                  ·replace c95 := Bool.eq_false_iff.mpr c95
                   subst c95
                   have H1 : (none) = some r := by rw [if_neg (show ¬ (false = true) by decide)] at H; exact H
                   clear H
                   have H := H1
                   clear H1
                   exact absurd H (by simp)
                 ·rw [if_neg c93] at H
                  exact absurd H (by simp)
                ·rw [if_neg c92] at H
                 exact absurd H (by simp)
               ·rw [if_neg c91] at H
                have c91b0 : decide (x17_3 < (t300.length : Int)) = false := decide_eq_false c91
                clear c91
                replace H := Option.bind_eq_some_iff.mp H
                obtain ⟨t338, A1030, H⟩ := H
                replace H : (if t338 = true then ((laws_qnPipe.f t323 t324 t298 t299).bind fun t339 => (some t339)) else (none)) = some r := H
                have A103 := AM A1030
                clear A1030
                by_cases c104 : t338 = true
                ·subst c104
                 have H1 : ((laws_qnPipe.f t323 t324 t298 t299).bind fun t339 => (some t339)) = some r := by rw [if_pos rfl] at H; exact H
                 clear H
                 have H := H1
                 clear H1
                 replace H := Option.bind_eq_some_iff.mp H
                 obtain ⟨t339, A1050, H⟩ := H
                 replace H : (some t339) = some r := H
                 have A105 := AM A1050
                 clear A1050
                 obtain rfl := Option.some.inj H
                 have hnb106 := NB303_297.out
                 have hnc106 := NB297_303.out
                 have hnb107 := NB303_309.out
                 have hnc107 := NB309_303.out
                 have hnb108 := NB303_322.out
                 have hnc108 := NB322_303.out
                 have hnb109 := NB303_328.out
                 have hnc109 := NB328_303.out
                 have hcz110_0 : wr.cell? ⟨gb303, 0, none⟩ = some (.string t298) := (kC BK303.out 0).trans rfl
                 have hcz110_1 : wr.cell? ⟨gb303, 1, none⟩ = some (.bool t299) := (kC BK303.out 1).trans rfl
                 have hfz110_0 := blk_frozen BK303.out 0
                 have hfz110_1 := blk_frozen BK303.out 1
                 go_wp2_with (first | ((with_reducible refine gate_callee (f := 37) rfl ?_); refine goesL_ (some 157) rfl rfl Tryd.func37 (by kernel_rfl) rfl #[.agg #[.string t298, .bool t299]] rfl (by (try simp only [List.map_toArray, List.map_cons, List.map_nil]); first | done | rfl | (simp only [List.length_drop, List.length_take]; rfl)) ?_; (with_reducible refine (impl_PipeOk.calls k3 t298 t299 true _ A103.out).mono ?_); rintro e w111 ⟨rfl, hb⟩; refine ⟨_, rfl, ?_⟩; have n0_ := AM (nB (by (with_reducible repeat (first | apply nA | apply nD | apply nE)); exact HO_8.out) hb); have n1_ := AM (nB (by (with_reducible repeat (first | apply nA | apply nD | apply nE)); exact HO_10.out) hb); have n2_ := AM (nB (by (with_reducible repeat (first | apply nA | apply nD | apply nE)); exact HO_16.out) hb); have n3_ := AM (kB (g := gb297) (o := .cells #[.string t294, .bool t295] 34 (0, 0)) (by (with_reducible repeat (first | refine kD ?_ _ | refine kE ?_ | refine kA ?_ _)); exact BK297.out) hb); have n4_ := AM (kB (g := gb303) (o := .cells #[.string t298, .bool t299] 34 (0, 0)) (by (with_reducible repeat (first | refine kD ?_ _ | refine kE ?_ | refine kA ?_ _)); exact BK303.out) hb); have n5_ := AM (kB (g := gb309) (o := .cells #[.string t304, .bool t305] 34 (0, 0)) (by (with_reducible repeat (first | refine kD ?_ _ | refine kE ?_ | refine kA ?_ _)); exact BK309.out) hb); have n6_ := AM (kB (g := gb322) (o := .cells #[.string t317, .bool t318] 34 (0, 0)) (by (with_reducible repeat (first | refine kD ?_ _ | refine kE ?_ | refine kA ?_ _)); exact BK322.out) hb); have n7_ := AM (kB (g := gb328) (o := .cells #[.string t323, .bool t324] 34 (0, 0)) (by (with_reducible repeat (first | refine kD ?_ _ | refine kE ?_ | refine kA ?_ _)); exact BK328.out) hb); have n8_ := AM (bS (by repeat (first | (with_reducible first | exact HB.out | apply bA | apply bD | apply bE | refine below_set ?_ GE297.out | refine below_set ?_ GE303.out | refine below_set ?_ GE309.out | refine below_set ?_ GE322.out | refine below_set ?_ GE328.out) | exact HB.out)) hb); clear HO_8; clear HO_10; clear HO_16; clear BK297; clear BK303; clear BK309; clear BK322; clear BK328; clear HB; have HO_8 := n0_; have HO_10 := n1_; have HO_16 := n2_; have BK297 := n3_; have BK303 := n4_; have BK309 := n5_; have BK322 := n6_; have BK328 := n7_; have HB := n8_; clear n0_ n1_ n2_ n3_ n4_ n5_ n6_ n7_ n8_; (try clear hb); (try clear hb2); (try clear hk); (try clear hi); have hnb112 := NB328_297.out; have hnc112 := NB297_328.out; have hnb113 := NB328_309.out; have hnc113 := NB309_328.out; have hnb114 := NB328_322.out; have hnc114 := NB322_328.out; have hcz115_0 : w111.cell? ⟨gb328, 0, none⟩ = some (.string t323) := (kC BK328.out 0).trans rfl; have hcz115_1 : w111.cell? ⟨gb328, 1, none⟩ = some (.bool t324) := (kC BK328.out 1).trans rfl; have hfz115_0 := blk_frozen BK328.out 0; have hfz115_1 := blk_frozen BK328.out 1; have hcz116_0 : w111.cell? ⟨gb303, 0, none⟩ = some (.string t298) := (kC BK303.out 0).trans rfl; have hcz116_1 : w111.cell? ⟨gb303, 1, none⟩ = some (.bool t299) := (kC BK303.out 1).trans rfl; have hfz116_0 := blk_frozen BK303.out 0; have hfz116_1 := blk_frozen BK303.out 1) | (go_at_call 35; (with_reducible refine (laws_qnPipe.calls t323 t324 t298 t299 t339 _ A105.out).mono ?_); rintro e w117 ⟨rfl, hb⟩; have n0_ := AM (nB (by (with_reducible repeat (first | apply nA | apply nD | apply nE)); exact HO_8.out) hb); have n1_ := AM (nB (by (with_reducible repeat (first | apply nA | apply nD | apply nE)); exact HO_10.out) hb); have n2_ := AM (nB (by (with_reducible repeat (first | apply nA | apply nD | apply nE)); exact HO_16.out) hb); have n3_ := AM (kB (g := gb297) (o := .cells #[.string t294, .bool t295] 34 (0, 0)) (by (with_reducible repeat (first | refine kD ?_ _ | refine kE ?_ | refine kA ?_ _)); exact BK297.out) hb); have n4_ := AM (kB (g := gb303) (o := .cells #[.string t298, .bool t299] 34 (0, 0)) (by (with_reducible repeat (first | refine kD ?_ _ | refine kE ?_ | refine kA ?_ _)); exact BK303.out) hb); have n5_ := AM (kB (g := gb309) (o := .cells #[.string t304, .bool t305] 34 (0, 0)) (by (with_reducible repeat (first | refine kD ?_ _ | refine kE ?_ | refine kA ?_ _)); exact BK309.out) hb); have n6_ := AM (kB (g := gb322) (o := .cells #[.string t317, .bool t318] 34 (0, 0)) (by (with_reducible repeat (first | refine kD ?_ _ | refine kE ?_ | refine kA ?_ _)); exact BK322.out) hb); have n7_ := AM (kB (g := gb328) (o := .cells #[.string t323, .bool t324] 34 (0, 0)) (by (with_reducible repeat (first | refine kD ?_ _ | refine kE ?_ | refine kA ?_ _)); exact BK328.out) hb); have n8_ := AM (bS (by repeat (first | (with_reducible first | exact HB.out | apply bA | apply bD | apply bE | refine below_set ?_ GE297.out | refine below_set ?_ GE303.out | refine below_set ?_ GE309.out | refine below_set ?_ GE322.out | refine below_set ?_ GE328.out) | exact HB.out)) hb); clear HO_8; clear HO_10; clear HO_16; clear BK297; clear BK303; clear BK309; clear BK322; clear BK328; clear HB; have HO_8 := n0_; have HO_10 := n1_; have HO_16 := n2_; have BK297 := n3_; have BK303 := n4_; have BK309 := n5_; have BK322 := n6_; have BK328 := n7_; have HB := n8_; clear n0_ n1_ n2_ n3_ n4_ n5_ n6_ n7_ n8_; (try clear hb); (try clear hb2); (try clear hk); (try clear hi)))
                 go_ret
                 exact ⟨by first | rfl | (simp [errW_none, errW_some] <;> rfl) | (simp only [← hji60]; first | rfl | (simp [errW_none, errW_some] <;> rfl)) | (simp [*, errW_none, errW_some] <;> rfl), by repeat (first | (with_reducible first | exact HB.out | apply bA | apply bD | apply bE | refine below_set ?_ GE297.out | refine below_set ?_ GE303.out | refine below_set ?_ GE309.out | refine below_set ?_ GE322.out | refine below_set ?_ GE328.out) | exact HB.out)⟩
                ·replace c104 := Bool.eq_false_iff.mpr c104
                 subst c104
                 have H1 : (none) = some r := by rw [if_neg (show ¬ (false = true) by decide)] at H; exact H
                 clear H
                 have H := H1
                 clear H1
                 exact absurd H (by simp)
            ·rw [if_neg c69] at H
             exact absurd H (by simp)
           ·rw [if_neg c68] at H
            exact absurd H (by simp)
          ·rw [if_neg c67] at H
           exact absurd H (by simp)
         ·rw [if_neg c62] at H
          exact absurd H (by simp)
        ·rw [if_neg c61] at H
         exact absurd H (by simp)

/-- THE ONE PURE STATEMENT of laws_FnPipe: yours. -/
def laws_FnPipe.Pure : Prop := ∀ (l0 : List Int) (l1 : List Int), l0.length ≤ maxLen → l0.length * 1 ≤ 140737488351232 → (∀ x ∈ l0, (Lit.int .u8 x).wf = true) → l1.length ≤ maxLen → l1.length * 1 ≤ 140737488351232 → (∀ x ∈ l1, (Lit.int .u8 x).wf = true) → ∃ k, laws_FnPipe.f k l0 l1 = some true
theorem laws_FnPipe.walk (P : laws_FnPipe.Pure) (a0 : Option Addr) (len0 cap0 : Nat) (z0 : List Int) (a1 : Option Addr) (len1 cap1 : Nat) (z1 : List Int) (w : World) (w0 : (a0 = none ∧ len0 = 0 ∧ cap0 = 0 ∧ z0 = []) ∨ ∃ x, a0 = some x ∧ len0 ≤ cap0 ∧ cap0 ≤ maxLen ∧ z0.length = cap0 ∧ (∀ i, i < z0.length → w.cell? (x.add i) = some (.int .u8 (z0.getD i 0))) ∧ ∀ n ∈ z0, (Lit.int .u8 n).wf = true) (y0 : len0 * 1 ≤ 140737488351232) (w1 : (a1 = none ∧ len1 = 0 ∧ cap1 = 0 ∧ z1 = []) ∨ ∃ x, a1 = some x ∧ len1 ≤ cap1 ∧ cap1 ≤ maxLen ∧ z1.length = cap1 ∧ (∀ i, i < z1.length → w.cell? (x.add i) = some (.int .u8 (z1.getD i 0))) ∧ ∀ n ∈ z1, (Lit.int .u8 n).wf = true) (y1 : len1 * 1 ≤ 140737488351232) :
    Calls Tryd.prog 8 #[.slice a0 len0 cap0, .slice a1 len1 cap1] w fun e w' => e = .returned (.bool true) ∧ Below w.heap.size w w' := by
  obtain ⟨l0, rfl, hr0, hm0, hw0, hc0⟩ := ReadsInt.ofRowC w0
  obtain ⟨l1, rfl, hr1, hm1, hw1, hc1⟩ := ReadsInt.ofRowC w1
  obtain ⟨k, h⟩ := P l0 l1 hm0 y0 hw0 hm1 y1 hw1
  refine (laws_FnPipe.calls k _ _ l0 _ _ l1 true w (Kd.C_of_reads (d := (0 : Int)) (h1 := fun _ => rfl) hr0) hc0 (Kd.C_of_reads (d := (0 : Int)) (h1 := fun _ => rfl) hr1) hc1 h).mono ?_
  rintro e w' ⟨rfl, hd⟩
  exact ⟨rfl, hd⟩

end Go.Proofs.YtfkjjmhbljlbkaaDoor.P
