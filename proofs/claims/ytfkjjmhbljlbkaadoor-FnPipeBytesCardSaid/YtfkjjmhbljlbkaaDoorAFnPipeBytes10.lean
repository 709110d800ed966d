-- Typed by a program of this session (wip/print2.sh, given.py), after the kit's print: functions as plain Lean, and their contracts.
import Derived.Test.YtfkjjmhbljlbkaaDoorAFnPipeBytes0
import Derived.Test.YtfkjjmhbljlbkaaDoorAFnPipeBytes3
import Derived.Test.YtfkjjmhbljlbkaaDoorAFnPipeBytes4
import Derived.Test.YtfkjjmhbljlbkaaDoorAFnPipeBytes6
import Derived.Test.YtfkjjmhbljlbkaaDoorAFnPipeBytes7
import Derived.Test.YtfkjjmhbljlbkaaDoorAFnPipeBytes9
namespace Go.Proofs.YtfkjjmhbljlbkaaDoor.P
open Go.RowKit Go.Proofs.YtfkjjmhbljlbkaaDoorW.PrintWords Go.Proofs.YtfkjjmhbljlbkaaDoorW.PrintLast Go.Proofs.YtfkjjmhbljlbkaaDoorW.PrintMore
attribute [local go_sem] max2_int min2_int max_two min_two max_three min_three max_four min_four   -- for this text's walks alone
set_option linter.unusedVariables false
set_option linter.unusedSimpArgs false

/-! ### laws_FnPipeBytes: function 7 -/
mutual
def laws_FnPipeBytes.j0 : Nat → ByteArray → List (List ByteArray) → List (List ByteArray) → Bool → ByteArray → Bool → ByteArray → Bool → ByteArray → Bool → Option (Bool)
  | 0, _, _, _, _, _, _, _, _, _, _ => none
  | k + 1, x4, x6, x8, x55, x296000, x296001, x302000, x302001, x308000, x308001 => if x55 = true then ((laws_qnPipe.f x302000 x302001 x308000 x308001).bind fun t310 => (if t310 = true then (some ((x6.length : Int) == (x8.length : Int))) else (none))) else (laws_FnPipeBytes.l0 k x4 x6 0 0 x302000 x302001 x296000 x296001)
def laws_FnPipeBytes.l0 : Nat → ByteArray → List (List ByteArray) → Int → Int → ByteArray → Bool → ByteArray → Bool → Option (Bool)
  | 0, _, _, _, _, _, _, _, _ => none
  | k + 1, x4, x6, x9, x11, x302000, x302001, x312000, x312001 => if x11 < (x4.size : Int) then (if 0 ≤ x11 then (if x11 ≤ (wrap64 (x11 + 1)) then (if (wrap64 (x11 + 1)) ≤ (x4.size : Int) then ((impl_PipeFeed.f k x312000 x312001 (x4.extract (x11 : Int).toNat ((wrap64 (x11 + 1)) : Int).toNat)).bind fun bt313 => (laws_FnPipeBytes.l1 k x4 x6 x9 x11 bt313.2.2 0 x302000 x302001 bt313.1 bt313.2.1)) else (none)) else (none)) else (none)) else (if x9 = (x6.length : Int) then ((laws_qnPipe.f x312000 x312001 x302000 x302001).bind fun t312 => (some t312)) else (none))
def laws_FnPipeBytes.l1 : Nat → ByteArray → List (List ByteArray) → Int → Int → List (List ByteArray) → Int → ByteArray → Bool → ByteArray → Bool → Option (Bool)
  | 0, _, _, _, _, _, _, _, _, _, _ => none
  | k + 1, x4, x6, x9, x11, x13, x14, x302000, x302001, x319000, x319001 => if x14 < (x13.length : Int) then (if x9 ≥ (x6.length : Int) then (none) else (if 0 ≤ x14 then (if 0 ≤ x9 then (if x9 < (x6.length : Int) then ((laws_qnTexts.f k (rd_L2 x13 x14) (rd_L2 x6 x9)).bind fun t321 => (if t321 = true then (laws_FnPipeBytes.l1 k x4 x6 (wrap64 (x9 + 1)) x11 x13 (wrap64 (x14 + 1)) x302000 x302001 x319000 x319001) else (none))) else (none)) else (none)) else (none))) else (laws_FnPipeBytes.l0 k x4 x6 x9 (wrap64 (x11 + 1)) x302000 x302001 x319000 x319001)
end
def laws_FnPipeBytes.f (k : Nat) (l0 : List Int) : Option (Bool) := if (l0.length : Int) > 1048576 then (some true) else ((spec_DrawPipeFeed.f k l0).bind fun bt292 => ((impl_PipeFeed.f k bt292.1 bt292.2.1 bt292.2.2).bind fun bt296 => ((spec_PipeFeed.f k bt292.1 bt292.2.1 bt292.2.2).bind fun bt302 => ((laws_qnPipe.f bt296.1 bt296.2.1 bt302.1 bt302.2.1).bind fun t308 => (if t308 = true then (if (bt296.2.2.length : Int) = (bt302.2.2.length : Int) then ((spec_PipeOk.f k bt292.1 bt292.2.1).bind fun t309 => (if t309 = true then (laws_FnPipeBytes.j0 k bt292.2.2 bt296.2.2 bt302.2.2 (decide ((bt292.2.2.size : Int) > 300)) bt292.1 bt292.2.1 bt296.1 bt296.2.1 bt302.1 bt302.2.1) else (laws_FnPipeBytes.j0 k bt292.2.2 bt296.2.2 bt302.2.2 true bt292.1 bt292.2.1 bt296.1 bt296.2.1 bt302.1 bt302.2.1))) else (none)) else (none))))))
theorem laws_FnPipeBytes.mono_l : ∀ k, (∀ y0 y1 y2 y3 y4 y5 y6 y7 y8 y9, LeO (laws_FnPipeBytes.j0 k y0 y1 y2 y3 y4 y5 y6 y7 y8 y9) (laws_FnPipeBytes.j0 (k + 1) y0 y1 y2 y3 y4 y5 y6 y7 y8 y9)) ∧ (∀ y0 y1 y2 y3 y4 y5 y6 y7, LeO (laws_FnPipeBytes.l0 k y0 y1 y2 y3 y4 y5 y6 y7) (laws_FnPipeBytes.l0 (k + 1) y0 y1 y2 y3 y4 y5 y6 y7)) ∧ (∀ y0 y1 y2 y3 y4 y5 y6 y7 y8 y9, LeO (laws_FnPipeBytes.l1 k y0 y1 y2 y3 y4 y5 y6 y7 y8 y9) (laws_FnPipeBytes.l1 (k + 1) y0 y1 y2 y3 y4 y5 y6 y7 y8 y9))
 | 0 => ⟨fun _ _ _ _ _ _ _ _ _ _ r h => by simp [laws_FnPipeBytes.j0] at h, fun _ _ _ _ _ _ _ _ r h => by simp [laws_FnPipeBytes.l0] at h, fun _ _ _ _ _ _ _ _ _ _ r h => by simp [laws_FnPipeBytes.l1] at h⟩
 | k + 1 => by
  obtain ⟨ih0, ih1, ih2⟩ := laws_FnPipeBytes.mono_l k
  refine ⟨?_, ?_, ?_⟩
  ·intro y0 y1 y2 y3 y4 y5 y6 y7 y8 y9
   unfold laws_FnPipeBytes.j0
   repeat' first
   | (with_reducible exact ih0 _ _ _ _ _ _ _ _ _ _)
   | (with_reducible exact ih1 _ _ _ _ _ _ _ _)
   | (with_reducible exact ih2 _ _ _ _ _ _ _ _ _ _)
   | (with_reducible exact impl_PipeFeed.mono _ _ _ _)
   | (with_reducible exact laws_qnTexts.mono _ _ _)
   | (with_reducible exact spec_DrawPipeFeed.mono _ _)
   | (with_reducible exact spec_PipeFeed.mono _ _ _ _)
   | (with_reducible exact spec_PipeOk.mono _ _ _)
   | (with_reducible exact LeO.refl _)
   | (with_reducible exact LeO.none _)
   | (with_reducible refine LeO.ite ?_ ?_)
   | (with_reducible refine LeO.bind ?_ (fun _ => ?_))
   | exact ih0 _ _ _ _ _ _ _ _ _ _
   | exact ih1 _ _ _ _ _ _ _ _
   | exact ih2 _ _ _ _ _ _ _ _ _ _
   | exact impl_PipeFeed.mono _ _ _ _
   | exact laws_qnTexts.mono _ _ _
   | exact spec_DrawPipeFeed.mono _ _
   | exact spec_PipeFeed.mono _ _ _ _
   | exact spec_PipeOk.mono _ _ _
   | exact LeO.none _
   | refine LeO.ite ?_ ?_
   | refine LeO.bind ?_ (fun _ => ?_)
  ·intro y0 y1 y2 y3 y4 y5 y6 y7
   unfold laws_FnPipeBytes.l0
   repeat' first
   | (with_reducible exact ih0 _ _ _ _ _ _ _ _ _ _)
   | (with_reducible exact ih1 _ _ _ _ _ _ _ _)
   | (with_reducible exact ih2 _ _ _ _ _ _ _ _ _ _)
   | (with_reducible exact impl_PipeFeed.mono _ _ _ _)
   | (with_reducible exact laws_qnTexts.mono _ _ _)
   | (with_reducible exact spec_DrawPipeFeed.mono _ _)
   | (with_reducible exact spec_PipeFeed.mono _ _ _ _)
   | (with_reducible exact spec_PipeOk.mono _ _ _)
   | (with_reducible exact LeO.refl _)
   | (with_reducible exact LeO.none _)
   | (with_reducible refine LeO.ite ?_ ?_)
   | (with_reducible refine LeO.bind ?_ (fun _ => ?_))
   | exact ih0 _ _ _ _ _ _ _ _ _ _
   | exact ih1 _ _ _ _ _ _ _ _
   | exact ih2 _ _ _ _ _ _ _ _ _ _
   | exact impl_PipeFeed.mono _ _ _ _
   | exact laws_qnTexts.mono _ _ _
   | exact spec_DrawPipeFeed.mono _ _
   | exact spec_PipeFeed.mono _ _ _ _
   | exact spec_PipeOk.mono _ _ _
   | exact LeO.none _
   | refine LeO.ite ?_ ?_
   | refine LeO.bind ?_ (fun _ => ?_)
  ·intro y0 y1 y2 y3 y4 y5 y6 y7 y8 y9
   unfold laws_FnPipeBytes.l1
   repeat' first
   | (with_reducible exact ih0 _ _ _ _ _ _ _ _ _ _)
   | (with_reducible exact ih1 _ _ _ _ _ _ _ _)
   | (with_reducible exact ih2 _ _ _ _ _ _ _ _ _ _)
   | (with_reducible exact impl_PipeFeed.mono _ _ _ _)
   | (with_reducible exact laws_qnTexts.mono _ _ _)
   | (with_reducible exact spec_DrawPipeFeed.mono _ _)
   | (with_reducible exact spec_PipeFeed.mono _ _ _ _)
   | (with_reducible exact spec_PipeOk.mono _ _ _)
   | (with_reducible exact LeO.refl _)
   | (with_reducible exact LeO.none _)
   | (with_reducible refine LeO.ite ?_ ?_)
   | (with_reducible refine LeO.bind ?_ (fun _ => ?_))
   | exact ih0 _ _ _ _ _ _ _ _ _ _
   | exact ih1 _ _ _ _ _ _ _ _
   | exact ih2 _ _ _ _ _ _ _ _ _ _
   | exact impl_PipeFeed.mono _ _ _ _
   | exact laws_qnTexts.mono _ _ _
   | exact spec_DrawPipeFeed.mono _ _
   | exact spec_PipeFeed.mono _ _ _ _
   | exact spec_PipeOk.mono _ _ _
   | exact LeO.none _
   | refine LeO.ite ?_ ?_
   | refine LeO.bind ?_ (fun _ => ?_)
theorem laws_FnPipeBytes.mono : ∀ a0 k, LeO (laws_FnPipeBytes.f k a0) (laws_FnPipeBytes.f (k + 1) a0) := by
 intro a0 k
 obtain ⟨ih0, ih1, ih2⟩ := laws_FnPipeBytes.mono_l k
 unfold laws_FnPipeBytes.f
 repeat' first
   | (with_reducible exact ih0 _ _ _ _ _ _ _ _ _ _)
   | (with_reducible exact ih1 _ _ _ _ _ _ _ _)
   | (with_reducible exact ih2 _ _ _ _ _ _ _ _ _ _)
   | (with_reducible exact impl_PipeFeed.mono _ _ _ _)
   | (with_reducible exact laws_qnTexts.mono _ _ _)
   | (with_reducible exact spec_DrawPipeFeed.mono _ _)
   | (with_reducible exact spec_PipeFeed.mono _ _ _ _)
   | (with_reducible exact spec_PipeOk.mono _ _ _)
   | (with_reducible exact LeO.refl _)
   | (with_reducible exact LeO.none _)
   | (with_reducible refine LeO.ite ?_ ?_)
   | (with_reducible refine LeO.bind ?_ (fun _ => ?_))
   | exact ih0 _ _ _ _ _ _ _ _ _ _
   | exact ih1 _ _ _ _ _ _ _ _
   | exact ih2 _ _ _ _ _ _ _ _ _ _
   | exact impl_PipeFeed.mono _ _ _ _
   | exact laws_qnTexts.mono _ _ _
   | exact spec_DrawPipeFeed.mono _ _
   | exact spec_PipeFeed.mono _ _ _ _
   | exact spec_PipeOk.mono _ _ _
   | exact LeO.none _
   | refine LeO.ite ?_ ?_
   | refine LeO.bind ?_ (fun _ => ?_)
def laws_FnPipeBytes.T13 : Bool × List (List Nat × List Nat) := (true, [([], []), ([], []), ([], []), ([], []), ([3], [3]), ([1, 2, 4], [1, 2, 4]), ([0, 5], [0, 5]), ([6], [6]), ([7], [7]), ([7], [7]), ([], []), ([10, 8, 6, 0, 1, 2, 3, 4, 5, 6, 7, 8, 10], [8, 10]), ([9, 11, 0, 1, 2, 3, 4, 5, 6, 7, 8, 9, 10, 11], [9])])
def laws_FnPipeBytes.B13 : List Nat := [0, 0, 0, 0, 8, 30, 63, 127, 255, 255, 0, 1535, 4095]
theorem laws_FnPipeBytes.tab13 : rtab .any (opsOf Tryd.f7 13) = laws_FnPipeBytes.T13 := by kernel_rfl
theorem laws_FnPipeBytes.bits13 : waitsOk laws_FnPipeBytes.T13.2 laws_FnPipeBytes.B13 = true := by kernel_rfl
def laws_FnPipeBytes.T17 : Bool × List (List Nat × List Nat) := (true, [([], []), ([], []), ([1], [1]), ([0, 2], [0, 2]), ([3], [3]), ([4], [4]), ([4], [4]), ([5, 6, 4], [4, 5, 6]), ([7, 4], [4, 7]), ([4], [4]), ([4], [4]), ([9, 10, 4], [4, 9, 10]), ([11, 4], [4, 11]), ([8, 12, 4, 4], [4, 8, 12]), ([13, 4], [4, 13]), ([4, 14], [4, 14])])
def laws_FnPipeBytes.B17 : List Nat := [0, 0, 2, 7, 15, 31, 31, 127, 255, 31, 31, 1567, 3615, 8191, 16383, 32767]
theorem laws_FnPipeBytes.tab17 : rtab .any (opsOf Tryd.f7 17) = laws_FnPipeBytes.T17 := by kernel_rfl
theorem laws_FnPipeBytes.bits17 : waitsOk laws_FnPipeBytes.T17.2 laws_FnPipeBytes.B17 = true := by kernel_rfl
set_option maxHeartbeats 8000000 in
set_option maxRecDepth 100000 in
theorem laws_FnPipeBytes.calls (k : Nat) (A0 : Option Addr) (c0 : Nat) (l0 : List Int) (r : Bool) (w : World) (hr0 : Kd.C (Kd.int .u8) w A0 l0.length l0) (hc0 : l0.length ≤ c0) (h : laws_FnPipeBytes.f k l0 = some r) :
  Calls Tryd.prog 7 #[.slice A0 l0.length c0] w fun e w' => e = .returned (.bool r) ∧ Below w.heap.size w w' := by
 have hu34 := Tryd.underlying34
 have HR0 := AM hr0
 have HC0 := AM hc0
 clear hr0 hc0
 have HB := AM (Below.refl w.heap.size w)
 have H : (if (l0.length : Int) > 1048576 then (some true) else ((spec_DrawPipeFeed.f k l0).bind fun bt292 => ((impl_PipeFeed.f k bt292.1 bt292.2.1 bt292.2.2).bind fun bt296 => ((spec_PipeFeed.f k bt292.1 bt292.2.1 bt292.2.2).bind fun bt302 => ((laws_qnPipe.f bt296.1 bt296.2.1 bt302.1 bt302.2.1).bind fun t308 => (if t308 = true then (if (bt296.2.2.length : Int) = (bt302.2.2.length : Int) then ((spec_PipeOk.f k bt292.1 bt292.2.1).bind fun t309 => (if t309 = true then (laws_FnPipeBytes.j0 k bt292.2.2 bt296.2.2 bt302.2.2 (decide ((bt292.2.2.size : Int) > 300)) bt292.1 bt292.2.1 bt296.1 bt296.2.1 bt302.1 bt302.2.1) else (laws_FnPipeBytes.j0 k bt292.2.2 bt296.2.2 bt302.2.2 true bt292.1 bt292.2.1 bt296.1 bt296.2.1 bt302.1 bt302.2.1))) else (none)) else (none))))))) = some r := h
 clear h
 by_cases c2 : (l0.length : Int) > 1048576
 ·rw [if_pos c2] at H
  have c2b0 : decide (1048576 < (l0.length : Int)) = true := decide_eq_true c2
  have c2b1 : decide (1048576 < l0.length) = true := decide_eq_true (by omega)
  clear c2
  obtain rfl := Option.some.inj H
  go_enter Tryd.func7, Tryd.ntmps7
  go_wp2
  go_ret
  exact ⟨by first | rfl | (simp [errW_none, errW_some] <;> rfl) | (simp [*, errW_none, errW_some] <;> rfl), by repeat (first | (with_reducible first | exact HB.out | apply bA | apply bD | apply bE) | exact HB.out)⟩
 ·rw [if_neg c2] at H
  have c2b0 : decide (1048576 < (l0.length : Int)) = false := decide_eq_false c2
  have c2b1 : decide (1048576 < l0.length) = false := decide_eq_false (by omega)
  clear c2
  replace H := Option.bind_eq_some_iff.mp H
  obtain ⟨⟨t292, t293, t294⟩, A30, H⟩ := H
  replace H : ((impl_PipeFeed.f k t292 t293 t294).bind fun bt296 => ((spec_PipeFeed.f k t292 t293 t294).bind fun bt302 => ((laws_qnPipe.f bt296.1 bt296.2.1 bt302.1 bt302.2.1).bind fun t308 => (if t308 = true then (if (bt296.2.2.length : Int) = (bt302.2.2.length : Int) then ((spec_PipeOk.f k t292 t293).bind fun t309 => (if t309 = true then (laws_FnPipeBytes.j0 k t294 bt296.2.2 bt302.2.2 (decide ((t294.size : Int) > 300)) t292 t293 bt296.1 bt296.2.1 bt302.1 bt302.2.1) else (laws_FnPipeBytes.j0 k t294 bt296.2.2 bt302.2.2 true t292 t293 bt296.1 bt296.2.1 bt302.1 bt302.2.1))) else (none)) else (none))))) = some r := H
  have A3 := AM A30
  clear A30
  replace H := Option.bind_eq_some_iff.mp H
  obtain ⟨⟨t296, t297, t298⟩, A40, H⟩ := H
  replace H : ((spec_PipeFeed.f k t292 t293 t294).bind fun bt302 => ((laws_qnPipe.f t296 t297 bt302.1 bt302.2.1).bind fun t308 => (if t308 = true then (if (t298.length : Int) = (bt302.2.2.length : Int) then ((spec_PipeOk.f k t292 t293).bind fun t309 => (if t309 = true then (laws_FnPipeBytes.j0 k t294 t298 bt302.2.2 (decide ((t294.size : Int) > 300)) t292 t293 t296 t297 bt302.1 bt302.2.1) else (laws_FnPipeBytes.j0 k t294 t298 bt302.2.2 true t292 t293 t296 t297 bt302.1 bt302.2.1))) else (none)) else (none)))) = some r := H
  have A4 := AM A40
  clear A40
  replace H := Option.bind_eq_some_iff.mp H
  obtain ⟨⟨t302, t303, t304⟩, A50, H⟩ := H
  replace H : ((laws_qnPipe.f t296 t297 t302 t303).bind fun t308 => (if t308 = true then (if (t298.length : Int) = (t304.length : Int) then ((spec_PipeOk.f k t292 t293).bind fun t309 => (if t309 = true then (laws_FnPipeBytes.j0 k t294 t298 t304 (decide ((t294.size : Int) > 300)) t292 t293 t296 t297 t302 t303) else (laws_FnPipeBytes.j0 k t294 t298 t304 true t292 t293 t296 t297 t302 t303))) else (none)) else (none))) = some r := H
  have A5 := AM A50
  clear A50
  have HC6 := AM H
  clear H
  go_enter Tryd.func7, Tryd.ntmps7
  go_upto_region 6 with (first | ((with_reducible refine gate_callee (f := 33) rfl ?_); refine goesL_ (some 20) rfl rfl Tryd.func33 (by kernel_rfl) rfl #[.slice A0 l0.length c0] rfl (by (try simp only [List.map_toArray, List.map_cons, List.map_nil]); first | done | rfl | (simp only [List.length_drop, List.length_take]; rfl)) ?_; (with_reducible refine (spec_DrawPipeFeed.calls k _ _ l0 t292 t293 t294 _ ?side1 ?side2 A3.out).mono ?_); (case side1 => repeat (first | exact HR0.out | (with_reducible refine Kd.C_alloc ?_ _) | (with_reducible refine Kd.C_drewN ?_ _) | (with_reducible refine Kd.C_drew ?_))); (case side2 => exact HC0.out); rintro e w7 ⟨rfl, hb⟩; refine ⟨_, rfl, ?_⟩; have n0_ := AM (bS (by repeat (first | (with_reducible first | exact HB.out | apply bA | apply bD | apply bE) | exact HB.out)) hb); clear HB; have HB := n0_; clear n0_; (try clear hb); (try clear hb2); (try clear hk); (try clear hi)) | ((with_reducible refine gate_dst (N := 3) rfl ?_); (try (refine gate_guard (by rfl) ?_; dsimp only)); refine box_event ?hg (N := 3) ?hd (cs := #[.string (⟨#[]⟩ : ByteArray), .bool false]) (t := 34) ?hr ?_; (case hd => rfl); (case hg => rfl); (case hr => first | (go_simp; done) | (go_simp; rfl)); intro gb295 hg w8 hbox hb; have n0_ := AM (bS (by repeat (first | (with_reducible first | exact HB.out | apply bA | apply bD | apply bE) | exact HB.out)) hb); have n1_ := AM (hbox); have n2_ := AM ((by rw [hg]; exact (bZ (by repeat (first | (with_reducible first | exact HB.out | apply bA | apply bD | apply bE) | exact HB.out))) : w.heap.size ≤ gb295)); have n3_ := AM ((by rw [hg]; exact (bZ (by repeat (first | (with_reducible first | exact HB.out | apply bA | apply bD | apply bE) | exact HB.out))) : w.heap.size ≤ gb295)); clear HB; have HB := n0_; have BK295 := n1_; have GW295 := n2_; have GE295 := n3_; clear n0_ n1_ n2_ n3_; clear hb hbox hg; have hcz9_0 : w8.cell? ⟨gb295, 0, none⟩ = some (.string (⟨#[]⟩ : ByteArray)) := (kC BK295.out 0).trans rfl; have hcz9_1 : w8.cell? ⟨gb295, 1, none⟩ = some (.bool false) := (kC BK295.out 1).trans rfl; have hfz9_0 := blk_frozen BK295.out 0; have hfz9_1 := blk_frozen BK295.out 1) | ((with_reducible refine gate_callee (f := 19) rfl ?_); refine goesL_ (some 26) rfl rfl Tryd.func19 (by kernel_rfl) rfl #[.agg #[.string t292, .bool t293], .string t294] rfl (by (try simp only [List.map_toArray, List.map_cons, List.map_nil]); first | done | rfl | (simp only [List.length_drop, List.length_take]; rfl)) ?_; (with_reducible refine (impl_PipeFeed.calls k t292 t293 t294 t296 t297 t298 _ A4.out).mono ?_); rintro e w10 ⟨v299, rfl, ho0, hb⟩; refine ⟨_, rfl, ?_⟩; have n0_ := AM (Kd.S_lower ho0 (bZ (by repeat (first | (with_reducible first | exact HB.out | apply bA | apply bD | apply bE | refine below_set ?_ GE295.out) | exact HB.out)))); have n1_ := AM (kB (g := gb295) (o := .cells #[.string t292, .bool t293] 34 (0, 0)) (by (with_reducible repeat (first | refine kD ?_ _ | refine kE ?_ | refine kA ?_ _)); refine blk_put (cs := #[.string t292, .bool false]) ?_ 1 _ rfl; (with_reducible repeat (first | refine kD ?_ _ | refine kE ?_ | refine kA ?_ _)); refine blk_put (cs := #[.string (⟨#[]⟩ : ByteArray), .bool false]) ?_ 0 _ rfl; (with_reducible repeat (first | refine kD ?_ _ | refine kE ?_ | refine kA ?_ _)); exact BK295.out) hb); have n2_ := AM (bS (by repeat (first | (with_reducible first | exact HB.out | apply bA | apply bD | apply bE | refine below_set ?_ GE295.out) | exact HB.out)) hb); clear BK295; clear HB; have HO300 := n0_; have BK295 := n1_; have HB := n2_; clear n0_ n1_ n2_; (try clear hb); (try clear hb2); (try clear hk); (try clear hi); (try clear ho0)) | ((with_reducible refine gate_dst (N := 5) rfl ?_); (try (refine gate_guard (by rfl) ?_; dsimp only)); refine box_event ?hg (N := 5) ?hd (cs := #[.string (⟨#[]⟩ : ByteArray), .bool false]) (t := 34) ?hr ?_; (case hd => rfl); (case hg => rfl); (case hr => first | (go_simp; done) | (go_simp; rfl)); intro gb301 hg w11 hbox hb; have n0_ := AM (sB (by (with_reducible repeat (first | apply sA | apply sD | apply sE)); exact HO300.out) hb); have n1_ := AM (kB (g := gb295) (o := .cells #[.string t292, .bool t293] 34 (0, 0)) (by (with_reducible repeat (first | refine kD ?_ _ | refine kE ?_ | refine kA ?_ _)); exact BK295.out) hb); have n2_ := AM (bS (by repeat (first | (with_reducible first | exact HB.out | apply bA | apply bD | apply bE | refine below_set ?_ GE295.out) | exact HB.out)) hb); have n3_ := AM (hbox); have n4_ := AM ((by rw [hg]; exact (bZ (by repeat (first | (with_reducible first | exact HB.out | apply bA | apply bD | apply bE | refine below_set ?_ GE295.out) | exact HB.out))) : w.heap.size ≤ gb301)); have n5_ := AM ((by rw [hg]; exact (bZ (by repeat (first | (with_reducible first | exact HB.out | apply bA | apply bD | apply bE | refine below_set ?_ GE295.out) | exact HB.out))) : w.heap.size ≤ gb301)); have n6_ := AM ((by rw [hg]; exact Nat.ne_of_lt (blk_lt (g := gb295) (o := .cells #[.string t292, .bool t293] 34 (0, 0)) (by (with_reducible repeat (first | refine kD ?_ _ | refine kE ?_ | refine kA ?_ _)); exact BK295.out)) : gb295 ≠ gb301)); have n7_ := AM ((by rw [hg]; exact Nat.ne_of_gt (blk_lt (g := gb295) (o := .cells #[.string t292, .bool t293] 34 (0, 0)) (by (with_reducible repeat (first | refine kD ?_ _ | refine kE ?_ | refine kA ?_ _)); exact BK295.out)) : gb301 ≠ gb295)); clear HO300; clear BK295; clear HB; have HO300 := n0_; have BK295 := n1_; have HB := n2_; have BK301 := n3_; have GW301 := n4_; have GE301 := n5_; have NB295_301 := n6_; have NB301_295 := n7_; clear n0_ n1_ n2_ n3_ n4_ n5_ n6_ n7_; clear hb hbox hg; have hnb12 := NB301_295.out; have hnc12 := NB295_301.out; have hcz13_0 : w11.cell? ⟨gb301, 0, none⟩ = some (.string (⟨#[]⟩ : ByteArray)) := (kC BK301.out 0).trans rfl; have hcz13_1 : w11.cell? ⟨gb301, 1, none⟩ = some (.bool false) := (kC BK301.out 1).trans rfl; have hfz13_0 := blk_frozen BK301.out 0; have hfz13_1 := blk_frozen BK301.out 1; have hcz14_0 : w11.cell? ⟨gb295, 0, none⟩ = some (.string t292) := (kC BK295.out 0).trans rfl; have hcz14_1 : w11.cell? ⟨gb295, 1, none⟩ = some (.bool t293) := (kC BK295.out 1).trans rfl; have hfz14_0 := blk_frozen BK295.out 0; have hfz14_1 := blk_frozen BK295.out 1) | ((with_reducible refine gate_callee (f := 34) rfl ?_); refine goesL_ (some 32) rfl rfl Tryd.func34 (by kernel_rfl) rfl #[.agg #[.string t292, .bool t293], .string t294] rfl (by (try simp only [List.map_toArray, List.map_cons, List.map_nil]); first | done | rfl | (simp only [List.length_drop, List.length_take]; rfl)) ?_; (with_reducible refine (spec_PipeFeed.calls k t292 t293 t294 t302 t303 t304 _ A5.out).mono ?_); rintro e w15 ⟨v305, rfl, ho0, hb⟩; refine ⟨_, rfl, ?_⟩; have n0_ := AM (Kd.S_elder' (by (with_reducible repeat (first | apply sA | apply sD | apply sE)); exact (sM (Kd.S_far (p := ⟨gb301, 1, none⟩) (Kd.S_far (p := ⟨gb301, 0, none⟩) (Kd.S_types HO300.out BK301.out (by decide)) (fun _ hk => hk.2) (.string t296)) (fun _ hk => hk.2) (.bool t297)) (fun _ h_ => h_.1))) (Kd.S_base ho0) hb); have n1_ := AM (Kd.S_lower (Kd.S_new' ho0 (Kd.S_lt (by (with_reducible repeat (first | apply sA | apply sD | apply sE)); exact (sM (Kd.S_far (p := ⟨gb301, 1, none⟩) (Kd.S_far (p := ⟨gb301, 0, none⟩) (Kd.S_types HO300.out BK301.out (by decide)) (fun _ hk => hk.2) (.string t296)) (fun _ hk => hk.2) (.bool t297)) (fun _ h_ => h_.1))))) (bZ (by repeat (first | (with_reducible first | exact HB.out | apply bA | apply bD | apply bE | refine below_set ?_ GE295.out | refine below_set ?_ GE301.out) | exact HB.out)))); have n2_ := AM (kB (g := gb295) (o := .cells #[.string t292, .bool t293] 34 (0, 0)) (by (with_reducible repeat (first | refine kD ?_ _ | refine kE ?_ | refine kA ?_ _)); refine blk_far ?_ NB295_301.out _; (with_reducible repeat (first | refine kD ?_ _ | refine kE ?_ | refine kA ?_ _)); refine blk_far ?_ NB295_301.out _; (with_reducible repeat (first | refine kD ?_ _ | refine kE ?_ | refine kA ?_ _)); exact BK295.out) hb); have n3_ := AM (kB (g := gb301) (o := .cells #[.string t296, .bool t297] 34 (0, 0)) (by (with_reducible repeat (first | refine kD ?_ _ | refine kE ?_ | refine kA ?_ _)); refine blk_put (cs := #[.string t296, .bool false]) ?_ 1 _ rfl; (with_reducible repeat (first | refine kD ?_ _ | refine kE ?_ | refine kA ?_ _)); refine blk_put (cs := #[.string (⟨#[]⟩ : ByteArray), .bool false]) ?_ 0 _ rfl; (with_reducible repeat (first | refine kD ?_ _ | refine kE ?_ | refine kA ?_ _)); exact BK301.out) hb); have n4_ := AM (bS (by repeat (first | (with_reducible first | exact HB.out | apply bA | apply bD | apply bE | refine below_set ?_ GE295.out | refine below_set ?_ GE301.out) | exact HB.out)) hb); clear HO300; clear BK295; clear BK301; clear HB; have HO300 := n0_; have HO306 := n1_; have BK295 := n2_; have BK301 := n3_; have HB := n4_; clear n0_ n1_ n2_ n3_ n4_; (try clear hb); (try clear hb2); (try clear hk); (try clear hi); (try clear ho0)) | ((with_reducible refine gate_dst (N := 7) rfl ?_); (try (refine gate_guard (by rfl) ?_; dsimp only)); refine box_event ?hg (N := 7) ?hd (cs := #[.string (⟨#[]⟩ : ByteArray), .bool false]) (t := 34) ?hr ?_; (case hd => rfl); (case hg => rfl); (case hr => first | (go_simp; done) | (go_simp; rfl)); intro gb307 hg w16 hbox hb; have n0_ := AM (sB (by (with_reducible repeat (first | apply sA | apply sD | apply sE)); exact HO300.out) hb); have n1_ := AM (sB (by (with_reducible repeat (first | apply sA | apply sD | apply sE)); exact HO306.out) hb); have n2_ := AM (kB (g := gb295) (o := .cells #[.string t292, .bool t293] 34 (0, 0)) (by (with_reducible repeat (first | refine kD ?_ _ | refine kE ?_ | refine kA ?_ _)); exact BK295.out) hb); have n3_ := AM (kB (g := gb301) (o := .cells #[.string t296, .bool t297] 34 (0, 0)) (by (with_reducible repeat (first | refine kD ?_ _ | refine kE ?_ | refine kA ?_ _)); exact BK301.out) hb); have n4_ := AM (bS (by repeat (first | (with_reducible first | exact HB.out | apply bA | apply bD | apply bE | refine below_set ?_ GE295.out | refine below_set ?_ GE301.out) | exact HB.out)) hb); have n5_ := AM (hbox); have n6_ := AM ((by rw [hg]; exact (bZ (by repeat (first | (with_reducible first | exact HB.out | apply bA | apply bD | apply bE | refine below_set ?_ GE295.out | refine below_set ?_ GE301.out) | exact HB.out))) : w.heap.size ≤ gb307)); have n7_ := AM ((by rw [hg]; exact (bZ (by repeat (first | (with_reducible first | exact HB.out | apply bA | apply bD | apply bE | refine below_set ?_ GE295.out | refine below_set ?_ GE301.out) | exact HB.out))) : w.heap.size ≤ gb307)); have n8_ := AM ((by rw [hg]; exact Nat.ne_of_lt (blk_lt (g := gb295) (o := .cells #[.string t292, .bool t293] 34 (0, 0)) (by (with_reducible repeat (first | refine kD ?_ _ | refine kE ?_ | refine kA ?_ _)); exact BK295.out)) : gb295 ≠ gb307)); have n9_ := AM ((by rw [hg]; exact Nat.ne_of_gt (blk_lt (g := gb295) (o := .cells #[.string t292, .bool t293] 34 (0, 0)) (by (with_reducible repeat (first | refine kD ?_ _ | refine kE ?_ | refine kA ?_ _)); exact BK295.out)) : gb307 ≠ gb295)); have n10_ := AM ((by rw [hg]; exact Nat.ne_of_lt (blk_lt (g := gb301) (o := .cells #[.string t296, .bool t297] 34 (0, 0)) (by (with_reducible repeat (first | refine kD ?_ _ | refine kE ?_ | refine kA ?_ _)); exact BK301.out)) : gb301 ≠ gb307)); have n11_ := AM ((by rw [hg]; exact Nat.ne_of_gt (blk_lt (g := gb301) (o := .cells #[.string t296, .bool t297] 34 (0, 0)) (by (with_reducible repeat (first | refine kD ?_ _ | refine kE ?_ | refine kA ?_ _)); exact BK301.out)) : gb307 ≠ gb301)); clear HO300; clear HO306; clear BK295; clear BK301; clear HB; have HO300 := n0_; have HO306 := n1_; have BK295 := n2_; have BK301 := n3_; have HB := n4_; have BK307 := n5_; have GW307 := n6_; have GE307 := n7_; have NB295_307 := n8_; have NB307_295 := n9_; have NB301_307 := n10_; have NB307_301 := n11_; clear n0_ n1_ n2_ n3_ n4_ n5_ n6_ n7_ n8_ n9_ n10_ n11_; clear hb hbox hg; have hnb17 := NB307_295.out; have hnc17 := NB295_307.out; have hnb18 := NB307_301.out; have hnc18 := NB301_307.out; have hcz19_0 : w16.cell? ⟨gb307, 0, none⟩ = some (.string (⟨#[]⟩ : ByteArray)) := (kC BK307.out 0).trans rfl; have hcz19_1 : w16.cell? ⟨gb307, 1, none⟩ = some (.bool false) := (kC BK307.out 1).trans rfl; have hfz19_0 := blk_frozen BK307.out 0; have hfz19_1 := blk_frozen BK307.out 1))
  (try simp only [Act.put, lA, lZ, lS])
  go_cut [55] (fun v55 wc => ∃ (kq : Nat) (x55_5 : Bool), v55 = .bool x55_5 ∧ Aside0 (laws_FnPipeBytes.j0 kq t294 t298 t304 x55_5 t292 t293 t296 t297 t302 t303 = some r) ∧ Aside0 (kq ≤ k) ∧ Aside0 (Kd.S (Kd.slice 9 Kd.string) 30 wc w.heap.size (fun k_ => some k_ ≠ (v305 : Value).ownBlock) v299 t298) ∧ Aside0 (Kd.S (Kd.slice 9 Kd.string) 30 wc w.heap.size (fun k_ => some k_ ≠ (v299 : Value).ownBlock) v305 t304) ∧ Aside0 (wc.heap[gb295]? = some (.cells #[.string t292, .bool t293] 34 (0, 0))) ∧ Aside0 (wc.heap[gb301]? = some (.cells #[.string t296, .bool t297] 34 (0, 0))) ∧ Aside0 (wc.heap[gb307]? = some (.cells #[.string t302, .bool t303] 34 (0, 0))) ∧ Aside0 (Below w.heap.size w wc))
  case first =>
   have H := HC6.out
   clear HC6
   replace H := Option.bind_eq_some_iff.mp H
   obtain ⟨t308, A200, H⟩ := H
   replace H : (if t308 = true then (if (t298.length : Int) = (t304.length : Int) then ((spec_PipeOk.f k t292 t293).bind fun t309 => (if t309 = true then (laws_FnPipeBytes.j0 k t294 t298 t304 (decide ((t294.size : Int) > 300)) t292 t293 t296 t297 t302 t303) else (laws_FnPipeBytes.j0 k t294 t298 t304 true t292 t293 t296 t297 t302 t303))) else (none)) else (none)) = some r := H
   have A20 := AM A200
   clear A200
   by_cases c21 : t308 = true
   ·subst c21
    have H1 : (if (t298.length : Int) = (t304.length : Int) then ((spec_PipeOk.f k t292 t293).bind fun t309 => (if t309 = true then (laws_FnPipeBytes.j0 k t294 t298 t304 (decide ((t294.size : Int) > 300)) t292 t293 t296 t297 t302 t303) else (laws_FnPipeBytes.j0 k t294 t298 t304 true t292 t293 t296 t297 t302 t303))) else (none)) = some r := by rw [if_pos rfl] at H; exact H
    clear H
    have H := H1
    clear H1
    by_cases c22 : (t298.length : Int) = (t304.length : Int)
    ·rw [if_pos c22] at H
     have c22b0 : ((t298.length : Int) == (t304.length : Int)) = true := beq_iff_eq.mpr c22
     have c22b1 : ((t298.length : Int) != (t304.length : Int)) = false := bne_eq_false_iff_eq.mpr c22
     have c22b2 : (t298.length == t304.length) = true := by first | simpa using c22 | (simp at c22 ⊢; omega)
     clear c22
     (first | rw [c22b0] | (simp only [i64_w, i32_w]; rw [c22b0]) | skip)
     replace H := Option.bind_eq_some_iff.mp H
     obtain ⟨t309, A230, H⟩ := H
     replace H : (if t309 = true then (laws_FnPipeBytes.j0 k t294 t298 t304 (decide ((t294.size : Int) > 300)) t292 t293 t296 t297 t302 t303) else (laws_FnPipeBytes.j0 k t294 t298 t304 true t292 t293 t296 t297 t302 t303)) = some r := H
     have A23 := AM A230
     clear A230
     by_cases c24 : t309 = true
     ·subst c24
      have H1 : (laws_FnPipeBytes.j0 k t294 t298 t304 (decide ((t294.size : Int) > 300)) t292 t293 t296 t297 t302 t303) = some r := by rw [if_pos rfl] at H; exact H
      clear H
      have H := H1
      clear H1
      have H' := AM H
      clear H
      have hnb25 := NB301_295.out
      have hnc25 := NB295_301.out
      have hnb26 := NB301_307.out
      have hnc26 := NB307_301.out
      have hcz27_0 : w16.cell? ⟨gb301, 0, none⟩ = some (.string t296) := (kC BK301.out 0).trans rfl
      have hcz27_1 : w16.cell? ⟨gb301, 1, none⟩ = some (.bool t297) := (kC BK301.out 1).trans rfl
      have hfz27_0 := blk_frozen BK301.out 0
      have hfz27_1 := blk_frozen BK301.out 1
      have hnb28 := NB307_295.out
      have hnc28 := NB295_307.out
      have hcz29_0 : w16.cell? ⟨gb307, 0, none⟩ = some (.string (⟨#[]⟩ : ByteArray)) := (kC BK307.out 0).trans rfl
      have hcz29_1 : w16.cell? ⟨gb307, 1, none⟩ = some (.bool false) := (kC BK307.out 1).trans rfl
      have hfz29_0 := blk_frozen BK307.out 0
      have hfz29_1 := blk_frozen BK307.out 1
      go_wp2_with (first | ((with_reducible refine gate_callee (f := 35) rfl ?_); refine goesL_ (some 37) rfl rfl Tryd.func35 (by kernel_rfl) rfl #[.agg #[.string t296, .bool t297], .agg #[.string t302, .bool t303]] rfl (by (try simp only [List.map_toArray, List.map_cons, List.map_nil]); first | done | rfl | (simp only [List.length_drop, List.length_take]; rfl)) ?_; (with_reducible refine (laws_qnPipe.calls t296 t297 t302 t303 true _ A20.out).mono ?_); rintro e w30 ⟨rfl, hb⟩; refine ⟨_, rfl, ?_⟩; have n0_ := AM (sB (by (with_reducible repeat (first | apply sA | apply sD | apply sE)); exact (sM (Kd.S_far (p := ⟨gb307, 1, none⟩) (Kd.S_far (p := ⟨gb307, 0, none⟩) (Kd.S_types HO300.out BK307.out (by decide)) (fun _ hk => hk.2) (.string t302)) (fun _ hk => hk.2) (.bool t303)) (fun _ h_ => h_.1))) hb); have n1_ := AM (sB (by (with_reducible repeat (first | apply sA | apply sD | apply sE)); exact (sM (Kd.S_far (p := ⟨gb307, 1, none⟩) (Kd.S_far (p := ⟨gb307, 0, none⟩) (Kd.S_types HO306.out BK307.out (by decide)) (fun _ hk => hk.2) (.string t302)) (fun _ hk => hk.2) (.bool t303)) (fun _ h_ => h_.1))) hb); have n2_ := AM (kB (g := gb295) (o := .cells #[.string t292, .bool t293] 34 (0, 0)) (by (with_reducible repeat (first | refine kD ?_ _ | refine kE ?_ | refine kA ?_ _)); refine blk_far ?_ NB295_307.out _; (with_reducible repeat (first | refine kD ?_ _ | refine kE ?_ | refine kA ?_ _)); refine blk_far ?_ NB295_307.out _; (with_reducible repeat (first | refine kD ?_ _ | refine kE ?_ | refine kA ?_ _)); exact BK295.out) hb); have n3_ := AM (kB (g := gb301) (o := .cells #[.string t296, .bool t297] 34 (0, 0)) (by (with_reducible repeat (first | refine kD ?_ _ | refine kE ?_ | refine kA ?_ _)); refine blk_far ?_ NB301_307.out _; (with_reducible repeat (first | refine kD ?_ _ | refine kE ?_ | refine kA ?_ _)); refine blk_far ?_ NB301_307.out _; (with_reducible repeat (first | refine kD ?_ _ | refine kE ?_ | refine kA ?_ _)); exact BK301.out) hb); have n4_ := AM (kB (g := gb307) (o := .cells #[.string t302, .bool t303] 34 (0, 0)) (by (with_reducible repeat (first | refine kD ?_ _ | refine kE ?_ | refine kA ?_ _)); refine blk_put (cs := #[.string t302, .bool false]) ?_ 1 _ rfl; (with_reducible repeat (first | refine kD ?_ _ | refine kE ?_ | refine kA ?_ _)); refine blk_put (cs := #[.string (⟨#[]⟩ : ByteArray), .bool false]) ?_ 0 _ rfl; (with_reducible repeat (first | refine kD ?_ _ | refine kE ?_ | refine kA ?_ _)); exact BK307.out) hb); have n5_ := AM (bS (by repeat (first | (with_reducible first | exact HB.out | apply bA | apply bD | apply bE | refine below_set ?_ GE295.out | refine below_set ?_ GE301.out | refine below_set ?_ GE307.out) | exact HB.out)) hb); clear HO300; clear HO306; clear BK295; clear BK301; clear BK307; clear HB; have HO300 := n0_; have HO306 := n1_; have BK295 := n2_; have BK301 := n3_; have BK307 := n4_; have HB := n5_; clear n0_ n1_ n2_ n3_ n4_ n5_; (try clear hb); (try clear hb2); (try clear hk); (try clear hi); obtain ⟨Ao31, co31, eo31⟩ := Kd.S_slice HO300.out; subst eo31; obtain ⟨Ao32, co32, eo32⟩ := Kd.S_slice HO306.out; subst eo32; have hcz33_0 : w30.cell? ⟨gb295, 0, none⟩ = some (.string t292) := (kC BK295.out 0).trans rfl; have hcz33_1 : w30.cell? ⟨gb295, 1, none⟩ = some (.bool t293) := (kC BK295.out 1).trans rfl; have hfz33_0 := blk_frozen BK295.out 0; have hfz33_1 := blk_frozen BK295.out 1) | (go_at_call 36; (with_reducible refine (spec_PipeOk.calls k t292 t293 true _ A23.out).mono ?_); rintro e w34 ⟨rfl, hb⟩; have n0_ := AM (sB (by (with_reducible repeat (first | apply sA | apply sD | apply sE)); exact HO300.out) hb); have n1_ := AM (sB (by (with_reducible repeat (first | apply sA | apply sD | apply sE)); exact HO306.out) hb); have n2_ := AM (kB (g := gb295) (o := .cells #[.string t292, .bool t293] 34 (0, 0)) (by (with_reducible repeat (first | refine kD ?_ _ | refine kE ?_ | refine kA ?_ _)); exact BK295.out) hb); have n3_ := AM (kB (g := gb301) (o := .cells #[.string t296, .bool t297] 34 (0, 0)) (by (with_reducible repeat (first | refine kD ?_ _ | refine kE ?_ | refine kA ?_ _)); exact BK301.out) hb); have n4_ := AM (kB (g := gb307) (o := .cells #[.string t302, .bool t303] 34 (0, 0)) (by (with_reducible repeat (first | refine kD ?_ _ | refine kE ?_ | refine kA ?_ _)); exact BK307.out) hb); have n5_ := AM (bS (by repeat (first | (with_reducible first | exact HB.out | apply bA | apply bD | apply bE | refine below_set ?_ GE295.out | refine below_set ?_ GE301.out | refine below_set ?_ GE307.out) | exact HB.out)) hb); clear HO300; clear HO306; clear BK295; clear BK301; clear BK307; clear HB; have HO300 := n0_; have HO306 := n1_; have BK295 := n2_; have BK301 := n3_; have BK307 := n4_; have HB := n5_; clear n0_ n1_ n2_ n3_ n4_ n5_; (try clear hb); (try clear hb2); (try clear hk); (try clear hi)))
      go_meet
      case rel => exact ⟨_, (decide ((t294.size : Int) > 300)), (by first | rfl | (simp; done) | (simp [*]; done)), H', ⟨by first | omega | exact Nat.le_refl _⟩, ⟨by (with_reducible repeat (first | apply sA | apply sD | apply sE)); exact sM HO300.out (fun _ hk => hk.2)⟩, ⟨by (with_reducible repeat (first | apply sA | apply sD | apply sE)); exact sM HO306.out (fun _ hk => hk.2)⟩, ⟨by (with_reducible repeat (first | refine kD ?_ _ | refine kE ?_ | refine kA ?_ _)); exact BK295.out⟩, ⟨by (with_reducible repeat (first | refine kD ?_ _ | refine kE ?_ | refine kA ?_ _)); exact BK301.out⟩, ⟨by (with_reducible repeat (first | refine kD ?_ _ | refine kE ?_ | refine kA ?_ _)); exact BK307.out⟩, ⟨by repeat (first | (with_reducible first | exact HB.out | apply bA | apply bD | apply bE | refine below_set ?_ GE295.out | refine below_set ?_ GE301.out | refine below_set ?_ GE307.out) | exact HB.out)⟩⟩
     ·replace c24 := Bool.eq_false_iff.mpr c24
      subst c24
      have H1 : (laws_FnPipeBytes.j0 k t294 t298 t304 true t292 t293 t296 t297 t302 t303) = some r := by rw [if_neg (show ¬ (false = true) by decide)] at H; exact H
      clear H
      have H := H1
      clear H1
      have H' := AM H
      clear H
      have hnb35 := NB301_295.out
      have hnc35 := NB295_301.out
      have hnb36 := NB301_307.out
      have hnc36 := NB307_301.out
      have hcz37_0 : w16.cell? ⟨gb301, 0, none⟩ = some (.string t296) := (kC BK301.out 0).trans rfl
      have hcz37_1 : w16.cell? ⟨gb301, 1, none⟩ = some (.bool t297) := (kC BK301.out 1).trans rfl
      have hfz37_0 := blk_frozen BK301.out 0
      have hfz37_1 := blk_frozen BK301.out 1
      have hnb38 := NB307_295.out
      have hnc38 := NB295_307.out
      have hcz39_0 : w16.cell? ⟨gb307, 0, none⟩ = some (.string (⟨#[]⟩ : ByteArray)) := (kC BK307.out 0).trans rfl
      have hcz39_1 : w16.cell? ⟨gb307, 1, none⟩ = some (.bool false) := (kC BK307.out 1).trans rfl
      have hfz39_0 := blk_frozen BK307.out 0
      have hfz39_1 := blk_frozen BK307.out 1
      go_wp2_with (first | ((with_reducible refine gate_callee (f := 35) rfl ?_); refine goesL_ (some 37) rfl rfl Tryd.func35 (by kernel_rfl) rfl #[.agg #[.string t296, .bool t297], .agg #[.string t302, .bool t303]] rfl (by (try simp only [List.map_toArray, List.map_cons, List.map_nil]); first | done | rfl | (simp only [List.length_drop, List.length_take]; rfl)) ?_; (with_reducible refine (laws_qnPipe.calls t296 t297 t302 t303 true _ A20.out).mono ?_); rintro e w40 ⟨rfl, hb⟩; refine ⟨_, rfl, ?_⟩; have n0_ := AM (sB (by (with_reducible repeat (first | apply sA | apply sD | apply sE)); exact (sM (Kd.S_far (p := ⟨gb307, 1, none⟩) (Kd.S_far (p := ⟨gb307, 0, none⟩) (Kd.S_types HO300.out BK307.out (by decide)) (fun _ hk => hk.2) (.string t302)) (fun _ hk => hk.2) (.bool t303)) (fun _ h_ => h_.1))) hb); have n1_ := AM (sB (by (with_reducible repeat (first | apply sA | apply sD | apply sE)); exact (sM (Kd.S_far (p := ⟨gb307, 1, none⟩) (Kd.S_far (p := ⟨gb307, 0, none⟩) (Kd.S_types HO306.out BK307.out (by decide)) (fun _ hk => hk.2) (.string t302)) (fun _ hk => hk.2) (.bool t303)) (fun _ h_ => h_.1))) hb); have n2_ := AM (kB (g := gb295) (o := .cells #[.string t292, .bool t293] 34 (0, 0)) (by (with_reducible repeat (first | refine kD ?_ _ | refine kE ?_ | refine kA ?_ _)); refine blk_far ?_ NB295_307.out _; (with_reducible repeat (first | refine kD ?_ _ | refine kE ?_ | refine kA ?_ _)); refine blk_far ?_ NB295_307.out _; (with_reducible repeat (first | refine kD ?_ _ | refine kE ?_ | refine kA ?_ _)); exact BK295.out) hb); have n3_ := AM (kB (g := gb301) (o := .cells #[.string t296, .bool t297] 34 (0, 0)) (by (with_reducible repeat (first | refine kD ?_ _ | refine kE ?_ | refine kA ?_ _)); refine blk_far ?_ NB301_307.out _; (with_reducible repeat (first | refine kD ?_ _ | refine kE ?_ | refine kA ?_ _)); refine blk_far ?_ NB301_307.out _; (with_reducible repeat (first | refine kD ?_ _ | refine kE ?_ | refine kA ?_ _)); exact BK301.out) hb); have n4_ := AM (kB (g := gb307) (o := .cells #[.string t302, .bool t303] 34 (0, 0)) (by (with_reducible repeat (first | refine kD ?_ _ | refine kE ?_ | refine kA ?_ _)); refine blk_put (cs := #[.string t302, .bool false]) ?_ 1 _ rfl; (with_reducible repeat (first | refine kD ?_ _ | refine kE ?_ | refine kA ?_ _)); refine blk_put (cs := #[.string (⟨#[]⟩ : ByteArray), .bool false]) ?_ 0 _ rfl; (with_reducible repeat (first | refine kD ?_ _ | refine kE ?_ | refine kA ?_ _)); exact BK307.out) hb); have n5_ := AM (bS (by repeat (first | (with_reducible first | exact HB.out | apply bA | apply bD | apply bE | refine below_set ?_ GE295.out | refine below_set ?_ GE301.out | refine below_set ?_ GE307.out) | exact HB.out)) hb); clear HO300; clear HO306; clear BK295; clear BK301; clear BK307; clear HB; have HO300 := n0_; have HO306 := n1_; have BK295 := n2_; have BK301 := n3_; have BK307 := n4_; have HB := n5_; clear n0_ n1_ n2_ n3_ n4_ n5_; (try clear hb); (try clear hb2); (try clear hk); (try clear hi); obtain ⟨Ao41, co41, eo41⟩ := Kd.S_slice HO300.out; subst eo41; obtain ⟨Ao42, co42, eo42⟩ := Kd.S_slice HO306.out; subst eo42; have hcz43_0 : w40.cell? ⟨gb295, 0, none⟩ = some (.string t292) := (kC BK295.out 0).trans rfl; have hcz43_1 : w40.cell? ⟨gb295, 1, none⟩ = some (.bool t293) := (kC BK295.out 1).trans rfl; have hfz43_0 := blk_frozen BK295.out 0; have hfz43_1 := blk_frozen BK295.out 1) | (go_at_call 36; (with_reducible refine (spec_PipeOk.calls k t292 t293 false _ A23.out).mono ?_); rintro e w44 ⟨rfl, hb⟩; have n0_ := AM (sB (by (with_reducible repeat (first | apply sA | apply sD | apply sE)); exact HO300.out) hb); have n1_ := AM (sB (by (with_reducible repeat (first | apply sA | apply sD | apply sE)); exact HO306.out) hb); have n2_ := AM (kB (g := gb295) (o := .cells #[.string t292, .bool t293] 34 (0, 0)) (by (with_reducible repeat (first | refine kD ?_ _ | refine kE ?_ | refine kA ?_ _)); exact BK295.out) hb); have n3_ := AM (kB (g := gb301) (o := .cells #[.string t296, .bool t297] 34 (0, 0)) (by (with_reducible repeat (first | refine kD ?_ _ | refine kE ?_ | refine kA ?_ _)); exact BK301.out) hb); have n4_ := AM (kB (g := gb307) (o := .cells #[.string t302, .bool t303] 34 (0, 0)) (by (with_reducible repeat (first | refine kD ?_ _ | refine kE ?_ | refine kA ?_ _)); exact BK307.out) hb); have n5_ := AM (bS (by repeat (first | (with_reducible first | exact HB.out | apply bA | apply bD | apply bE | refine below_set ?_ GE295.out | refine below_set ?_ GE301.out | refine below_set ?_ GE307.out) | exact HB.out)) hb); clear HO300; clear HO306; clear BK295; clear BK301; clear BK307; clear HB; have HO300 := n0_; have HO306 := n1_; have BK295 := n2_; have BK301 := n3_; have BK307 := n4_; have HB := n5_; clear n0_ n1_ n2_ n3_ n4_ n5_; (try clear hb); (try clear hb2); (try clear hk); (try clear hi)))
      go_meet
      case rel => exact ⟨_, (true), (by first | rfl | (simp; done) | (simp [*]; done)), H', ⟨by first | omega | exact Nat.le_refl _⟩, ⟨by (with_reducible repeat (first | apply sA | apply sD | apply sE)); exact sM HO300.out (fun _ hk => hk.2)⟩, ⟨by (with_reducible repeat (first | apply sA | apply sD | apply sE)); exact sM HO306.out (fun _ hk => hk.2)⟩, ⟨by (with_reducible repeat (first | refine kD ?_ _ | refine kE ?_ | refine kA ?_ _)); exact BK295.out⟩, ⟨by (with_reducible repeat (first | refine kD ?_ _ | refine kE ?_ | refine kA ?_ _)); exact BK301.out⟩, ⟨by (with_reducible repeat (first | refine kD ?_ _ | refine kE ?_ | refine kA ?_ _)); exact BK307.out⟩, ⟨by repeat (first | (with_reducible first | exact HB.out | apply bA | apply bD | apply bE | refine below_set ?_ GE295.out | refine below_set ?_ GE301.out | refine below_set ?_ GE307.out) | exact HB.out)⟩⟩
    ·rw [if_neg c22] at H
     exact absurd H (by simp)
   ·replace c21 := Bool.eq_false_iff.mpr c21
    subst c21
    have H1 : (none) = some r := by rw [if_neg (show ¬ (false = true) by decide)] at H; exact H
    clear H
    have H := H1
    clear H1
    exact absurd H (by simp)
  case rest =>
   clear HC6
   try clear c1
   try clear c2
   try clear c2b0
   try clear c2b1
   try clear p2
   try clear c3
   try clear c7
   try clear c12
   try clear c17
   try clear c18
   try clear c19
   try clear c21
   try clear c22
   try clear c22b0
   try clear c22b1
   try clear c22b2
   try clear c24
   try clear c25
   try clear c26
   try clear c28
   try clear c33
   try clear c34
   try clear c35
   try clear c36
   try clear c38
   try clear hcz13_0
   try clear hcz13_1
   try clear hcz14_0
   try clear hcz14_1
   try clear hcz19_0
   try clear hcz19_1
   try clear hcz27_0
   try clear hcz27_1
   try clear hcz29_0
   try clear hcz29_1
   try clear hcz33_0
   try clear hcz33_1
   try clear hcz37_0
   try clear hcz37_1
   try clear hcz39_0
   try clear hcz39_1
   try clear hcz43_0
   try clear hcz43_1
   try clear hcz9_0
   try clear hcz9_1
   try clear hfz13_0
   try clear hfz13_1
   try clear hfz14_0
   try clear hfz14_1
   try clear hfz19_0
   try clear hfz19_1
   try clear hfz27_0
   try clear hfz27_1
   try clear hfz29_0
   try clear hfz29_1
   try clear hfz33_0
   try clear hfz33_1
   try clear hfz37_0
   try clear hfz37_1
   try clear hfz39_0
   try clear hfz39_1
   try clear hfz43_0
   try clear hfz43_1
   try clear hfz9_0
   try clear hfz9_1
   obtain ⟨kq, x55_5, rfl, HA, HJ5, HO_6, HO_8, BK295, BK301, BK307, HB⟩ := hcut
   cases kq with
   | zero => exact absurd HA.out (by simp [laws_FnPipeBytes.j0])
   | succ kj5 =>
    have H := HA.out
    clear HA
    simp only [laws_FnPipeBytes.j0] at H
    by_cases c45 : x55_5 = true
    ·subst c45
     have H1 : ((laws_qnPipe.f t296 t297 t302 t303).bind fun t310 => (if t310 = true then (some ((t298.length : Int) == (t304.length : Int))) else (none))) = some r := by rw [if_pos rfl] at H; exact H
     clear H
     have H := H1
     clear H1
     replace H := Option.bind_eq_some_iff.mp H
     obtain ⟨t310, A460, H⟩ := H
     replace H : (if t310 = true then (some ((t298.length : Int) == (t304.length : Int))) else (none)) = some r := H
     have A46 := AM A460
     clear A460
     by_cases c47 : t310 = true
     ·subst c47
      have H1 : (some ((t298.length : Int) == (t304.length : Int))) = some r := by rw [if_pos rfl] at H; exact H
      clear H
      have H := H1
      clear H1
      obtain rfl := Option.some.inj H
      have hnb48 := NB301_295.out
      have hnc48 := NB295_301.out
      have hnb49 := NB301_307.out
      have hnc49 := NB307_301.out
      have hcz50_0 : wc.cell? ⟨gb301, 0, none⟩ = some (.string t296) := (kC BK301.out 0).trans rfl
      have hcz50_1 : wc.cell? ⟨gb301, 1, none⟩ = some (.bool t297) := (kC BK301.out 1).trans rfl
      have hfz50_0 := blk_frozen BK301.out 0
      have hfz50_1 := blk_frozen BK301.out 1
      have hnb51 := NB307_295.out
      have hnc51 := NB295_307.out
      have hcz52_0 : wc.cell? ⟨gb307, 0, none⟩ = some (.string t302) := (kC BK307.out 0).trans rfl
      have hcz52_1 : wc.cell? ⟨gb307, 1, none⟩ = some (.bool t303) := (kC BK307.out 1).trans rfl
      have hfz52_0 := blk_frozen BK307.out 0
      have hfz52_1 := blk_frozen BK307.out 1
      go_wp2_with (first | ((with_reducible refine gate_callee (f := 35) rfl ?_); refine goesL_ (some 58) rfl rfl Tryd.func35 (by kernel_rfl) rfl #[.agg #[.string t296, .bool t297], .agg #[.string t302, .bool t303]] rfl (by (try simp only [List.map_toArray, List.map_cons, List.map_nil]); first | done | rfl | (simp only [List.length_drop, List.length_take]; rfl)) ?_; (with_reducible refine (laws_qnPipe.calls t296 t297 t302 t303 true _ A46.out).mono ?_); rintro e w53 ⟨rfl, hb⟩; refine ⟨_, rfl, ?_⟩; have n0_ := AM (sB (by (with_reducible repeat (first | apply sA | apply sD | apply sE)); exact HO_6.out) hb); have n1_ := AM (sB (by (with_reducible repeat (first | apply sA | apply sD | apply sE)); exact HO_8.out) hb); have n2_ := AM (kB (g := gb295) (o := .cells #[.string t292, .bool t293] 34 (0, 0)) (by (with_reducible repeat (first | refine kD ?_ _ | refine kE ?_ | refine kA ?_ _)); exact BK295.out) hb); have n3_ := AM (kB (g := gb301) (o := .cells #[.string t296, .bool t297] 34 (0, 0)) (by (with_reducible repeat (first | refine kD ?_ _ | refine kE ?_ | refine kA ?_ _)); exact BK301.out) hb); have n4_ := AM (kB (g := gb307) (o := .cells #[.string t302, .bool t303] 34 (0, 0)) (by (with_reducible repeat (first | refine kD ?_ _ | refine kE ?_ | refine kA ?_ _)); exact BK307.out) hb); have n5_ := AM (bS (by repeat (first | (with_reducible first | exact HB.out | apply bA | apply bD | apply bE | refine below_set ?_ GE295.out | refine below_set ?_ GE301.out | refine below_set ?_ GE307.out) | exact HB.out)) hb); clear HO_6; clear HO_8; clear BK295; clear BK301; clear BK307; clear HB; have HO_6 := n0_; have HO_8 := n1_; have BK295 := n2_; have BK301 := n3_; have BK307 := n4_; have HB := n5_; clear n0_ n1_ n2_ n3_ n4_ n5_; (try clear hb); (try clear hb2); (try clear hk); (try clear hi); obtain ⟨Ao54, co54, eo54⟩ := Kd.S_slice HO_6.out; subst eo54; obtain ⟨Ao55, co55, eo55⟩ := Kd.S_slice HO_8.out; subst eo55))
      go_ret
      exact ⟨by first | rfl | (simp [errW_none, errW_some] <;> rfl) | (simp [*, errW_none, errW_some] <;> rfl), by repeat (first | (with_reducible first | exact HB.out | apply bA | apply bD | apply bE | refine below_set ?_ GE295.out | refine below_set ?_ GE301.out | refine below_set ?_ GE307.out) | exact HB.out)⟩
     ·replace c47 := Bool.eq_false_iff.mpr c47
      subst c47
      have H1 : (none) = some r := by rw [if_neg (show ¬ (false = true) by decide)] at H; exact H
      clear H
      have H := H1
      clear H1
      exact absurd H (by simp)
    ·replace c45 := Bool.eq_false_iff.mpr c45
     subst c45
     have H1 : (laws_FnPipeBytes.l0 kj5 t294 t298 0 0 t296 t297 t292 t293) = some r := by rw [if_neg (show ¬ (false = true) by decide)] at H; exact H
     clear H
     have H := H1
     clear H1
     have H' := AM H
     clear H
     have hnb56 := NB295_301.out
     have hnc56 := NB301_295.out
     have hnb57 := NB295_307.out
     have hnc57 := NB307_295.out
     have hcz58_0 : wc.cell? ⟨gb295, 0, none⟩ = some (.string t292) := (kC BK295.out 0).trans rfl
     have hcz58_1 : wc.cell? ⟨gb295, 1, none⟩ = some (.bool t293) := (kC BK295.out 1).trans rfl
     have hfz58_0 := blk_frozen BK295.out 0
     have hfz58_1 := blk_frozen BK295.out 1
     go_wp2_with (first | ((with_reducible refine gate_dst (N := 10) rfl ?_); (try (refine gate_guard (by rfl) ?_; dsimp only)); refine box_event ?hg (N := 10) ?hd (cs := #[.string (⟨#[]⟩ : ByteArray), .bool false]) (t := 34) ?hr ?_; (case hd => rfl); (case hg => rfl); (case hr => first | (go_simp; done) | (go_simp; rfl)); intro gb311 hg w59 hbox hb; have n0_ := AM (sB (by (with_reducible repeat (first | apply sA | apply sD | apply sE)); exact HO_6.out) hb); have n1_ := AM (sB (by (with_reducible repeat (first | apply sA | apply sD | apply sE)); exact HO_8.out) hb); have n2_ := AM (kB (g := gb295) (o := .cells #[.string t292, .bool t293] 34 (0, 0)) (by (with_reducible repeat (first | refine kD ?_ _ | refine kE ?_ | refine kA ?_ _)); exact BK295.out) hb); have n3_ := AM (kB (g := gb301) (o := .cells #[.string t296, .bool t297] 34 (0, 0)) (by (with_reducible repeat (first | refine kD ?_ _ | refine kE ?_ | refine kA ?_ _)); exact BK301.out) hb); have n4_ := AM (kB (g := gb307) (o := .cells #[.string t302, .bool t303] 34 (0, 0)) (by (with_reducible repeat (first | refine kD ?_ _ | refine kE ?_ | refine kA ?_ _)); exact BK307.out) hb); have n5_ := AM (bS (by repeat (first | (with_reducible first | exact HB.out | apply bA | apply bD | apply bE | refine below_set ?_ GE295.out | refine below_set ?_ GE301.out | refine below_set ?_ GE307.out) | exact HB.out)) hb); have n6_ := AM (hbox); have n7_ := AM ((by rw [hg]; exact (bZ (by repeat (first | (with_reducible first | exact HB.out | apply bA | apply bD | apply bE | refine below_set ?_ GE295.out | refine below_set ?_ GE301.out | refine below_set ?_ GE307.out) | exact HB.out))) : w.heap.size ≤ gb311)); have n8_ := AM ((by rw [hg]; exact (bZ (by repeat (first | (with_reducible first | exact HB.out | apply bA | apply bD | apply bE | refine below_set ?_ GE295.out | refine below_set ?_ GE301.out | refine below_set ?_ GE307.out) | exact HB.out))) : w.heap.size ≤ gb311)); have n9_ := AM ((by rw [hg]; exact Nat.ne_of_lt (blk_lt (g := gb295) (o := .cells #[.string t292, .bool t293] 34 (0, 0)) (by (with_reducible repeat (first | refine kD ?_ _ | refine kE ?_ | refine kA ?_ _)); exact BK295.out)) : gb295 ≠ gb311)); have n10_ := AM ((by rw [hg]; exact Nat.ne_of_gt (blk_lt (g := gb295) (o := .cells #[.string t292, .bool t293] 34 (0, 0)) (by (with_reducible repeat (first | refine kD ?_ _ | refine kE ?_ | refine kA ?_ _)); exact BK295.out)) : gb311 ≠ gb295)); have n11_ := AM ((by rw [hg]; exact Nat.ne_of_lt (blk_lt (g := gb301) (o := .cells #[.string t296, .bool t297] 34 (0, 0)) (by (with_reducible repeat (first | refine kD ?_ _ | refine kE ?_ | refine kA ?_ _)); exact BK301.out)) : gb301 ≠ gb311)); have n12_ := AM ((by rw [hg]; exact Nat.ne_of_gt (blk_lt (g := gb301) (o := .cells #[.string t296, .bool t297] 34 (0, 0)) (by (with_reducible repeat (first | refine kD ?_ _ | refine kE ?_ | refine kA ?_ _)); exact BK301.out)) : gb311 ≠ gb301)); have n13_ := AM ((by rw [hg]; exact Nat.ne_of_lt (blk_lt (g := gb307) (o := .cells #[.string t302, .bool t303] 34 (0, 0)) (by (with_reducible repeat (first | refine kD ?_ _ | refine kE ?_ | refine kA ?_ _)); exact BK307.out)) : gb307 ≠ gb311)); have n14_ := AM ((by rw [hg]; exact Nat.ne_of_gt (blk_lt (g := gb307) (o := .cells #[.string t302, .bool t303] 34 (0, 0)) (by (with_reducible repeat (first | refine kD ?_ _ | refine kE ?_ | refine kA ?_ _)); exact BK307.out)) : gb311 ≠ gb307)); clear HO_6; clear HO_8; clear BK295; clear BK301; clear BK307; clear HB; have HO_6 := n0_; have HO_8 := n1_; have BK295 := n2_; have BK301 := n3_; have BK307 := n4_; have HB := n5_; have BK311 := n6_; have GW311 := n7_; have GE311 := n8_; have NB295_311 := n9_; have NB311_295 := n10_; have NB301_311 := n11_; have NB311_301 := n12_; have NB307_311 := n13_; have NB311_307 := n14_; clear n0_ n1_ n2_ n3_ n4_ n5_ n6_ n7_ n8_ n9_ n10_ n11_ n12_ n13_ n14_; clear hb hbox hg; have hnb60 := NB311_295.out; have hnc60 := NB295_311.out; have hnb61 := NB311_301.out; have hnc61 := NB301_311.out; have hnb62 := NB311_307.out; have hnc62 := NB307_311.out; have hcz63_0 : w59.cell? ⟨gb311, 0, none⟩ = some (.string (⟨#[]⟩ : ByteArray)) := (kC BK311.out 0).trans rfl; have hcz63_1 : w59.cell? ⟨gb311, 1, none⟩ = some (.bool false) := (kC BK311.out 1).trans rfl; have hfz63_0 := blk_frozen BK311.out 0; have hfz63_1 := blk_frozen BK311.out 1))
     go_loopg [9, 11] kj5 (fun kq v9 v11 w' => ∃ (x9_2 : Int) (x11_2 : Int) (x312000_2 : ByteArray) (x312001_2 : Bool), v9 = .int .i64 x9_2 ∧ v11 = .int .i64 x11_2 ∧ Aside0 (laws_FnPipeBytes.l0 kq t294 t298 x9_2 x11_2 t296 t297 x312000_2 x312001_2 = some r) ∧ Aside0 (kq ≤ kj5) ∧ Aside0 (Kd.S (Kd.slice 9 Kd.string) 30 w' w.heap.size (fun _ => True) v299 t298) ∧ Aside0 (w'.heap[gb295]? = some (.cells #[.string t292, .bool t293] 34 (0, 0))) ∧ Aside0 (w'.heap[gb301]? = some (.cells #[.string t296, .bool t297] 34 (0, 0))) ∧ Aside0 (w'.heap[gb307]? = some (.cells #[.string t302, .bool t303] 34 (0, 0))) ∧ Aside0 (w'.heap[gb311]? = some (.cells #[.string x312000_2, .bool x312001_2] 34 (0, 0))) ∧ Aside0 (Below w.heap.size w w'))
     case atStart => exact ⟨(0), (0), (t292), (t293), (by first | rfl | (simp; done) | (simp [*]; done)), (by first | rfl | (simp; done) | (simp [*]; done)), H', ⟨Nat.le_refl _⟩, ⟨by (with_reducible repeat (first | apply sA | apply sD | apply sE)); exact sM (Kd.S_far (p := ⟨gb311, 1, none⟩) (Kd.S_far (p := ⟨gb311, 0, none⟩) (Kd.S_types HO_6.out BK311.out (by decide)) (fun _ hk => hk.2) (.string t292)) (fun _ hk => hk.2) (.bool t293)) (fun _ hk => trivial)⟩, ⟨by (with_reducible repeat (first | refine kD ?_ _ | refine kE ?_ | refine kA ?_ _)); refine blk_far ?_ NB295_311.out _; (with_reducible repeat (first | refine kD ?_ _ | refine kE ?_ | refine kA ?_ _)); refine blk_far ?_ NB295_311.out _; (with_reducible repeat (first | refine kD ?_ _ | refine kE ?_ | refine kA ?_ _)); exact BK295.out⟩, ⟨by (with_reducible repeat (first | refine kD ?_ _ | refine kE ?_ | refine kA ?_ _)); refine blk_far ?_ NB301_311.out _; (with_reducible repeat (first | refine kD ?_ _ | refine kE ?_ | refine kA ?_ _)); refine blk_far ?_ NB301_311.out _; (with_reducible repeat (first | refine kD ?_ _ | refine kE ?_ | refine kA ?_ _)); exact BK301.out⟩, ⟨by (with_reducible repeat (first | refine kD ?_ _ | refine kE ?_ | refine kA ?_ _)); refine blk_far ?_ NB307_311.out _; (with_reducible repeat (first | refine kD ?_ _ | refine kE ?_ | refine kA ?_ _)); refine blk_far ?_ NB307_311.out _; (with_reducible repeat (first | refine kD ?_ _ | refine kE ?_ | refine kA ?_ _)); exact BK307.out⟩, ⟨by (with_reducible repeat (first | refine kD ?_ _ | refine kE ?_ | refine kA ?_ _)); refine blk_put (cs := #[.string t292, .bool false]) ?_ 1 _ rfl; (with_reducible repeat (first | refine kD ?_ _ | refine kE ?_ | refine kA ?_ _)); refine blk_put (cs := #[.string (⟨#[]⟩ : ByteArray), .bool false]) ?_ 0 _ rfl; (with_reducible repeat (first | refine kD ?_ _ | refine kE ?_ | refine kA ?_ _)); exact BK311.out⟩, ⟨by repeat (first | (with_reducible first | exact HB.out | apply bA | apply bD | apply bE | refine below_set ?_ GE295.out | refine below_set ?_ GE301.out | refine below_set ?_ GE307.out | refine below_set ?_ GE311.out) | exact HB.out)⟩⟩
     case round =>
      clear H'
      try clear c1
      try clear c2
      try clear c2b0
      try clear c2b1
      try clear p2
      try clear c3
      try clear c4
      try clear c5
      try clear c6
      try clear c7
      try clear c12
      try clear c17
      try clear c18
      try clear c19
      try clear c21
      try clear c22
      try clear c22b0
      try clear c22b1
      try clear c22b2
      try clear c24
      try clear c25
      try clear c26
      try clear c28
      try clear c33
      try clear c34
      try clear c35
      try clear c36
      try clear c38
      try clear c45
      try clear c47
      try clear c48
      try clear c49
      try clear c51
      try clear c56
      try clear c57
      try clear c60
      try clear c61
      try clear c62
      try clear hcz13_0
      try clear hcz13_1
      try clear hcz14_0
      try clear hcz14_1
      try clear hcz19_0
      try clear hcz19_1
      try clear hcz27_0
      try clear hcz27_1
      try clear hcz29_0
      try clear hcz29_1
      try clear hcz33_0
      try clear hcz33_1
      try clear hcz37_0
      try clear hcz37_1
      try clear hcz39_0
      try clear hcz39_1
      try clear hcz43_0
      try clear hcz43_1
      try clear hcz50_0
      try clear hcz50_1
      try clear hcz52_0
      try clear hcz52_1
      try clear hcz58_0
      try clear hcz58_1
      try clear hcz63_0
      try clear hcz63_1
      try clear hcz9_0
      try clear hcz9_1
      try clear hfz13_0
      try clear hfz13_1
      try clear hfz14_0
      try clear hfz14_1
      try clear hfz19_0
      try clear hfz19_1
      try clear hfz27_0
      try clear hfz27_1
      try clear hfz29_0
      try clear hfz29_1
      try clear hfz33_0
      try clear hfz33_1
      try clear hfz37_0
      try clear hfz37_1
      try clear hfz39_0
      try clear hfz39_1
      try clear hfz43_0
      try clear hfz43_1
      try clear hfz50_0
      try clear hfz50_1
      try clear hfz52_0
      try clear hfz52_1
      try clear hfz58_0
      try clear hfz58_1
      try clear hfz63_0
      try clear hfz63_1
      try clear hfz9_0
      try clear hfz9_1
      try clear p2
      obtain ⟨x9_2, x11_2, x312000_2, x312001_2, rfl, rfl, HA, HK2, HO_6, BK295, BK301, BK307, BK311, HB⟩ := hrel
      cases gk with
      | zero => exact absurd HA.out (by simp [laws_FnPipeBytes.l0])
      | succ k2 =>
       have H := HA.out
       clear HA
       simp only [laws_FnPipeBytes.l0] at H
       by_cases c64 : x11_2 < (t294.size : Int)
       ·rw [if_pos c64] at H
        have c64b0 : decide (x11_2 < (t294.size : Int)) = true := decide_eq_true c64
        clear c64
        by_cases c65 : 0 ≤ x11_2
        ·rw [if_pos c65] at H
         have c65b0 := eq_true c65
         have c65b1 : decide (0 ≤ x11_2) = true := decide_eq_true c65
         clear c65
         by_cases c66 : x11_2 ≤ (wrap64 (x11_2 + 1))
         ·rw [if_pos c66] at H
          have c66b0 := eq_true c66
          have c66b1 : decide (x11_2 ≤ (wrap64 (x11_2 + 1))) = true := decide_eq_true c66
          by_cases c67 : (wrap64 (x11_2 + 1)) ≤ (t294.size : Int)
          ·rw [if_pos c67] at H
           have c67b0 := eq_true c67
           have c67b1 : decide ((wrap64 (x11_2 + 1)) ≤ (t294.size : Int)) = true := decide_eq_true c67
           replace H := Option.bind_eq_some_iff.mp H
           obtain ⟨⟨t313, t314, t315⟩, A680, H⟩ := H
           replace H : (laws_FnPipeBytes.l1 k2 t294 t298 x9_2 x11_2 t315 0 t296 t297 t313 t314) = some r := H
           have A68 := AM A680
           clear A680
           have H' := AM H
           clear H
           try go_wp2
           have n0_ := AM (sE HO_6.out)
           have n1_ := AM (kE BK295.out)
           have n2_ := AM (kE BK301.out)
           have n3_ := AM (kE BK307.out)
           have n4_ := AM (kE BK311.out)
           have n5_ := AM (bE HB.out)
           clear HO_6
           clear BK295
           clear BK301
           clear BK307
           clear BK311
           clear HB
           have HO_6 := n0_
           have BK295 := n1_
           have BK301 := n2_
           have BK307 := n3_
           have BK311 := n4_
           have HB := n5_
           clear n0_ n1_ n2_ n3_ n4_ n5_
           refine start_ (n := 13) (S := fun w' => w'.cell? ⟨gb311, 0, none⟩ = some (.string x312000_2) ∧ w'.cell? ⟨gb311, 1, none⟩ = some (.bool x312001_2)) (ds := []) #[false, false, false, false, false, false, false, false, false, false, false, false, false] (by kernel_rfl) rfl rfl ⟨(kC BK311.out 0).trans rfl, (kC BK311.out 1).trans rfl⟩ (fun hHeld => ?_); refine with_tabW laws_FnPipeBytes.tab13 laws_FnPipeBytes.bits13 (fun HT_ HW_ => ?_)
           generalize wr.drew = w69 at HO_6 BK295 BK301 BK307 BK311 HB hHeld ⊢
           refine pure_ (i := 1) (N := some 75) (v := ?_) (a' := ?_) #[false, true, false, false, false, false, false, false, false, false, false, false, false] rfl rfl (any_of HT_.out (by kernel_rfl)) (fun _ _ _ h => h) (Or.inl ⟨by rfl, ?_⟩) ?_ ?_
           rotate_left
           ·intro w'
            go_simp
            with_reducible rfl
           rotate_left
           ·simp only [Act.put, lA, lZ, lS, i64_w, i32_w]
            rfl
           refine pure_ (i := 2) (N := some 76) (v := ?_) (a' := ?_) #[false, true, true, false, false, false, false, false, false, false, false, false, false] rfl rfl (any_of HT_.out (by kernel_rfl)) (fun _ _ _ h => h) (Or.inl ⟨by rfl, ?_⟩) ?_ ?_
           rotate_left
           ·intro w'
            go_simp
            with_reducible rfl
           rotate_left
           ·simp only [Act.put, lA, lZ, lS, i64_w, i32_w]
            rfl
           refine pure_ (i := 3) (N := some 77) (v := ?_) (a' := ?_) #[false, true, true, true, false, false, false, false, false, false, false, false, false] rfl rfl (any_of HT_.out (by kernel_rfl)) (fun _ _ _ h => h) (Or.inl ⟨by rfl, ?_⟩) ?_ ?_
           rotate_left
           ·intro w'
            go_simp
            with_reducible rfl
           rotate_left
           ·simp only [Act.put, lA, lZ, lS, i64_w, i32_w]
            rfl
           refine pure_ (i := 4) (N := some 78) (v := ?_) (a' := ?_) #[false, true, true, true, true, false, false, false, false, false, false, false, false] rfl rfl (any_of HT_.out (by kernel_rfl)) (fun _ _ _ h => h) (Or.inl ⟨by rfl, ?_⟩) ?_ ?_
           rotate_left
           ·intro w'
            go_simp
            with_reducible rfl
           rotate_left
           ·simp only [Act.put, lA, lZ, lS, i64_w, i32_w]
            rfl
           refine pure_ (i := 5) (N := some 79) (v := ?_) (a' := ?_) #[false, true, true, true, true, true, false, false, false, false, false, false, false] rfl rfl (any_of HT_.out (by kernel_rfl)) (fun _ _ _ h => h) (Or.inl ⟨by rfl, ?_⟩) ?_ ?_
           rotate_left
           ·intro w'
            go_simp
            with_reducible rfl
           rotate_left
           ·simp only [Act.put, lA, lZ, lS, i64_w, i32_w]
            rfl
           refine take_ (i := 0) (N := some 74) (v := ?_) (a' := ?_) #[true, true, true, true, true, true, false, false, false, false, false, false, false] rfl rfl (take_ofW HT_.out HW_.out (by kernel_rfl)) (fun _ _ _ h => h) (Or.inl ⟨by rfl, ?_⟩) hHeld ?_ ?_
           rotate_left
           ·rintro w' ⟨s0, s1⟩
            go_simp
            with_reducible rfl
           rotate_left
           ·simp only [Act.put, lA, lZ, lS, i64_w, i32_w]
            rfl
           refine join_ (σ := Value × Nat) 2 #[true, true, true, true, true, true, true, true, true, true, true, false, false] (fun s_ => [(80, .tuple #[.agg #[.string t313, .bool t314], s_.1]), (12, .pointer (some ⟨s_.2, 0, none⟩)), (73, .tuple #[.agg #[.string t313, .bool t314], s_.1]), (81, .agg #[.string t313, .bool t314]), (82, s_.1)]) (fun s_ w' => (w'.cell? ⟨gb311, 0, none⟩ = some (.string x312000_2) ∧ w'.cell? ⟨gb311, 1, none⟩ = some (.bool x312001_2)) ∧ (Kd.S (Kd.slice 9 Kd.string) 30 w' w.heap.size (fun k_ => some k_ ≠ (v299 : Value).ownBlock) s_.1 t315) ∧ (Kd.S (Kd.slice 9 Kd.string) 30 w' w.heap.size (fun k_ => some k_ ≠ (s_.1 : Value).ownBlock) v299 t298) ∧ (w'.heap[gb295]? = some (.cells #[.string t292, .bool t293] 34 (0, 0))) ∧ (w'.heap[gb301]? = some (.cells #[.string t296, .bool t297] 34 (0, 0))) ∧ (w'.heap[gb307]? = some (.cells #[.string t302, .bool t303] 34 (0, 0))) ∧ (w'.heap[gb311]? = some (.cells #[.string x312000_2, .bool x312001_2] 34 (0, 0))) ∧ (w'.heap[s_.2]? = some (.cells #[.string (⟨#[]⟩ : ByteArray), .bool false] 34 (0, 0))) ∧ (w.heap.size ≤ s_.2) ∧ (w.heap.size ≤ s_.2) ∧ (gb295 ≠ s_.2) ∧ (s_.2 ≠ gb295) ∧ (gb301 ≠ s_.2) ∧ (s_.2 ≠ gb301) ∧ (gb307 ≠ s_.2) ∧ (s_.2 ≠ gb307) ∧ (gb311 ≠ s_.2) ∧ (s_.2 ≠ gb311) ∧ (Below w.heap.size w w')) ?_ ?_
           rotate_left
           ·intro hCont
            refine two_ (i := 6) (j := 10) (Ni := some 80) (Nj := some 12) #[true, true, true, true, true, true, true, false, false, false, false, false, false] #[true, true, true, true, true, true, false, false, false, false, true, false, false] rfl rfl rfl rfl (two_of HT_.out (by kernel_rfl)) (by decide) (by decide) (fun K hK => ?_) (fun K hK => ?_)
            ·skip
             refine goes_ Tryd.func19 (by kernel_rfl) rfl #[.agg #[.string x312000_2, .bool x312001_2], .string (t294.extract (x11_2 : Int).toNat ((wrap64 (x11_2 + 1)) : Int).toNat)] (by rfl) rfl rfl (by (try simp only [List.map_toArray, List.map_cons, List.map_nil]); first | done | rfl | (simp only [List.length_drop, List.length_take]; rfl)) ?_
             with_reducible refine (impl_PipeFeed.calls k2 x312000_2 x312001_2 (t294.extract (x11_2 : Int).toNat ((wrap64 (x11_2 + 1)) : Int).toNat) t313 t314 t315 _ A68.out).mono ?_
             rintro e w70 ⟨v316, rfl, ho0, hb⟩
             refine ⟨_, rfl, ?_⟩
             have n0_ := AM (Kd.S_elder' (by (with_reducible repeat (first | apply sA | apply sD | apply sE)); exact HO_6.out) (Kd.S_base ho0) hb)
             have n1_ := AM (Kd.S_lower (Kd.S_new' ho0 (Kd.S_lt (by (with_reducible repeat (first | apply sA | apply sD | apply sE)); exact HO_6.out))) (bZ (by repeat (first | (with_reducible first | exact HB.out | apply bA | apply bD | apply bE | refine below_set ?_ GE295.out | refine below_set ?_ GE301.out | refine below_set ?_ GE307.out | refine below_set ?_ GE311.out) | exact HB.out))))
             have n2_ := AM (kB (g := gb295) (o := .cells #[.string t292, .bool t293] 34 (0, 0)) (by (with_reducible repeat (first | refine kD ?_ _ | refine kE ?_ | refine kA ?_ _)); exact BK295.out) hb)
             have n3_ := AM (kB (g := gb301) (o := .cells #[.string t296, .bool t297] 34 (0, 0)) (by (with_reducible repeat (first | refine kD ?_ _ | refine kE ?_ | refine kA ?_ _)); exact BK301.out) hb)
             have n4_ := AM (kB (g := gb307) (o := .cells #[.string t302, .bool t303] 34 (0, 0)) (by (with_reducible repeat (first | refine kD ?_ _ | refine kE ?_ | refine kA ?_ _)); exact BK307.out) hb)
             have n5_ := AM (kB (g := gb311) (o := .cells #[.string x312000_2, .bool x312001_2] 34 (0, 0)) (by (with_reducible repeat (first | refine kD ?_ _ | refine kE ?_ | refine kA ?_ _)); exact BK311.out) hb)
             have n6_ := AM (bS (by repeat (first | (with_reducible first | exact HB.out | apply bA | apply bD | apply bE | refine below_set ?_ GE295.out | refine below_set ?_ GE301.out | refine below_set ?_ GE307.out | refine below_set ?_ GE311.out) | exact HB.out)) hb)
             clear HO_6
             clear BK295
             clear BK301
             clear BK307
             clear BK311
             clear HB
             have HO_6 := n0_
             have HO317 := n1_
             have BK295 := n2_
             have BK301 := n3_
             have BK307 := n4_
             have BK311 := n5_
             have HB := n6_
             clear n0_ n1_ n2_ n3_ n4_ n5_ n6_
             (try clear hb)
             (try clear hb2)
             (try clear hk)
             (try clear hi)
             (try clear ho0)
             refine hK.out _ _ ⟨(kC BK311.out 0).trans rfl, (kC BK311.out 1).trans rfl⟩ (fun hHeld => ?_)
             clear hK K
             refine norm_ (a' := ?_) ?_ ?_
             rotate_left
             ·show Act.put _ (some 80) _ = _
              simp only [Act.put, lA, lZ, lS, i64_w, i32_w]
              rfl
             refine pure_ (i := 7) (N := some 73) (v := ?_) (a' := ?_) #[true, true, true, true, true, true, true, true, false, false, false, false, false] rfl rfl (any_of HT_.out (by kernel_rfl)) (fun _ _ _ h => h) (Or.inl ⟨by rfl, ?_⟩) ?_ ?_
             rotate_left
             ·intro w'
              go_simp
              with_reducible rfl
             rotate_left
             ·simp only [Act.put, lA, lZ, lS, i64_w, i32_w]
              rfl
             refine pure_ (i := 8) (N := some 81) (v := ?_) (a' := ?_) #[true, true, true, true, true, true, true, true, true, false, false, false, false] rfl rfl (any_of HT_.out (by kernel_rfl)) (fun _ _ _ h => h) (Or.inl ⟨by rfl, ?_⟩) ?_ ?_
             rotate_left
             ·intro w'
              go_simp
              with_reducible rfl
             rotate_left
             ·simp only [Act.put, lA, lZ, lS, i64_w, i32_w]
              rfl
             refine pure_ (i := 9) (N := some 82) (v := ?_) (a' := ?_) #[true, true, true, true, true, true, true, true, true, true, false, false, false] rfl rfl (any_of HT_.out (by kernel_rfl)) (fun _ _ _ h => h) (Or.inl ⟨by rfl, ?_⟩) ?_ ?_
             rotate_left
             ·intro w'
              go_simp
              with_reducible rfl
             rotate_left
             ·simp only [Act.put, lA, lZ, lS, i64_w, i32_w]
              rfl
             refine one_ (i := 10) (N := some 12) #[true, true, true, true, true, true, true, true, true, true, true, false, false] rfl rfl (one_of HT_.out (by kernel_rfl)) (by decide) (fun K hK => ?_)
             refine box_step ?hg (N := 12) ?hd (cs := #[.string (⟨#[]⟩ : ByteArray), .bool false]) (t := 34) ?hr ?_; (case hd => rfl); (case hg => rfl); (case hr => first | (go_simp; done) | (go_simp; rfl))
             intro gb318 hg w71 hbox hb
             have n0_ := AM (sB (by (with_reducible repeat (first | apply sA | apply sD | apply sE)); exact HO_6.out) hb)
             have n1_ := AM (sB (by (with_reducible repeat (first | apply sA | apply sD | apply sE)); exact HO317.out) hb)
             have n2_ := AM (kB (g := gb295) (o := .cells #[.string t292, .bool t293] 34 (0, 0)) (by (with_reducible repeat (first | refine kD ?_ _ | refine kE ?_ | refine kA ?_ _)); exact BK295.out) hb)
             have n3_ := AM (kB (g := gb301) (o := .cells #[.string t296, .bool t297] 34 (0, 0)) (by (with_reducible repeat (first | refine kD ?_ _ | refine kE ?_ | refine kA ?_ _)); exact BK301.out) hb)
             have n4_ := AM (kB (g := gb307) (o := .cells #[.string t302, .bool t303] 34 (0, 0)) (by (with_reducible repeat (first | refine kD ?_ _ | refine kE ?_ | refine kA ?_ _)); exact BK307.out) hb)
             have n5_ := AM (kB (g := gb311) (o := .cells #[.string x312000_2, .bool x312001_2] 34 (0, 0)) (by (with_reducible repeat (first | refine kD ?_ _ | refine kE ?_ | refine kA ?_ _)); exact BK311.out) hb)
             have n6_ := AM (bS (by repeat (first | (with_reducible first | exact HB.out | apply bA | apply bD | apply bE | refine below_set ?_ GE295.out | refine below_set ?_ GE301.out | refine below_set ?_ GE307.out | refine below_set ?_ GE311.out) | exact HB.out)) hb)
             have n7_ := AM (hbox)
             have n8_ := AM ((by rw [hg]; exact (bZ (by repeat (first | (with_reducible first | exact HB.out | apply bA | apply bD | apply bE | refine below_set ?_ GE295.out | refine below_set ?_ GE301.out | refine below_set ?_ GE307.out | refine below_set ?_ GE311.out) | exact HB.out))) : w.heap.size ≤ gb318))
             have n9_ := AM ((by rw [hg]; exact (bZ (by repeat (first | (with_reducible first | exact HB.out | apply bA | apply bD | apply bE | refine below_set ?_ GE295.out | refine below_set ?_ GE301.out | refine below_set ?_ GE307.out | refine below_set ?_ GE311.out) | exact HB.out))) : w.heap.size ≤ gb318))
             have n10_ := AM ((by rw [hg]; exact Nat.ne_of_lt (blk_lt (g := gb295) (o := .cells #[.string t292, .bool t293] 34 (0, 0)) (by (with_reducible repeat (first | refine kD ?_ _ | refine kE ?_ | refine kA ?_ _)); exact BK295.out)) : gb295 ≠ gb318))
             have n11_ := AM ((by rw [hg]; exact Nat.ne_of_gt (blk_lt (g := gb295) (o := .cells #[.string t292, .bool t293] 34 (0, 0)) (by (with_reducible repeat (first | refine kD ?_ _ | refine kE ?_ | refine kA ?_ _)); exact BK295.out)) : gb318 ≠ gb295))
             have n12_ := AM ((by rw [hg]; exact Nat.ne_of_lt (blk_lt (g := gb301) (o := .cells #[.string t296, .bool t297] 34 (0, 0)) (by (with_reducible repeat (first | refine kD ?_ _ | refine kE ?_ | refine kA ?_ _)); exact BK301.out)) : gb301 ≠ gb318))
             have n13_ := AM ((by rw [hg]; exact Nat.ne_of_gt (blk_lt (g := gb301) (o := .cells #[.string t296, .bool t297] 34 (0, 0)) (by (with_reducible repeat (first | refine kD ?_ _ | refine kE ?_ | refine kA ?_ _)); exact BK301.out)) : gb318 ≠ gb301))
             have n14_ := AM ((by rw [hg]; exact Nat.ne_of_lt (blk_lt (g := gb307) (o := .cells #[.string t302, .bool t303] 34 (0, 0)) (by (with_reducible repeat (first | refine kD ?_ _ | refine kE ?_ | refine kA ?_ _)); exact BK307.out)) : gb307 ≠ gb318))
             have n15_ := AM ((by rw [hg]; exact Nat.ne_of_gt (blk_lt (g := gb307) (o := .cells #[.string t302, .bool t303] 34 (0, 0)) (by (with_reducible repeat (first | refine kD ?_ _ | refine kE ?_ | refine kA ?_ _)); exact BK307.out)) : gb318 ≠ gb307))
             have n16_ := AM ((by rw [hg]; exact Nat.ne_of_lt (blk_lt (g := gb311) (o := .cells #[.string x312000_2, .bool x312001_2] 34 (0, 0)) (by (with_reducible repeat (first | refine kD ?_ _ | refine kE ?_ | refine kA ?_ _)); exact BK311.out)) : gb311 ≠ gb318))
             have n17_ := AM ((by rw [hg]; exact Nat.ne_of_gt (blk_lt (g := gb311) (o := .cells #[.string x312000_2, .bool x312001_2] 34 (0, 0)) (by (with_reducible repeat (first | refine kD ?_ _ | refine kE ?_ | refine kA ?_ _)); exact BK311.out)) : gb318 ≠ gb311))
             clear HO_6
             clear HO317
             clear BK295
             clear BK301
             clear BK307
             clear BK311
             clear HB
             have HO_6 := n0_
             have HO317 := n1_
             have BK295 := n2_
             have BK301 := n3_
             have BK307 := n4_
             have BK311 := n5_
             have HB := n6_
             have BK318 := n7_
             have GW318 := n8_
             have GE318 := n9_
             have NB295_318 := n10_
             have NB318_295 := n11_
             have NB301_318 := n12_
             have NB318_301 := n13_
             have NB307_318 := n14_
             have NB318_307 := n15_
             have NB311_318 := n16_
             have NB318_311 := n17_
             clear n0_ n1_ n2_ n3_ n4_ n5_ n6_ n7_ n8_ n9_ n10_ n11_ n12_ n13_ n14_ n15_ n16_ n17_
             clear hb hbox hg
             refine hK.out _ _ ⟨(kC BK311.out 0).trans rfl, (kC BK311.out 1).trans rfl⟩ (fun hHeld => ?_)
             clear hK K
             refine norm_ (a' := ?_) ?_ ?_
             rotate_left
             ·show Act.put _ (some 12) _ = _
              simp only [Act.put, lA, lZ, lS, i64_w, i32_w]
              rfl
             exact norm_ (by simp only [putAll, Act.put, lA, lZ, lS]) (hCont (v316, gb318) _ ⟨hHeld, (by (with_reducible repeat (first | apply sA | apply sD | apply sE)); exact sM HO317.out (fun _ hk => hk.2)), (by (with_reducible repeat (first | apply sA | apply sD | apply sE)); exact sM HO_6.out (fun _ hk => hk.2)), (by (with_reducible repeat (first | refine kD ?_ _ | refine kE ?_ | refine kA ?_ _)); exact BK295.out), (by (with_reducible repeat (first | refine kD ?_ _ | refine kE ?_ | refine kA ?_ _)); exact BK301.out), (by (with_reducible repeat (first | refine kD ?_ _ | refine kE ?_ | refine kA ?_ _)); exact BK307.out), (by (with_reducible repeat (first | refine kD ?_ _ | refine kE ?_ | refine kA ?_ _)); exact BK311.out), (by (with_reducible repeat (first | refine kD ?_ _ | refine kE ?_ | refine kA ?_ _)); exact BK318.out), GW318.out, GE318.out, NB295_318.out, NB318_295.out, NB301_318.out, NB318_301.out, NB307_318.out, NB318_307.out, NB311_318.out, NB318_311.out, (by repeat (first | (with_reducible first | exact HB.out | apply bA | apply bD | apply bE | refine below_set ?_ GE295.out | refine below_set ?_ GE301.out | refine below_set ?_ GE307.out | refine below_set ?_ GE311.out | refine below_set ?_ GE318.out) | exact HB.out))⟩)
            ·skip
             refine box_step ?hg (N := 12) ?hd (cs := #[.string (⟨#[]⟩ : ByteArray), .bool false]) (t := 34) ?hr ?_; (case hd => rfl); (case hg => rfl); (case hr => first | (go_simp; done) | (go_simp; rfl))
             intro gb318 hg w70 hbox hb
             have n0_ := AM (sB (by (with_reducible repeat (first | apply sA | apply sD | apply sE)); exact HO_6.out) hb)
             have n1_ := AM (kB (g := gb295) (o := .cells #[.string t292, .bool t293] 34 (0, 0)) (by (with_reducible repeat (first | refine kD ?_ _ | refine kE ?_ | refine kA ?_ _)); exact BK295.out) hb)
             have n2_ := AM (kB (g := gb301) (o := .cells #[.string t296, .bool t297] 34 (0, 0)) (by (with_reducible repeat (first | refine kD ?_ _ | refine kE ?_ | refine kA ?_ _)); exact BK301.out) hb)
             have n3_ := AM (kB (g := gb307) (o := .cells #[.string t302, .bool t303] 34 (0, 0)) (by (with_reducible repeat (first | refine kD ?_ _ | refine kE ?_ | refine kA ?_ _)); exact BK307.out) hb)
             have n4_ := AM (kB (g := gb311) (o := .cells #[.string x312000_2, .bool x312001_2] 34 (0, 0)) (by (with_reducible repeat (first | refine kD ?_ _ | refine kE ?_ | refine kA ?_ _)); exact BK311.out) hb)
             have n5_ := AM (bS (by repeat (first | (with_reducible first | exact HB.out | apply bA | apply bD | apply bE | refine below_set ?_ GE295.out | refine below_set ?_ GE301.out | refine below_set ?_ GE307.out | refine below_set ?_ GE311.out) | exact HB.out)) hb)
             have n6_ := AM (hbox)
             have n7_ := AM ((by rw [hg]; exact (bZ (by repeat (first | (with_reducible first | exact HB.out | apply bA | apply bD | apply bE | refine below_set ?_ GE295.out | refine below_set ?_ GE301.out | refine below_set ?_ GE307.out | refine below_set ?_ GE311.out) | exact HB.out))) : w.heap.size ≤ gb318))
             have n8_ := AM ((by rw [hg]; exact (bZ (by repeat (first | (with_reducible first | exact HB.out | apply bA | apply bD | apply bE | refine below_set ?_ GE295.out | refine below_set ?_ GE301.out | refine below_set ?_ GE307.out | refine below_set ?_ GE311.out) | exact HB.out))) : w.heap.size ≤ gb318))
             have n9_ := AM ((by rw [hg]; exact Nat.ne_of_lt (blk_lt (g := gb295) (o := .cells #[.string t292, .bool t293] 34 (0, 0)) (by (with_reducible repeat (first | refine kD ?_ _ | refine kE ?_ | refine kA ?_ _)); exact BK295.out)) : gb295 ≠ gb318))
             have n10_ := AM ((by rw [hg]; exact Nat.ne_of_gt (blk_lt (g := gb295) (o := .cells #[.string t292, .bool t293] 34 (0, 0)) (by (with_reducible repeat (first | refine kD ?_ _ | refine kE ?_ | refine kA ?_ _)); exact BK295.out)) : gb318 ≠ gb295))
             have n11_ := AM ((by rw [hg]; exact Nat.ne_of_lt (blk_lt (g := gb301) (o := .cells #[.string t296, .bool t297] 34 (0, 0)) (by (with_reducible repeat (first | refine kD ?_ _ | refine kE ?_ | refine kA ?_ _)); exact BK301.out)) : gb301 ≠ gb318))
             have n12_ := AM ((by rw [hg]; exact Nat.ne_of_gt (blk_lt (g := gb301) (o := .cells #[.string t296, .bool t297] 34 (0, 0)) (by (with_reducible repeat (first | refine kD ?_ _ | refine kE ?_ | refine kA ?_ _)); exact BK301.out)) : gb318 ≠ gb301))
             have n13_ := AM ((by rw [hg]; exact Nat.ne_of_lt (blk_lt (g := gb307) (o := .cells #[.string t302, .bool t303] 34 (0, 0)) (by (with_reducible repeat (first | refine kD ?_ _ | refine kE ?_ | refine kA ?_ _)); exact BK307.out)) : gb307 ≠ gb318))
             have n14_ := AM ((by rw [hg]; exact Nat.ne_of_gt (blk_lt (g := gb307) (o := .cells #[.string t302, .bool t303] 34 (0, 0)) (by (with_reducible repeat (first | refine kD ?_ _ | refine kE ?_ | refine kA ?_ _)); exact BK307.out)) : gb318 ≠ gb307))
             have n15_ := AM ((by rw [hg]; exact Nat.ne_of_lt (blk_lt (g := gb311) (o := .cells #[.string x312000_2, .bool x312001_2] 34 (0, 0)) (by (with_reducible repeat (first | refine kD ?_ _ | refine kE ?_ | refine kA ?_ _)); exact BK311.out)) : gb311 ≠ gb318))
             have n16_ := AM ((by rw [hg]; exact Nat.ne_of_gt (blk_lt (g := gb311) (o := .cells #[.string x312000_2, .bool x312001_2] 34 (0, 0)) (by (with_reducible repeat (first | refine kD ?_ _ | refine kE ?_ | refine kA ?_ _)); exact BK311.out)) : gb318 ≠ gb311))
             clear HO_6
             clear BK295
             clear BK301
             clear BK307
             clear BK311
             clear HB
             have HO_6 := n0_
             have BK295 := n1_
             have BK301 := n2_
             have BK307 := n3_
             have BK311 := n4_
             have HB := n5_
             have BK318 := n6_
             have GW318 := n7_
             have GE318 := n8_
             have NB295_318 := n9_
             have NB318_295 := n10_
             have NB301_318 := n11_
             have NB318_301 := n12_
             have NB307_318 := n13_
             have NB318_307 := n14_
             have NB311_318 := n15_
             have NB318_311 := n16_
             clear n0_ n1_ n2_ n3_ n4_ n5_ n6_ n7_ n8_ n9_ n10_ n11_ n12_ n13_ n14_ n15_ n16_
             clear hb hbox hg
             refine hK.out _ _ ⟨(kC BK311.out 0).trans rfl, (kC BK311.out 1).trans rfl⟩ (fun hHeld => ?_)
             clear hK K
             refine norm_ (a' := ?_) ?_ ?_
             rotate_left
             ·show Act.put _ (some 12) _ = _
              simp only [Act.put, lA, lZ, lS, i64_w, i32_w]
              rfl
             refine one_ (i := 6) (N := some 80) #[true, true, true, true, true, true, true, false, false, false, true, false, false] rfl rfl (one_of HT_.out (by kernel_rfl)) (by decide) (fun K hK => ?_)
             refine goes_ Tryd.func19 (by kernel_rfl) rfl #[.agg #[.string x312000_2, .bool x312001_2], .string (t294.extract (x11_2 : Int).toNat ((wrap64 (x11_2 + 1)) : Int).toNat)] (by rfl) rfl rfl (by (try simp only [List.map_toArray, List.map_cons, List.map_nil]); first | done | rfl | (simp only [List.length_drop, List.length_take]; rfl)) ?_
             with_reducible refine (impl_PipeFeed.calls k2 x312000_2 x312001_2 (t294.extract (x11_2 : Int).toNat ((wrap64 (x11_2 + 1)) : Int).toNat) t313 t314 t315 _ A68.out).mono ?_
             rintro e w71 ⟨v316, rfl, ho0, hb⟩
             refine ⟨_, rfl, ?_⟩
             have n0_ := AM (Kd.S_elder' (by (with_reducible repeat (first | apply sA | apply sD | apply sE)); exact HO_6.out) (Kd.S_base ho0) hb)
             have n1_ := AM (Kd.S_lower (Kd.S_new' ho0 (Kd.S_lt (by (with_reducible repeat (first | apply sA | apply sD | apply sE)); exact HO_6.out))) (bZ (by repeat (first | (with_reducible first | exact HB.out | apply bA | apply bD | apply bE | refine below_set ?_ GE295.out | refine below_set ?_ GE301.out | refine below_set ?_ GE307.out | refine below_set ?_ GE311.out | refine below_set ?_ GE318.out) | exact HB.out))))
             have n2_ := AM (kB (g := gb295) (o := .cells #[.string t292, .bool t293] 34 (0, 0)) (by (with_reducible repeat (first | refine kD ?_ _ | refine kE ?_ | refine kA ?_ _)); exact BK295.out) hb)
             have n3_ := AM (kB (g := gb301) (o := .cells #[.string t296, .bool t297] 34 (0, 0)) (by (with_reducible repeat (first | refine kD ?_ _ | refine kE ?_ | refine kA ?_ _)); exact BK301.out) hb)
             have n4_ := AM (kB (g := gb307) (o := .cells #[.string t302, .bool t303] 34 (0, 0)) (by (with_reducible repeat (first | refine kD ?_ _ | refine kE ?_ | refine kA ?_ _)); exact BK307.out) hb)
             have n5_ := AM (kB (g := gb311) (o := .cells #[.string x312000_2, .bool x312001_2] 34 (0, 0)) (by (with_reducible repeat (first | refine kD ?_ _ | refine kE ?_ | refine kA ?_ _)); exact BK311.out) hb)
             have n6_ := AM (kB (g := gb318) (o := .cells #[.string (⟨#[]⟩ : ByteArray), .bool false] 34 (0, 0)) (by (with_reducible repeat (first | refine kD ?_ _ | refine kE ?_ | refine kA ?_ _)); exact BK318.out) hb)
             have n7_ := AM (bS (by repeat (first | (with_reducible first | exact HB.out | apply bA | apply bD | apply bE | refine below_set ?_ GE295.out | refine below_set ?_ GE301.out | refine below_set ?_ GE307.out | refine below_set ?_ GE311.out | refine below_set ?_ GE318.out) | exact HB.out)) hb)
             clear HO_6
             clear BK295
             clear BK301
             clear BK307
             clear BK311
             clear BK318
             clear HB
             have HO_6 := n0_
             have HO317 := n1_
             have BK295 := n2_
             have BK301 := n3_
             have BK307 := n4_
             have BK311 := n5_
             have BK318 := n6_
             have HB := n7_
             clear n0_ n1_ n2_ n3_ n4_ n5_ n6_ n7_
             (try clear hb)
             (try clear hb2)
             (try clear hk)
             (try clear hi)
             (try clear ho0)
             refine hK.out _ _ ⟨(kC BK311.out 0).trans rfl, (kC BK311.out 1).trans rfl⟩ (fun hHeld => ?_)
             clear hK K
             refine norm_ (a' := ?_) ?_ ?_
             rotate_left
             ·show Act.put _ (some 80) _ = _
              simp only [Act.put, lA, lZ, lS, i64_w, i32_w]
              rfl
             refine pure_ (i := 7) (N := some 73) (v := ?_) (a' := ?_) #[true, true, true, true, true, true, true, true, false, false, true, false, false] rfl rfl (any_of HT_.out (by kernel_rfl)) (fun _ _ _ h => h) (Or.inl ⟨by rfl, ?_⟩) ?_ ?_
             rotate_left
             ·intro w'
              go_simp
              with_reducible rfl
             rotate_left
             ·simp only [Act.put, lA, lZ, lS, i64_w, i32_w]
              rfl
             refine pure_ (i := 8) (N := some 81) (v := ?_) (a' := ?_) #[true, true, true, true, true, true, true, true, true, false, true, false, false] rfl rfl (any_of HT_.out (by kernel_rfl)) (fun _ _ _ h => h) (Or.inl ⟨by rfl, ?_⟩) ?_ ?_
             rotate_left
             ·intro w'
              go_simp
              with_reducible rfl
             rotate_left
             ·simp only [Act.put, lA, lZ, lS, i64_w, i32_w]
              rfl
             refine pure_ (i := 9) (N := some 82) (v := ?_) (a' := ?_) #[true, true, true, true, true, true, true, true, true, true, true, false, false] rfl rfl (any_of HT_.out (by kernel_rfl)) (fun _ _ _ h => h) (Or.inl ⟨by rfl, ?_⟩) ?_ ?_
             rotate_left
             ·intro w'
              go_simp
              with_reducible rfl
             rotate_left
             ·simp only [Act.put, lA, lZ, lS, i64_w, i32_w]
              rfl
             exact norm_ (by simp only [putAll, Act.put, lA, lZ, lS]) (hCont (v316, gb318) _ ⟨hHeld, (by (with_reducible repeat (first | apply sA | apply sD | apply sE)); exact sM HO317.out (fun _ hk => hk.2)), (by (with_reducible repeat (first | apply sA | apply sD | apply sE)); exact sM HO_6.out (fun _ hk => hk.2)), (by (with_reducible repeat (first | refine kD ?_ _ | refine kE ?_ | refine kA ?_ _)); exact BK295.out), (by (with_reducible repeat (first | refine kD ?_ _ | refine kE ?_ | refine kA ?_ _)); exact BK301.out), (by (with_reducible repeat (first | refine kD ?_ _ | refine kE ?_ | refine kA ?_ _)); exact BK307.out), (by (with_reducible repeat (first | refine kD ?_ _ | refine kE ?_ | refine kA ?_ _)); exact BK311.out), (by (with_reducible repeat (first | refine kD ?_ _ | refine kE ?_ | refine kA ?_ _)); exact BK318.out), GW318.out, GE318.out, NB295_318.out, NB318_295.out, NB301_318.out, NB318_301.out, NB307_318.out, NB318_307.out, NB311_318.out, NB318_311.out, (by repeat (first | (with_reducible first | exact HB.out | apply bA | apply bD | apply bE | refine below_set ?_ GE295.out | refine below_set ?_ GE301.out | refine below_set ?_ GE307.out | refine below_set ?_ GE311.out | refine below_set ?_ GE318.out) | exact HB.out))⟩)
           rintro ⟨v316, gb318⟩ w72 ⟨hS_, h0_, h1_, h2_, h3_, h4_, h5_, h6_, h7_, h8_, h9_, h10_, h11_, h12_, h13_, h14_, h15_, h16_, h17_⟩
           have n0_ : Aside0 (Kd.S (Kd.slice 9 Kd.string) 30 w72 w.heap.size (fun k_ => some k_ ≠ (v299 : Value).ownBlock) v316 t315) := ⟨h0_⟩
           have n1_ : Aside0 (Kd.S (Kd.slice 9 Kd.string) 30 w72 w.heap.size (fun k_ => some k_ ≠ (v316 : Value).ownBlock) v299 t298) := ⟨h1_⟩
           have n2_ : Aside0 (w72.heap[gb295]? = some (.cells #[.string t292, .bool t293] 34 (0, 0))) := ⟨h2_⟩
           have n3_ : Aside0 (w72.heap[gb301]? = some (.cells #[.string t296, .bool t297] 34 (0, 0))) := ⟨h3_⟩
           have n4_ : Aside0 (w72.heap[gb307]? = some (.cells #[.string t302, .bool t303] 34 (0, 0))) := ⟨h4_⟩
           have n5_ : Aside0 (w72.heap[gb311]? = some (.cells #[.string x312000_2, .bool x312001_2] 34 (0, 0))) := ⟨h5_⟩
           have n6_ : Aside0 (w72.heap[gb318]? = some (.cells #[.string (⟨#[]⟩ : ByteArray), .bool false] 34 (0, 0))) := ⟨h6_⟩
           have n7_ : Aside0 (w.heap.size ≤ gb318) := ⟨h7_⟩
           have n8_ : Aside0 (w.heap.size ≤ gb318) := ⟨h8_⟩
           have n9_ : Aside0 (gb295 ≠ gb318) := ⟨h9_⟩
           have n10_ : Aside0 (gb318 ≠ gb295) := ⟨h10_⟩
           have n11_ : Aside0 (gb301 ≠ gb318) := ⟨h11_⟩
           have n12_ : Aside0 (gb318 ≠ gb301) := ⟨h12_⟩
           have n13_ : Aside0 (gb307 ≠ gb318) := ⟨h13_⟩
           have n14_ : Aside0 (gb318 ≠ gb307) := ⟨h14_⟩
           have n15_ : Aside0 (gb311 ≠ gb318) := ⟨h15_⟩
           have n16_ : Aside0 (gb318 ≠ gb311) := ⟨h16_⟩
           have n17_ : Aside0 (Below w.heap.size w w72) := ⟨h17_⟩
           clear HO_6
           clear BK295
           clear BK301
           clear BK307
           clear BK311
           clear HB
           clear h0_ h1_ h2_ h3_ h4_ h5_ h6_ h7_ h8_ h9_ h10_ h11_ h12_ h13_ h14_ h15_ h16_ h17_
           have HO317 := n0_
           have HO_6 := n1_
           have BK295 := n2_
           have BK301 := n3_
           have BK307 := n4_
           have BK311 := n5_
           have BK318 := n6_
           have GW318 := n7_
           have GE318 := n8_
           have NB295_318 := n9_
           have NB318_295 := n10_
           have NB301_318 := n11_
           have NB318_301 := n12_
           have NB307_318 := n13_
           have NB318_307 := n14_
           have NB311_318 := n15_
           have NB318_311 := n16_
           have HB := n17_
           clear n0_ n1_ n2_ n3_ n4_ n5_ n6_ n7_ n8_ n9_ n10_ n11_ n12_ n13_ n14_ n15_ n16_ n17_
           have hHeld : w72.cell? ⟨gb311, 0, none⟩ = some (.string x312000_2) ∧ w72.cell? ⟨gb311, 1, none⟩ = some (.bool x312001_2) := hS_
           refine norm_ (a' := ?_) ?_ ?_
           rotate_left
           ·simp only [putAll, Act.put, lA, lZ, lS]
            rfl
           refine one_ (i := 11) (N := none) #[true, true, true, true, true, true, true, true, true, true, true, true, false] rfl rfl (one_of HT_.out (by kernel_rfl)) (by decide) (fun K hK => ?_)
           have hs73 : w72.cell? ⟨gb318, 0, none⟩ = some (.string (⟨#[]⟩ : ByteArray)) := (kC BK318.out 0).trans rfl
           have hfs73 := blk_frozen BK318.out 0
           have hns73_0 := NB295_318.out
           have hns73_1 := NB301_318.out
           have hns73_2 := NB307_318.out
           have hns73_3 := NB311_318.out
           have hms73_0 := NB318_295.out
           have hms73_1 := NB318_301.out
           have hms73_2 := NB318_307.out
           have hms73_3 := NB318_311.out
           have hs74 : w72.cell? ⟨gb318, 1, none⟩ = some (.bool false) := (kC BK318.out 1).trans rfl
           have hfs74 := blk_frozen BK318.out 1
           have hns74_0 := NB295_318.out
           have hns74_1 := NB301_318.out
           have hns74_2 := NB307_318.out
           have hns74_3 := NB311_318.out
           have hms74_0 := NB318_295.out
           have hms74_1 := NB318_301.out
           have hms74_2 := NB318_307.out
           have hms74_3 := NB318_311.out
           refine skip_ (w1 := ?_) (by rfl) rfl ?_ ?_
           rotate_left
           ·go_simp
            rfl
           refine hK.out _ _ ⟨((cell_far (p := ⟨gb318, _, none⟩) NB311_318.out _).trans (((cell_far (p := ⟨gb318, _, none⟩) NB311_318.out _).trans (hHeld.1)))), ((cell_far (p := ⟨gb318, _, none⟩) NB311_318.out _).trans (((cell_far (p := ⟨gb318, _, none⟩) NB311_318.out _).trans (hHeld.2))))⟩ (fun hHeld => ?_)
           clear hK K
           refine pure_ (i := 12) (N := some 13) (v := ?_) (a' := ?_) #[true, true, true, true, true, true, true, true, true, true, true, true, true] rfl rfl (any_of HT_.out (by kernel_rfl)) (fun _ _ _ h => h) (Or.inl ⟨by rfl, ?_⟩) ?_ ?_
           rotate_left
           ·intro w'
            go_simp
            with_reducible rfl
           rotate_left
           ·simp only [Act.put, lA, lZ, lS, i64_w, i32_w]
            rfl
           refine done_ (done_of HT_.out (by kernel_rfl)) ?_
           try go_wp2
           go_loopg [9, 14] k2 (fun kq v9 v14 w' => ∃ (x9_3 : Int) (x14_3 : Int), v9 = .int .i64 x9_3 ∧ v14 = .int .i64 x14_3 ∧ Aside0 (laws_FnPipeBytes.l1 kq t294 t298 x9_3 x11_2 t315 x14_3 t296 t297 t313 t314 = some r) ∧ Aside0 (kq ≤ k2) ∧ Aside0 (Kd.S (Kd.slice 9 Kd.string) 30 w' w.heap.size (fun k_ => some k_ ≠ (v316 : Value).ownBlock) v299 t298) ∧ Aside0 (Kd.S (Kd.slice 9 Kd.string) 30 w' w.heap.size (fun k_ => some k_ ≠ (v299 : Value).ownBlock) v316 t315) ∧ Aside0 (w'.heap[gb295]? = some (.cells #[.string t292, .bool t293] 34 (0, 0))) ∧ Aside0 (w'.heap[gb301]? = some (.cells #[.string t296, .bool t297] 34 (0, 0))) ∧ Aside0 (w'.heap[gb307]? = some (.cells #[.string t302, .bool t303] 34 (0, 0))) ∧ Aside0 (w'.heap[gb311]? = some (.cells #[.string x312000_2, .bool x312001_2] 34 (0, 0))) ∧ Aside0 (w'.heap[gb318]? = some (.cells #[.string t313, .bool t314] 34 (0, 0))) ∧ Aside0 (Below w.heap.size w w'))
           case atStart => exact ⟨(x9_2), (0), (by first | rfl | (simp; done) | (simp [*]; done)), (by first | rfl | (simp; done) | (simp [*]; done)), H', ⟨Nat.le_refl _⟩, ⟨by (with_reducible repeat (first | apply sA | apply sD | apply sE)); exact sM (Kd.S_far (p := ⟨gb318, 1, none⟩) (Kd.S_far (p := ⟨gb318, 0, none⟩) (Kd.S_types HO_6.out BK318.out (by decide)) (fun _ hk => hk.2) (.string t313)) (fun _ hk => hk.2) (.bool t314)) (fun _ hk => hk.1)⟩, ⟨by (with_reducible repeat (first | apply sA | apply sD | apply sE)); exact sM (Kd.S_far (p := ⟨gb318, 1, none⟩) (Kd.S_far (p := ⟨gb318, 0, none⟩) (Kd.S_types HO317.out BK318.out (by decide)) (fun _ hk => hk.2) (.string t313)) (fun _ hk => hk.2) (.bool t314)) (fun _ hk => hk.1)⟩, ⟨by (with_reducible repeat (first | refine kD ?_ _ | refine kE ?_ | refine kA ?_ _)); refine blk_far ?_ NB295_318.out _; (with_reducible repeat (first | refine kD ?_ _ | refine kE ?_ | refine kA ?_ _)); refine blk_far ?_ NB295_318.out _; (with_reducible repeat (first | refine kD ?_ _ | refine kE ?_ | refine kA ?_ _)); exact BK295.out⟩, ⟨by (with_reducible repeat (first | refine kD ?_ _ | refine kE ?_ | refine kA ?_ _)); refine blk_far ?_ NB301_318.out _; (with_reducible repeat (first | refine kD ?_ _ | refine kE ?_ | refine kA ?_ _)); refine blk_far ?_ NB301_318.out _; (with_reducible repeat (first | refine kD ?_ _ | refine kE ?_ | refine kA ?_ _)); exact BK301.out⟩, ⟨by (with_reducible repeat (first | refine kD ?_ _ | refine kE ?_ | refine kA ?_ _)); refine blk_far ?_ NB307_318.out _; (with_reducible repeat (first | refine kD ?_ _ | refine kE ?_ | refine kA ?_ _)); refine blk_far ?_ NB307_318.out _; (with_reducible repeat (first | refine kD ?_ _ | refine kE ?_ | refine kA ?_ _)); exact BK307.out⟩, ⟨by (with_reducible repeat (first | refine kD ?_ _ | refine kE ?_ | refine kA ?_ _)); refine blk_far ?_ NB311_318.out _; (with_reducible repeat (first | refine kD ?_ _ | refine kE ?_ | refine kA ?_ _)); refine blk_far ?_ NB311_318.out _; (with_reducible repeat (first | refine kD ?_ _ | refine kE ?_ | refine kA ?_ _)); exact BK311.out⟩, ⟨by (with_reducible repeat (first | refine kD ?_ _ | refine kE ?_ | refine kA ?_ _)); refine blk_put (cs := #[.string t313, .bool false]) ?_ 1 _ rfl; (with_reducible repeat (first | refine kD ?_ _ | refine kE ?_ | refine kA ?_ _)); refine blk_put (cs := #[.string (⟨#[]⟩ : ByteArray), .bool false]) ?_ 0 _ rfl; (with_reducible repeat (first | refine kD ?_ _ | refine kE ?_ | refine kA ?_ _)); exact BK318.out⟩, ⟨by repeat (first | (with_reducible first | exact HB.out | apply bA | apply bD | apply bE | refine below_set ?_ GE295.out | refine below_set ?_ GE301.out | refine below_set ?_ GE307.out | refine below_set ?_ GE311.out | refine below_set ?_ GE318.out) | exact HB.out)⟩⟩
           case round =>
            clear H'
            try clear c1
            try clear c2
            try clear c2b0
            try clear c2b1
            try clear p2
            try clear c3
            try clear c4
            try clear c5
            try clear c6
            try clear p6
            try clear c7
            try clear c12
            try clear c17
            try clear c18
            try clear c19
            try clear c21
            try clear c22
            try clear c22b0
            try clear c22b1
            try clear c22b2
            try clear c24
            try clear c25
            try clear c26
            try clear c28
            try clear c33
            try clear c34
            try clear c35
            try clear c36
            try clear c38
            try clear c45
            try clear c47
            try clear c48
            try clear c49
            try clear c51
            try clear c56
            try clear c57
            try clear c60
            try clear c61
            try clear c62
            try clear c64
            try clear c64b0
            try clear p64
            try clear c65
            try clear c65b0
            try clear c65b1
            try clear c66
            try clear c66b0
            try clear c66b1
            try clear c67
            try clear c67b0
            try clear c67b1
            try clear hcz13_0
            try clear hcz13_1
            try clear hcz14_0
            try clear hcz14_1
            try clear hcz19_0
            try clear hcz19_1
            try clear hcz27_0
            try clear hcz27_1
            try clear hcz29_0
            try clear hcz29_1
            try clear hcz33_0
            try clear hcz33_1
            try clear hcz37_0
            try clear hcz37_1
            try clear hcz39_0
            try clear hcz39_1
            try clear hcz43_0
            try clear hcz43_1
            try clear hcz50_0
            try clear hcz50_1
            try clear hcz52_0
            try clear hcz52_1
            try clear hcz58_0
            try clear hcz58_1
            try clear hcz63_0
            try clear hcz63_1
            try clear hcz9_0
            try clear hcz9_1
            try clear hfz13_0
            try clear hfz13_1
            try clear hfz14_0
            try clear hfz14_1
            try clear hfz19_0
            try clear hfz19_1
            try clear hfz27_0
            try clear hfz27_1
            try clear hfz29_0
            try clear hfz29_1
            try clear hfz33_0
            try clear hfz33_1
            try clear hfz37_0
            try clear hfz37_1
            try clear hfz39_0
            try clear hfz39_1
            try clear hfz43_0
            try clear hfz43_1
            try clear hfz50_0
            try clear hfz50_1
            try clear hfz52_0
            try clear hfz52_1
            try clear hfz58_0
            try clear hfz58_1
            try clear hfz63_0
            try clear hfz63_1
            try clear hfz9_0
            try clear hfz9_1
            try clear p2
            obtain ⟨x9_3, x14_3, rfl, rfl, HA, HK3, HO_6, HO_13, BK295, BK301, BK307, BK311, BK318, HB⟩ := hrel
            cases gk with
            | zero => exact absurd HA.out (by simp [laws_FnPipeBytes.l1])
            | succ k3 =>
             have H := HA.out
             clear HA
             simp only [laws_FnPipeBytes.l1] at H
             by_cases c75 : x14_3 < (t315.length : Int)
             ·rw [if_pos c75] at H
              have c75b0 : decide (x14_3 < (t315.length : Int)) = true := decide_eq_true c75
              clear c75
              by_cases c76 : x9_3 ≥ (t298.length : Int)
              ·rw [if_pos c76] at H
               have c76b0 : decide ((t298.length : Int) ≤ x9_3) = true := decide_eq_true c76
               clear c76
               exact absurd H (by simp)
              ·rw [if_neg c76] at H
               have c76b0 : decide ((t298.length : Int) ≤ x9_3) = false := decide_eq_false c76
               clear c76
               by_cases c77 : 0 ≤ x14_3
               ·rw [if_pos c77] at H
                have c77b0 : decide (0 ≤ x14_3) = true := decide_eq_true c77
                clear c77
                by_cases c78 : 0 ≤ x9_3
                ·rw [if_pos c78] at H
                 have c78b0 : decide (0 ≤ x9_3) = true := decide_eq_true c78
                 clear c78
                 by_cases c79 : x9_3 < (t298.length : Int)
                 ·rw [if_pos c79] at H
                  have c79b0 : decide (x9_3 < (t298.length : Int)) = true := decide_eq_true c79
                  clear c79
                  replace H := Option.bind_eq_some_iff.mp H
                  obtain ⟨t321, A800, H⟩ := H
                  replace H : (if t321 = true then (laws_FnPipeBytes.l1 k3 t294 t298 (wrap64 (x9_3 + 1)) x11_2 t315 (wrap64 (x14_3 + 1)) t296 t297 t313 t314) else (none)) = some r := H
                  have A80 := AM A800
                  clear A800
                  by_cases c81 : t321 = true
                  ·subst c81
                   have H1 : (laws_FnPipeBytes.l1 k3 t294 t298 (wrap64 (x9_3 + 1)) x11_2 t315 (wrap64 (x14_3 + 1)) t296 t297 t313 t314) = some r := by rw [if_pos rfl] at H; exact H
                   clear H
                   have H := H1
                   clear H1
                   have H' := AM H
                   clear H
                   obtain ⟨Ao82, co82, eo82⟩ := Kd.S_slice HO_13.out
                   subst eo82
                   try go_wp2
                   have n0_ := AM (sE HO_6.out)
                   have n1_ := AM (sE HO_13.out)
                   have n2_ := AM (kE BK295.out)
                   have n3_ := AM (kE BK301.out)
                   have n4_ := AM (kE BK307.out)
                   have n5_ := AM (kE BK311.out)
                   have n6_ := AM (kE BK318.out)
                   have n7_ := AM (bE HB.out)
                   clear HO_6
                   clear HO_13
                   clear BK295
                   clear BK301
                   clear BK307
                   clear BK311
                   clear BK318
                   clear HB
                   have HO_6 := n0_
                   have HO_13 := n1_
                   have BK295 := n2_
                   have BK301 := n3_
                   have BK307 := n4_
                   have BK311 := n5_
                   have BK318 := n6_
                   have HB := n7_
                   clear n0_ n1_ n2_ n3_ n4_ n5_ n6_ n7_
                   obtain ⟨Ao84, co84, eo84⟩ := Kd.S_slice HO_6.out
                   (first | subst eo84 | (injection eo84 with f1_ f2_ f3_; have f4_ := f1_.symm; have f5_ := f3_.symm; clear f1_ f2_ f3_; subst f4_; subst f5_))
                   have p319 : 0 ≤ (x14_3 : Int) := of_decide_eq_true (by first | (with_reducible assumption) | assumption)
                   have q319 : x14_3 < (t315.length : Int) := of_decide_eq_true (by first | (with_reducible assumption) | assumption)
                   obtain ⟨ad319, A319_0, c319_0, e319, hx319_0, hl319_0, hi319_0⟩ := at_L2 (Kd.S_reads' HO_13.out).2.2 x14_3 p319 q319
                   cases e319
                   obtain ⟨ce319, hce319, hMe319, hcc319⟩ := Kd.S_get HO_13.out [] x14_3 p319 (by first | exact q319 | exact of_decide_eq_true (by first | (with_reducible assumption) | assumption) | (have e_ := (Kd.S_reads' HO_13.out).1; omega))
                   obtain ⟨ve319_0, rfl, ge319_0⟩ := hMe319
                   have hv319_0 := hcc319 0 _ rfl
                   rw [Nat.add_zero, show ((Kd.slice 9 Kd.string)).sz = 1 from rfl, Nat.mul_one] at hv319_0
                   replace hv319_0 := Option.some.inj (hv319_0.symm.trans hx319_0)
                   rw [hv319_0] at ge319_0
                   have HL319_0 := AM (show Kd.R Kd.string 9 _ _ _ _ (rd_L2 t315 x14_3) from ge319_0)
                   clear hv319_0 ge319_0
                   clear hcc319 hce319
                   have HR319_0 := AM hi319_0
                   have HC319_0 := AM hl319_0
                   clear hi319_0 hl319_0
                   replace p319 := eq_true p319
                   replace q319 := eq_true q319
                   have p320 : 0 ≤ (x9_3 : Int) := of_decide_eq_true (by first | (with_reducible assumption) | assumption)
                   have q320 : x9_3 < (t298.length : Int) := of_decide_eq_true (by first | (with_reducible assumption) | assumption)
                   obtain ⟨ad320, A320_0, c320_0, e320, hx320_0, hl320_0, hi320_0⟩ := at_L2 (Kd.S_reads' HO_6.out).2.2 x9_3 p320 q320
                   cases e320
                   obtain ⟨ce320, hce320, hMe320, hcc320⟩ := Kd.S_get HO_6.out [] x9_3 p320 (by first | exact q320 | exact of_decide_eq_true (by first | (with_reducible assumption) | assumption) | (have e_ := (Kd.S_reads' HO_6.out).1; omega))
                   obtain ⟨ve320_0, rfl, ge320_0⟩ := hMe320
                   have hv320_0 := hcc320 0 _ rfl
                   rw [Nat.add_zero, show ((Kd.slice 9 Kd.string)).sz = 1 from rfl, Nat.mul_one] at hv320_0
                   replace hv320_0 := Option.some.inj (hv320_0.symm.trans hx320_0)
                   rw [hv320_0] at ge320_0
                   have HL320_0 := AM (show Kd.R Kd.string 9 _ _ _ _ (rd_L2 t298 x9_3) from ge320_0)
                   clear hv320_0 ge320_0
                   clear hcc320 hce320
                   have HR320_0 := AM hi320_0
                   have HC320_0 := AM hl320_0
                   clear hi320_0 hl320_0
                   replace p320 := eq_true p320
                   replace q320 := eq_true q320
                   refine start_ (n := 16) (S := fun w' => w'.cell? (ad319.add (x14_3).toNat) = some (.slice A319_0 (rd_L2 t315 x14_3).length c319_0) ∧ w'.cell? (ad320.add (x9_3).toNat) = some (.slice A320_0 (rd_L2 t298 x9_3).length c320_0)) (ds := []) #[false, false, false, false, false, false, false, false, false, false, false, false, false, false, false, false] (by kernel_rfl) rfl rfl ⟨hx319_0, hx320_0⟩ (fun hHeld => ?_); refine with_tabW laws_FnPipeBytes.tab17 laws_FnPipeBytes.bits17 (fun HT_ HW_ => ?_)
                   generalize wr.drew = w83 at HO_6 HO_13 BK295 BK301 BK307 BK311 BK318 HB HL319_0 HL320_0 HR319_0 HR320_0 hx319_0 hx320_0 hHeld ⊢
                   refine pure_ (i := 0) (N := some 89) (v := ?_) (a' := ?_) #[true, false, false, false, false, false, false, false, false, false, false, false, false, false, false, false] rfl rfl (any_of HT_.out (by kernel_rfl)) (fun _ _ _ h => h) (Or.inl ⟨by rfl, ?_⟩) ?_ ?_
                   rotate_left
                   ·intro w'
                    go_simp
                    with_reducible rfl
                   rotate_left
                   ·simp only [Act.put, lA, lZ, lS, i64_w, i32_w]
                    rfl
                   refine pure_ (i := 1) (N := some 90) (v := ?_) (a' := ?_) #[true, true, false, false, false, false, false, false, false, false, false, false, false, false, false, false] rfl rfl (any_of HT_.out (by kernel_rfl)) (fun _ _ _ h => h) (Or.inl ⟨by rfl, ?_⟩) ?_ ?_
                   rotate_left
                   ·intro w'
                    go_simp
                    with_reducible rfl
                   rotate_left
                   ·simp only [Act.put, lA, lZ, lS, i64_w, i32_w]
                    rfl
                   refine pure_ (i := 2) (N := some 91) (v := ?_) (a' := ?_) #[true, true, true, false, false, false, false, false, false, false, false, false, false, false, false, false] rfl rfl (any_of HT_.out (by kernel_rfl)) (fun _ _ _ h => h) (Or.inl ⟨by rfl, ?_⟩) ?_ ?_
                   rotate_left
                   ·intro w'
                    go_simp
                    with_reducible rfl
                   rotate_left
                   ·simp only [Act.put, lA, lZ, lS, i64_w, i32_w]
                    rfl
                   refine pure_ (i := 3) (N := some 92) (v := ?_) (a' := ?_) #[true, true, true, true, false, false, false, false, false, false, false, false, false, false, false, false] rfl rfl (any_of HT_.out (by kernel_rfl)) (fun _ _ _ h => h) (Or.inl ⟨by rfl, ?_⟩) ?_ ?_
                   rotate_left
                   ·intro w'
                    go_simp
                    with_reducible rfl
                   rotate_left
                   ·simp only [Act.put, lA, lZ, lS, i64_w, i32_w]
                    rfl
                   refine pure_ (i := 4) (N := some 93) (v := ?_) (a' := ?_) #[true, true, true, true, true, false, false, false, false, false, false, false, false, false, false, false] rfl rfl (any_of HT_.out (by kernel_rfl)) (fun _ _ _ h => h) (Or.inl ⟨by rfl, ?_⟩) ?_ ?_
                   rotate_left
                   ·intro w'
                    go_simp
                    with_reducible rfl
                   rotate_left
                   ·simp only [Act.put, lA, lZ, lS, i64_w, i32_w]
                    rfl
                   refine pure_ (i := 5) (N := some 94) (v := ?_) (a' := ?_) #[true, true, true, true, true, true, false, false, false, false, false, false, false, false, false, false] rfl rfl (any_of HT_.out (by kernel_rfl)) (fun _ _ _ h => h) (Or.inl ⟨by rfl, ?_⟩) ?_ ?_
                   rotate_left
                   ·intro w'
                    go_simp
                    with_reducible rfl
                   rotate_left
                   ·simp only [Act.put, lA, lZ, lS, i64_w, i32_w]
                    rfl
                   refine pure_ (i := 6) (N := some 95) (v := ?_) (a' := ?_) #[true, true, true, true, true, true, true, false, false, false, false, false, false, false, false, false] rfl rfl (any_of HT_.out (by kernel_rfl)) (fun _ _ _ h => h) (Or.inl ⟨by rfl, ?_⟩) ?_ ?_
                   rotate_left
                   ·intro w'
                    go_simp
                    with_reducible rfl
                   rotate_left
                   ·simp only [Act.put, lA, lZ, lS, i64_w, i32_w]
                    rfl
                   refine pure_ (i := 7) (N := some 96) (v := ?_) (a' := ?_) #[true, true, true, true, true, true, true, true, false, false, false, false, false, false, false, false] rfl rfl (any_of HT_.out (by kernel_rfl)) (fun _ _ _ h => h) (Or.inl ⟨by rfl, ?_⟩) ?_ ?_
                   rotate_left
                   ·intro w'
                    go_simp
                    with_reducible rfl
                   rotate_left
                   ·simp only [Act.put, lA, lZ, lS, i64_w, i32_w]
                    rfl
                   refine pure_ (i := 9) (N := some 98) (v := ?_) (a' := ?_) #[true, true, true, true, true, true, true, true, false, true, false, false, false, false, false, false] rfl rfl (any_of HT_.out (by kernel_rfl)) (fun _ _ _ h => h) (Or.inl ⟨by rfl, ?_⟩) ?_ ?_
                   rotate_left
                   ·intro w'
                    go_simp
                    with_reducible rfl
                   rotate_left
                   ·simp only [Act.put, lA, lZ, lS, i64_w, i32_w]
                    rfl
                   refine pure_ (i := 10) (N := some 99) (v := ?_) (a' := ?_) #[true, true, true, true, true, true, true, true, false, true, true, false, false, false, false, false] rfl rfl (any_of HT_.out (by kernel_rfl)) (fun _ _ _ h => h) (Or.inl ⟨by rfl, ?_⟩) ?_ ?_
                   rotate_left
                   ·intro w'
                    go_simp
                    with_reducible rfl
                   rotate_left
                   ·simp only [Act.put, lA, lZ, lS, i64_w, i32_w]
                    rfl
                   refine pure_ (i := 11) (N := some 100) (v := ?_) (a' := ?_) #[true, true, true, true, true, true, true, true, false, true, true, true, false, false, false, false] rfl rfl (any_of HT_.out (by kernel_rfl)) (fun _ _ _ h => h) (Or.inl ⟨by rfl, ?_⟩) ?_ ?_
                   rotate_left
                   ·intro w'
                    go_simp
                    with_reducible rfl
                   rotate_left
                   ·simp only [Act.put, lA, lZ, lS, i64_w, i32_w]
                    rfl
                   refine take_ (i := 8) (N := some 97) (v := ?_) (a' := ?_) #[true, true, true, true, true, true, true, true, true, true, true, true, false, false, false, false] rfl rfl (take_ofW HT_.out HW_.out (by kernel_rfl)) (fun _ _ _ h => h) (Or.inl ⟨by rfl, ?_⟩) hHeld ?_ ?_
                   rotate_left
                   ·rintro w' ⟨s0, s1⟩
                    go_simp
                    with_reducible rfl
                   rotate_left
                   ·simp only [Act.put, lA, lZ, lS, i64_w, i32_w]
                    rfl
                   refine take_ (i := 12) (N := some 101) (v := ?_) (a' := ?_) #[true, true, true, true, true, true, true, true, true, true, true, true, true, false, false, false] rfl rfl (take_ofW HT_.out HW_.out (by kernel_rfl)) (fun _ _ _ h => h) (Or.inl ⟨by rfl, ?_⟩) hHeld ?_ ?_
                   rotate_left
                   ·rintro w' ⟨s0, s1⟩
                    go_simp
                    with_reducible rfl
                   rotate_left
                   ·simp only [Act.put, lA, lZ, lS, i64_w, i32_w]
                    rfl
                   refine one_ (i := 13) (N := some 102) #[true, true, true, true, true, true, true, true, true, true, true, true, true, true, false, false] rfl rfl (one_of HT_.out (by kernel_rfl)) (by decide) (fun K hK => ?_)
                   refine goes_ Tryd.func20 (by kernel_rfl) rfl #[.slice A319_0 (rd_L2 t315 x14_3).length c319_0, .slice A320_0 (rd_L2 t298 x9_3).length c320_0] (by rfl) rfl rfl (by (try simp only [List.map_toArray, List.map_cons, List.map_nil]); first | done | rfl | (simp only [List.length_drop, List.length_take]; rfl)) ?_
                   with_reducible refine (laws_qnTexts.calls k3 _ _ (rd_L2 t315 x14_3) _ _ (rd_L2 t298 x9_3) true _ ?side1 ?side2 ?side3 ?side4 A80.out).mono ?_
                   (case side1 => repeat (first | exact (by repeat (first | (with_reducible exact HR319_0.out) | (with_reducible refine Kd.C_alloc ?_ _) | (with_reducible refine Kd.C_drewN ?_ _) | (with_reducible refine Kd.C_drew ?_) | exact HR319_0.out)) | (with_reducible refine Kd.C_alloc ?_ _) | (with_reducible refine Kd.C_drewN ?_ _) | (with_reducible refine Kd.C_drew ?_)))
                   (case side2 => exact HC319_0.out)
                   (case side3 => repeat (first | exact (by repeat (first | (with_reducible exact HR320_0.out) | (with_reducible refine Kd.C_alloc ?_ _) | (with_reducible refine Kd.C_drewN ?_ _) | (with_reducible refine Kd.C_drew ?_) | exact HR320_0.out)) | (with_reducible refine Kd.C_alloc ?_ _) | (with_reducible refine Kd.C_drewN ?_ _) | (with_reducible refine Kd.C_drew ?_)))
                   (case side4 => exact HC320_0.out)
                   rintro e w' ⟨rfl, ⟨nd, rfl⟩⟩
                   refine ⟨_, rfl, ?_⟩
                   refine hK.out _ _ ⟨hHeld.1, hHeld.2⟩ (fun hHeld => ?_)
                   clear hK K
                   refine norm_ (a' := ?_) ?_ ?_
                   rotate_left
                   ·show Act.put _ (some 102) _ = _
                    simp only [Act.put, lA, lZ, lS, i64_w, i32_w]
                    rfl
                   refine pure_ (i := 14) (N := some 103) (v := ?_) (a' := ?_) #[true, true, true, true, true, true, true, true, true, true, true, true, true, true, true, false] rfl rfl (any_of HT_.out (by kernel_rfl)) (fun _ _ _ h => h) (Or.inl ⟨by rfl, ?_⟩) ?_ ?_
                   rotate_left
                   ·intro w'
                    go_simp
                    with_reducible rfl
                   rotate_left
                   ·simp only [Act.put, lA, lZ, lS, i64_w, i32_w]
                    rfl
                   refine pure_ (i := 15) (N := some 104) (v := ?_) (a' := ?_) #[true, true, true, true, true, true, true, true, true, true, true, true, true, true, true, true] rfl rfl (any_of HT_.out (by kernel_rfl)) (fun _ _ _ h => h) (Or.inl ⟨by rfl, ?_⟩) ?_ ?_
                   rotate_left
                   ·intro w'
                    go_simp
                    with_reducible rfl
                   rotate_left
                   ·simp only [Act.put, lA, lZ, lS, i64_w, i32_w]
                    rfl
                   refine done_ (done_of HT_.out (by kernel_rfl)) ?_
                   try go_wp2
                   go_roundg k3
                   case measure => have := HJ5.out; have := HK2.out; have := HK3.out; omega
                   case rel => exact ⟨(wrap64 (x9_3 + 1)), (wrap64 (x14_3 + 1)), (by first | rfl | (simp; done) | (simp [*]; done)), (by first | rfl | (simp; done) | (simp [*]; done)), H', ⟨by have := HJ5.out; have := HK2.out; have := HK3.out; omega⟩, ⟨by (with_reducible repeat (first | apply sA | apply sD | apply sE)); exact HO_6.out⟩, ⟨by (with_reducible repeat (first | apply sA | apply sD | apply sE)); exact HO_13.out⟩, ⟨by (with_reducible repeat (first | refine kD ?_ _ | refine kE ?_ | refine kA ?_ _)); exact BK295.out⟩, ⟨by (with_reducible repeat (first | refine kD ?_ _ | refine kE ?_ | refine kA ?_ _)); exact BK301.out⟩, ⟨by (with_reducible repeat (first | refine kD ?_ _ | refine kE ?_ | refine kA ?_ _)); exact BK307.out⟩, ⟨by (with_reducible repeat (first | refine kD ?_ _ | refine kE ?_ | refine kA ?_ _)); exact BK311.out⟩, ⟨by (with_reducible repeat (first | refine kD ?_ _ | refine kE ?_ | refine kA ?_ _)); exact BK318.out⟩, ⟨by repeat (first | (with_reducible first | exact HB.out | apply bA | apply bD | apply bE | refine below_set ?_ GE295.out | refine below_set ?_ GE301.out | refine below_set ?_ GE307.out | refine below_set ?_ GE311.out | refine below_set ?_ GE318.out) | exact HB.out)⟩⟩
                  ·replace c81 := Bool.eq_false_iff.mpr c81
                   subst c81
                   have H1 : (none) = some r := by rw [if_neg (show ¬ (false = true) by decide)] at H; exact H
                   clear H
                   have H := H1
                   clear H1
                   exact absurd H (by simp)
                 ·rw [if_neg c79] at H
                  exact absurd H (by simp)
                ·rw [if_neg c78] at H
                 exact absurd H (by simp)
               ·rw [if_neg c77] at H
                exact absurd H (by simp)
             ·rw [if_neg c75] at H
              have c75b0 : decide (x14_3 < (t315.length : Int)) = false := decide_eq_false c75
              clear c75
              have H' := AM H
              clear H
              obtain ⟨Ao85, co85, eo85⟩ := Kd.S_slice HO_13.out
              subst eo85
              have hnb86 := NB318_295.out
              have hnc86 := NB295_318.out
              have hnb87 := NB318_301.out
              have hnc87 := NB301_318.out
              have hnb88 := NB318_307.out
              have hnc88 := NB307_318.out
              have hnb89 := NB318_311.out
              have hnc89 := NB311_318.out
              have hcz90_0 : wr.cell? ⟨gb318, 0, none⟩ = some (.string t313) := (kC BK318.out 0).trans rfl
              have hcz90_1 : wr.cell? ⟨gb318, 1, none⟩ = some (.bool t314) := (kC BK318.out 1).trans rfl
              have hfz90_0 := blk_frozen BK318.out 0
              have hfz90_1 := blk_frozen BK318.out 1
              have hnb91 := NB311_295.out
              have hnc91 := NB295_311.out
              have hnb92 := NB311_301.out
              have hnc92 := NB301_311.out
              have hnb93 := NB311_307.out
              have hnc93 := NB307_311.out
              have hcz94_0 : wr.cell? ⟨gb311, 0, none⟩ = some (.string x312000_2) := (kC BK311.out 0).trans rfl
              have hcz94_1 : wr.cell? ⟨gb311, 1, none⟩ = some (.bool x312001_2) := (kC BK311.out 1).trans rfl
              have hfz94_0 := blk_frozen BK311.out 0
              have hfz94_1 := blk_frozen BK311.out 1
              go_wp2
              go_roundg k3
              case measure => have := HJ5.out; have := HK2.out; have := HK3.out; omega
              case rel => exact ⟨(x9_3), (wrap64 (x11_2 + 1)), (t313), (t314), (by first | rfl | (simp; done) | (simp [*]; done)), (by first | rfl | (simp; done) | (simp [*]; done)), H', ⟨by have := HJ5.out; have := HK2.out; have := HK3.out; omega⟩, ⟨by (with_reducible repeat (first | apply sA | apply sD | apply sE)); exact sM (Kd.S_far (p := ⟨gb311, 1, none⟩) (Kd.S_far (p := ⟨gb311, 0, none⟩) (Kd.S_types HO_6.out BK311.out (by decide)) (fun _ hk => hk.2) (.string t313)) (fun _ hk => hk.2) (.bool t314)) (fun _ hk => trivial)⟩, ⟨by (with_reducible repeat (first | refine kD ?_ _ | refine kE ?_ | refine kA ?_ _)); refine blk_far ?_ NB295_311.out _; (with_reducible repeat (first | refine kD ?_ _ | refine kE ?_ | refine kA ?_ _)); refine blk_far ?_ NB295_311.out _; (with_reducible repeat (first | refine kD ?_ _ | refine kE ?_ | refine kA ?_ _)); exact BK295.out⟩, ⟨by (with_reducible repeat (first | refine kD ?_ _ | refine kE ?_ | refine kA ?_ _)); refine blk_far ?_ NB301_311.out _; (with_reducible repeat (first | refine kD ?_ _ | refine kE ?_ | refine kA ?_ _)); refine blk_far ?_ NB301_311.out _; (with_reducible repeat (first | refine kD ?_ _ | refine kE ?_ | refine kA ?_ _)); exact BK301.out⟩, ⟨by (with_reducible repeat (first | refine kD ?_ _ | refine kE ?_ | refine kA ?_ _)); refine blk_far ?_ NB307_311.out _; (with_reducible repeat (first | refine kD ?_ _ | refine kE ?_ | refine kA ?_ _)); refine blk_far ?_ NB307_311.out _; (with_reducible repeat (first | refine kD ?_ _ | refine kE ?_ | refine kA ?_ _)); exact BK307.out⟩, ⟨by (with_reducible repeat (first | refine kD ?_ _ | refine kE ?_ | refine kA ?_ _)); refine blk_put (cs := #[.string t313, .bool x312001_2]) ?_ 1 _ rfl; (with_reducible repeat (first | refine kD ?_ _ | refine kE ?_ | refine kA ?_ _)); refine blk_put (cs := #[.string x312000_2, .bool x312001_2]) ?_ 0 _ rfl; (with_reducible repeat (first | refine kD ?_ _ | refine kE ?_ | refine kA ?_ _)); exact BK311.out⟩, ⟨by repeat (first | (with_reducible first | exact HB.out | apply bA | apply bD | apply bE | refine below_set ?_ GE295.out | refine below_set ?_ GE301.out | refine below_set ?_ GE307.out | refine below_set ?_ GE311.out | refine below_set ?_ GE318.out) | exact HB.out)⟩⟩
          ·rw [if_neg c67] at H
           exact absurd H (by simp)
         ·rw [if_neg c66] at H
          exact absurd H (by simp)
        ·rw [if_neg c65] at H
         exact absurd H (by simp)
       ·rw [if_neg c64] at H
        have c64b0 : decide (x11_2 < (t294.size : Int)) = false := decide_eq_false c64
        clear c64
        by_cases c95 : x9_2 = (t298.length : Int)
        ·rw [if_pos c95] at H
         have c95b0 : (x9_2 == (t298.length : Int)) = true := beq_iff_eq.mpr c95
         have c95b1 : (x9_2 != (t298.length : Int)) = false := bne_eq_false_iff_eq.mpr c95
         clear c95
         replace H := Option.bind_eq_some_iff.mp H
         obtain ⟨t312, A960, H⟩ := H
         replace H : (some t312) = some r := H
         have A96 := AM A960
         clear A960
         obtain rfl := Option.some.inj H
         obtain ⟨Ao97, co97, eo97⟩ := Kd.S_slice HO_6.out
         subst eo97
         have hnb98 := NB311_295.out
         have hnc98 := NB295_311.out
         have hnb99 := NB311_301.out
         have hnc99 := NB301_311.out
         have hnb100 := NB311_307.out
         have hnc100 := NB307_311.out
         have hcz101_0 : wr.cell? ⟨gb311, 0, none⟩ = some (.string x312000_2) := (kC BK311.out 0).trans rfl
         have hcz101_1 : wr.cell? ⟨gb311, 1, none⟩ = some (.bool x312001_2) := (kC BK311.out 1).trans rfl
         have hfz101_0 := blk_frozen BK311.out 0
         have hfz101_1 := blk_frozen BK311.out 1
         have hnb102 := NB301_295.out
         have hnc102 := NB295_301.out
         have hnb103 := NB301_307.out
         have hnc103 := NB307_301.out
         have hcz104_0 : wr.cell? ⟨gb301, 0, none⟩ = some (.string t296) := (kC BK301.out 0).trans rfl
         have hcz104_1 : wr.cell? ⟨gb301, 1, none⟩ = some (.bool t297) := (kC BK301.out 1).trans rfl
         have hfz104_0 := blk_frozen BK301.out 0
         have hfz104_1 := blk_frozen BK301.out 1
         go_wp2_with (first | (go_at_call 35; (with_reducible refine (laws_qnPipe.calls x312000_2 x312001_2 t296 t297 t312 _ A96.out).mono ?_); rintro e w105 ⟨rfl, hb⟩; have n0_ := AM (sB (by (with_reducible repeat (first | apply sA | apply sD | apply sE)); exact HO_6.out) hb); have n1_ := AM (kB (g := gb295) (o := .cells #[.string t292, .bool t293] 34 (0, 0)) (by (with_reducible repeat (first | refine kD ?_ _ | refine kE ?_ | refine kA ?_ _)); exact BK295.out) hb); have n2_ := AM (kB (g := gb301) (o := .cells #[.string t296, .bool t297] 34 (0, 0)) (by (with_reducible repeat (first | refine kD ?_ _ | refine kE ?_ | refine kA ?_ _)); exact BK301.out) hb); have n3_ := AM (kB (g := gb307) (o := .cells #[.string t302, .bool t303] 34 (0, 0)) (by (with_reducible repeat (first | refine kD ?_ _ | refine kE ?_ | refine kA ?_ _)); exact BK307.out) hb); have n4_ := AM (kB (g := gb311) (o := .cells #[.string x312000_2, .bool x312001_2] 34 (0, 0)) (by (with_reducible repeat (first | refine kD ?_ _ | refine kE ?_ | refine kA ?_ _)); exact BK311.out) hb); have n5_ := AM (bS (by repeat (first | (with_reducible first | exact HB.out | apply bA | apply bD | apply bE | refine below_set ?_ GE295.out | refine below_set ?_ GE301.out | refine below_set ?_ GE307.out | refine below_set ?_ GE311.out) | exact HB.out)) hb); clear HO_6; clear BK295; clear BK301; clear BK307; clear BK311; clear HB; have HO_6 := n0_; have BK295 := n1_; have BK301 := n2_; have BK307 := n3_; have BK311 := n4_; have HB := n5_; clear n0_ n1_ n2_ n3_ n4_ n5_; (try clear hb); (try clear hb2); (try clear hk); (try clear hi)))
         go_ret
         exact ⟨by first | rfl | (simp [errW_none, errW_some] <;> rfl) | (simp [*, errW_none, errW_some] <;> rfl), by repeat (first | (with_reducible first | exact HB.out | apply bA | apply bD | apply bE | refine below_set ?_ GE295.out | refine below_set ?_ GE301.out | refine below_set ?_ GE307.out | refine below_set ?_ GE311.out) | exact HB.out)⟩
        ·rw [if_neg c95] at H
         exact absurd H (by simp)

/-- THE ONE PURE STATEMENT of laws_FnPipeBytes: yours. -/
def laws_FnPipeBytes.Pure : Prop := ∀ (l0 : List Int), l0.length ≤ maxLen → l0.length * 1 ≤ 140737488351232 → (∀ x ∈ l0, (Lit.int .u8 x).wf = true) → ∃ k, laws_FnPipeBytes.f k l0 = some true
theorem laws_FnPipeBytes.walk (P : laws_FnPipeBytes.Pure) (a0 : Option Addr) (len0 cap0 : Nat) (z0 : List Int) (w : World) (w0 : (a0 = none ∧ len0 = 0 ∧ cap0 = 0 ∧ z0 = []) ∨ ∃ x, a0 = some x ∧ len0 ≤ cap0 ∧ cap0 ≤ maxLen ∧ z0.length = cap0 ∧ (∀ i, i < z0.length → w.cell? (x.add i) = some (.int .u8 (z0.getD i 0))) ∧ ∀ n ∈ z0, (Lit.int .u8 n).wf = true) (y0 : len0 * 1 ≤ 140737488351232) :
    Calls Tryd.prog 7 #[.slice a0 len0 cap0] w fun e w' => e = .returned (.bool true) ∧ Below w.heap.size w w' := by
  obtain ⟨l0, rfl, hr0, hm0, hw0, hc0⟩ := ReadsInt.ofRowC w0
  obtain ⟨k, h⟩ := P l0 hm0 y0 hw0
  refine (laws_FnPipeBytes.calls k _ _ l0 true w (Kd.C_of_reads (d := (0 : Int)) (h1 := fun _ => rfl) hr0) hc0 h).mono ?_
  rintro e w' ⟨rfl, hd⟩
  exact ⟨rfl, hd⟩

end Go.Proofs.YtfkjjmhbljlbkaaDoor.P
