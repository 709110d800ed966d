-- Typed by a program of this session (wip/print2.sh, given.py), after the kit's print: functions as plain Lean, and their contracts.
import Derived.Test.YtfkjjmhbljlbkaaDoorAFnPipeAll0
import Derived.Test.YtfkjjmhbljlbkaaDoorAFnPipeAll1
import Derived.Test.YtfkjjmhbljlbkaaDoorAFnPipeAll3
import Derived.Test.YtfkjjmhbljlbkaaDoorAFnPipeAll4
import Derived.Test.YtfkjjmhbljlbkaaDoorAFnPipeAll5
namespace Go.Proofs.YtfkjjmhbljlbkaaDoor.P
open Go.RowKit Go.Proofs.YtfkjjmhbljlbkaaDoorW.PrintWords Go.Proofs.YtfkjjmhbljlbkaaDoorW.PrintLast Go.Proofs.YtfkjjmhbljlbkaaDoorW.PrintMore
attribute [local go_sem] max2_int min2_int max_two min_two max_three min_three max_four min_four   -- for this text's walks alone
set_option linter.unusedVariables false
set_option linter.unusedSimpArgs false

attribute [local go_sem high] eqA34
/-! ### impl_PipeFeed: function 19 -/
mutual
def impl_PipeFeed.j0 : Nat → ByteArray → Bool → ByteArray → Bool → Option (ByteArray × Bool × (List (List ByteArray)))
  | 0, _, _, _, _ => none
  | k + 1, x1, x17, x207000, x207001 => if x17 = true then (some ((⟨#[]⟩ : ByteArray), false, ([] : List (List ByteArray)))) else (if x207001 = true then (some (x207000, x207001, ([] : List (List ByteArray)))) else (if x207000.size + x1.size ≤ 9223372036854775807 then (impl_PipeFeed.l0 k (x207000 ++ x1) ([] : List (List ByteArray))) else (none)))
def impl_PipeFeed.l0 : Nat → ByteArray → List (List ByteArray) → Option (ByteArray × Bool × (List (List ByteArray)))
  | 0, _, _ => none
  | k + 1, x6, x7 => (impl_FrameGet.f k x6).bind fun bt209 => (if bt209.2 = (-1) then (some ((⟨#[]⟩ : ByteArray), true, x7)) else (if bt209.2 = 0 then (some (x6, false, x7)) else (if x7.length < 5864062014805 then (if 0 ≤ bt209.2 then (if bt209.2 ≤ (x6.size : Int) then (impl_PipeFeed.l0 k (x6.extract (bt209.2 : Int).toNat x6.size) (x7 ++ [bt209.1])) else (none)) else (none)) else (none))))
end
def impl_PipeFeed.f (k : Nat) (a0_0 : ByteArray) (a0_1 : Bool) (a1 : ByteArray) : Option (ByteArray × Bool × (List (List ByteArray))) := (impl_PipeOk.f k a0_0 a0_1).bind fun t208 => (if t208 = true then (impl_PipeFeed.j0 k a1 (decide ((a1.size : Int) > 4000)) a0_0 a0_1) else (impl_PipeFeed.j0 k a1 true a0_0 a0_1))
theorem impl_PipeFeed.mono_l : ∀ k, (∀ y0 y1 y2 y3, LeO (impl_PipeFeed.j0 k y0 y1 y2 y3) (impl_PipeFeed.j0 (k + 1) y0 y1 y2 y3)) ∧ (∀ y0 y1, LeO (impl_PipeFeed.l0 k y0 y1) (impl_PipeFeed.l0 (k + 1) y0 y1))
 | 0 => ⟨fun _ _ _ _ r h => by simp [impl_PipeFeed.j0] at h, fun _ _ r h => by simp [impl_PipeFeed.l0] at h⟩
 | k + 1 => by
  obtain ⟨ih0, ih1⟩ := impl_PipeFeed.mono_l k
  refine ⟨?_, ?_⟩
  ·intro y0 y1 y2 y3
   unfold impl_PipeFeed.j0
   repeat' first
   | (with_reducible exact ih0 _ _ _ _)
   | (with_reducible exact ih1 _ _)
   | (with_reducible exact impl_FrameGet.mono _ _)
   | (with_reducible exact impl_PipeOk.mono _ _ _)
   | (with_reducible exact LeO.refl _)
   | (with_reducible exact LeO.none _)
   | (with_reducible refine LeO.ite ?_ ?_)
   | (with_reducible refine LeO.bind ?_ (fun _ => ?_))
   | exact ih0 _ _ _ _
   | exact ih1 _ _
   | exact impl_FrameGet.mono _ _
   | exact impl_PipeOk.mono _ _ _
   | exact LeO.none _
   | refine LeO.ite ?_ ?_
   | refine LeO.bind ?_ (fun _ => ?_)
  ·intro y0 y1
   unfold impl_PipeFeed.l0
   repeat' first
   | (with_reducible exact ih0 _ _ _ _)
   | (with_reducible exact ih1 _ _)
   | (with_reducible exact impl_FrameGet.mono _ _)
   | (with_reducible exact impl_PipeOk.mono _ _ _)
   | (with_reducible exact LeO.refl _)
   | (with_reducible exact LeO.none _)
   | (with_reducible refine LeO.ite ?_ ?_)
   | (with_reducible refine LeO.bind ?_ (fun _ => ?_))
   | exact ih0 _ _ _ _
   | exact ih1 _ _
   | exact impl_FrameGet.mono _ _
   | exact impl_PipeOk.mono _ _ _
   | exact LeO.none _
   | refine LeO.ite ?_ ?_
   | refine LeO.bind ?_ (fun _ => ?_)
theorem impl_PipeFeed.mono : ∀ a0 a1 a2 k, LeO (impl_PipeFeed.f k a0 a1 a2) (impl_PipeFeed.f (k + 1) a0 a1 a2) := by
 intro a0 a1 a2 k
 obtain ⟨ih0, ih1⟩ := impl_PipeFeed.mono_l k
 unfold impl_PipeFeed.f
 repeat' first
   | (with_reducible exact ih0 _ _ _ _)
   | (with_reducible exact ih1 _ _)
   | (with_reducible exact impl_FrameGet.mono _ _)
   | (with_reducible exact impl_PipeOk.mono _ _ _)
   | (with_reducible exact LeO.refl _)
   | (with_reducible exact LeO.none _)
   | (with_reducible refine LeO.ite ?_ ?_)
   | (with_reducible refine LeO.bind ?_ (fun _ => ?_))
   | exact ih0 _ _ _ _
   | exact ih1 _ _
   | exact impl_FrameGet.mono _ _
   | exact impl_PipeOk.mono _ _ _
   | exact LeO.none _
   | refine LeO.ite ?_ ?_
   | refine LeO.bind ?_ (fun _ => ?_)
set_option maxHeartbeats 8000000 in
set_option maxRecDepth 100000 in
theorem impl_PipeFeed.calls (k : Nat) (a0_0 : ByteArray) (a0_1 : Bool) (a1 : ByteArray) (r1 : ByteArray) (r2 : Bool) (r3 : List (List ByteArray)) (w : World) (h : impl_PipeFeed.f k a0_0 a0_1 a1 = some (r1, r2, r3)) :
  Calls Tryd.prog 19 #[.agg #[.string a0_0, .bool a0_1], .string a1] w fun e w' => ∃ v2_ : Value, e = .returned (.tuple #[.agg #[.string r1, .bool r2], v2_]) ∧ Kd.S (Kd.slice 9 Kd.string) 30 w' w.heap.size (fun _ => True) v2_ r3 ∧ Below w.heap.size w w' := by
 have hu34 := Tryd.underlying34
 have HB := AM (Below.refl w.heap.size w)
 have H : ((impl_PipeOk.f k a0_0 a0_1).bind fun t208 => (if t208 = true then (impl_PipeFeed.j0 k a1 (decide ((a1.size : Int) > 4000)) a0_0 a0_1) else (impl_PipeFeed.j0 k a1 true a0_0 a0_1))) = some (r1, r2, r3) := h
 clear h
 have HC3 := AM H
 clear H
 go_enter Tryd.func19, Tryd.ntmps19
 go_upto_region 1 with (first | ((with_reducible refine gate_dst (N := 2) rfl ?_); (try (refine gate_guard (by rfl) ?_; dsimp only)); refine box_event ?hg (N := 2) ?hd (cs := #[.string a0_0, .bool a0_1]) (t := 34) ?hr ?_; (case hd => rfl); (case hg => rfl); (case hr => first | (go_simp; done) | (go_simp; rfl)); intro gb206 hg w4 hbox hb; have n0_ := AM (bS (by repeat (first | (with_reducible first | exact HB.out | apply bA | apply bD | apply bE) | exact HB.out)) hb); have n1_ := AM (hbox); have n2_ := AM ((by rw [hg]; exact (bZ (by repeat (first | (with_reducible first | exact HB.out | apply bA | apply bD | apply bE) | exact HB.out))) : w.heap.size ≤ gb206)); have n3_ := AM ((by rw [hg]; exact (bZ (by repeat (first | (with_reducible first | exact HB.out | apply bA | apply bD | apply bE) | exact HB.out))) : w.heap.size ≤ gb206)); clear HB; have HB := n0_; have BK206 := n1_; have GW206 := n2_; have GE206 := n3_; clear n0_ n1_ n2_ n3_; clear hb hbox hg) | ((with_reducible refine gate_dst (N := 4) rfl ?_); (try (refine gate_guard (by rfl) ?_; dsimp only)); refine box_event ?hg (N := 4) ?hd (cs := #[.string (⟨#[]⟩ : ByteArray), .bool false]) (t := 34) ?hr ?_; (case hd => rfl); (case hg => rfl); (case hr => first | (go_simp; done) | (go_simp; rfl)); intro gb207 hg w5 hbox hb; have n0_ := AM (kB (g := gb206) (o := .cells #[.string a0_0, .bool a0_1] 34 (0, 0)) (by (with_reducible repeat (first | refine kD ?_ _ | refine kE ?_ | refine kA ?_ _)); exact BK206.out) hb); have n1_ := AM (bS (by repeat (first | (with_reducible first | exact HB.out | apply bA | apply bD | apply bE | refine below_set ?_ GE206.out) | exact HB.out)) hb); have n2_ := AM (hbox); have n3_ := AM ((by rw [hg]; exact (bZ (by repeat (first | (with_reducible first | exact HB.out | apply bA | apply bD | apply bE | refine below_set ?_ GE206.out) | exact HB.out))) : w.heap.size ≤ gb207)); have n4_ := AM ((by rw [hg]; exact (bZ (by repeat (first | (with_reducible first | exact HB.out | apply bA | apply bD | apply bE | refine below_set ?_ GE206.out) | exact HB.out))) : w.heap.size ≤ gb207)); have n5_ := AM ((by rw [hg]; exact Nat.ne_of_lt (blk_lt (g := gb206) (o := .cells #[.string a0_0, .bool a0_1] 34 (0, 0)) (by (with_reducible repeat (first | refine kD ?_ _ | refine kE ?_ | refine kA ?_ _)); exact BK206.out)) : gb206 ≠ gb207)); have n6_ := AM ((by rw [hg]; exact Nat.ne_of_gt (blk_lt (g := gb206) (o := .cells #[.string a0_0, .bool a0_1] 34 (0, 0)) (by (with_reducible repeat (first | refine kD ?_ _ | refine kE ?_ | refine kA ?_ _)); exact BK206.out)) : gb207 ≠ gb206)); clear BK206; clear HB; have BK206 := n0_; have HB := n1_; have BK207 := n2_; have GW207 := n3_; have GE207 := n4_; have NB206_207 := n5_; have NB207_206 := n6_; clear n0_ n1_ n2_ n3_ n4_ n5_ n6_; clear hb hbox hg))
 (try simp only [Act.put, lA, lZ, lS])
 go_cut [17] (fun v17 wc => ∃ (kq : Nat) (x17_2 : Bool), v17 = .bool x17_2 ∧ Aside0 (impl_PipeFeed.j0 kq a1 x17_2 a0_0 a0_1 = some (r1, r2, r3)) ∧ Aside0 (kq ≤ k) ∧ Aside0 (wc.heap[gb206]? = some (.cells #[.string a0_0, .bool a0_1] 34 (0, 0))) ∧ Aside0 (wc.heap[gb207]? = some (.cells #[.string (⟨#[]⟩ : ByteArray), .bool false] 34 (0, 0))) ∧ Aside0 (Below w.heap.size w wc))
 case first =>
  have H := HC3.out
  clear HC3
  replace H := Option.bind_eq_some_iff.mp H
  obtain ⟨t208, A60, H⟩ := H
  replace H : (if t208 = true then (impl_PipeFeed.j0 k a1 (decide ((a1.size : Int) > 4000)) a0_0 a0_1) else (impl_PipeFeed.j0 k a1 true a0_0 a0_1)) = some (r1, r2, r3) := H
  have A6 := AM A60
  clear A60
  by_cases c7 : t208 = true
  ·subst c7
   have H1 : (impl_PipeFeed.j0 k a1 (decide ((a1.size : Int) > 4000)) a0_0 a0_1) = some (r1, r2, r3) := by rw [if_pos rfl] at H; exact H
   clear H
   have H := H1
   clear H1
   have H' := AM H
   clear H
   have hnb8 := NB206_207.out
   have hnc8 := NB207_206.out
   have hcz9_0 : w5.cell? ⟨gb206, 0, none⟩ = some (.string a0_0) := (kC BK206.out 0).trans rfl
   have hcz9_1 : w5.cell? ⟨gb206, 1, none⟩ = some (.bool a0_1) := (kC BK206.out 1).trans rfl
   have hfz9_0 := blk_frozen BK206.out 0
   have hfz9_1 := blk_frozen BK206.out 1
   go_wp2_with (first | ((with_reducible refine gate_callee (f := 37) rfl ?_); refine goesL_ (some 11) rfl rfl Tryd.func37 (by kernel_rfl) rfl #[.agg #[.string a0_0, .bool a0_1]] rfl (by (try simp only [List.map_toArray, List.map_cons, List.map_nil]); first | done | rfl | (simp only [List.length_drop, List.length_take]; rfl)) ?_; (with_reducible refine (impl_PipeOk.calls k a0_0 a0_1 true _ A6.out).mono ?_); rintro e w10 ⟨rfl, hb⟩; refine ⟨_, rfl, ?_⟩; have n0_ := AM (kB (g := gb206) (o := .cells #[.string a0_0, .bool a0_1] 34 (0, 0)) (by (with_reducible repeat (first | refine kD ?_ _ | refine kE ?_ | refine kA ?_ _)); exact BK206.out) hb); have n1_ := AM (kB (g := gb207) (o := .cells #[.string (⟨#[]⟩ : ByteArray), .bool false] 34 (0, 0)) (by (with_reducible repeat (first | refine kD ?_ _ | refine kE ?_ | refine kA ?_ _)); exact BK207.out) hb); have n2_ := AM (bS (by repeat (first | (with_reducible first | exact HB.out | apply bA | apply bD | apply bE | refine below_set ?_ GE206.out | refine below_set ?_ GE207.out) | exact HB.out)) hb); clear BK206; clear BK207; clear HB; have BK206 := n0_; have BK207 := n1_; have HB := n2_; clear n0_ n1_ n2_; (try clear hb); (try clear hb2); (try clear hk); (try clear hi)))
   go_meet
   case rel => exact ⟨_, (decide ((a1.size : Int) > 4000)), (by first | rfl | (simp; done) | (simp [*]; done)), H', ⟨by first | omega | exact Nat.le_refl _⟩, ⟨by (with_reducible repeat (first | refine kD ?_ _ | refine kE ?_ | refine kA ?_ _)); exact BK206.out⟩, ⟨by (with_reducible repeat (first | refine kD ?_ _ | refine kE ?_ | refine kA ?_ _)); exact BK207.out⟩, ⟨by repeat (first | (with_reducible first | exact HB.out | apply bA | apply bD | apply bE | refine below_set ?_ GE206.out | refine below_set ?_ GE207.out) | exact HB.out)⟩⟩
  ·replace c7 := Bool.eq_false_iff.mpr c7
   subst c7
   have H1 : (impl_PipeFeed.j0 k a1 true a0_0 a0_1) = some (r1, r2, r3) := by rw [if_neg (show ¬ (false = true) by decide)] at H; exact H
   clear H
   have H := H1
   clear H1
   have H' := AM H
   clear H
   have hnb11 := NB206_207.out
   have hnc11 := NB207_206.out
   have hcz12_0 : w5.cell? ⟨gb206, 0, none⟩ = some (.string a0_0) := (kC BK206.out 0).trans rfl
   have hcz12_1 : w5.cell? ⟨gb206, 1, none⟩ = some (.bool a0_1) := (kC BK206.out 1).trans rfl
   have hfz12_0 := blk_frozen BK206.out 0
   have hfz12_1 := blk_frozen BK206.out 1
   go_wp2_with (first | ((with_reducible refine gate_callee (f := 37) rfl ?_); refine goesL_ (some 11) rfl rfl Tryd.func37 (by kernel_rfl) rfl #[.agg #[.string a0_0, .bool a0_1]] rfl (by (try simp only [List.map_toArray, List.map_cons, List.map_nil]); first | done | rfl | (simp only [List.length_drop, List.length_take]; rfl)) ?_; (with_reducible refine (impl_PipeOk.calls k a0_0 a0_1 false _ A6.out).mono ?_); rintro e w13 ⟨rfl, hb⟩; refine ⟨_, rfl, ?_⟩; have n0_ := AM (kB (g := gb206) (o := .cells #[.string a0_0, .bool a0_1] 34 (0, 0)) (by (with_reducible repeat (first | refine kD ?_ _ | refine kE ?_ | refine kA ?_ _)); exact BK206.out) hb); have n1_ := AM (kB (g := gb207) (o := .cells #[.string (⟨#[]⟩ : ByteArray), .bool false] 34 (0, 0)) (by (with_reducible repeat (first | refine kD ?_ _ | refine kE ?_ | refine kA ?_ _)); exact BK207.out) hb); have n2_ := AM (bS (by repeat (first | (with_reducible first | exact HB.out | apply bA | apply bD | apply bE | refine below_set ?_ GE206.out | refine below_set ?_ GE207.out) | exact HB.out)) hb); clear BK206; clear BK207; clear HB; have BK206 := n0_; have BK207 := n1_; have HB := n2_; clear n0_ n1_ n2_; (try clear hb); (try clear hb2); (try clear hk); (try clear hi)))
   go_meet
   case rel => exact ⟨_, (true), (by first | rfl | (simp; done) | (simp [*]; done)), H', ⟨by first | omega | exact Nat.le_refl _⟩, ⟨by (with_reducible repeat (first | refine kD ?_ _ | refine kE ?_ | refine kA ?_ _)); exact BK206.out⟩, ⟨by (with_reducible repeat (first | refine kD ?_ _ | refine kE ?_ | refine kA ?_ _)); exact BK207.out⟩, ⟨by repeat (first | (with_reducible first | exact HB.out | apply bA | apply bD | apply bE | refine below_set ?_ GE206.out | refine below_set ?_ GE207.out) | exact HB.out)⟩⟩
 case rest =>
  clear HC3
  try clear c1
  try clear p2
  try clear c3
  try clear c7
  try clear c8
  try clear c11
  try clear hcz12_0
  try clear hcz12_1
  try clear hcz9_0
  try clear hcz9_1
  try clear hfz12_0
  try clear hfz12_1
  try clear hfz9_0
  try clear hfz9_1
  obtain ⟨kq, x17_2, rfl, HA, HJ2, BK206, BK207, HB⟩ := hcut
  cases kq with
  | zero => exact absurd HA.out (by simp [impl_PipeFeed.j0])
  | succ kj2 =>
   have H := HA.out
   clear HA
   simp only [impl_PipeFeed.j0] at H
   by_cases c14 : x17_2 = true
   ·subst c14
    have H1 : (some ((⟨#[]⟩ : ByteArray), false, ([] : List (List ByteArray)))) = some (r1, r2, r3) := by rw [if_pos rfl] at H; exact H
    clear H
    have H := H1
    clear H1
    simp only [Option.some.injEq, Prod.mk.injEq] at H
    obtain ⟨rfl, rfl, rfl⟩ := H
    have hnb15 := NB207_206.out
    have hnc15 := NB206_207.out
    have hcz16_0 : wc.cell? ⟨gb207, 0, none⟩ = some (.string (⟨#[]⟩ : ByteArray)) := (kC BK207.out 0).trans rfl
    have hcz16_1 : wc.cell? ⟨gb207, 1, none⟩ = some (.bool false) := (kC BK207.out 1).trans rfl
    have hfz16_0 := blk_frozen BK207.out 0
    have hfz16_1 := blk_frozen BK207.out 1
    go_wp2
    refine bodyPost_ret (results_ct rfl _ _ gb207 34 #[.string (⟨#[]⟩ : ByteArray), .bool false] (0, 0) _ rfl (by (with_reducible repeat (first | refine kD ?_ _ | refine kE ?_ | refine kA ?_ _)); refine blk_put (cs := #[.string (⟨#[]⟩ : ByteArray), .bool false]) ?_ 1 _ rfl; (with_reducible repeat (first | refine kD ?_ _ | refine kE ?_ | refine kA ?_ _)); refine blk_put (cs := #[.string (⟨#[]⟩ : ByteArray), .bool false]) ?_ 0 _ rfl; (with_reducible repeat (first | refine kD ?_ _ | refine kE ?_ | refine kA ?_ _)); exact BK207.out) Tryd.underlying34 rfl (by kernel_rfl)) rfl ?_
    exact ⟨_, by first | rfl | (simp [errW_none, errW_some] <;> rfl) | (simp [*, errW_none, errW_some] <;> rfl), by first | exact Kd.S_nil _ _ _ _ _ | exact Kd.N_nil _ _ _ _ _ | exact Kd.V_nil _ _ _ _ _ | exact Kd.Q_nil _ _ _ _ _ | exact Kd.R_nil _ _ _ _ _, by repeat (first | (with_reducible first | exact HB.out | apply bA | apply bD | apply bE | refine below_set ?_ GE206.out | refine below_set ?_ GE207.out) | exact HB.out)⟩
   ·replace c14 := Bool.eq_false_iff.mpr c14
    subst c14
    have H1 : (if a0_1 = true then (some (a0_0, a0_1, ([] : List (List ByteArray)))) else (if a0_0.size + a1.size ≤ 9223372036854775807 then (impl_PipeFeed.l0 kj2 (a0_0 ++ a1) ([] : List (List ByteArray))) else (none))) = some (r1, r2, r3) := by rw [if_neg (show ¬ (false = true) by decide)] at H; exact H
    clear H
    have H := H1
    clear H1
    by_cases c17 : a0_1 = true
    ·subst c17
     have H1 : (some (a0_0, true, ([] : List (List ByteArray)))) = some (r1, r2, r3) := by rw [if_pos rfl] at H; exact H
     clear H
     have H := H1
     clear H1
     simp only [Option.some.injEq, Prod.mk.injEq] at H
     obtain ⟨rfl, rfl, rfl⟩ := H
     have hnb18 := NB206_207.out
     have hnc18 := NB207_206.out
     have hcz19_0 : wc.cell? ⟨gb206, 0, none⟩ = some (.string a0_0) := (kC BK206.out 0).trans rfl
     have hcz19_1 : wc.cell? ⟨gb206, 1, none⟩ = some (.bool true) := (kC BK206.out 1).trans rfl
     have hfz19_0 := blk_frozen BK206.out 0
     have hfz19_1 := blk_frozen BK206.out 1
     have hcz20_0 : wc.cell? ⟨gb207, 0, none⟩ = some (.string (⟨#[]⟩ : ByteArray)) := (kC BK207.out 0).trans rfl
     have hcz20_1 : wc.cell? ⟨gb207, 1, none⟩ = some (.bool false) := (kC BK207.out 1).trans rfl
     have hfz20_0 := blk_frozen BK207.out 0
     have hfz20_1 := blk_frozen BK207.out 1
     go_wp2
     refine bodyPost_ret (results_ct rfl _ _ gb207 34 #[.string a0_0, .bool true] (0, 0) _ rfl (by (with_reducible repeat (first | refine kD ?_ _ | refine kE ?_ | refine kA ?_ _)); refine blk_put (cs := #[.string a0_0, .bool false]) ?_ 1 _ rfl; (with_reducible repeat (first | refine kD ?_ _ | refine kE ?_ | refine kA ?_ _)); refine blk_put (cs := #[.string (⟨#[]⟩ : ByteArray), .bool false]) ?_ 0 _ rfl; (with_reducible repeat (first | refine kD ?_ _ | refine kE ?_ | refine kA ?_ _)); exact BK207.out) Tryd.underlying34 rfl (by kernel_rfl)) rfl ?_
     exact ⟨_, by first | rfl | (simp [errW_none, errW_some] <;> rfl) | (simp [*, errW_none, errW_some] <;> rfl), by first | exact Kd.S_nil _ _ _ _ _ | exact Kd.N_nil _ _ _ _ _ | exact Kd.V_nil _ _ _ _ _ | exact Kd.Q_nil _ _ _ _ _ | exact Kd.R_nil _ _ _ _ _, by repeat (first | (with_reducible first | exact HB.out | apply bA | apply bD | apply bE | refine below_set ?_ GE206.out | refine below_set ?_ GE207.out) | exact HB.out)⟩
    ·replace c17 := Bool.eq_false_iff.mpr c17
     subst c17
     have H1 : (if a0_0.size + a1.size ≤ 9223372036854775807 then (impl_PipeFeed.l0 kj2 (a0_0 ++ a1) ([] : List (List ByteArray))) else (none)) = some (r1, r2, r3) := by rw [if_neg (show ¬ (false = true) by decide)] at H; exact H
     clear H
     have H := H1
     clear H1
     by_cases c21 : a0_0.size + a1.size ≤ 9223372036854775807
     ·rw [if_pos c21] at H
      have c21b0 := eq_true c21
      have c21b1 : decide (a0_0.size + a1.size ≤ 9223372036854775807) = true := decide_eq_true c21
      try have c21b2 : (9223372036854775807 < a0_0.size + a1.size) = False := eq_false (Nat.not_lt.2 c21)
      have H' := AM H
      clear H
      have hnb22 := NB206_207.out
      have hnc22 := NB207_206.out
      have hcz23_0 : wc.cell? ⟨gb206, 0, none⟩ = some (.string a0_0) := (kC BK206.out 0).trans rfl
      have hcz23_1 : wc.cell? ⟨gb206, 1, none⟩ = some (.bool false) := (kC BK206.out 1).trans rfl
      have hfz23_0 := blk_frozen BK206.out 0
      have hfz23_1 := blk_frozen BK206.out 1
      go_wp2
      go_loopg [6, 7] kj2 (fun kq v6 v7 w' => ∃ (x6_2 : ByteArray) (x7_2 : List (List ByteArray)) (x208000_2 : ByteArray) (x208001_2 : Bool), v6 = .string x6_2 ∧ Aside0 (impl_PipeFeed.l0 kq x6_2 x7_2 = some (r1, r2, r3)) ∧ Aside0 (kq ≤ kj2) ∧ Aside0 (Kd.S (Kd.slice 9 Kd.string) 30 w' w.heap.size (fun _ => True) v7 x7_2) ∧ Aside0 (w'.heap[gb206]? = some (.cells #[.string a0_0, .bool false] 34 (0, 0))) ∧ Aside0 (w'.heap[gb207]? = some (.cells #[.string x208000_2, .bool x208001_2] 34 (0, 0))) ∧ Aside0 (Below w.heap.size w w'))
      case atStart => exact ⟨(a0_0 ++ a1), (([] : List (List ByteArray))), ((⟨#[]⟩ : ByteArray)), (false), (by first | rfl | (simp; done) | (simp [*]; done)), H', ⟨Nat.le_refl _⟩, ⟨by first | exact Kd.S_nil _ _ _ _ _ | exact Kd.N_nil _ _ _ _ _ | exact Kd.V_nil _ _ _ _ _ | exact Kd.Q_nil _ _ _ _ _ | exact Kd.R_nil _ _ _ _ _⟩, ⟨by (with_reducible repeat (first | refine kD ?_ _ | refine kE ?_ | refine kA ?_ _)); exact BK206.out⟩, ⟨by (with_reducible repeat (first | refine kD ?_ _ | refine kE ?_ | refine kA ?_ _)); exact BK207.out⟩, ⟨by repeat (first | (with_reducible first | exact HB.out | apply bA | apply bD | apply bE | refine below_set ?_ GE206.out | refine below_set ?_ GE207.out) | exact HB.out)⟩⟩
      case round =>
       clear H'
       try clear c1
       try clear c2
       try clear p2
       try clear c3
       try clear c7
       try clear c8
       try clear c11
       try clear c14
       try clear c15
       try clear c17
       try clear c18
       try clear c19
       try clear c21
       try clear c21b0
       try clear c21b1
       try clear c21b2
       try clear c22
       try clear hcz12_0
       try clear hcz12_1
       try clear hcz16_0
       try clear hcz16_1
       try clear hcz19_0
       try clear hcz19_1
       try clear hcz20_0
       try clear hcz20_1
       try clear hcz23_0
       try clear hcz23_1
       try clear hcz9_0
       try clear hcz9_1
       try clear hfz12_0
       try clear hfz12_1
       try clear hfz16_0
       try clear hfz16_1
       try clear hfz19_0
       try clear hfz19_1
       try clear hfz20_0
       try clear hfz20_1
       try clear hfz23_0
       try clear hfz23_1
       try clear hfz9_0
       try clear hfz9_1
       try clear p2
       obtain ⟨x6_2, x7_2, x208000_2, x208001_2, rfl, HA, HK2, HO_7, BK206, BK207, HB⟩ := hrel
       cases gk with
       | zero => exact absurd HA.out (by simp [impl_PipeFeed.l0])
       | succ k2 =>
        have H := HA.out
        clear HA
        simp only [impl_PipeFeed.l0] at H
        replace H := Option.bind_eq_some_iff.mp H
        obtain ⟨⟨t209, t210⟩, A240, H⟩ := H
        replace H : (if t210 = (-1) then (some ((⟨#[]⟩ : ByteArray), true, x7_2)) else (if t210 = 0 then (some (x6_2, false, x7_2)) else (if x7_2.length < 5864062014805 then (if 0 ≤ t210 then (if t210 ≤ (x6_2.size : Int) then (impl_PipeFeed.l0 k2 (x6_2.extract (t210 : Int).toNat x6_2.size) (x7_2 ++ [t209])) else (none)) else (none)) else (none)))) = some (r1, r2, r3) := H
        have A24 := AM A240
        clear A240
        by_cases c25 : t210 = (-1)
        ·rw [if_pos c25] at H
         have c25b0 : (t210 == (-1)) = true := beq_iff_eq.mpr c25
         have c25b1 : (t210 != (-1)) = false := bne_eq_false_iff_eq.mpr c25
         clear c25
         simp only [Option.some.injEq, Prod.mk.injEq] at H
         obtain ⟨rfl, rfl, rfl⟩ := H
         go_wp2_with (first | ((with_reducible refine gate_callee (f := 71) rfl ?_); refine goesL_ (some 28) rfl rfl Tryd.func71 (by kernel_rfl) rfl #[.string x6_2] rfl (by (try simp only [List.map_toArray, List.map_cons, List.map_nil]); first | done | rfl | (simp only [List.length_drop, List.length_take]; rfl)) ?_; (with_reducible refine (impl_FrameGet.calls k2 x6_2 t209 t210 _ A24.out).mono ?_); rintro e w26 ⟨v211, rfl, ho0, hb⟩; refine ⟨_, rfl, ?_⟩; have n0_ := AM (Kd.S_elder' (by (with_reducible repeat (first | apply sA | apply sD | apply sE)); exact HO_7.out) (Kd.R_base ho0) hb); have n1_ := AM (Kd.R_lower ho0 (bZ (by repeat (first | (with_reducible first | exact HB.out | apply bA | apply bD | apply bE | refine below_set ?_ GE206.out | refine below_set ?_ GE207.out) | exact HB.out)))); have n2_ := AM (kB (g := gb206) (o := .cells #[.string a0_0, .bool false] 34 (0, 0)) (by (with_reducible repeat (first | refine kD ?_ _ | refine kE ?_ | refine kA ?_ _)); exact BK206.out) hb); have n3_ := AM (kB (g := gb207) (o := .cells #[.string x208000_2, .bool x208001_2] 34 (0, 0)) (by (with_reducible repeat (first | refine kD ?_ _ | refine kE ?_ | refine kA ?_ _)); exact BK207.out) hb); have n4_ := AM (bS (by repeat (first | (with_reducible first | exact HB.out | apply bA | apply bD | apply bE | refine below_set ?_ GE206.out | refine below_set ?_ GE207.out) | exact HB.out)) hb); clear HO_7; clear BK206; clear BK207; clear HB; have HO_7 := n0_; have HO212 := n1_; have BK206 := n2_; have BK207 := n3_; have HB := n4_; clear n0_ n1_ n2_ n3_ n4_; (try clear hb); (try clear hb2); (try clear hk); (try clear hi); (try clear ho0); have hnb27 := NB207_206.out; have hnc27 := NB206_207.out; have hcz28_0 : w26.cell? ⟨gb207, 0, none⟩ = some (.string x208000_2) := (kC BK207.out 0).trans rfl; have hcz28_1 : w26.cell? ⟨gb207, 1, none⟩ = some (.bool x208001_2) := (kC BK207.out 1).trans rfl; have hfz28_0 := blk_frozen BK207.out 0; have hfz28_1 := blk_frozen BK207.out 1))
         refine bodyPost_ret (results_ct rfl _ _ gb207 34 #[.string (⟨#[]⟩ : ByteArray), .bool true] (0, 0) _ rfl (by (with_reducible repeat (first | refine kD ?_ _ | refine kE ?_ | refine kA ?_ _)); refine blk_put (cs := #[.string (⟨#[]⟩ : ByteArray), .bool x208001_2]) ?_ 1 _ rfl; (with_reducible repeat (first | refine kD ?_ _ | refine kE ?_ | refine kA ?_ _)); refine blk_put (cs := #[.string x208000_2, .bool x208001_2]) ?_ 0 _ rfl; (with_reducible repeat (first | refine kD ?_ _ | refine kE ?_ | refine kA ?_ _)); exact BK207.out) Tryd.underlying34 rfl (by kernel_rfl)) rfl ?_
         exact ⟨_, by first | rfl | (simp [errW_none, errW_some] <;> rfl) | (simp [*, errW_none, errW_some] <;> rfl), by (with_reducible repeat (first | apply sA | apply sD | apply sE)); exact sM (Kd.S_far (p := ⟨gb207, 1, none⟩) (Kd.S_far (p := ⟨gb207, 0, none⟩) (Kd.S_types HO_7.out BK207.out (by decide)) (fun _ hk => hk.2) (.string (⟨#[]⟩ : ByteArray))) (fun _ hk => hk.2) (.bool true)) (fun _ hk => trivial), by repeat (first | (with_reducible first | exact HB.out | apply bA | apply bD | apply bE | refine below_set ?_ GE206.out | refine below_set ?_ GE207.out) | exact HB.out)⟩
        ·rw [if_neg c25] at H
         have c25b0 : (t210 == (-1)) = false := beq_eq_false_iff_ne.mpr c25
         have c25b1 : (t210 != (-1)) = true := bne_iff_ne.mpr c25
         by_cases c29 : t210 = 0
         ·rw [if_pos c29] at H
          have c29b0 : (t210 == 0) = true := beq_iff_eq.mpr c29
          have c29b1 : (t210 != 0) = false := bne_eq_false_iff_eq.mpr c29
          clear c29
          simp only [Option.some.injEq, Prod.mk.injEq] at H
          obtain ⟨rfl, rfl, rfl⟩ := H
          go_wp2_with (first | ((with_reducible refine gate_callee (f := 71) rfl ?_); refine goesL_ (some 28) rfl rfl Tryd.func71 (by kernel_rfl) rfl #[.string x6_2] rfl (by (try simp only [List.map_toArray, List.map_cons, List.map_nil]); first | done | rfl | (simp only [List.length_drop, List.length_take]; rfl)) ?_; (with_reducible refine (impl_FrameGet.calls k2 x6_2 t209 t210 _ A24.out).mono ?_); rintro e w30 ⟨v211, rfl, ho0, hb⟩; refine ⟨_, rfl, ?_⟩; have n0_ := AM (Kd.S_elder' (by (with_reducible repeat (first | apply sA | apply sD | apply sE)); exact HO_7.out) (Kd.R_base ho0) hb); have n1_ := AM (Kd.R_lower ho0 (bZ (by repeat (first | (with_reducible first | exact HB.out | apply bA | apply bD | apply bE | refine below_set ?_ GE206.out | refine below_set ?_ GE207.out) | exact HB.out)))); have n2_ := AM (kB (g := gb206) (o := .cells #[.string a0_0, .bool false] 34 (0, 0)) (by (with_reducible repeat (first | refine kD ?_ _ | refine kE ?_ | refine kA ?_ _)); exact BK206.out) hb); have n3_ := AM (kB (g := gb207) (o := .cells #[.string x208000_2, .bool x208001_2] 34 (0, 0)) (by (with_reducible repeat (first | refine kD ?_ _ | refine kE ?_ | refine kA ?_ _)); exact BK207.out) hb); have n4_ := AM (bS (by repeat (first | (with_reducible first | exact HB.out | apply bA | apply bD | apply bE | refine below_set ?_ GE206.out | refine below_set ?_ GE207.out) | exact HB.out)) hb); clear HO_7; clear BK206; clear BK207; clear HB; have HO_7 := n0_; have HO212 := n1_; have BK206 := n2_; have BK207 := n3_; have HB := n4_; clear n0_ n1_ n2_ n3_ n4_; (try clear hb); (try clear hb2); (try clear hk); (try clear hi); (try clear ho0); have hnb31 := NB207_206.out; have hnc31 := NB206_207.out; have hcz32_0 : w30.cell? ⟨gb207, 0, none⟩ = some (.string x208000_2) := (kC BK207.out 0).trans rfl; have hcz32_1 : w30.cell? ⟨gb207, 1, none⟩ = some (.bool x208001_2) := (kC BK207.out 1).trans rfl; have hfz32_0 := blk_frozen BK207.out 0; have hfz32_1 := blk_frozen BK207.out 1))
          refine bodyPost_ret (results_ct rfl _ _ gb207 34 #[.string x6_2, .bool false] (0, 0) _ rfl (by (with_reducible repeat (first | refine kD ?_ _ | refine kE ?_ | refine kA ?_ _)); refine blk_put (cs := #[.string x6_2, .bool x208001_2]) ?_ 1 _ rfl; (with_reducible repeat (first | refine kD ?_ _ | refine kE ?_ | refine kA ?_ _)); refine blk_put (cs := #[.string x208000_2, .bool x208001_2]) ?_ 0 _ rfl; (with_reducible repeat (first | refine kD ?_ _ | refine kE ?_ | refine kA ?_ _)); exact BK207.out) Tryd.underlying34 rfl (by kernel_rfl)) rfl ?_
          exact ⟨_, by first | rfl | (simp [errW_none, errW_some] <;> rfl) | (simp [*, errW_none, errW_some] <;> rfl), by (with_reducible repeat (first | apply sA | apply sD | apply sE)); exact sM (Kd.S_far (p := ⟨gb207, 1, none⟩) (Kd.S_far (p := ⟨gb207, 0, none⟩) (Kd.S_types HO_7.out BK207.out (by decide)) (fun _ hk => hk.2) (.string x6_2)) (fun _ hk => hk.2) (.bool false)) (fun _ hk => trivial), by repeat (first | (with_reducible first | exact HB.out | apply bA | apply bD | apply bE | refine below_set ?_ GE206.out | refine below_set ?_ GE207.out) | exact HB.out)⟩
         ·rw [if_neg c29] at H
          have c29b0 : (t210 == 0) = false := beq_eq_false_iff_ne.mpr c29
          have c29b1 : (t210 != 0) = true := bne_iff_ne.mpr c29
          by_cases c33 : x7_2.length < 5864062014805
          ·rw [if_pos c33] at H
           have LMc33 := AM c33
           clear c33
           obtain ⟨y213, hy213⟩ : ∃ y_ : List (List ByteArray), y_ = (x7_2 ++ [t209]) := ⟨_, rfl⟩
           replace H : (if 0 ≤ t210 then (if t210 ≤ (x6_2.size : Int) then (impl_PipeFeed.l0 k2 (x6_2.extract (t210 : Int).toNat x6_2.size) y213) else (none)) else (none)) = some (r1, r2, r3) := by first | (rw [hy213]; with_reducible exact H) | (have H2_ := (Option.bind_some _ _).symm.trans H; rw [hy213]; with_reducible exact H2_) | (have H2_ := (Option.bind_some _ _).symm.trans H; with_reducible exact H2_) | with_reducible exact H | (rw [hy213]; exact H) | exact H
           have Ny213 := AM hy213
           clear hy213
           by_cases c34 : 0 ≤ t210
           ·rw [if_pos c34] at H
            have c34b0 := eq_true c34
            have c34b1 : decide (0 ≤ t210) = true := decide_eq_true c34
            clear c34
            by_cases c35 : t210 ≤ (x6_2.size : Int)
            ·rw [if_pos c35] at H
             have c35b0 := eq_true c35
             have c35b1 : decide (t210 ≤ (x6_2.size : Int)) = true := decide_eq_true c35
             clear c35
             have H' := AM H
             clear H
             go_wp2_with (first | ((with_reducible refine gate_callee (f := 71) rfl ?_); refine goesL_ (some 28) rfl rfl Tryd.func71 (by kernel_rfl) rfl #[.string x6_2] rfl (by (try simp only [List.map_toArray, List.map_cons, List.map_nil]); first | done | rfl | (simp only [List.length_drop, List.length_take]; rfl)) ?_; (with_reducible refine (impl_FrameGet.calls k2 x6_2 t209 t210 _ A24.out).mono ?_); rintro e w36 ⟨v211, rfl, ho0, hb⟩; refine ⟨_, rfl, ?_⟩; have n0_ := AM (Kd.S_elder' (by (with_reducible repeat (first | apply sA | apply sD | apply sE)); exact HO_7.out) (Kd.R_base ho0) hb); have n1_ := AM (Kd.R_lower ho0 (bZ (by repeat (first | (with_reducible first | exact HB.out | apply bA | apply bD | apply bE | refine below_set ?_ GE206.out | refine below_set ?_ GE207.out) | exact HB.out)))); have n2_ := AM (kB (g := gb206) (o := .cells #[.string a0_0, .bool false] 34 (0, 0)) (by (with_reducible repeat (first | refine kD ?_ _ | refine kE ?_ | refine kA ?_ _)); exact BK206.out) hb); have n3_ := AM (kB (g := gb207) (o := .cells #[.string x208000_2, .bool x208001_2] 34 (0, 0)) (by (with_reducible repeat (first | refine kD ?_ _ | refine kE ?_ | refine kA ?_ _)); exact BK207.out) hb); have n4_ := AM (bS (by repeat (first | (with_reducible first | exact HB.out | apply bA | apply bD | apply bE | refine below_set ?_ GE206.out | refine below_set ?_ GE207.out) | exact HB.out)) hb); clear HO_7; clear BK206; clear BK207; clear HB; have HO_7 := n0_; have HO212 := n1_; have BK206 := n2_; have BK207 := n3_; have HB := n4_; clear n0_ n1_ n2_ n3_ n4_; (try clear hb); (try clear hb2); (try clear hk); (try clear hi); (try clear ho0); obtain ⟨Ao38, co38, eo38⟩ := Kd.R_slice HO212.out; subst eo38) | ((with_reducible refine gate_builtin (b := .append) (xs := #[.tmp 41, .tmp 43]) rfl ?_); (try (refine gate_guard (by rfl) ?_; dsimp only)); at_builtin; refine Kd.S_append (Kd.slice 9 Kd.string) (w0 := w) w.heap.size rfl (.tmp 41) (.tmp 43) 35 30 (.slice none 0 0) 24 rfl Tryd.underlying35 info30 rfl (by decide) (by omega) u7 x7_2 t209 [.slice Ao38 t209.length co38] (fun _ => True) (fun k_ => some k_ = (.slice Ao38 t209.length co38 : Value).ownBlock) rfl rfl ?aP (fun k_ hk_ => ((rM (ok' := fun k_ => ((fun _ => True)) k_ ∧ some k_ ≠ (u7 : Value).ownBlock) (Kd.R_apart' (HO212.out) (Kd.S_typed HO_7.out) (by decide)) (fun k_ hk => ⟨trivial, hk.2⟩))).1 k_ hk_.symm) ?aF ?aO ?aB ?aS ?aL ?_; (case aP => exact Kd.M_row (rM (Kd.R_tight rfl (rM (ok' := fun k_ => ((fun _ => True)) k_ ∧ some k_ ≠ (u7 : Value).ownBlock) (Kd.R_apart' (HO212.out) (Kd.S_typed HO_7.out) (by decide)) (fun k_ hk => ⟨trivial, hk.2⟩))) (fun _ h_ => h_))); (case aB => exact (by repeat (first | (with_reducible first | exact HB.out | apply bA | apply bD | apply bE | refine below_set ?_ GE206.out | refine below_set ?_ GE207.out) | exact HB.out))); (case aF => exact (fun _ _ => trivial)); (case aO => exact (by (with_reducible repeat (first | apply sA | apply sD | apply sE)); exact sM HO_7.out (fun k_ hk => ⟨trivial, fun e_ => hk.2 e_⟩))); (case aS => exact (bZ (by repeat (first | (with_reducible first | exact HB.out | apply bA | apply bD | apply bE | refine below_set ?_ GE206.out | refine below_set ?_ GE207.out) | exact HB.out)))); (case aL => have := LMc33.out; omega); intro v214 w37 ho hb hg hat; rw [← Ny213.out] at ho; have n0_ := AM (blk_grown (g := gb206) (o := .cells #[.string a0_0, .bool false] 34 (0, 0)) (by (with_reducible repeat (first | refine kD ?_ _ | refine kE ?_ | refine kA ?_ _)); exact BK206.out) hg (Kd.S_ne HO_7.out BK206.out (by decide))); have n1_ := AM (blk_grown (g := gb207) (o := .cells #[.string x208000_2, .bool x208001_2] 34 (0, 0)) (by (with_reducible repeat (first | refine kD ?_ _ | refine kE ?_ | refine kA ?_ _)); exact BK207.out) hg (Kd.S_ne HO_7.out BK207.out (by decide))); have n2_ := AM (hb); have n3_ := AM (ho); clear BK206; clear BK207; clear HB; clear HO_7; clear HO212; have BK206 := n0_; have BK207 := n1_; have HB := n2_; have HO215 := n3_; clear n0_ n1_ n2_ n3_; clear ho hb hg hat))
             go_roundg k2
             case measure => have := HJ2.out; have := HK2.out; omega
             case rel => exact ⟨(x6_2.extract (t210 : Int).toNat x6_2.size), (y213), (x208000_2), (x208001_2), (by first | rfl | (simp; done) | (simp [*]; done)), H', ⟨by have := HJ2.out; have := HK2.out; omega⟩, ⟨by (with_reducible repeat (first | apply sA | apply sD | apply sE)); exact HO215.out⟩, ⟨by (with_reducible repeat (first | refine kD ?_ _ | refine kE ?_ | refine kA ?_ _)); exact BK206.out⟩, ⟨by (with_reducible repeat (first | refine kD ?_ _ | refine kE ?_ | refine kA ?_ _)); exact BK207.out⟩, ⟨by repeat (first | (with_reducible first | exact HB.out | apply bA | apply bD | apply bE | refine below_set ?_ GE206.out | refine below_set ?_ GE207.out) | exact HB.out)⟩⟩
            ·rw [if_neg c35] at H
             exact absurd H (by simp)
           ·rw [if_neg c34] at H
            exact absurd H (by simp)
          ·rw [if_neg c33] at H
           exact absurd H (by simp)
     ·rw [if_neg c21] at H
      exact absurd H (by simp)

/-! ### laws_qnTexts: function 20 -/
def laws_qnTexts.l0 : Nat → List ByteArray → List ByteArray → Int → Option (Bool)
  | 0, _, _, _ => none
  | k + 1, x0, x1, x5 => if x5 < (x0.length : Int) then (if 0 ≤ x5 then (if x5 < (x1.length : Int) then (if (rdOf ByteArray.empty x0 x5).toList = (rdOf ByteArray.empty x1 x5).toList then (laws_qnTexts.l0 k x0 x1 (wrap64 (x5 + 1))) else (some false)) else (none)) else (none)) else (some true)
def laws_qnTexts.f (k : Nat) (l0 : List ByteArray) (l1 : List ByteArray) : Option (Bool) := if (l0.length : Int) = (l1.length : Int) then (laws_qnTexts.l0 k l0 l1 0) else (some false)
theorem laws_qnTexts.mono_l : ∀ k, (∀ y0 y1 y2, LeO (laws_qnTexts.l0 k y0 y1 y2) (laws_qnTexts.l0 (k + 1) y0 y1 y2))
 | 0 => fun _ _ _ r h => by simp [laws_qnTexts.l0] at h
 | k + 1 => by
  have ih0 := laws_qnTexts.mono_l k
  ·intro y0 y1 y2
   unfold laws_qnTexts.l0
   repeat' first
   | (with_reducible exact ih0 _ _ _)
   | (with_reducible exact LeO.refl _)
   | (with_reducible exact LeO.none _)
   | (with_reducible refine LeO.ite ?_ ?_)
   | (with_reducible refine LeO.bind ?_ (fun _ => ?_))
   | exact ih0 _ _ _
   | exact LeO.none _
   | refine LeO.ite ?_ ?_
   | refine LeO.bind ?_ (fun _ => ?_)
theorem laws_qnTexts.mono : ∀ a0 a1 k, LeO (laws_qnTexts.f k a0 a1) (laws_qnTexts.f (k + 1) a0 a1) := by
 intro a0 a1 k
 have ih0 := laws_qnTexts.mono_l k
 unfold laws_qnTexts.f
 repeat' first
   | (with_reducible exact ih0 _ _ _)
   | (with_reducible exact LeO.refl _)
   | (with_reducible exact LeO.none _)
   | (with_reducible refine LeO.ite ?_ ?_)
   | (with_reducible refine LeO.bind ?_ (fun _ => ?_))
   | exact ih0 _ _ _
   | exact LeO.none _
   | refine LeO.ite ?_ ?_
   | refine LeO.bind ?_ (fun _ => ?_)
set_option maxHeartbeats 8000000 in
set_option maxRecDepth 100000 in
theorem laws_qnTexts.calls (k : Nat) (A0 : Option Addr) (c0 : Nat) (l0 : List ByteArray) (A1 : Option Addr) (c1 : Nat) (l1 : List ByteArray) (r : Bool) (w : World) (hr0 : Kd.C Kd.string w A0 l0.length l0) (hc0 : l0.length ≤ c0) (hr1 : Kd.C Kd.string w A1 l1.length l1) (hc1 : l1.length ≤ c1) (h : laws_qnTexts.f k l0 l1 = some r) :
  Calls Tryd.prog 20 #[.slice A0 l0.length c0, .slice A1 l1.length c1] w fun e w' => e = .returned (.bool r) ∧ Drawn0 w w' := by
 have HR0 := AM hr0
 have HC0 := AM hc0
 clear hr0 hc0
 have HR1 := AM hr1
 have HC1 := AM hc1
 clear hr1 hc1
 have H : (if (l0.length : Int) = (l1.length : Int) then (laws_qnTexts.l0 k l0 l1 0) else (some false)) = some r := h
 clear h
 by_cases c3 : (l0.length : Int) = (l1.length : Int)
 ·rw [if_pos c3] at H
  have c3b0 : ((l0.length : Int) == (l1.length : Int)) = true := beq_iff_eq.mpr c3
  have c3b1 : ((l0.length : Int) != (l1.length : Int)) = false := bne_eq_false_iff_eq.mpr c3
  have c3b2 : (l0.length == l1.length) = true := by first | simpa using c3 | (simp at c3 ⊢; omega)
  clear c3
  have H' := AM H
  clear H
  go_enter Tryd.func20, Tryd.ntmps20
  go_wp2
  repeat (go_quiet (fail); try go_wp2)
  go_loopg [5] k (fun kq v5 w' => ∃ (x5_1 : Int), v5 = .int .i64 x5_1 ∧ Aside0 (laws_qnTexts.l0 kq l0 l1 x5_1 = some r) ∧ Aside0 (kq ≤ k) ∧ Drawn0 w w')
  case atStart => exact ⟨(0), (by first | rfl | (simp; done) | (simp [*]; done)), H', ⟨Nat.le_refl _⟩, by repeat (first | exact Drawn0.refl _ | apply Drawn0.step)⟩
  case round =>
   clear H'
   try clear c1
   try clear c2
   try clear p2
   try clear c3
   try clear c3b0
   try clear c3b1
   try clear c3b2
   obtain ⟨x5_1, rfl, HA, HK1, ⟨m1, rfl⟩⟩ := hrel
   cases gk with
   | zero => exact absurd HA.out (by simp [laws_qnTexts.l0])
   | succ k1 =>
    have H := HA.out
    clear HA
    simp only [laws_qnTexts.l0] at H
    by_cases c4 : x5_1 < (l0.length : Int)
    ·rw [if_pos c4] at H
     have c4b0 : decide (x5_1 < (l0.length : Int)) = true := decide_eq_true c4
     clear c4
     by_cases c5 : 0 ≤ x5_1
     ·rw [if_pos c5] at H
      have c5b0 : decide (0 ≤ x5_1) = true := decide_eq_true c5
      clear c5
      by_cases c6 : x5_1 < (l1.length : Int)
      ·rw [if_pos c6] at H
       have c6b0 : decide (x5_1 < (l1.length : Int)) = true := decide_eq_true c6
       clear c6
       by_cases c7 : (rdOf ByteArray.empty l0 x5_1).toList = (rdOf ByteArray.empty l1 x5_1).toList
       ·rw [if_pos c7] at H
        have c7b0 : ((rdOf ByteArray.empty l0 x5_1).toList == (rdOf ByteArray.empty l1 x5_1).toList) = true := beq_iff_eq.mpr c7
        have c7b1 : ((rdOf ByteArray.empty l0 x5_1).toList != (rdOf ByteArray.empty l1 x5_1).toList) = false := bne_eq_false_iff_eq.mpr c7
        clear c7
        have H' := AM H
        clear H
        have p216 : 0 ≤ (x5_1 : Int) := of_decide_eq_true (by first | (with_reducible assumption) | assumption)
        have q216 : x5_1 < (l0.length : Int) := of_decide_eq_true (by first | (with_reducible assumption) | assumption)
        obtain ⟨ad216, e216, hx216_0⟩ := Kd.at_string HR0.out x5_1 p216 q216
        cases e216
        replace p216 := eq_true p216
        replace q216 := eq_true q216
        have p217 : 0 ≤ (x5_1 : Int) := of_decide_eq_true (by first | (with_reducible assumption) | assumption)
        have q217 : x5_1 < (l1.length : Int) := of_decide_eq_true (by first | (with_reducible assumption) | assumption)
        obtain ⟨ad217, e217, hx217_0⟩ := Kd.at_string HR1.out x5_1 p217 q217
        cases e217
        replace p217 := eq_true p217
        replace q217 := eq_true q217
        go_wp2
        repeat (go_quiet (fail); try go_wp2)
        go_roundg k1
        case measure => have := HK1.out; omega
        case rel => exact ⟨(wrap64 (x5_1 + 1)), (by first | rfl | (simp; done) | (simp [*]; done)), H', ⟨by have := HK1.out; omega⟩, by repeat (first | exact Drawn0.refl _ | apply Drawn0.step)⟩
       ·rw [if_neg c7] at H
        have c7b0 : ((rdOf ByteArray.empty l0 x5_1).toList == (rdOf ByteArray.empty l1 x5_1).toList) = false := beq_eq_false_iff_ne.mpr c7
        have c7b1 : ((rdOf ByteArray.empty l0 x5_1).toList != (rdOf ByteArray.empty l1 x5_1).toList) = true := bne_iff_ne.mpr c7
        obtain rfl := Option.some.inj H
        have p216 : 0 ≤ (x5_1 : Int) := of_decide_eq_true (by first | (with_reducible assumption) | assumption)
        have q216 : x5_1 < (l0.length : Int) := of_decide_eq_true (by first | (with_reducible assumption) | assumption)
        obtain ⟨ad216, e216, hx216_0⟩ := Kd.at_string HR0.out x5_1 p216 q216
        cases e216
        replace p216 := eq_true p216
        replace q216 := eq_true q216
        have p217 : 0 ≤ (x5_1 : Int) := of_decide_eq_true (by first | (with_reducible assumption) | assumption)
        have q217 : x5_1 < (l1.length : Int) := of_decide_eq_true (by first | (with_reducible assumption) | assumption)
        obtain ⟨ad217, e217, hx217_0⟩ := Kd.at_string HR1.out x5_1 p217 q217
        cases e217
        replace p217 := eq_true p217
        replace q217 := eq_true q217
        go_wp2
        repeat (go_quiet (fail); try go_wp2)
        go_ret
        exact ⟨by first | rfl | (simp; done) | (simp [*]; done), by repeat (first | exact Drawn0.refl _ | apply Drawn0.step)⟩
      ·rw [if_neg c6] at H
       exact absurd H (by simp)
     ·rw [if_neg c5] at H
      exact absurd H (by simp)
    ·rw [if_neg c4] at H
     have c4b0 : decide (x5_1 < (l0.length : Int)) = false := decide_eq_false c4
     clear c4
     obtain rfl := Option.some.inj H
     go_wp2
     repeat (go_quiet (fail); try go_wp2)
     go_ret
     exact ⟨by first | rfl | (simp; done) | (simp [*]; done), by repeat (first | exact Drawn0.refl _ | apply Drawn0.step)⟩
 ·rw [if_neg c3] at H
  have c3b0 : ((l0.length : Int) == (l1.length : Int)) = false := beq_eq_false_iff_ne.mpr c3
  have c3b1 : ((l0.length : Int) != (l1.length : Int)) = true := bne_iff_ne.mpr c3
  have c3b2 : (l0.length == l1.length) = false := by first | simpa using c3 | (simp at c3 ⊢; omega)
  obtain rfl := Option.some.inj H
  go_enter Tryd.func20, Tryd.ntmps20
  go_wp2
  repeat (go_quiet (fail); try go_wp2)
  go_ret
  exact ⟨by first | rfl | (simp; done) | (simp [*]; done), by repeat (first | exact Drawn0.refl _ | apply Drawn0.step)⟩

/-! ### laws_FnPipeAll: function 4 -/
mutual
def laws_FnPipeAll.j0 : Nat → List Int → List Int → Bool → Option (Bool)
  | 0, _, _, _ => none
  | k + 1, x0, x1, x20 => if x20 = true then (some true) else ((spec_DrawFramePut.f k x0).bind fun t218 => ((spec_DrawFramePut.f k x1).bind fun t221 => ((impl_FramePut.f k t218).bind fun t224 => ((impl_FramePut.f k t221).bind fun t225 => ((spec_FramePut.f k t218).bind fun t226 => (if t224.toList = t226.toList then (if t224.toList = ([] : List UInt8) then (laws_FnPipeAll.j1 k t218 t221 t224 t225 true) else (laws_FnPipeAll.j1 k t218 t221 t224 t225 (t225.toList == ([] : List UInt8)))) else (laws_FnPipeAll.j1 k t218 t221 t224 t225 true)))))))
def laws_FnPipeAll.j1 : Nat → List ByteArray → List ByteArray → ByteArray → ByteArray → Bool → Option (Bool)
  | 0, _, _, _, _, _ => none
  | k + 1, x5, x6, x7, x8, x40 => if x40 = true then ((spec_FramePut.f k x5).bind fun t227 => (some (x7.toList == t227.toList))) else (if x7.size + x8.size ≤ 9223372036854775807 then ((impl_PipeFeed.f k (⟨#[]⟩ : ByteArray) false (x7 ++ x8)).bind fun bt228 => ((impl_PipeFeed.f k (⟨#[]⟩ : ByteArray) true x7).bind fun bt234 => (if (bt228.1.toList == ([] : List UInt8) && (!bt228.2.1)) = true then (if (bt228.2.2.length : Int) = 2 then (if 0 < (bt228.2.2.length : Int) then ((laws_qnTexts.f k (rd_L2 bt228.2.2 0) x5).bind fun t241 => (if t241 = true then (if 1 < (bt228.2.2.length : Int) then ((laws_qnTexts.f k (rd_L2 bt228.2.2 1) x6).bind fun t243 => (if t243 = true then (if bt234.2.1 = true then (some ((bt234.2.2.length : Int) == 0)) else (none)) else (none))) else (none)) else (none))) else (none)) else (none)) else (none)))) else (none))
end
def laws_FnPipeAll.f (k : Nat) (l0 : List Int) (l1 : List Int) : Option (Bool) := if (l0.length : Int) > 1048576 then (laws_FnPipeAll.j0 k l0 l1 true) else (laws_FnPipeAll.j0 k l0 l1 (decide ((l1.length : Int) > 1048576)))
theorem laws_FnPipeAll.mono_l : ∀ k, (∀ y0 y1 y2, LeO (laws_FnPipeAll.j0 k y0 y1 y2) (laws_FnPipeAll.j0 (k + 1) y0 y1 y2)) ∧ (∀ y0 y1 y2 y3 y4, LeO (laws_FnPipeAll.j1 k y0 y1 y2 y3 y4) (laws_FnPipeAll.j1 (k + 1) y0 y1 y2 y3 y4))
 | 0 => ⟨fun _ _ _ r h => by simp [laws_FnPipeAll.j0] at h, fun _ _ _ _ _ r h => by simp [laws_FnPipeAll.j1] at h⟩
 | k + 1 => by
  obtain ⟨ih0, ih1⟩ := laws_FnPipeAll.mono_l k
  refine ⟨?_, ?_⟩
  ·intro y0 y1 y2
   unfold laws_FnPipeAll.j0
   repeat' first
   | (with_reducible exact ih0 _ _ _)
   | (with_reducible exact ih1 _ _ _ _ _)
   | (with_reducible exact impl_FramePut.mono _ _)
   | (with_reducible exact impl_PipeFeed.mono _ _ _ _)
   | (with_reducible exact laws_qnTexts.mono _ _ _)
   | (with_reducible exact spec_DrawFramePut.mono _ _)
   | (with_reducible exact spec_FramePut.mono _ _)
   | (with_reducible exact LeO.refl _)
   | (with_reducible exact LeO.none _)
   | (with_reducible refine LeO.ite ?_ ?_)
   | (with_reducible refine LeO.bind ?_ (fun _ => ?_))
   | exact ih0 _ _ _
   | exact ih1 _ _ _ _ _
   | exact impl_FramePut.mono _ _
   | exact impl_PipeFeed.mono _ _ _ _
   | exact laws_qnTexts.mono _ _ _
   | exact spec_DrawFramePut.mono _ _
   | exact spec_FramePut.mono _ _
   | exact LeO.none _
   | refine LeO.ite ?_ ?_
   | refine LeO.bind ?_ (fun _ => ?_)
  ·intro y0 y1 y2 y3 y4
   unfold laws_FnPipeAll.j1
   repeat' first
   | (with_reducible exact ih0 _ _ _)
   | (with_reducible exact ih1 _ _ _ _ _)
   | (with_reducible exact impl_FramePut.mono _ _)
   | (with_reducible exact impl_PipeFeed.mono _ _ _ _)
   | (with_reducible exact laws_qnTexts.mono _ _ _)
   | (with_reducible exact spec_DrawFramePut.mono _ _)
   | (with_reducible exact spec_FramePut.mono _ _)
   | (with_reducible exact LeO.refl _)
   | (with_reducible exact LeO.none _)
   | (with_reducible refine LeO.ite ?_ ?_)
   | (with_reducible refine LeO.bind ?_ (fun _ => ?_))
   | exact ih0 _ _ _
   | exact ih1 _ _ _ _ _
   | exact impl_FramePut.mono _ _
   | exact impl_PipeFeed.mono _ _ _ _
   | exact laws_qnTexts.mono _ _ _
   | exact spec_DrawFramePut.mono _ _
   | exact spec_FramePut.mono _ _
   | exact LeO.none _
   | refine LeO.ite ?_ ?_
   | refine LeO.bind ?_ (fun _ => ?_)
theorem laws_FnPipeAll.mono : ∀ a0 a1 k, LeO (laws_FnPipeAll.f k a0 a1) (laws_FnPipeAll.f (k + 1) a0 a1) := by
 intro a0 a1 k
 obtain ⟨ih0, ih1⟩ := laws_FnPipeAll.mono_l k
 unfold laws_FnPipeAll.f
 repeat' first
   | (with_reducible exact ih0 _ _ _)
   | (with_reducible exact ih1 _ _ _ _ _)
   | (with_reducible exact impl_FramePut.mono _ _)
   | (with_reducible exact impl_PipeFeed.mono _ _ _ _)
   | (with_reducible exact laws_qnTexts.mono _ _ _)
   | (with_reducible exact spec_DrawFramePut.mono _ _)
   | (with_reducible exact spec_FramePut.mono _ _)
   | (with_reducible exact LeO.refl _)
   | (with_reducible exact LeO.none _)
   | (with_reducible refine LeO.ite ?_ ?_)
   | (with_reducible refine LeO.bind ?_ (fun _ => ?_))
   | exact ih0 _ _ _
   | exact ih1 _ _ _ _ _
   | exact impl_FramePut.mono _ _
   | exact impl_PipeFeed.mono _ _ _ _
   | exact laws_qnTexts.mono _ _ _
   | exact spec_DrawFramePut.mono _ _
   | exact spec_FramePut.mono _ _
   | exact LeO.none _
   | refine LeO.ite ?_ ?_
   | refine LeO.bind ?_ (fun _ => ?_)
set_option maxHeartbeats 8000000 in
set_option maxRecDepth 100000 in
theorem laws_FnPipeAll.calls (k : Nat) (A0 : Option Addr) (c0 : Nat) (l0 : List Int) (A1 : Option Addr) (c1 : Nat) (l1 : List Int) (r : Bool) (w : World) (hr0 : Kd.C (Kd.int .u8) w A0 l0.length l0) (hc0 : l0.length ≤ c0) (hr1 : Kd.C (Kd.int .u8) w A1 l1.length l1) (hc1 : l1.length ≤ c1) (h : laws_FnPipeAll.f k l0 l1 = some r) :
  Calls Tryd.prog 4 #[.slice A0 l0.length c0, .slice A1 l1.length c1] w fun e w' => e = .returned (.bool r) ∧ Below w.heap.size w w' := by
 have hu34 := Tryd.underlying34
 have HR0 := AM hr0
 have HC0 := AM hc0
 clear hr0 hc0
 have HR1 := AM hr1
 have HC1 := AM hc1
 clear hr1 hc1
 have HB := AM (Below.refl w.heap.size w)
 have H : (if (l0.length : Int) > 1048576 then (laws_FnPipeAll.j0 k l0 l1 true) else (laws_FnPipeAll.j0 k l0 l1 (decide ((l1.length : Int) > 1048576)))) = some r := h
 clear h
 have HC3 := AM H
 clear H
 go_enter Tryd.func4, Tryd.ntmps4
 go_upto_region 1 with (fail)
 go_cut [20] (fun v20 wc => ∃ (kq : Nat) (x20_2 : Bool), v20 = .bool x20_2 ∧ Aside0 (laws_FnPipeAll.j0 kq l0 l1 x20_2 = some r) ∧ Aside0 (kq ≤ k) ∧ Aside0 (Below w.heap.size w wc))
 case first =>
  have H := HC3.out
  clear HC3
  by_cases c4 : (l0.length : Int) > 1048576
  ·rw [if_pos c4] at H
   have c4b0 : decide (1048576 < (l0.length : Int)) = true := decide_eq_true c4
   have c4b1 : decide (1048576 < l0.length) = true := decide_eq_true (by omega)
   clear c4
   (first | rw [c4b0] | (simp only [i64_w, i32_w]; rw [c4b0]) | skip)
   have H' := AM H
   clear H
   go_wp2
   go_meet
   case rel => exact ⟨_, (true), (by first | rfl | (simp; done) | (simp [*]; done)), H', ⟨by first | omega | exact Nat.le_refl _⟩, ⟨by repeat (first | (with_reducible first | exact HB.out | apply bA | apply bD | apply bE) | exact HB.out)⟩⟩
  ·rw [if_neg c4] at H
   have c4b0 : decide (1048576 < (l0.length : Int)) = false := decide_eq_false c4
   have c4b1 : decide (1048576 < l0.length) = false := decide_eq_false (by omega)
   clear c4
   (first | rw [c4b0] | (simp only [i64_w, i32_w]; rw [c4b0]) | skip)
   have H' := AM H
   clear H
   go_wp2
   go_meet
   case rel => exact ⟨_, (decide ((l1.length : Int) > 1048576)), (by first | rfl | (simp; done) | (simp [*]; done)), H', ⟨by first | omega | exact Nat.le_refl _⟩, ⟨by repeat (first | (with_reducible first | exact HB.out | apply bA | apply bD | apply bE) | exact HB.out)⟩⟩
 case rest =>
  clear HC3
  try clear c1
  try clear p2
  try clear c4
  try clear c4b0
  try clear c4b1
  obtain ⟨kq, x20_2, rfl, HA, HJ2, HB⟩ := hcut
  cases kq with
  | zero => exact absurd HA.out (by simp [laws_FnPipeAll.j0])
  | succ kj2 =>
   have H := HA.out
   clear HA
   simp only [laws_FnPipeAll.j0] at H
   by_cases c5 : x20_2 = true
   ·subst c5
    have H1 : (some true) = some r := by rw [if_pos rfl] at H; exact H
    clear H
    have H := H1
    clear H1
    obtain rfl := Option.some.inj H
    go_wp2
    go_ret
    exact ⟨by first | rfl | (simp [errW_none, errW_some] <;> rfl) | (simp [*, errW_none, errW_some] <;> rfl), by repeat (first | (with_reducible first | exact HB.out | apply bA | apply bD | apply bE) | exact HB.out)⟩
   ·replace c5 := Bool.eq_false_iff.mpr c5
    subst c5
    have H1 : ((spec_DrawFramePut.f kj2 l0).bind fun t218 => ((spec_DrawFramePut.f kj2 l1).bind fun t221 => ((impl_FramePut.f kj2 t218).bind fun t224 => ((impl_FramePut.f kj2 t221).bind fun t225 => ((spec_FramePut.f kj2 t218).bind fun t226 => (if t224.toList = t226.toList then (if t224.toList = ([] : List UInt8) then (laws_FnPipeAll.j1 kj2 t218 t221 t224 t225 true) else (laws_FnPipeAll.j1 kj2 t218 t221 t224 t225 (t225.toList == ([] : List UInt8)))) else (laws_FnPipeAll.j1 kj2 t218 t221 t224 t225 true))))))) = some r := by rw [if_neg (show ¬ (false = true) by decide)] at H; exact H
    clear H
    have H := H1
    clear H1
    replace H := Option.bind_eq_some_iff.mp H
    obtain ⟨t218, A60, H⟩ := H
    replace H : ((spec_DrawFramePut.f kj2 l1).bind fun t221 => ((impl_FramePut.f kj2 t218).bind fun t224 => ((impl_FramePut.f kj2 t221).bind fun t225 => ((spec_FramePut.f kj2 t218).bind fun t226 => (if t224.toList = t226.toList then (if t224.toList = ([] : List UInt8) then (laws_FnPipeAll.j1 kj2 t218 t221 t224 t225 true) else (laws_FnPipeAll.j1 kj2 t218 t221 t224 t225 (t225.toList == ([] : List UInt8)))) else (laws_FnPipeAll.j1 kj2 t218 t221 t224 t225 true)))))) = some r := H
    have A6 := AM A60
    clear A60
    replace H := Option.bind_eq_some_iff.mp H
    obtain ⟨t221, A70, H⟩ := H
    replace H : ((impl_FramePut.f kj2 t218).bind fun t224 => ((impl_FramePut.f kj2 t221).bind fun t225 => ((spec_FramePut.f kj2 t218).bind fun t226 => (if t224.toList = t226.toList then (if t224.toList = ([] : List UInt8) then (laws_FnPipeAll.j1 kj2 t218 t221 t224 t225 true) else (laws_FnPipeAll.j1 kj2 t218 t221 t224 t225 (t225.toList == ([] : List UInt8)))) else (laws_FnPipeAll.j1 kj2 t218 t221 t224 t225 true))))) = some r := H
    have A7 := AM A70
    clear A70
    replace H := Option.bind_eq_some_iff.mp H
    obtain ⟨t224, A80, H⟩ := H
    replace H : ((impl_FramePut.f kj2 t221).bind fun t225 => ((spec_FramePut.f kj2 t218).bind fun t226 => (if t224.toList = t226.toList then (if t224.toList = ([] : List UInt8) then (laws_FnPipeAll.j1 kj2 t218 t221 t224 t225 true) else (laws_FnPipeAll.j1 kj2 t218 t221 t224 t225 (t225.toList == ([] : List UInt8)))) else (laws_FnPipeAll.j1 kj2 t218 t221 t224 t225 true)))) = some r := H
    have A8 := AM A80
    clear A80
    replace H := Option.bind_eq_some_iff.mp H
    obtain ⟨t225, A90, H⟩ := H
    replace H : ((spec_FramePut.f kj2 t218).bind fun t226 => (if t224.toList = t226.toList then (if t224.toList = ([] : List UInt8) then (laws_FnPipeAll.j1 kj2 t218 t221 t224 t225 true) else (laws_FnPipeAll.j1 kj2 t218 t221 t224 t225 (t225.toList == ([] : List UInt8)))) else (laws_FnPipeAll.j1 kj2 t218 t221 t224 t225 true))) = some r := H
    have A9 := AM A90
    clear A90
    have HC10 := AM H
    clear H
    go_upto_region 7 with (first | ((with_reducible refine gate_callee (f := 16) rfl ?_); refine goesL_ (some 22) rfl rfl Tryd.func16 (by kernel_rfl) rfl #[.slice A0 l0.length c0] rfl (by (try simp only [List.map_toArray, List.map_cons, List.map_nil]); first | done | rfl | (simp only [List.length_drop, List.length_take]; rfl)) ?_; (with_reducible refine (spec_DrawFramePut.calls kj2 _ _ l0 t218 _ ?side1 ?side2 A6.out).mono ?_); (case side1 => repeat (first | exact (Kd.C_below HR0.out HB.out) | (with_reducible refine Kd.C_alloc ?_ _) | (with_reducible refine Kd.C_drewN ?_ _) | (with_reducible refine Kd.C_drew ?_))); (case side2 => exact HC0.out); rintro e w11 ⟨v219, rfl, ho0, hb⟩; refine ⟨_, rfl, ?_⟩; have n0_ := AM (Kd.R_lower ho0 (bZ (by repeat (first | (with_reducible first | exact HB.out | apply bA | apply bD | apply bE) | exact HB.out)))); have n1_ := AM (bS (by repeat (first | (with_reducible first | exact HB.out | apply bA | apply bD | apply bE) | exact HB.out)) hb); clear HB; have HO220 := n0_; have HB := n1_; clear n0_ n1_; (try clear hb); (try clear hb2); (try clear hk); (try clear hi); (try clear ho0)) | ((with_reducible refine gate_callee (f := 16) rfl ?_); refine goesL_ (some 24) rfl rfl Tryd.func16 (by kernel_rfl) rfl #[.slice A1 l1.length c1] rfl (by (try simp only [List.map_toArray, List.map_cons, List.map_nil]); first | done | rfl | (simp only [List.length_drop, List.length_take]; rfl)) ?_; (with_reducible refine (spec_DrawFramePut.calls kj2 _ _ l1 t221 _ ?side1 ?side2 A7.out).mono ?_); (case side1 => repeat (first | exact (Kd.C_below HR1.out HB.out) | (with_reducible refine Kd.C_alloc ?_ _) | (with_reducible refine Kd.C_drewN ?_ _) | (with_reducible refine Kd.C_drew ?_))); (case side2 => exact HC1.out); rintro e w12 ⟨v222, rfl, ho0, hb⟩; refine ⟨_, rfl, ?_⟩; have n0_ := AM (Kd.R_elder' (by (with_reducible repeat (first | apply rA | apply rD | apply rE)); exact HO220.out) (Kd.R_base ho0) hb); have n1_ := AM (Kd.R_lower (Kd.R_new' ho0 (Kd.R_lt (by (with_reducible repeat (first | apply rA | apply rD | apply rE)); exact HO220.out))) (bZ (by repeat (first | (with_reducible first | exact HB.out | apply bA | apply bD | apply bE) | exact HB.out)))); have n2_ := AM (bS (by repeat (first | (with_reducible first | exact HB.out | apply bA | apply bD | apply bE) | exact HB.out)) hb); clear HO220; clear HB; have HO220 := n0_; have HO223 := n1_; have HB := n2_; clear n0_ n1_ n2_; (try clear hb); (try clear hb2); (try clear hk); (try clear hi); (try clear ho0); obtain ⟨Ao13, co13, eo13⟩ := Kd.R_slice HO220.out; subst eo13) | ((with_reducible refine gate_callee (f := 17) rfl ?_); refine goesL_ (some 26) rfl rfl Tryd.func17 (by kernel_rfl) rfl #[.slice Ao13 t218.length co13] rfl (by (try simp only [List.map_toArray, List.map_cons, List.map_nil]); first | done | rfl | (simp only [List.length_drop, List.length_take]; rfl)) ?_; (with_reducible refine (impl_FramePut.calls kj2 _ _ t218 t224 _ ?side1 ?side2 A8.out).mono ?_); (case side1 => repeat (first | exact (Kd.R_reads' HO220.out).2.2 | (with_reducible refine Kd.C_alloc ?_ _) | (with_reducible refine Kd.C_drewN ?_ _) | (with_reducible refine Kd.C_drew ?_))); (case side2 => exact (Kd.R_reads' HO220.out).2.1); rintro e w14 ⟨rfl, hb⟩; refine ⟨_, rfl, ?_⟩; have n0_ := AM (rB (by (with_reducible repeat (first | apply rA | apply rD | apply rE)); exact HO220.out) hb); have n1_ := AM (rB (by (with_reducible repeat (first | apply rA | apply rD | apply rE)); exact HO223.out) hb); have n2_ := AM (bS (by repeat (first | (with_reducible first | exact HB.out | apply bA | apply bD | apply bE) | exact HB.out)) hb); clear HO220; clear HO223; clear HB; have HO220 := n0_; have HO223 := n1_; have HB := n2_; clear n0_ n1_ n2_; (try clear hb); (try clear hb2); (try clear hk); (try clear hi); obtain ⟨Ao15, co15, eo15⟩ := Kd.R_slice HO223.out; subst eo15) | ((with_reducible refine gate_callee (f := 17) rfl ?_); refine goesL_ (some 28) rfl rfl Tryd.func17 (by kernel_rfl) rfl #[.slice Ao15 t221.length co15] rfl (by (try simp only [List.map_toArray, List.map_cons, List.map_nil]); first | done | rfl | (simp only [List.length_drop, List.length_take]; rfl)) ?_; (with_reducible refine (impl_FramePut.calls kj2 _ _ t221 t225 _ ?side1 ?side2 A9.out).mono ?_); (case side1 => repeat (first | exact (Kd.R_reads' HO223.out).2.2 | (with_reducible refine Kd.C_alloc ?_ _) | (with_reducible refine Kd.C_drewN ?_ _) | (with_reducible refine Kd.C_drew ?_))); (case side2 => exact (Kd.R_reads' HO223.out).2.1); rintro e w16 ⟨rfl, hb⟩; refine ⟨_, rfl, ?_⟩; have n0_ := AM (rB (by (with_reducible repeat (first | apply rA | apply rD | apply rE)); exact HO220.out) hb); have n1_ := AM (rB (by (with_reducible repeat (first | apply rA | apply rD | apply rE)); exact HO223.out) hb); have n2_ := AM (bS (by repeat (first | (with_reducible first | exact HB.out | apply bA | apply bD | apply bE) | exact HB.out)) hb); clear HO220; clear HO223; clear HB; have HO220 := n0_; have HO223 := n1_; have HB := n2_; clear n0_ n1_ n2_; (try clear hb); (try clear hb2); (try clear hk); (try clear hi)))
    (try simp only [Act.put, lA, lZ, lS])
    go_cut [40] (fun v40 wc => ∃ (kq : Nat) (x40_9 : Bool), v40 = .bool x40_9 ∧ Aside0 (laws_FnPipeAll.j1 kq t218 t221 t224 t225 x40_9 = some r) ∧ Aside0 (kq ≤ kj2) ∧ Aside0 (Kd.R Kd.string 9 wc w.heap.size (fun k_ => some k_ ≠ ((.slice Ao15 t221.length co15) : Value).ownBlock) (.slice Ao13 t218.length co13) t218) ∧ Aside0 (Kd.R Kd.string 9 wc w.heap.size (fun k_ => some k_ ≠ ((.slice Ao13 t218.length co13) : Value).ownBlock) (.slice Ao15 t221.length co15) t221) ∧ Aside0 (Below w.heap.size w wc))
    case first =>
     have H := HC10.out
     clear HC10
     replace H := Option.bind_eq_some_iff.mp H
     obtain ⟨t226, A170, H⟩ := H
     replace H : (if t224.toList = t226.toList then (if t224.toList = ([] : List UInt8) then (laws_FnPipeAll.j1 kj2 t218 t221 t224 t225 true) else (laws_FnPipeAll.j1 kj2 t218 t221 t224 t225 (t225.toList == ([] : List UInt8)))) else (laws_FnPipeAll.j1 kj2 t218 t221 t224 t225 true)) = some r := H
     have A17 := AM A170
     clear A170
     by_cases c18 : t224.toList = t226.toList
     ·rw [if_pos c18] at H
      have c18b0 : (t224.toList == t226.toList) = true := beq_iff_eq.mpr c18
      have c18b1 : (t224.toList != t226.toList) = false := bne_eq_false_iff_eq.mpr c18
      clear c18
      (first | rw [c18b0] | (simp only [i64_w, i32_w]; rw [c18b0]) | skip)
      by_cases c19 : t224.toList = ([] : List UInt8)
      ·rw [if_pos c19] at H
       have c19b0 : (t224.toList == ([] : List UInt8)) = true := beq_iff_eq.mpr c19
       have c19b1 : (t224.toList != ([] : List UInt8)) = false := bne_eq_false_iff_eq.mpr c19
       clear c19
       have H' := AM H
       clear H
       go_wp2_with (first | ((with_reducible refine gate_callee (f := 18) rfl ?_); refine goesL_ (some 31) rfl rfl Tryd.func18 (by kernel_rfl) rfl #[.slice Ao13 t218.length co13] rfl (by (try simp only [List.map_toArray, List.map_cons, List.map_nil]); first | done | rfl | (simp only [List.length_drop, List.length_take]; rfl)) ?_; (with_reducible refine (spec_FramePut.calls kj2 _ _ t218 t226 _ ?side1 ?side2 A17.out).mono ?_); (case side1 => repeat (first | exact (Kd.R_reads' HO220.out).2.2 | (with_reducible refine Kd.C_alloc ?_ _) | (with_reducible refine Kd.C_drewN ?_ _) | (with_reducible refine Kd.C_drew ?_))); (case side2 => exact (Kd.R_reads' HO220.out).2.1); rintro e w20 ⟨rfl, hb⟩; refine ⟨_, rfl, ?_⟩; have n0_ := AM (rB (by (with_reducible repeat (first | apply rA | apply rD | apply rE)); exact HO220.out) hb); have n1_ := AM (rB (by (with_reducible repeat (first | apply rA | apply rD | apply rE)); exact HO223.out) hb); have n2_ := AM (bS (by repeat (first | (with_reducible first | exact HB.out | apply bA | apply bD | apply bE) | exact HB.out)) hb); clear HO220; clear HO223; clear HB; have HO220 := n0_; have HO223 := n1_; have HB := n2_; clear n0_ n1_ n2_; (try clear hb); (try clear hb2); (try clear hk); (try clear hi)))
       go_meet
       case rel => exact ⟨_, (true), (by first | rfl | (simp; done) | (simp [*]; done)), H', ⟨by have := HJ2.out; first | omega | exact Nat.le_refl _⟩, ⟨by (with_reducible repeat (first | apply rA | apply rD | apply rE)); exact rM HO220.out (fun _ hk => hk.2)⟩, ⟨by (with_reducible repeat (first | apply rA | apply rD | apply rE)); exact rM HO223.out (fun _ hk => hk.2)⟩, ⟨by repeat (first | (with_reducible first | exact HB.out | apply bA | apply bD | apply bE) | exact HB.out)⟩⟩
      ·rw [if_neg c19] at H
       have c19b0 : (t224.toList == ([] : List UInt8)) = false := beq_eq_false_iff_ne.mpr c19
       have c19b1 : (t224.toList != ([] : List UInt8)) = true := bne_iff_ne.mpr c19
       have H' := AM H
       clear H
       go_wp2_with (first | ((with_reducible refine gate_callee (f := 18) rfl ?_); refine goesL_ (some 31) rfl rfl Tryd.func18 (by kernel_rfl) rfl #[.slice Ao13 t218.length co13] rfl (by (try simp only [List.map_toArray, List.map_cons, List.map_nil]); first | done | rfl | (simp only [List.length_drop, List.length_take]; rfl)) ?_; (with_reducible refine (spec_FramePut.calls kj2 _ _ t218 t226 _ ?side1 ?side2 A17.out).mono ?_); (case side1 => repeat (first | exact (Kd.R_reads' HO220.out).2.2 | (with_reducible refine Kd.C_alloc ?_ _) | (with_reducible refine Kd.C_drewN ?_ _) | (with_reducible refine Kd.C_drew ?_))); (case side2 => exact (Kd.R_reads' HO220.out).2.1); rintro e w21 ⟨rfl, hb⟩; refine ⟨_, rfl, ?_⟩; have n0_ := AM (rB (by (with_reducible repeat (first | apply rA | apply rD | apply rE)); exact HO220.out) hb); have n1_ := AM (rB (by (with_reducible repeat (first | apply rA | apply rD | apply rE)); exact HO223.out) hb); have n2_ := AM (bS (by repeat (first | (with_reducible first | exact HB.out | apply bA | apply bD | apply bE) | exact HB.out)) hb); clear HO220; clear HO223; clear HB; have HO220 := n0_; have HO223 := n1_; have HB := n2_; clear n0_ n1_ n2_; (try clear hb); (try clear hb2); (try clear hk); (try clear hi)))
       go_meet
       case rel => exact ⟨_, ((t225.toList == ([] : List UInt8))), (by first | rfl | (simp; done) | (simp [*]; done) | (simp; generalize ByteArray.toList _ = z_; cases z_ <;> rfl)), H', ⟨by have := HJ2.out; first | omega | exact Nat.le_refl _⟩, ⟨by (with_reducible repeat (first | apply rA | apply rD | apply rE)); exact rM HO220.out (fun _ hk => hk.2)⟩, ⟨by (with_reducible repeat (first | apply rA | apply rD | apply rE)); exact rM HO223.out (fun _ hk => hk.2)⟩, ⟨by repeat (first | (with_reducible first | exact HB.out | apply bA | apply bD | apply bE) | exact HB.out)⟩⟩
     ·rw [if_neg c18] at H
      have c18b0 : (t224.toList == t226.toList) = false := beq_eq_false_iff_ne.mpr c18
      have c18b1 : (t224.toList != t226.toList) = true := bne_iff_ne.mpr c18
      (first | rw [c18b0] | (simp only [i64_w, i32_w]; rw [c18b0]) | skip)
      have H' := AM H
      clear H
      go_wp2_with (first | ((with_reducible refine gate_callee (f := 18) rfl ?_); refine goesL_ (some 31) rfl rfl Tryd.func18 (by kernel_rfl) rfl #[.slice Ao13 t218.length co13] rfl (by (try simp only [List.map_toArray, List.map_cons, List.map_nil]); first | done | rfl | (simp only [List.length_drop, List.length_take]; rfl)) ?_; (with_reducible refine (spec_FramePut.calls kj2 _ _ t218 t226 _ ?side1 ?side2 A17.out).mono ?_); (case side1 => repeat (first | exact (Kd.R_reads' HO220.out).2.2 | (with_reducible refine Kd.C_alloc ?_ _) | (with_reducible refine Kd.C_drewN ?_ _) | (with_reducible refine Kd.C_drew ?_))); (case side2 => exact (Kd.R_reads' HO220.out).2.1); rintro e w22 ⟨rfl, hb⟩; refine ⟨_, rfl, ?_⟩; have n0_ := AM (rB (by (with_reducible repeat (first | apply rA | apply rD | apply rE)); exact HO220.out) hb); have n1_ := AM (rB (by (with_reducible repeat (first | apply rA | apply rD | apply rE)); exact HO223.out) hb); have n2_ := AM (bS (by repeat (first | (with_reducible first | exact HB.out | apply bA | apply bD | apply bE) | exact HB.out)) hb); clear HO220; clear HO223; clear HB; have HO220 := n0_; have HO223 := n1_; have HB := n2_; clear n0_ n1_ n2_; (try clear hb); (try clear hb2); (try clear hk); (try clear hi)))
      go_meet
      case rel => exact ⟨_, (true), (by first | rfl | (simp; done) | (simp [*]; done)), H', ⟨by have := HJ2.out; first | omega | exact Nat.le_refl _⟩, ⟨by (with_reducible repeat (first | apply rA | apply rD | apply rE)); exact rM HO220.out (fun _ hk => hk.2)⟩, ⟨by (with_reducible repeat (first | apply rA | apply rD | apply rE)); exact rM HO223.out (fun _ hk => hk.2)⟩, ⟨by repeat (first | (with_reducible first | exact HB.out | apply bA | apply bD | apply bE) | exact HB.out)⟩⟩
    case rest =>
     clear HC10
     try clear c1
     try clear p2
     try clear c4
     try clear c4b0
     try clear c4b1
     try clear c5
     try clear c16
     try clear c17
     try clear c18
     try clear c18b0
     try clear c18b1
     try clear c19
     try clear c19b0
     try clear c19b1
     try clear p2
     obtain ⟨kq, x40_9, rfl, HA, HJ9, HO_5, HO_6, HB⟩ := hcut
     cases kq with
     | zero => exact absurd HA.out (by simp [laws_FnPipeAll.j1])
     | succ kj9 =>
      have H := HA.out
      clear HA
      simp only [laws_FnPipeAll.j1] at H
      by_cases c23 : x40_9 = true
      ·subst c23
       have H1 : ((spec_FramePut.f kj9 t218).bind fun t227 => (some (t224.toList == t227.toList))) = some r := by rw [if_pos rfl] at H; exact H
       clear H
       have H := H1
       clear H1
       replace H := Option.bind_eq_some_iff.mp H
       obtain ⟨t227, A240, H⟩ := H
       replace H : (some (t224.toList == t227.toList)) = some r := H
       have A24 := AM A240
       clear A240
       obtain rfl := Option.some.inj H
       go_wp2_with (first | ((with_reducible refine gate_callee (f := 18) rfl ?_); refine goesL_ (some 43) rfl rfl Tryd.func18 (by kernel_rfl) rfl #[.slice Ao13 t218.length co13] rfl (by (try simp only [List.map_toArray, List.map_cons, List.map_nil]); first | done | rfl | (simp only [List.length_drop, List.length_take]; rfl)) ?_; (with_reducible refine (spec_FramePut.calls kj9 _ _ t218 t227 _ ?side1 ?side2 A24.out).mono ?_); (case side1 => repeat (first | exact (Kd.R_reads' HO_5.out).2.2 | (with_reducible refine Kd.C_alloc ?_ _) | (with_reducible refine Kd.C_drewN ?_ _) | (with_reducible refine Kd.C_drew ?_))); (case side2 => exact (Kd.R_reads' HO_5.out).2.1); rintro e w25 ⟨rfl, hb⟩; refine ⟨_, rfl, ?_⟩; have n0_ := AM (rB (by (with_reducible repeat (first | apply rA | apply rD | apply rE)); exact HO_5.out) hb); have n1_ := AM (rB (by (with_reducible repeat (first | apply rA | apply rD | apply rE)); exact HO_6.out) hb); have n2_ := AM (bS (by repeat (first | (with_reducible first | exact HB.out | apply bA | apply bD | apply bE) | exact HB.out)) hb); clear HO_5; clear HO_6; clear HB; have HO_5 := n0_; have HO_6 := n1_; have HB := n2_; clear n0_ n1_ n2_; (try clear hb); (try clear hb2); (try clear hk); (try clear hi)))
       go_ret
       exact ⟨by first | rfl | (simp [errW_none, errW_some] <;> rfl) | (simp [*, errW_none, errW_some] <;> rfl), by repeat (first | (with_reducible first | exact HB.out | apply bA | apply bD | apply bE) | exact HB.out)⟩
      ·replace c23 := Bool.eq_false_iff.mpr c23
       subst c23
       have H1 : (if t224.size + t225.size ≤ 9223372036854775807 then ((impl_PipeFeed.f kj9 (⟨#[]⟩ : ByteArray) false (t224 ++ t225)).bind fun bt228 => ((impl_PipeFeed.f kj9 (⟨#[]⟩ : ByteArray) true t224).bind fun bt234 => (if (bt228.1.toList == ([] : List UInt8) && (!bt228.2.1)) = true then (if (bt228.2.2.length : Int) = 2 then (if 0 < (bt228.2.2.length : Int) then ((laws_qnTexts.f kj9 (rd_L2 bt228.2.2 0) t218).bind fun t241 => (if t241 = true then (if 1 < (bt228.2.2.length : Int) then ((laws_qnTexts.f kj9 (rd_L2 bt228.2.2 1) t221).bind fun t243 => (if t243 = true then (if bt234.2.1 = true then (some ((bt234.2.2.length : Int) == 0)) else (none)) else (none))) else (none)) else (none))) else (none)) else (none)) else (none)))) else (none)) = some r := by rw [if_neg (show ¬ (false = true) by decide)] at H; exact H
       clear H
       have H := H1
       clear H1
       by_cases c26 : t224.size + t225.size ≤ 9223372036854775807
       ·rw [if_pos c26] at H
        have c26b0 := eq_true c26
        have c26b1 : decide (t224.size + t225.size ≤ 9223372036854775807) = true := decide_eq_true c26
        try have c26b2 : (9223372036854775807 < t224.size + t225.size) = False := eq_false (Nat.not_lt.2 c26)
        replace H := Option.bind_eq_some_iff.mp H
        obtain ⟨⟨t228, t229, t230⟩, A270, H⟩ := H
        replace H : ((impl_PipeFeed.f kj9 (⟨#[]⟩ : ByteArray) true t224).bind fun bt234 => (if (t228.toList == ([] : List UInt8) && (!t229)) = true then (if (t230.length : Int) = 2 then (if 0 < (t230.length : Int) then ((laws_qnTexts.f kj9 (rd_L2 t230 0) t218).bind fun t241 => (if t241 = true then (if 1 < (t230.length : Int) then ((laws_qnTexts.f kj9 (rd_L2 t230 1) t221).bind fun t243 => (if t243 = true then (if bt234.2.1 = true then (some ((bt234.2.2.length : Int) == 0)) else (none)) else (none))) else (none)) else (none))) else (none)) else (none)) else (none))) = some r := H
        have A27 := AM A270
        clear A270
        replace H := Option.bind_eq_some_iff.mp H
        obtain ⟨⟨t234, t235, t236⟩, A280, H⟩ := H
        replace H : (if (t228.toList == ([] : List UInt8) && (!t229)) = true then (if (t230.length : Int) = 2 then (if 0 < (t230.length : Int) then ((laws_qnTexts.f kj9 (rd_L2 t230 0) t218).bind fun t241 => (if t241 = true then (if 1 < (t230.length : Int) then ((laws_qnTexts.f kj9 (rd_L2 t230 1) t221).bind fun t243 => (if t243 = true then (if t235 = true then (some ((t236.length : Int) == 0)) else (none)) else (none))) else (none)) else (none))) else (none)) else (none)) else (none)) = some r := H
        have A28 := AM A280
        clear A280
        by_cases c29 : (t228.toList == ([] : List UInt8) && (!t229)) = true
        ·rw [if_pos c29] at H
         have c29b0 : (t228.toList == ([] : List UInt8) && (!t229)) = true := c29
         (try (have c29b1 : decide (t228.toList = ([] : List UInt8) && (!t229)) = true := by simpa using c29))
         (try (have c29b2 : (t228.toList == ([] : List UInt8) && (!t229)) = true := by simpa using c29))
         (try (have c29b3 : (t228.toList = ([] : List UInt8) ∧ t229 = false) = True := by simpa using c29))
         clear c29
         by_cases c30 : (t230.length : Int) = 2
         ·rw [if_pos c30] at H
          have c30b0 : ((t230.length : Int) == 2) = true := beq_iff_eq.mpr c30
          have c30b1 : ((t230.length : Int) != 2) = false := bne_eq_false_iff_eq.mpr c30
          clear c30
          by_cases c31 : 0 < (t230.length : Int)
          ·rw [if_pos c31] at H
           have c31b0 : decide (0 < (t230.length : Int)) = true := decide_eq_true c31
           have c31b1 : decide (0 < t230.length) = true := decide_eq_true (by omega)
           clear c31
           replace H := Option.bind_eq_some_iff.mp H
           obtain ⟨t241, A320, H⟩ := H
           replace H : (if t241 = true then (if 1 < (t230.length : Int) then ((laws_qnTexts.f kj9 (rd_L2 t230 1) t221).bind fun t243 => (if t243 = true then (if t235 = true then (some ((t236.length : Int) == 0)) else (none)) else (none))) else (none)) else (none)) = some r := H
           have A32 := AM A320
           clear A320
           by_cases c33 : t241 = true
           ·subst c33
            have H1 : (if 1 < (t230.length : Int) then ((laws_qnTexts.f kj9 (rd_L2 t230 1) t221).bind fun t243 => (if t243 = true then (if t235 = true then (some ((t236.length : Int) == 0)) else (none)) else (none))) else (none)) = some r := by rw [if_pos rfl] at H; exact H
            clear H
            have H := H1
            clear H1
            by_cases c34 : 1 < (t230.length : Int)
            ·rw [if_pos c34] at H
             have c34b0 : decide (1 < (t230.length : Int)) = true := decide_eq_true c34
             have c34b1 : decide (1 < t230.length) = true := decide_eq_true (by omega)
             clear c34
             replace H := Option.bind_eq_some_iff.mp H
             obtain ⟨t243, A350, H⟩ := H
             replace H : (if t243 = true then (if t235 = true then (some ((t236.length : Int) == 0)) else (none)) else (none)) = some r := H
             have A35 := AM A350
             clear A350
             by_cases c36 : t243 = true
             ·subst c36
              have H1 : (if t235 = true then (some ((t236.length : Int) == 0)) else (none)) = some r := by rw [if_pos rfl] at H; exact H
              clear H
              have H := H1
              clear H1
              by_cases c37 : t235 = true
              ·subst c37
               have H1 : (some ((t236.length : Int) == 0)) = some r := by rw [if_pos rfl] at H; exact H
               clear H
               have H := H1
               clear H1
               obtain rfl := Option.some.inj H
               go_wp2_with (first | ((with_reducible refine gate_callee (f := 19) rfl ?_); refine goesL_ (some 50) rfl rfl Tryd.func19 (by kernel_rfl) rfl #[.agg #[.string (⟨#[]⟩ : ByteArray), .bool false], .string (t224 ++ t225)] rfl (by (try simp only [List.map_toArray, List.map_cons, List.map_nil]); first | done | rfl | (simp only [List.length_drop, List.length_take]; rfl)) ?_; (with_reducible refine (impl_PipeFeed.calls kj9 (⟨#[]⟩ : ByteArray) false (t224 ++ t225) t228 t229 t230 _ A27.out).mono ?_); rintro e w38 ⟨v231, rfl, ho0, hb⟩; refine ⟨_, rfl, ?_⟩; have n0_ := AM (rB (by (with_reducible repeat (first | apply rA | apply rD | apply rE)); exact HO_5.out) hb); have n1_ := AM (rB (by (with_reducible repeat (first | apply rA | apply rD | apply rE)); exact HO_6.out) hb); have n2_ := AM (Kd.S_lower (Kd.S_new' (Kd.S_new' ho0 (Kd.R_lt (by (with_reducible repeat (first | apply rA | apply rD | apply rE)); exact HO_5.out))) (Kd.R_lt (by (with_reducible repeat (first | apply rA | apply rD | apply rE)); exact HO_6.out))) (bZ (by repeat (first | (with_reducible first | exact HB.out | apply bA | apply bD | apply bE) | exact HB.out)))); have n3_ := AM (bS (by repeat (first | (with_reducible first | exact HB.out | apply bA | apply bD | apply bE) | exact HB.out)) hb); clear HO_5; clear HO_6; clear HB; have HO_5 := n0_; have HO_6 := n1_; have HO232 := n2_; have HB := n3_; clear n0_ n1_ n2_ n3_; (try clear hb); (try clear hb2); (try clear hk); (try clear hi); (try clear ho0)) | ((with_reducible refine gate_dst (N := 9) rfl ?_); (try (refine gate_guard (by rfl) ?_; dsimp only)); refine box_event ?hg (N := 9) ?hd (cs := #[.string (⟨#[]⟩ : ByteArray), .bool false]) (t := 34) ?hr ?_; (case hd => rfl); (case hg => rfl); (case hr => first | (go_simp; done) | (go_simp; rfl)); intro gb233 hg w39 hbox hb; have n0_ := AM (rB (by (with_reducible repeat (first | apply rA | apply rD | apply rE)); exact HO_5.out) hb); have n1_ := AM (rB (by (with_reducible repeat (first | apply rA | apply rD | apply rE)); exact HO_6.out) hb); have n2_ := AM (sB (by (with_reducible repeat (first | apply sA | apply sD | apply sE)); exact HO232.out) hb); have n3_ := AM (bS (by repeat (first | (with_reducible first | exact HB.out | apply bA | apply bD | apply bE) | exact HB.out)) hb); have n4_ := AM (hbox); have n5_ := AM ((by rw [hg]; exact (bZ (by repeat (first | (with_reducible first | exact HB.out | apply bA | apply bD | apply bE) | exact HB.out))) : w.heap.size ≤ gb233)); have n6_ := AM ((by rw [hg]; exact (bZ (by repeat (first | (with_reducible first | exact HB.out | apply bA | apply bD | apply bE) | exact HB.out))) : w.heap.size ≤ gb233)); clear HO_5; clear HO_6; clear HO232; clear HB; have HO_5 := n0_; have HO_6 := n1_; have HO232 := n2_; have HB := n3_; have BK233 := n4_; have GW233 := n5_; have GE233 := n6_; clear n0_ n1_ n2_ n3_ n4_ n5_ n6_; clear hb hbox hg; have hcz40_0 : w39.cell? ⟨gb233, 0, none⟩ = some (.string (⟨#[]⟩ : ByteArray)) := (kC BK233.out 0).trans rfl; have hcz40_1 : w39.cell? ⟨gb233, 1, none⟩ = some (.bool false) := (kC BK233.out 1).trans rfl; have hfz40_0 := blk_frozen BK233.out 0; have hfz40_1 := blk_frozen BK233.out 1) | ((with_reducible refine gate_callee (f := 19) rfl ?_); refine goesL_ (some 56) rfl rfl Tryd.func19 (by kernel_rfl) rfl #[.agg #[.string (⟨#[]⟩ : ByteArray), .bool true], .string t224] rfl (by (try simp only [List.map_toArray, List.map_cons, List.map_nil]); first | done | rfl | (simp only [List.length_drop, List.length_take]; rfl)) ?_; (with_reducible refine (impl_PipeFeed.calls kj9 (⟨#[]⟩ : ByteArray) true t224 t234 true t236 _ A28.out).mono ?_); rintro e w41 ⟨v237, rfl, ho0, hb⟩; refine ⟨_, rfl, ?_⟩; have n0_ := AM (rB (by (with_reducible repeat (first | apply rA | apply rD | apply rE)); exact (rM (Kd.R_far (p := ⟨gb233, 1, none⟩) (Kd.R_far (p := ⟨gb233, 0, none⟩) (Kd.R_types HO_5.out BK233.out (by decide)) (fun _ hk => hk.2) (.string t228)) (fun _ hk => hk.2) (.bool t229)) (fun _ h_ => h_.1))) hb); have n1_ := AM (rB (by (with_reducible repeat (first | apply rA | apply rD | apply rE)); exact (rM (Kd.R_far (p := ⟨gb233, 1, none⟩) (Kd.R_far (p := ⟨gb233, 0, none⟩) (Kd.R_types HO_6.out BK233.out (by decide)) (fun _ hk => hk.2) (.string t228)) (fun _ hk => hk.2) (.bool t229)) (fun _ h_ => h_.1))) hb); have n2_ := AM (Kd.S_elder' (by (with_reducible repeat (first | apply sA | apply sD | apply sE)); exact (sM (Kd.S_far (p := ⟨gb233, 1, none⟩) (Kd.S_far (p := ⟨gb233, 0, none⟩) (Kd.S_types HO232.out BK233.out (by decide)) (fun _ hk => hk.2) (.string t228)) (fun _ hk => hk.2) (.bool t229)) (fun _ h_ => h_.1))) (Kd.S_base ho0) hb); have n3_ := AM (Kd.S_lower (Kd.S_new' (Kd.S_new' (Kd.S_new' ho0 (Kd.R_lt (by (with_reducible repeat (first | apply rA | apply rD | apply rE)); exact (rM (Kd.R_far (p := ⟨gb233, 1, none⟩) (Kd.R_far (p := ⟨gb233, 0, none⟩) (Kd.R_types HO_5.out BK233.out (by decide)) (fun _ hk => hk.2) (.string t228)) (fun _ hk => hk.2) (.bool t229)) (fun _ h_ => h_.1))))) (Kd.R_lt (by (with_reducible repeat (first | apply rA | apply rD | apply rE)); exact (rM (Kd.R_far (p := ⟨gb233, 1, none⟩) (Kd.R_far (p := ⟨gb233, 0, none⟩) (Kd.R_types HO_6.out BK233.out (by decide)) (fun _ hk => hk.2) (.string t228)) (fun _ hk => hk.2) (.bool t229)) (fun _ h_ => h_.1))))) (Kd.S_lt (by (with_reducible repeat (first | apply sA | apply sD | apply sE)); exact (sM (Kd.S_far (p := ⟨gb233, 1, none⟩) (Kd.S_far (p := ⟨gb233, 0, none⟩) (Kd.S_types HO232.out BK233.out (by decide)) (fun _ hk => hk.2) (.string t228)) (fun _ hk => hk.2) (.bool t229)) (fun _ h_ => h_.1))))) (bZ (by repeat (first | (with_reducible first | exact HB.out | apply bA | apply bD | apply bE | refine below_set ?_ GE233.out) | exact HB.out)))); have n4_ := AM (kB (g := gb233) (o := .cells #[.string t228, .bool t229] 34 (0, 0)) (by (with_reducible repeat (first | refine kD ?_ _ | refine kE ?_ | refine kA ?_ _)); refine blk_put (cs := #[.string t228, .bool false]) ?_ 1 _ rfl; (with_reducible repeat (first | refine kD ?_ _ | refine kE ?_ | refine kA ?_ _)); refine blk_put (cs := #[.string (⟨#[]⟩ : ByteArray), .bool false]) ?_ 0 _ rfl; (with_reducible repeat (first | refine kD ?_ _ | refine kE ?_ | refine kA ?_ _)); exact BK233.out) hb); have n5_ := AM (bS (by repeat (first | (with_reducible first | exact HB.out | apply bA | apply bD | apply bE | refine below_set ?_ GE233.out) | exact HB.out)) hb); clear HO_5; clear HO_6; clear HO232; clear BK233; clear HB; have HO_5 := n0_; have HO_6 := n1_; have HO232 := n2_; have HO238 := n3_; have BK233 := n4_; have HB := n5_; clear n0_ n1_ n2_ n3_ n4_ n5_; (try clear hb); (try clear hb2); (try clear hk); (try clear hi); (try clear ho0)) | ((with_reducible refine gate_dst (N := 11) rfl ?_); (try (refine gate_guard (by rfl) ?_; dsimp only)); refine box_event ?hg (N := 11) ?hd (cs := #[.string (⟨#[]⟩ : ByteArray), .bool false]) (t := 34) ?hr ?_; (case hd => rfl); (case hg => rfl); (case hr => first | (go_simp; done) | (go_simp; rfl)); intro gb239 hg w42 hbox hb; have n0_ := AM (rB (by (with_reducible repeat (first | apply rA | apply rD | apply rE)); exact HO_5.out) hb); have n1_ := AM (rB (by (with_reducible repeat (first | apply rA | apply rD | apply rE)); exact HO_6.out) hb); have n2_ := AM (sB (by (with_reducible repeat (first | apply sA | apply sD | apply sE)); exact HO232.out) hb); have n3_ := AM (sB (by (with_reducible repeat (first | apply sA | apply sD | apply sE)); exact HO238.out) hb); have n4_ := AM (kB (g := gb233) (o := .cells #[.string t228, .bool t229] 34 (0, 0)) (by (with_reducible repeat (first | refine kD ?_ _ | refine kE ?_ | refine kA ?_ _)); exact BK233.out) hb); have n5_ := AM (bS (by repeat (first | (with_reducible first | exact HB.out | apply bA | apply bD | apply bE | refine below_set ?_ GE233.out) | exact HB.out)) hb); have n6_ := AM (hbox); have n7_ := AM ((by rw [hg]; exact (bZ (by repeat (first | (with_reducible first | exact HB.out | apply bA | apply bD | apply bE | refine below_set ?_ GE233.out) | exact HB.out))) : w.heap.size ≤ gb239)); have n8_ := AM ((by rw [hg]; exact (bZ (by repeat (first | (with_reducible first | exact HB.out | apply bA | apply bD | apply bE | refine below_set ?_ GE233.out) | exact HB.out))) : w.heap.size ≤ gb239)); have n9_ := AM ((by rw [hg]; exact Nat.ne_of_lt (blk_lt (g := gb233) (o := .cells #[.string t228, .bool t229] 34 (0, 0)) (by (with_reducible repeat (first | refine kD ?_ _ | refine kE ?_ | refine kA ?_ _)); exact BK233.out)) : gb233 ≠ gb239)); have n10_ := AM ((by rw [hg]; exact Nat.ne_of_gt (blk_lt (g := gb233) (o := .cells #[.string t228, .bool t229] 34 (0, 0)) (by (with_reducible repeat (first | refine kD ?_ _ | refine kE ?_ | refine kA ?_ _)); exact BK233.out)) : gb239 ≠ gb233)); clear HO_5; clear HO_6; clear HO232; clear HO238; clear BK233; clear HB; have HO_5 := n0_; have HO_6 := n1_; have HO232 := n2_; have HO238 := n3_; have BK233 := n4_; have HB := n5_; have BK239 := n6_; have GW239 := n7_; have GE239 := n8_; have NB233_239 := n9_; have NB239_233 := n10_; clear n0_ n1_ n2_ n3_ n4_ n5_ n6_ n7_ n8_ n9_ n10_; clear hb hbox hg; have hnb43 := NB239_233.out; have hnc43 := NB233_239.out; have hcz44_0 : w42.cell? ⟨gb239, 0, none⟩ = some (.string (⟨#[]⟩ : ByteArray)) := (kC BK239.out 0).trans rfl; have hcz44_1 : w42.cell? ⟨gb239, 1, none⟩ = some (.bool false) := (kC BK239.out 1).trans rfl; have hfz44_0 := blk_frozen BK239.out 0; have hfz44_1 := blk_frozen BK239.out 1) | ((with_reducible refine gate_store (t := 34) (p := 11) rfl ?_); refine store_event (t := 34) (p := 11) (v := ?vo_w45) (w1 := ((w42.setCell ⟨gb239, 0, none⟩ (.string t234)).setCell ⟨gb239, 1, none⟩ (.bool true))) ?hg ?ho ?hn ?hr ?_; (case ho => rfl); (case hg => rfl); (case hn => rfl); (case hr => first | (go_simp; done) | (go_simp; rfl)); intro w45 hw; have n0_ : Aside0 (Kd.R Kd.string 9 w45 w.heap.size (fun k_ => some k_ ≠ (.slice Ao15 t221.length co15 : Value).ownBlock) (.slice Ao13 t218.length co13) t218) := ⟨(by rw [hw]; exact (by (with_reducible repeat (first | apply rA | apply rD | apply rE)); exact rM (Kd.R_far (p := ⟨gb239, 1, none⟩) (Kd.R_far (p := ⟨gb239, 0, none⟩) (Kd.R_types HO_5.out BK239.out (by decide)) (fun _ hk => hk.2) (.string t234)) (fun _ hk => hk.2) (.bool true)) (fun _ hk => hk.1)))⟩; have n1_ : Aside0 (Kd.R Kd.string 9 w45 w.heap.size (fun k_ => some k_ ≠ (.slice Ao13 t218.length co13 : Value).ownBlock) (.slice Ao15 t221.length co15) t221) := ⟨(by rw [hw]; exact (by (with_reducible repeat (first | apply rA | apply rD | apply rE)); exact rM (Kd.R_far (p := ⟨gb239, 1, none⟩) (Kd.R_far (p := ⟨gb239, 0, none⟩) (Kd.R_types HO_6.out BK239.out (by decide)) (fun _ hk => hk.2) (.string t234)) (fun _ hk => hk.2) (.bool true)) (fun _ hk => hk.1)))⟩; have n2_ : Aside0 (Kd.S (Kd.slice 9 Kd.string) 30 w45 w.heap.size (fun k_ => some k_ ≠ (.slice Ao13 t218.length co13 : Value).ownBlock ∧ some k_ ≠ (.slice Ao15 t221.length co15 : Value).ownBlock ∧ some k_ ≠ (v237 : Value).ownBlock) v231 t230) := ⟨(by rw [hw]; exact (by (with_reducible repeat (first | apply sA | apply sD | apply sE)); exact sM (Kd.S_far (p := ⟨gb239, 1, none⟩) (Kd.S_far (p := ⟨gb239, 0, none⟩) (Kd.S_types HO232.out BK239.out (by decide)) (fun _ hk => hk.2) (.string t234)) (fun _ hk => hk.2) (.bool true)) (fun _ hk => ⟨hk.1.1.1.2, ⟨hk.1.1.2, hk.1.2⟩⟩)))⟩; have n3_ : Aside0 (Kd.S (Kd.slice 9 Kd.string) 30 w45 w.heap.size (fun k_ => some k_ ≠ (.slice Ao13 t218.length co13 : Value).ownBlock ∧ some k_ ≠ (.slice Ao15 t221.length co15 : Value).ownBlock ∧ some k_ ≠ (v231 : Value).ownBlock) v237 t236) := ⟨(by rw [hw]; exact (by (with_reducible repeat (first | apply sA | apply sD | apply sE)); exact sM (Kd.S_far (p := ⟨gb239, 1, none⟩) (Kd.S_far (p := ⟨gb239, 0, none⟩) (Kd.S_types HO238.out BK239.out (by decide)) (fun _ hk => hk.2) (.string t234)) (fun _ hk => hk.2) (.bool true)) (fun _ hk => ⟨hk.1.1.1.2, ⟨hk.1.1.2, hk.1.2⟩⟩)))⟩; have n4_ : Aside0 (w45.heap[gb233]? = some (.cells #[.string t228, .bool t229] 34 (0, 0))) := ⟨(by rw [hw]; exact (by (with_reducible repeat (first | refine kD ?_ _ | refine kE ?_ | refine kA ?_ _)); refine blk_far ?_ NB233_239.out _; (with_reducible repeat (first | refine kD ?_ _ | refine kE ?_ | refine kA ?_ _)); refine blk_far ?_ NB233_239.out _; (with_reducible repeat (first | refine kD ?_ _ | refine kE ?_ | refine kA ?_ _)); exact BK233.out))⟩; have n5_ : Aside0 (w45.heap[gb239]? = some (.cells #[.string t234, .bool true] 34 (0, 0))) := ⟨(by rw [hw]; exact (by (with_reducible repeat (first | refine kD ?_ _ | refine kE ?_ | refine kA ?_ _)); refine blk_put (cs := #[.string t234, .bool false]) ?_ 1 _ rfl; (with_reducible repeat (first | refine kD ?_ _ | refine kE ?_ | refine kA ?_ _)); refine blk_put (cs := #[.string (⟨#[]⟩ : ByteArray), .bool false]) ?_ 0 _ rfl; (with_reducible repeat (first | refine kD ?_ _ | refine kE ?_ | refine kA ?_ _)); exact BK239.out))⟩; have n6_ : Aside0 (Below w.heap.size w w45) := ⟨(by rw [hw]; exact (by repeat (first | (with_reducible first | exact HB.out | apply bA | apply bD | apply bE | refine below_set ?_ GE233.out | refine below_set ?_ GE239.out) | exact HB.out)))⟩; clear hw; clear HO_5; clear HO_6; clear HO232; clear HO238; clear BK233; clear BK239; clear HB; have HO_5 := n0_; have HO_6 := n1_; have HO232 := n2_; have HO238 := n3_; have BK233 := n4_; have BK239 := n5_; have HB := n6_; clear n0_ n1_ n2_ n3_ n4_ n5_ n6_; have hcz46_0 : w45.cell? ⟨gb233, 0, none⟩ = some (.string t228) := (kC BK233.out 0).trans rfl; have hcz46_1 : w45.cell? ⟨gb233, 1, none⟩ = some (.bool t229) := (kC BK233.out 1).trans rfl; have hfz46_0 := blk_frozen BK233.out 0; have hfz46_1 := blk_frozen BK233.out 1; obtain ⟨Ao47, co47, eo47⟩ := Kd.S_slice HO232.out; subst eo47; have p240 : 0 ≤ (0 : Int) := (by omega); have q240 : 0 < (t230.length : Int) := of_decide_eq_true (by first | (with_reducible assumption) | assumption); obtain ⟨ad240, A240_0, c240_0, e240, hx240_0, hl240_0, hi240_0⟩ := at_L2 (Kd.S_reads' HO232.out).2.2 0 p240 q240; cases e240; obtain ⟨ce240, hce240, hMe240, hcc240⟩ := Kd.S_get HO232.out [] 0 p240 (by first | exact q240 | exact of_decide_eq_true (by first | (with_reducible assumption) | assumption) | (have e_ := (Kd.S_reads' HO232.out).1; omega)); obtain ⟨ve240_0, rfl, ge240_0⟩ := hMe240; have hv240_0 := hcc240 0 _ rfl; rw [Nat.add_zero, show ((Kd.slice 9 Kd.string)).sz = 1 from rfl, Nat.mul_one] at hv240_0; replace hv240_0 := Option.some.inj (hv240_0.symm.trans hx240_0); rw [hv240_0] at ge240_0; have HL240_0 := AM (show Kd.R Kd.string 9 _ _ _ _ (rd_L2 t230 0) from ge240_0); clear hv240_0 ge240_0; clear hcc240 hce240; have qi240 : (0 < t230.length) = True := eq_true (by omega); (try rw [show ((0 : Int)).toNat = 0 from rfl] at hx240_0); (try rw [Addr.add_zero'] at hx240_0); have HR240_0 := AM hi240_0; have HC240_0 := AM hl240_0; clear hi240_0 hl240_0; replace p240 := eq_true p240; replace q240 := eq_true q240) | (go_at_call 20; (with_reducible refine (laws_qnTexts.calls kj9 _ _ (rd_L2 t230 0) _ _ t218 true _ ?side1 ?side2 ?side3 ?side4 A32.out).mono ?_); (case side1 => repeat (first | exact (by repeat (first | (with_reducible exact HR240_0.out) | (with_reducible refine Kd.C_alloc ?_ _) | (with_reducible refine Kd.C_drewN ?_ _) | (with_reducible refine Kd.C_drew ?_) | exact HR240_0.out)) | (with_reducible refine Kd.C_alloc ?_ _) | (with_reducible refine Kd.C_drewN ?_ _) | (with_reducible refine Kd.C_drew ?_))); (case side2 => exact HC240_0.out); (case side3 => repeat (first | exact (Kd.R_reads' HO_5.out).2.2 | (with_reducible refine Kd.C_alloc ?_ _) | (with_reducible refine Kd.C_drewN ?_ _) | (with_reducible refine Kd.C_drew ?_))); (case side4 => exact (Kd.R_reads' HO_5.out).2.1); rintro e w' ⟨rfl, ⟨nd, rfl⟩⟩; have p242 : 0 ≤ (1 : Int) := (by omega); have q242 : 1 < (t230.length : Int) := of_decide_eq_true (by first | (with_reducible assumption) | assumption); obtain ⟨ad242, A242_0, c242_0, e242, hx242_0, hl242_0, hi242_0⟩ := at_L2 (Kd.S_reads' HO232.out).2.2 1 p242 q242; obtain rfl : ad240 = ad242 := (by injection e242); obtain ⟨ce242, hce242, hMe242, hcc242⟩ := Kd.S_get HO232.out [] 1 p242 (by first | exact q242 | exact of_decide_eq_true (by first | (with_reducible assumption) | assumption) | (have e_ := (Kd.S_reads' HO232.out).1; omega)); obtain ⟨ve242_0, rfl, ge242_0⟩ := hMe242; have hv242_0 := hcc242 0 _ rfl; rw [Nat.add_zero, show ((Kd.slice 9 Kd.string)).sz = 1 from rfl, Nat.mul_one] at hv242_0; replace hv242_0 := Option.some.inj (hv242_0.symm.trans hx242_0); rw [hv242_0] at ge242_0; have HL242_0 := AM (show Kd.R Kd.string 9 _ _ _ _ (rd_L2 t230 1) from ge242_0); clear hv242_0 ge242_0; clear hcc242 hce242; (try simp only [show (1 : Int).toNat = 1 from rfl, Nat.reduceMul, Nat.reduceEqDiff, Go.Addr.add, ↓reduceIte] at hx242_0); have qi242 : (1 < t230.length) = True := eq_true (by omega); (try rw [show ((1 : Int)).toNat = 1 from rfl] at hx242_0); have HR242_0 := AM hi242_0; have HC242_0 := AM hl242_0; clear hi242_0 hl242_0; replace p242 := eq_true p242; replace q242 := eq_true q242) | (go_at_call 20; (with_reducible refine (laws_qnTexts.calls kj9 _ _ (rd_L2 t230 1) _ _ t221 true _ ?side1 ?side2 ?side3 ?side4 A35.out).mono ?_); (case side1 => repeat (first | exact (by repeat (first | (with_reducible exact HR242_0.out) | (with_reducible refine Kd.C_alloc ?_ _) | (with_reducible refine Kd.C_drewN ?_ _) | (with_reducible refine Kd.C_drew ?_) | exact HR242_0.out)) | (with_reducible refine Kd.C_alloc ?_ _) | (with_reducible refine Kd.C_drewN ?_ _) | (with_reducible refine Kd.C_drew ?_))); (case side2 => exact HC242_0.out); (case side3 => repeat (first | exact (Kd.R_reads' HO_6.out).2.2 | (with_reducible refine Kd.C_alloc ?_ _) | (with_reducible refine Kd.C_drewN ?_ _) | (with_reducible refine Kd.C_drew ?_))); (case side4 => exact (Kd.R_reads' HO_6.out).2.1); rintro e w' ⟨rfl, ⟨nd, rfl⟩⟩; have hcz48_0 : w45.cell? ⟨gb239, 0, none⟩ = some (.string t234) := (kC BK239.out 0).trans rfl; have hcz48_1 : w45.cell? ⟨gb239, 1, none⟩ = some (.bool true) := (kC BK239.out 1).trans rfl; have hfz48_0 := blk_frozen BK239.out 0; have hfz48_1 := blk_frozen BK239.out 1; obtain ⟨Ao49, co49, eo49⟩ := Kd.S_slice HO238.out; subst eo49))
               go_ret
               exact ⟨by first | rfl | (simp [errW_none, errW_some] <;> rfl) | (simp [*, errW_none, errW_some] <;> rfl), by repeat (first | (with_reducible first | exact HB.out | apply bA | apply bD | apply bE | refine below_set ?_ GE233.out | refine below_set ?_ GE239.out) | exact HB.out)⟩
              ·replace c37 := Bool.eq_false_iff.mpr c37
               subst c37
               have H1 : (none) = some r := by rw [if_neg (show ¬ (false = true) by decide)] at H; exact H
               clear H
               have H := H1
               clear H1
               exact absurd H (by simp)
             ·replace c36 := Bool.eq_false_iff.mpr c36
              subst c36
              have H1 : (none) = some r := by rw [if_neg (show ¬ (false = true) by decide)] at H; exact H
              clear H
              have H := H1
              clear H1
              exact absurd H (by simp)
            ·rw [if_neg c34] at H
             exact absurd H (by simp)
           ·replace c33 := Bool.eq_false_iff.mpr c33
            subst c33
            have H1 : (none) = some r := by rw [if_neg (show ¬ (false = true) by decide)] at H; exact H
            clear H
            have H := H1
            clear H1
            exact absurd H (by simp)
          ·rw [if_neg c31] at H
           exact absurd H (by simp)
         ·rw [if_neg c30] at H
          exact absurd H (by simp)
        ·rw [if_neg c29] at H
         exact absurd H (by simp)
       ·rw [if_neg c26] at H
        exact absurd H (by simp)

/-- THE ONE PURE STATEMENT of laws_FnPipeAll: yours. -/
def laws_FnPipeAll.Pure : Prop := ∀ (l0 : List Int) (l1 : List Int), l0.length ≤ maxLen → l0.length * 1 ≤ 140737488351232 → (∀ x ∈ l0, (Lit.int .u8 x).wf = true) → l1.length ≤ maxLen → l1.length * 1 ≤ 140737488351232 → (∀ x ∈ l1, (Lit.int .u8 x).wf = true) → ∃ k, laws_FnPipeAll.f k l0 l1 = some true
theorem laws_FnPipeAll.walk (P : laws_FnPipeAll.Pure) (a0 : Option Addr) (len0 cap0 : Nat) (z0 : List Int) (a1 : Option Addr) (len1 cap1 : Nat) (z1 : List Int) (w : World) (w0 : (a0 = none ∧ len0 = 0 ∧ cap0 = 0 ∧ z0 = []) ∨ ∃ x, a0 = some x ∧ len0 ≤ cap0 ∧ cap0 ≤ maxLen ∧ z0.length = cap0 ∧ (∀ i, i < z0.length → w.cell? (x.add i) = some (.int .u8 (z0.getD i 0))) ∧ ∀ n ∈ z0, (Lit.int .u8 n).wf = true) (y0 : len0 * 1 ≤ 140737488351232) (w1 : (a1 = none ∧ len1 = 0 ∧ cap1 = 0 ∧ z1 = []) ∨ ∃ x, a1 = some x ∧ len1 ≤ cap1 ∧ cap1 ≤ maxLen ∧ z1.length = cap1 ∧ (∀ i, i < z1.length → w.cell? (x.add i) = some (.int .u8 (z1.getD i 0))) ∧ ∀ n ∈ z1, (Lit.int .u8 n).wf = true) (y1 : len1 * 1 ≤ 140737488351232) :
    Calls Tryd.prog 4 #[.slice a0 len0 cap0, .slice a1 len1 cap1] w fun e w' => e = .returned (.bool true) ∧ Below w.heap.size w w' := by
  obtain ⟨l0, rfl, hr0, hm0, hw0, hc0⟩ := ReadsInt.ofRowC w0
  obtain ⟨l1, rfl, hr1, hm1, hw1, hc1⟩ := ReadsInt.ofRowC w1
  obtain ⟨k, h⟩ := P l0 l1 hm0 y0 hw0 hm1 y1 hw1
  refine (laws_FnPipeAll.calls k _ _ l0 _ _ l1 true w (Kd.C_of_reads (d := (0 : Int)) (h1 := fun _ => rfl) hr0) hc0 (Kd.C_of_reads (d := (0 : Int)) (h1 := fun _ => rfl) hr1) hc1 h).mono ?_
  rintro e w' ⟨rfl, hd⟩
  exact ⟨rfl, hd⟩

end Go.Proofs.YtfkjjmhbljlbkaaDoor.P
