-- Typed by a program of this session (wip/print2.sh, given.py), after the kit's print: functions as plain Lean, and their contracts.
import Derived.Test.YtfkjjmhbljlbkaaDoorAFnPipe0
import Derived.Test.YtfkjjmhbljlbkaaDoorAFnPipe2
namespace Go.Proofs.YtfkjjmhbljlbkaaDoor.P
open Go.RowKit Go.Proofs.YtfkjjmhbljlbkaaDoorW.PrintWords Go.Proofs.YtfkjjmhbljlbkaaDoorW.PrintLast Go.Proofs.YtfkjjmhbljlbkaaDoorW.PrintMore
attribute [local go_sem] max2_int min2_int max_two min_two max_three min_three max_four min_four   -- for this text's walks alone
set_option linter.unusedVariables false
set_option linter.unusedSimpArgs false

/-! ### impl_FrameGet: function 71 -/
mutual
def impl_FrameGet.l0 : Nat → ByteArray → Int → Int → List Int → Int → Int → Int → Option (List ByteArray × Int)
  | 0, _, _, _, _, _, _, _ => none
  | k + 1, x0, x4, x5, x6, x7, x32, x33 => if x33 < x32 then ((impl_fetch.f k x0 (wrap64 (4 * (wrap64 (x33 + 1)))) 4).bind fun t104 => (if x6.length < 17592186044416 then ((some (x6 ++ [t104] : List Int)).bind fun y105 => (if 0 ≤ x33 then (if x33 < (y105.length : Int) then (impl_FrameGet.l0 k x0 x4 x5 y105 (wrap64 (x7 + (rd y105 x33))) x32 (wrap64 (x33 + 1))) else (none)) else (none))) else (none))) else (if x7 > 200 then (impl_FrameGet.j1 k x0 x5 x6 x7 true) else (if 0 ≤ (wrap64 (4 * (wrap64 (x4 + 1)))) then (if (wrap64 (4 * (wrap64 (x4 + 1)))) ≤ x5 then (if x5 ≤ (x0.size : Int) then ((strings_Trim.f k (x0.extract ((wrap64 (4 * (wrap64 (x4 + 1)))) : Int).toNat (x5 : Int).toNat) (⟨#[0]⟩ : ByteArray)).bind fun t109 => (impl_FrameGet.j1 k x0 x5 x6 x7 (t109.toList != ([] : List UInt8)))) else (none)) else (none)) else (none)))
def impl_FrameGet.j1 : Nat → ByteArray → Int → List Int → Int → Bool → Option (List ByteArray × Int)
  | 0, _, _, _, _, _ => none
  | k + 1, x0, x5, x6, x7, x62 => if x62 = true then (some (([] : List ByteArray), (-1))) else (if (x0.size : Int) < (wrap64 (x5 + (wrap64 (8 * x7)))) then (some (([] : List ByteArray), 0)) else (impl_FrameGet.l1 k x0 ([] : List ByteArray) x5 x6 (x6.length : Int) 0))
def impl_FrameGet.l1 : Nat → ByteArray → List ByteArray → Int → List Int → Int → Int → Option (List ByteArray × Int)
  | 0, _, _, _, _, _, _ => none
  | k + 1, x0, x9, x10, x71, x72, x73 => if x73 < x72 then (if 0 ≤ x73 then (if x73 < (x71.length : Int) then (if 0 ≤ x10 then (if x10 ≤ (wrap64 (x10 + (wrap64 (8 * (rd x71 x73))))) then (if (wrap64 (x10 + (wrap64 (8 * (rd x71 x73))))) ≤ (x0.size : Int) then (if x9.length < 8796093022208 then (impl_FrameGet.l1 k x0 (x9 ++ [x0.extract (x10 : Int).toNat ((wrap64 (x10 + (wrap64 (8 * (rd x71 x73))))) : Int).toNat]) (wrap64 (x10 + (wrap64 (8 * (rd x71 x73))))) x71 x72 (wrap64 (x73 + 1))) else (none)) else (none)) else (none)) else (none)) else (none)) else (none)) else (some (x9, x10))
end
def impl_FrameGet.f (k : Nat) (a0 : ByteArray) : Option (List ByteArray × Int) := if (a0.size : Int) < 4 then (some (([] : List ByteArray), 0)) else ((impl_fetch.f k a0 0 4).bind fun t103 => (if (wrap64 (t103 + 1)) > 6 then (some (([] : List ByteArray), (-1))) else (if (a0.size : Int) < (wrap64 ((wrap64 (Int.tdiv (wrap64 ((wrap64 ((wrap64 (4 * (wrap64 ((wrap64 (t103 + 1)) + 1)))) + 8)) - 1)) 8)) * 8)) then (some (([] : List ByteArray), 0)) else (impl_FrameGet.l0 k a0 (wrap64 (t103 + 1)) (wrap64 ((wrap64 (Int.tdiv (wrap64 ((wrap64 ((wrap64 (4 * (wrap64 ((wrap64 (t103 + 1)) + 1)))) + 8)) - 1)) 8)) * 8)) ([] : List Int) 0 (wrap64 (t103 + 1)) 0))))
theorem impl_FrameGet.mono_l : ∀ k, (∀ y0 y1 y2 y3 y4 y5 y6, LeO (impl_FrameGet.l0 k y0 y1 y2 y3 y4 y5 y6) (impl_FrameGet.l0 (k + 1) y0 y1 y2 y3 y4 y5 y6)) ∧ (∀ y0 y1 y2 y3 y4, LeO (impl_FrameGet.j1 k y0 y1 y2 y3 y4) (impl_FrameGet.j1 (k + 1) y0 y1 y2 y3 y4)) ∧ (∀ y0 y1 y2 y3 y4 y5, LeO (impl_FrameGet.l1 k y0 y1 y2 y3 y4 y5) (impl_FrameGet.l1 (k + 1) y0 y1 y2 y3 y4 y5))
 | 0 => ⟨fun _ _ _ _ _ _ _ r h => by simp [impl_FrameGet.l0] at h, fun _ _ _ _ _ r h => by simp [impl_FrameGet.j1] at h, fun _ _ _ _ _ _ r h => by simp [impl_FrameGet.l1] at h⟩
 | k + 1 => by
  obtain ⟨ih0, ih1, ih2⟩ := impl_FrameGet.mono_l k
  refine ⟨?_, ?_, ?_⟩
  ·intro y0 y1 y2 y3 y4 y5 y6
   unfold impl_FrameGet.l0
   repeat' first
   | (with_reducible exact ih0 _ _ _ _ _ _ _)
   | (with_reducible exact ih1 _ _ _ _ _)
   | (with_reducible exact ih2 _ _ _ _ _ _)
   | (with_reducible exact impl_fetch.mono _ _ _ _)
   | (with_reducible exact strings_Trim.mono _ _ _)
   | (with_reducible exact LeO.refl _)
   | (with_reducible exact LeO.none _)
   | (with_reducible refine LeO.ite ?_ ?_)
   | (with_reducible refine LeO.bind ?_ (fun _ => ?_))
   | exact ih0 _ _ _ _ _ _ _
   | exact ih1 _ _ _ _ _
   | exact ih2 _ _ _ _ _ _
   | exact impl_fetch.mono _ _ _ _
   | exact strings_Trim.mono _ _ _
   | exact LeO.none _
   | refine LeO.ite ?_ ?_
   | refine LeO.bind ?_ (fun _ => ?_)
  ·intro y0 y1 y2 y3 y4
   unfold impl_FrameGet.j1
   repeat' first
   | (with_reducible exact ih0 _ _ _ _ _ _ _)
   | (with_reducible exact ih1 _ _ _ _ _)
   | (with_reducible exact ih2 _ _ _ _ _ _)
   | (with_reducible exact impl_fetch.mono _ _ _ _)
   | (with_reducible exact strings_Trim.mono _ _ _)
   | (with_reducible exact LeO.refl _)
   | (with_reducible exact LeO.none _)
   | (with_reducible refine LeO.ite ?_ ?_)
   | (with_reducible refine LeO.bind ?_ (fun _ => ?_))
   | exact ih0 _ _ _ _ _ _ _
   | exact ih1 _ _ _ _ _
   | exact ih2 _ _ _ _ _ _
   | exact impl_fetch.mono _ _ _ _
   | exact strings_Trim.mono _ _ _
   | exact LeO.none _
   | refine LeO.ite ?_ ?_
   | refine LeO.bind ?_ (fun _ => ?_)
  ·intro y0 y1 y2 y3 y4 y5
   unfold impl_FrameGet.l1
   repeat' first
   | (with_reducible exact ih0 _ _ _ _ _ _ _)
   | (with_reducible exact ih1 _ _ _ _ _)
   | (with_reducible exact ih2 _ _ _ _ _ _)
   | (with_reducible exact impl_fetch.mono _ _ _ _)
   | (with_reducible exact strings_Trim.mono _ _ _)
   | (with_reducible exact LeO.refl _)
   | (with_reducible exact LeO.none _)
   | (with_reducible refine LeO.ite ?_ ?_)
   | (with_reducible refine LeO.bind ?_ (fun _ => ?_))
   | exact ih0 _ _ _ _ _ _ _
   | exact ih1 _ _ _ _ _
   | exact ih2 _ _ _ _ _ _
   | exact impl_fetch.mono _ _ _ _
   | exact strings_Trim.mono _ _ _
   | exact LeO.none _
   | refine LeO.ite ?_ ?_
   | refine LeO.bind ?_ (fun _ => ?_)
theorem impl_FrameGet.mono : ∀ a0 k, LeO (impl_FrameGet.f k a0) (impl_FrameGet.f (k + 1) a0) := by
 intro a0 k
 obtain ⟨ih0, ih1, ih2⟩ := impl_FrameGet.mono_l k
 unfold impl_FrameGet.f
 repeat' first
   | (with_reducible exact ih0 _ _ _ _ _ _ _)
   | (with_reducible exact ih1 _ _ _ _ _)
   | (with_reducible exact ih2 _ _ _ _ _ _)
   | (with_reducible exact impl_fetch.mono _ _ _ _)
   | (with_reducible exact strings_Trim.mono _ _ _)
   | (with_reducible exact LeO.refl _)
   | (with_reducible exact LeO.none _)
   | (with_reducible refine LeO.ite ?_ ?_)
   | (with_reducible refine LeO.bind ?_ (fun _ => ?_))
   | exact ih0 _ _ _ _ _ _ _
   | exact ih1 _ _ _ _ _
   | exact ih2 _ _ _ _ _ _
   | exact impl_fetch.mono _ _ _ _
   | exact strings_Trim.mono _ _ _
   | exact LeO.none _
   | refine LeO.ite ?_ ?_
   | refine LeO.bind ?_ (fun _ => ?_)
set_option maxHeartbeats 8000000 in
set_option maxRecDepth 100000 in
theorem impl_FrameGet.calls (k : Nat) (a0 : ByteArray) (r1 : List ByteArray) (r2 : Int) (w : World) (h : impl_FrameGet.f k a0 = some (r1, r2)) :
  Calls Tryd.prog 71 #[.string a0] w fun e w' => ∃ v0_ : Value, e = .returned (.tuple #[v0_, .int .i64 r2]) ∧ Kd.R Kd.string 9 w' w.heap.size (fun _ => True) v0_ r1 ∧ Below w.heap.size w w' := by
 have HB := AM (Below.refl w.heap.size w)
 have H : (if (a0.size : Int) < 4 then (some (([] : List ByteArray), 0)) else ((impl_fetch.f k a0 0 4).bind fun t103 => (if (wrap64 (t103 + 1)) > 6 then (some (([] : List ByteArray), (-1))) else (if (a0.size : Int) < (wrap64 ((wrap64 (Int.tdiv (wrap64 ((wrap64 ((wrap64 (4 * (wrap64 ((wrap64 (t103 + 1)) + 1)))) + 8)) - 1)) 8)) * 8)) then (some (([] : List ByteArray), 0)) else (impl_FrameGet.l0 k a0 (wrap64 (t103 + 1)) (wrap64 ((wrap64 (Int.tdiv (wrap64 ((wrap64 ((wrap64 (4 * (wrap64 ((wrap64 (t103 + 1)) + 1)))) + 8)) - 1)) 8)) * 8)) ([] : List Int) 0 (wrap64 (t103 + 1)) 0))))) = some (r1, r2) := h
 clear h
 by_cases c2 : (a0.size : Int) < 4
 ·rw [if_pos c2] at H
  have c2b0 : decide ((a0.size : Int) < 4) = true := decide_eq_true c2
  have c2b1 : decide (a0.size < 4) = true := decide_eq_true (by omega)
  clear c2
  simp only [Option.some.injEq, Prod.mk.injEq] at H
  obtain ⟨rfl, rfl⟩ := H
  go_enter Tryd.func71, Tryd.ntmps71
  go_wp2
  go_ret2
  exact ⟨_, by first | rfl | (simp [errW_none, errW_some] <;> rfl) | (simp [*, errW_none, errW_some] <;> rfl), by first | exact Kd.R_nil _ _ _ _ _ | exact Kd.N_nil _ _ _ _ _ | exact Kd.V_nil _ _ _ _ _ | exact Kd.Q_nil _ _ _ _ _ | exact Kd.S_nil _ _ _ _ _, by repeat (first | (with_reducible first | exact HB.out | apply bA | apply bD | apply bE) | exact HB.out)⟩
 ·rw [if_neg c2] at H
  have c2b0 : decide ((a0.size : Int) < 4) = false := decide_eq_false c2
  have c2b1 : decide (a0.size < 4) = false := decide_eq_false (by omega)
  clear c2
  replace H := Option.bind_eq_some_iff.mp H
  obtain ⟨t103, A30, H⟩ := H
  replace H : (if (wrap64 (t103 + 1)) > 6 then (some (([] : List ByteArray), (-1))) else (if (a0.size : Int) < (wrap64 ((wrap64 (Int.tdiv (wrap64 ((wrap64 ((wrap64 (4 * (wrap64 ((wrap64 (t103 + 1)) + 1)))) + 8)) - 1)) 8)) * 8)) then (some (([] : List ByteArray), 0)) else (impl_FrameGet.l0 k a0 (wrap64 (t103 + 1)) (wrap64 ((wrap64 (Int.tdiv (wrap64 ((wrap64 ((wrap64 (4 * (wrap64 ((wrap64 (t103 + 1)) + 1)))) + 8)) - 1)) 8)) * 8)) ([] : List Int) 0 (wrap64 (t103 + 1)) 0))) = some (r1, r2) := H
  have A3 := AM A30
  clear A30
  by_cases c4 : (wrap64 (t103 + 1)) > 6
  ·rw [if_pos c4] at H
   have c4b0 : decide (6 < (wrap64 (t103 + 1))) = true := decide_eq_true c4
   clear c4
   simp only [Option.some.injEq, Prod.mk.injEq] at H
   obtain ⟨rfl, rfl⟩ := H
   go_enter Tryd.func71, Tryd.ntmps71
   go_wp2_with (first | ((with_reducible refine gate_callee (f := 79) rfl ?_); refine goesL_ (some 17) rfl rfl Tryd.func79 (by kernel_rfl) rfl #[.string a0, .int .i64 0, .int .i64 4] rfl (by (try simp only [List.map_toArray, List.map_cons, List.map_nil]); first | done | rfl | (simp only [List.length_drop, List.length_take]; rfl)) ?_; (with_reducible refine (impl_fetch.calls k a0 0 4 t103 _ A3.out).mono ?_); rintro e w' ⟨rfl, ⟨nd, rfl⟩⟩; refine ⟨_, rfl, ?_⟩))
   go_ret2
   exact ⟨_, by first | rfl | (simp [errW_none, errW_some] <;> rfl) | (simp [*, errW_none, errW_some] <;> rfl), by first | exact Kd.R_nil _ _ _ _ _ | exact Kd.N_nil _ _ _ _ _ | exact Kd.V_nil _ _ _ _ _ | exact Kd.Q_nil _ _ _ _ _ | exact Kd.S_nil _ _ _ _ _, by repeat (first | (with_reducible first | exact HB.out | apply bA | apply bD | apply bE) | exact HB.out)⟩
  ·rw [if_neg c4] at H
   have c4b0 : decide (6 < (wrap64 (t103 + 1))) = false := decide_eq_false c4
   clear c4
   by_cases c5 : (a0.size : Int) < (wrap64 ((wrap64 (Int.tdiv (wrap64 ((wrap64 ((wrap64 (4 * (wrap64 ((wrap64 (t103 + 1)) + 1)))) + 8)) - 1)) 8)) * 8))
   ·rw [if_pos c5] at H
    have c5b0 : decide ((a0.size : Int) < (wrap64 ((wrap64 (Int.tdiv (wrap64 ((wrap64 ((wrap64 (4 * (wrap64 ((wrap64 (t103 + 1)) + 1)))) + 8)) - 1)) 8)) * 8))) = true := decide_eq_true c5
    clear c5
    simp only [Option.some.injEq, Prod.mk.injEq] at H
    obtain ⟨rfl, rfl⟩ := H
    go_enter Tryd.func71, Tryd.ntmps71
    go_wp2_with (first | ((with_reducible refine gate_callee (f := 79) rfl ?_); refine goesL_ (some 17) rfl rfl Tryd.func79 (by kernel_rfl) rfl #[.string a0, .int .i64 0, .int .i64 4] rfl (by (try simp only [List.map_toArray, List.map_cons, List.map_nil]); first | done | rfl | (simp only [List.length_drop, List.length_take]; rfl)) ?_; (with_reducible refine (impl_fetch.calls k a0 0 4 t103 _ A3.out).mono ?_); rintro e w' ⟨rfl, ⟨nd, rfl⟩⟩; refine ⟨_, rfl, ?_⟩))
    go_ret2
    exact ⟨_, by first | rfl | (simp [errW_none, errW_some] <;> rfl) | (simp [*, errW_none, errW_some] <;> rfl), by first | exact Kd.R_nil _ _ _ _ _ | exact Kd.N_nil _ _ _ _ _ | exact Kd.V_nil _ _ _ _ _ | exact Kd.Q_nil _ _ _ _ _ | exact Kd.S_nil _ _ _ _ _, by repeat (first | (with_reducible first | exact HB.out | apply bA | apply bD | apply bE) | exact HB.out)⟩
   ·rw [if_neg c5] at H
    have c5b0 : decide ((a0.size : Int) < (wrap64 ((wrap64 (Int.tdiv (wrap64 ((wrap64 ((wrap64 (4 * (wrap64 ((wrap64 (t103 + 1)) + 1)))) + 8)) - 1)) 8)) * 8))) = false := decide_eq_false c5
    clear c5
    have H' := AM H
    clear H
    go_enter Tryd.func71, Tryd.ntmps71
    go_wp2_with (first | ((with_reducible refine gate_callee (f := 79) rfl ?_); refine goesL_ (some 17) rfl rfl Tryd.func79 (by kernel_rfl) rfl #[.string a0, .int .i64 0, .int .i64 4] rfl (by (try simp only [List.map_toArray, List.map_cons, List.map_nil]); first | done | rfl | (simp only [List.length_drop, List.length_take]; rfl)) ?_; (with_reducible refine (impl_fetch.calls k a0 0 4 t103 _ A3.out).mono ?_); rintro e w' ⟨rfl, ⟨nd, rfl⟩⟩; refine ⟨_, rfl, ?_⟩))
    go_loopg [6, 7, 33] k (fun kq v6 v7 v33 w' => ∃ (x6_1 : List Int) (x7_1 : Int) (x33_1 : Int), v7 = .int .i64 x7_1 ∧ v33 = .int .i64 x33_1 ∧ Aside0 (impl_FrameGet.l0 kq a0 (wrap64 (t103 + 1)) (wrap64 ((wrap64 (Int.tdiv (wrap64 ((wrap64 ((wrap64 (4 * (wrap64 ((wrap64 (t103 + 1)) + 1)))) + 8)) - 1)) 8)) * 8)) x6_1 x7_1 (wrap64 (t103 + 1)) x33_1 = some (r1, r2)) ∧ Aside0 (kq ≤ k) ∧ Aside0 (Kd.R (Kd.int .i64) 3 w' w.heap.size (fun _ => True) v6 x6_1) ∧ Aside0 (Below w.heap.size w w'))
    case atStart => exact ⟨(([] : List Int)), (0), (0), (by first | rfl | (simp; done) | (simp [*]; done)), (by first | rfl | (simp; done) | (simp [*]; done)), H', ⟨Nat.le_refl _⟩, ⟨by first | exact Kd.R_nil _ _ _ _ _ | exact Kd.N_nil _ _ _ _ _ | exact Kd.V_nil _ _ _ _ _ | exact Kd.Q_nil _ _ _ _ _ | exact Kd.S_nil _ _ _ _ _⟩, ⟨by repeat (first | (with_reducible first | exact HB.out | apply bA | apply bD | apply bE) | exact HB.out)⟩⟩
    case round =>
     clear H'
     try clear c2
     try clear c2b0
     try clear c2b1
     try clear p2
     try clear c4
     try clear c4b0
     try clear c5
     try clear c5b0
     obtain ⟨x6_1, x7_1, x33_1, rfl, rfl, HA, HK1, HO_6, HB⟩ := hrel
     cases gk with
     | zero => exact absurd HA.out (by simp [impl_FrameGet.l0])
     | succ k1 =>
      have H := HA.out
      clear HA
      simp only [impl_FrameGet.l0] at H
      by_cases c6 : x33_1 < (wrap64 (t103 + 1))
      ·rw [if_pos c6] at H
       have c6b0 : decide (x33_1 < (wrap64 (t103 + 1))) = true := decide_eq_true c6
       clear c6
       replace H := Option.bind_eq_some_iff.mp H
       obtain ⟨t104, A70, H⟩ := H
       replace H : (if x6_1.length < 17592186044416 then ((some (x6_1 ++ [t104] : List Int)).bind fun y105 => (if 0 ≤ x33_1 then (if x33_1 < (y105.length : Int) then (impl_FrameGet.l0 k1 a0 (wrap64 (t103 + 1)) (wrap64 ((wrap64 (Int.tdiv (wrap64 ((wrap64 ((wrap64 (4 * (wrap64 ((wrap64 (t103 + 1)) + 1)))) + 8)) - 1)) 8)) * 8)) y105 (wrap64 (x7_1 + (rd y105 x33_1))) (wrap64 (t103 + 1)) (wrap64 (x33_1 + 1))) else (none)) else (none))) else (none)) = some (r1, r2) := H
       have A7 := AM A70
       clear A70
       by_cases c8 : x6_1.length < 17592186044416
       ·rw [if_pos c8] at H
        have LMc8 := AM c8
        clear c8
        obtain ⟨y105, hy105⟩ : ∃ y_ : List Int, y_ = (x6_1 ++ [t104]) := ⟨_, rfl⟩
        replace H : (if 0 ≤ x33_1 then (if x33_1 < (y105.length : Int) then (impl_FrameGet.l0 k1 a0 (wrap64 (t103 + 1)) (wrap64 ((wrap64 (Int.tdiv (wrap64 ((wrap64 ((wrap64 (4 * (wrap64 ((wrap64 (t103 + 1)) + 1)))) + 8)) - 1)) 8)) * 8)) y105 (wrap64 (x7_1 + (rd y105 x33_1))) (wrap64 (t103 + 1)) (wrap64 (x33_1 + 1))) else (none)) else (none)) = some (r1, r2) := by first | (rw [hy105]; with_reducible exact H) | (have H2_ := (Option.bind_some _ _).symm.trans H; rw [hy105]; with_reducible exact H2_) | (have H2_ := (Option.bind_some _ _).symm.trans H; with_reducible exact H2_) | with_reducible exact H | (rw [hy105]; exact H) | exact H
        have Ny105 := AM hy105
        clear hy105
        by_cases c9 : 0 ≤ x33_1
        ·rw [if_pos c9] at H
         have c9b0 : decide (0 ≤ x33_1) = true := decide_eq_true c9
         clear c9
         by_cases c10 : x33_1 < (y105.length : Int)
         ·rw [if_pos c10] at H
          have c10b0 : decide (x33_1 < (y105.length : Int)) = true := decide_eq_true c10
          clear c10
          have H' := AM H
          clear H
          go_wp2_with (first | ((with_reducible refine gate_callee (f := 79) rfl ?_); refine goesL_ (some 41) rfl rfl Tryd.func79 (by kernel_rfl) rfl #[.string a0, .int .i64 (wrap64 (4 * (wrap64 (x33_1 + 1)))), .int .i64 4] rfl (by (try simp only [List.map_toArray, List.map_cons, List.map_nil]); first | done | rfl | (simp only [List.length_drop, List.length_take]; rfl)) ?_; (with_reducible refine (impl_fetch.calls k1 a0 (wrap64 (4 * (wrap64 (x33_1 + 1)))) 4 t104 _ A7.out).mono ?_); rintro e w' ⟨rfl, ⟨nd, rfl⟩⟩; refine ⟨_, rfl, ?_⟩) | ((with_reducible refine gate_builtin (b := .append) (xs := #[.tmp 36, .tmp 42]) rfl ?_); at_builtin; refine Kd.R_append (Kd.int .i64) (w0 := w) w.heap.size rfl (.tmp 36) (.tmp 42) 149 3 (.int .i64 0) 8 rfl Tryd.underlying149 info3 rfl (by decide) (by omega) u6 x6_1 t104 [.int .i64 t104] (fun _ => True) (fun _ => False) rfl rfl ?aP (fun _ hk => hk.elim) ?aF ?aO ?aB ?aS ?aL ?_; (case aP => exact rfl); (case aB => exact (by repeat (first | (with_reducible first | exact HB.out | apply bA | apply bD | apply bE) | exact HB.out))); (case aF => exact (fun _ _ => trivial)); (case aO => exact (by (with_reducible repeat (first | apply rA | apply rD | apply rE)); exact HO_6.out)); (case aS => exact (bZ (by repeat (first | (with_reducible first | exact HB.out | apply bA | apply bD | apply bE) | exact HB.out)))); (case aL => have := LMc8.out; omega); intro v106 w11 ho hb hg hat; rw [← Ny105.out] at ho; have n0_ := AM (hb); have n1_ := AM (ho); clear HB; clear HO_6; have HB := n0_; have HO107 := n1_; clear n0_ n1_; clear ho hb hg hat; obtain ⟨Ao12, co12, eo12⟩ := Kd.R_slice HO107.out; subst eo12; have p108 : 0 ≤ (x33_1 : Int) := of_decide_eq_true (by first | (with_reducible assumption) | assumption); have q108 : x33_1 < (y105.length : Int) := of_decide_eq_true (by first | (with_reducible assumption) | assumption); obtain ⟨ad108, e108, hx108_0⟩ := Kd.at_int (Kd.R_reads' HO107.out).2.2 x33_1 p108 q108; cases e108; replace p108 := eq_true p108; replace q108 := eq_true q108))
          go_roundg k1
          case measure => have := HK1.out; omega
          case rel => exact ⟨(y105), (wrap64 (x7_1 + (rd y105 x33_1))), (wrap64 (x33_1 + 1)), (by first | rfl | (simp; done) | (simp [*]; done)), (by first | rfl | (simp; done) | (simp [*]; done)), H', ⟨by have := HK1.out; omega⟩, ⟨by (with_reducible repeat (first | apply rA | apply rD | apply rE)); exact HO107.out⟩, ⟨by repeat (first | (with_reducible first | exact HB.out | apply bA | apply bD | apply bE) | exact HB.out)⟩⟩
         ·rw [if_neg c10] at H
          exact absurd H (by simp)
        ·rw [if_neg c9] at H
         exact absurd H (by simp)
       ·rw [if_neg c8] at H
        exact absurd H (by simp)
      ·rw [if_neg c6] at H
       have c6b0 : decide (x33_1 < (wrap64 (t103 + 1))) = false := decide_eq_false c6
       clear c6
       have HC13 := AM H
       clear H
       go_upto_region 17 with (fail)
       go_cut [62] (fun v62 wc => ∃ (kq : Nat) (x62_12 : Bool), v62 = .bool x62_12 ∧ Aside0 (impl_FrameGet.j1 kq a0 (wrap64 ((wrap64 (Int.tdiv (wrap64 ((wrap64 ((wrap64 (4 * (wrap64 ((wrap64 (t103 + 1)) + 1)))) + 8)) - 1)) 8)) * 8)) x6_1 x7_1 x62_12 = some (r1, r2)) ∧ Aside0 (kq ≤ k1) ∧ Aside0 (Kd.R (Kd.int .i64) 3 wc w.heap.size (fun _ => True) u6 x6_1) ∧ Aside0 (Below w.heap.size w wc))
       case first =>
        have H := HC13.out
        clear HC13
        by_cases c14 : x7_1 > 200
        ·rw [if_pos c14] at H
         have c14b0 : decide (200 < x7_1) = true := decide_eq_true c14
         clear c14
         (first | rw [c14b0] | (simp only [i64_w, i32_w]; rw [c14b0]) | skip)
         have H' := AM H
         clear H
         go_wp2
         go_meet
         case rel => exact ⟨_, (true), (by first | rfl | (simp; done) | (simp [*]; done)), H', ⟨by have := HK1.out; first | omega | exact Nat.le_refl _⟩, ⟨by (with_reducible repeat (first | apply rA | apply rD | apply rE)); exact HO_6.out⟩, ⟨by repeat (first | (with_reducible first | exact HB.out | apply bA | apply bD | apply bE) | exact HB.out)⟩⟩
        ·rw [if_neg c14] at H
         have c14b0 : decide (200 < x7_1) = false := decide_eq_false c14
         clear c14
         (first | rw [c14b0] | (simp only [i64_w, i32_w]; rw [c14b0]) | skip)
         by_cases c15 : 0 ≤ (wrap64 (4 * (wrap64 ((wrap64 (t103 + 1)) + 1))))
         ·rw [if_pos c15] at H
          have c15b0 := eq_true c15
          have c15b1 : decide (0 ≤ (wrap64 (4 * (wrap64 ((wrap64 (t103 + 1)) + 1))))) = true := decide_eq_true c15
          by_cases c16 : (wrap64 (4 * (wrap64 ((wrap64 (t103 + 1)) + 1)))) ≤ (wrap64 ((wrap64 (Int.tdiv (wrap64 ((wrap64 ((wrap64 (4 * (wrap64 ((wrap64 (t103 + 1)) + 1)))) + 8)) - 1)) 8)) * 8))
          ·rw [if_pos c16] at H
           have c16b0 := eq_true c16
           have c16b1 : decide ((wrap64 (4 * (wrap64 ((wrap64 (t103 + 1)) + 1)))) ≤ (wrap64 ((wrap64 (Int.tdiv (wrap64 ((wrap64 ((wrap64 (4 * (wrap64 ((wrap64 (t103 + 1)) + 1)))) + 8)) - 1)) 8)) * 8))) = true := decide_eq_true c16
           by_cases c17 : (wrap64 ((wrap64 (Int.tdiv (wrap64 ((wrap64 ((wrap64 (4 * (wrap64 ((wrap64 (t103 + 1)) + 1)))) + 8)) - 1)) 8)) * 8)) ≤ (a0.size : Int)
           ·rw [if_pos c17] at H
            have c17b0 := eq_true c17
            have c17b1 : decide ((wrap64 ((wrap64 (Int.tdiv (wrap64 ((wrap64 ((wrap64 (4 * (wrap64 ((wrap64 (t103 + 1)) + 1)))) + 8)) - 1)) 8)) * 8)) ≤ (a0.size : Int)) = true := decide_eq_true c17
            replace H := Option.bind_eq_some_iff.mp H
            obtain ⟨t109, A180, H⟩ := H
            replace H : (impl_FrameGet.j1 k1 a0 (wrap64 ((wrap64 (Int.tdiv (wrap64 ((wrap64 ((wrap64 (4 * (wrap64 ((wrap64 (t103 + 1)) + 1)))) + 8)) - 1)) 8)) * 8)) x6_1 x7_1 (t109.toList != ([] : List UInt8))) = some (r1, r2) := H
            have A18 := AM A180
            clear A180
            have H' := AM H
            clear H
            go_wp2_with (first | (go_at_call 129; (with_reducible refine (strings_Trim.calls k1 (a0.extract ((wrap64 (4 * (wrap64 ((wrap64 (t103 + 1)) + 1)))) : Int).toNat ((wrap64 ((wrap64 (Int.tdiv (wrap64 ((wrap64 ((wrap64 (4 * (wrap64 ((wrap64 (t103 + 1)) + 1)))) + 8)) - 1)) 8)) * 8)) : Int).toNat) (⟨#[0]⟩ : ByteArray) t109 _ A18.out).mono ?_); rintro e w19 ⟨rfl, hb⟩; have n0_ := AM (rB (by (with_reducible repeat (first | apply rA | apply rD | apply rE)); exact HO_6.out) hb); have n1_ := AM (bS (by repeat (first | (with_reducible first | exact HB.out | apply bA | apply bD | apply bE) | exact HB.out)) hb); clear HO_6; clear HB; have HO_6 := n0_; have HB := n1_; clear n0_ n1_; (try clear hb); (try clear hb2); (try clear hk); (try clear hi)))
            go_meet
            case rel => exact ⟨_, ((t109.toList != ([] : List UInt8))), (by first | rfl | (simp; done) | (simp [*]; done) | (simp; generalize ByteArray.toList _ = z_; cases z_ <;> rfl)), H', ⟨by have := HK1.out; first | omega | exact Nat.le_refl _⟩, ⟨by (with_reducible repeat (first | apply rA | apply rD | apply rE)); exact HO_6.out⟩, ⟨by repeat (first | (with_reducible first | exact HB.out | apply bA | apply bD | apply bE) | exact HB.out)⟩⟩
           ·rw [if_neg c17] at H
            exact absurd H (by simp)
          ·rw [if_neg c16] at H
           exact absurd H (by simp)
         ·rw [if_neg c15] at H
          exact absurd H (by simp)
       case rest =>
        clear HC13
        try clear c1
        try clear p1
        try clear q1
        try clear hx1
        try clear c2
        try clear c2b0
        try clear c2b1
        try clear p2
        try clear c4
        try clear c4b0
        try clear c5
        try clear c5b0
        try clear c6
        try clear c6b0
        try clear p6
        try clear c7
        try clear c8
        try clear c9
        try clear c9b0
        try clear c10
        try clear c10b0
        try clear p10
        try clear q10
        try clear hx10
        try clear c14
        try clear c14b0
        try clear c15
        try clear c15b0
        try clear c15b1
        try clear c16
        try clear c16b0
        try clear c16b1
        try clear c17
        try clear c17b0
        try clear c17b1
        try clear hx108_0
        try clear p108
        try clear p2
        try clear q108
        obtain ⟨kq, x62_12, rfl, HA, HJ12, HO_6, HB⟩ := hcut
        cases kq with
        | zero => exact absurd HA.out (by simp [impl_FrameGet.j1])
        | succ kj12 =>
         have H := HA.out
         clear HA
         simp only [impl_FrameGet.j1] at H
         by_cases c20 : x62_12 = true
         ·subst c20
          have H1 : (some (([] : List ByteArray), (-1))) = some (r1, r2) := by rw [if_pos rfl] at H; exact H
          clear H
          have H := H1
          clear H1
          simp only [Option.some.injEq, Prod.mk.injEq] at H
          obtain ⟨rfl, rfl⟩ := H
          go_wp2
          go_ret2
          exact ⟨_, by first | rfl | (simp [errW_none, errW_some] <;> rfl) | (simp [*, errW_none, errW_some] <;> rfl), by first | exact Kd.R_nil _ _ _ _ _ | exact Kd.N_nil _ _ _ _ _ | exact Kd.V_nil _ _ _ _ _ | exact Kd.Q_nil _ _ _ _ _ | exact Kd.S_nil _ _ _ _ _, by repeat (first | (with_reducible first | exact HB.out | apply bA | apply bD | apply bE) | exact HB.out)⟩
         ·replace c20 := Bool.eq_false_iff.mpr c20
          subst c20
          have H1 : (if (a0.size : Int) < (wrap64 ((wrap64 ((wrap64 (Int.tdiv (wrap64 ((wrap64 ((wrap64 (4 * (wrap64 ((wrap64 (t103 + 1)) + 1)))) + 8)) - 1)) 8)) * 8)) + (wrap64 (8 * x7_1)))) then (some (([] : List ByteArray), 0)) else (impl_FrameGet.l1 kj12 a0 ([] : List ByteArray) (wrap64 ((wrap64 (Int.tdiv (wrap64 ((wrap64 ((wrap64 (4 * (wrap64 ((wrap64 (t103 + 1)) + 1)))) + 8)) - 1)) 8)) * 8)) x6_1 (x6_1.length : Int) 0)) = some (r1, r2) := by rw [if_neg (show ¬ (false = true) by decide)] at H; exact H
          clear H
          have H := H1
          clear H1
          by_cases c21 : (a0.size : Int) < (wrap64 ((wrap64 ((wrap64 (Int.tdiv (wrap64 ((wrap64 ((wrap64 (4 * (wrap64 ((wrap64 (t103 + 1)) + 1)))) + 8)) - 1)) 8)) * 8)) + (wrap64 (8 * x7_1))))
          ·rw [if_pos c21] at H
           have c21b0 : decide ((a0.size : Int) < (wrap64 ((wrap64 ((wrap64 (Int.tdiv (wrap64 ((wrap64 ((wrap64 (4 * (wrap64 ((wrap64 (t103 + 1)) + 1)))) + 8)) - 1)) 8)) * 8)) + (wrap64 (8 * x7_1))))) = true := decide_eq_true c21
           clear c21
           simp only [Option.some.injEq, Prod.mk.injEq] at H
           obtain ⟨rfl, rfl⟩ := H
           go_wp2
           go_ret2
           exact ⟨_, by first | rfl | (simp [errW_none, errW_some] <;> rfl) | (simp [*, errW_none, errW_some] <;> rfl), by first | exact Kd.R_nil _ _ _ _ _ | exact Kd.N_nil _ _ _ _ _ | exact Kd.V_nil _ _ _ _ _ | exact Kd.Q_nil _ _ _ _ _ | exact Kd.S_nil _ _ _ _ _, by repeat (first | (with_reducible first | exact HB.out | apply bA | apply bD | apply bE) | exact HB.out)⟩
          ·rw [if_neg c21] at H
           have c21b0 : decide ((a0.size : Int) < (wrap64 ((wrap64 ((wrap64 (Int.tdiv (wrap64 ((wrap64 ((wrap64 (4 * (wrap64 ((wrap64 (t103 + 1)) + 1)))) + 8)) - 1)) 8)) * 8)) + (wrap64 (8 * x7_1))))) = false := decide_eq_false c21
           clear c21
           have H' := AM H
           clear H
           obtain ⟨Ao22, co22, eo22⟩ := Kd.R_slice HO_6.out
           subst eo22
           go_wp2
           go_loopg [9, 10, 73] kj12 (fun kq v9 v10 v73 w' => ∃ (x9_3 : List ByteArray) (x10_3 : Int) (x73_3 : Int), v10 = .int .i64 x10_3 ∧ v73 = .int .i64 x73_3 ∧ Aside0 (impl_FrameGet.l1 kq a0 x9_3 x10_3 x6_1 (x6_1.length : Int) x73_3 = some (r1, r2)) ∧ Aside0 (kq ≤ kj12) ∧ Aside0 (Kd.R Kd.string 9 w' w.heap.size (fun _ => True) v9 x9_3) ∧ Aside0 (Kd.R (Kd.int .i64) 3 w' w.heap.size (fun _ => True) (.slice Ao22 x6_1.length co22) x6_1) ∧ Aside0 (Below w.heap.size w w'))
           case atStart => exact ⟨(([] : List ByteArray)), ((wrap64 ((wrap64 (Int.tdiv (wrap64 ((wrap64 ((wrap64 (4 * (wrap64 ((wrap64 (t103 + 1)) + 1)))) + 8)) - 1)) 8)) * 8))), (0), (by first | rfl | (simp; done) | (simp [*]; done)), (by first | rfl | (simp; done) | (simp [*]; done)), H', ⟨Nat.le_refl _⟩, ⟨by first | exact Kd.R_nil _ _ _ _ _ | exact Kd.N_nil _ _ _ _ _ | exact Kd.V_nil _ _ _ _ _ | exact Kd.Q_nil _ _ _ _ _ | exact Kd.S_nil _ _ _ _ _⟩, ⟨by (with_reducible repeat (first | apply rA | apply rD | apply rE)); exact HO_6.out⟩, ⟨by repeat (first | (with_reducible first | exact HB.out | apply bA | apply bD | apply bE) | exact HB.out)⟩⟩
           case round =>
            clear H'
            try clear c1
            try clear p1
            try clear q1
            try clear hx1
            try clear c2
            try clear c2b0
            try clear c2b1
            try clear p2
            try clear c4
            try clear c4b0
            try clear c5
            try clear c5b0
            try clear c6
            try clear c6b0
            try clear p6
            try clear c7
            try clear c8
            try clear c9
            try clear c9b0
            try clear c10
            try clear c10b0
            try clear p10
            try clear q10
            try clear hx10
            try clear c14
            try clear c14b0
            try clear c15
            try clear c15b0
            try clear c15b1
            try clear c16
            try clear c16b0
            try clear c16b1
            try clear c17
            try clear c17b0
            try clear c17b1
            try clear c20
            try clear c21
            try clear c21b0
            try clear hx108_0
            try clear p1
            try clear p10
            try clear p108
            try clear p2
            try clear p6
            try clear q1
            try clear q10
            try clear q108
            obtain ⟨x9_3, x10_3, x73_3, rfl, rfl, HA, HK3, HO_9, HO_71, HB⟩ := hrel
            cases gk with
            | zero => exact absurd HA.out (by simp [impl_FrameGet.l1])
            | succ k3 =>
             have H := HA.out
             clear HA
             simp only [impl_FrameGet.l1] at H
             by_cases c23 : x73_3 < (x6_1.length : Int)
             ·rw [if_pos c23] at H
              have c23b0 : decide (x73_3 < (x6_1.length : Int)) = true := decide_eq_true c23
              clear c23
              by_cases c24 : 0 ≤ x73_3
              ·rw [if_pos c24] at H
               have c24b0 : decide (0 ≤ x73_3) = true := decide_eq_true c24
               clear c24
               by_cases c25 : x73_3 < (x6_1.length : Int)
               ·rw [if_pos c25] at H
                have c25b0 : decide (x73_3 < (x6_1.length : Int)) = true := decide_eq_true c25
                clear c25
                by_cases c26 : 0 ≤ x10_3
                ·rw [if_pos c26] at H
                 have c26b0 := eq_true c26
                 have c26b1 : decide (0 ≤ x10_3) = true := decide_eq_true c26
                 clear c26
                 by_cases c27 : x10_3 ≤ (wrap64 (x10_3 + (wrap64 (8 * (rd x6_1 x73_3)))))
                 ·rw [if_pos c27] at H
                  have c27b0 := eq_true c27
                  have c27b1 : decide (x10_3 ≤ (wrap64 (x10_3 + (wrap64 (8 * (rd x6_1 x73_3)))))) = true := decide_eq_true c27
                  by_cases c28 : (wrap64 (x10_3 + (wrap64 (8 * (rd x6_1 x73_3))))) ≤ (a0.size : Int)
                  ·rw [if_pos c28] at H
                   have c28b0 := eq_true c28
                   have c28b1 : decide ((wrap64 (x10_3 + (wrap64 (8 * (rd x6_1 x73_3))))) ≤ (a0.size : Int)) = true := decide_eq_true c28
                   by_cases c29 : x9_3.length < 8796093022208
                   ·rw [if_pos c29] at H
                    have LMc29 := AM c29
                    clear c29
                    obtain ⟨y111, hy111⟩ : ∃ y_ : List ByteArray, y_ = (x9_3 ++ [a0.extract (x10_3 : Int).toNat ((wrap64 (x10_3 + (wrap64 (8 * (rd x6_1 x73_3))))) : Int).toNat]) := ⟨_, rfl⟩
                    replace H : (impl_FrameGet.l1 k3 a0 y111 (wrap64 (x10_3 + (wrap64 (8 * (rd x6_1 x73_3))))) x6_1 (x6_1.length : Int) (wrap64 (x73_3 + 1))) = some (r1, r2) := by first | (rw [hy111]; with_reducible exact H) | (have H2_ := (Option.bind_some _ _).symm.trans H; rw [hy111]; with_reducible exact H2_) | (have H2_ := (Option.bind_some _ _).symm.trans H; with_reducible exact H2_) | with_reducible exact H | (rw [hy111]; exact H) | exact H
                    have Ny111 := AM hy111
                    clear hy111
                    have H' := AM H
                    clear H
                    have p110 : 0 ≤ (x73_3 : Int) := of_decide_eq_true (by first | (with_reducible assumption) | assumption)
                    have q110 : x73_3 < (x6_1.length : Int) := of_decide_eq_true (by first | (with_reducible assumption) | assumption)
                    obtain ⟨ad110, e110, hx110_0⟩ := Kd.at_int (Kd.R_reads' HO_71.out).2.2 x73_3 p110 q110
                    cases e110
                    replace p110 := eq_true p110
                    replace q110 := eq_true q110
                    go_wp2_with (first | ((with_reducible refine gate_builtin (b := .append) (xs := #[.tmp 77, .tmp 85]) rfl ?_); at_builtin; refine Kd.R_append Kd.string (w0 := w) w.heap.size rfl (.tmp 77) (.tmp 85) 30 9 (.string ⟨#[]⟩) 16 rfl Tryd.underlying30 info9 rfl (by decide) (by omega) u9 x9_3 (a0.extract (x10_3 : Int).toNat ((wrap64 (x10_3 + (wrap64 (8 * (rd x6_1 x73_3))))) : Int).toNat) [.string (a0.extract (x10_3 : Int).toNat ((wrap64 (x10_3 + (wrap64 (8 * (rd x6_1 x73_3))))) : Int).toNat)] (fun _ => True) (fun _ => False) rfl rfl ?aP (fun _ hk => hk.elim) ?aF ?aO ?aB ?aS ?aL ?_; (case aP => exact rfl); (case aB => exact (by repeat (first | (with_reducible first | exact HB.out | apply bA | apply bD | apply bE) | exact HB.out))); (case aF => exact (fun _ _ => trivial)); (case aO => exact (by (with_reducible repeat (first | apply rA | apply rD | apply rE)); exact HO_9.out)); (case aS => exact (bZ (by repeat (first | (with_reducible first | exact HB.out | apply bA | apply bD | apply bE) | exact HB.out)))); (case aL => have := LMc29.out; omega); intro v112 w30 ho hb hg hat; rw [← Ny111.out] at ho; have n0_ := AM (Kd.R_over' (by (with_reducible repeat (first | apply rA | apply rD | apply rE)); exact HO_71.out) (Kd.R_typed (by (with_reducible repeat (first | apply rA | apply rD | apply rE)); exact HO_9.out)) (by decide) hg); have n1_ := AM (hb); have n2_ := AM (ho); clear HO_71; clear HB; clear HO_9; have HO_71 := n0_; have HB := n1_; have HO113 := n2_; clear n0_ n1_ n2_; clear ho hb hg hat))
                    go_roundg k3
                    case measure => have := HK1.out; have := HJ12.out; have := HK3.out; omega
                    case rel => exact ⟨(y111), (wrap64 (x10_3 + (wrap64 (8 * (rd x6_1 x73_3))))), (wrap64 (x73_3 + 1)), (by first | rfl | (simp; done) | (simp [*]; done)), (by first | rfl | (simp; done) | (simp [*]; done)), H', ⟨by have := HK1.out; have := HJ12.out; have := HK3.out; omega⟩, ⟨by (with_reducible repeat (first | apply rA | apply rD | apply rE)); exact HO113.out⟩, ⟨by (with_reducible repeat (first | apply rA | apply rD | apply rE)); exact HO_71.out⟩, ⟨by repeat (first | (with_reducible first | exact HB.out | apply bA | apply bD | apply bE) | exact HB.out)⟩⟩
                   ·rw [if_neg c29] at H
                    exact absurd H (by simp)
                  ·rw [if_neg c28] at H
                   exact absurd H (by simp)
                 ·rw [if_neg c27] at H
                  exact absurd H (by simp)
                ·rw [if_neg c26] at H
                 exact absurd H (by simp)
               ·rw [if_neg c25] at H
                exact absurd H (by simp)
              ·rw [if_neg c24] at H
               exact absurd H (by simp)
             ·rw [if_neg c23] at H
              have c23b0 : decide (x73_3 < (x6_1.length : Int)) = false := decide_eq_false c23
              clear c23
              simp only [Option.some.injEq, Prod.mk.injEq] at H
              obtain ⟨rfl, rfl⟩ := H
              go_wp2
              go_ret2
              exact ⟨_, by first | rfl | (simp [errW_none, errW_some] <;> rfl) | (simp [*, errW_none, errW_some] <;> rfl), by (with_reducible repeat (first | apply rA | apply rD | apply rE)); exact HO_9.out, by repeat (first | (with_reducible first | exact HB.out | apply bA | apply bD | apply bE) | exact HB.out)⟩

/-! ### impl_PipeOk: function 37 -/
def impl_PipeOk.f (k : Nat) (a0_0 : ByteArray) (a0_1 : Bool) : Option (Bool) := if a0_1 = true then (some (a0_0.toList == ([] : List UInt8))) else ((impl_FrameGet.f k a0_0).bind fun bt115 => (if bt115.2 = 0 then (some (decide ((a0_0.size : Int) ≤ 1800))) else (some false)))
theorem impl_PipeOk.mono : ∀ a0 a1 k, LeO (impl_PipeOk.f k a0 a1) (impl_PipeOk.f (k + 1) a0 a1) := by
 intro a0 a1 k
 unfold impl_PipeOk.f
 repeat' first
   | (with_reducible exact impl_FrameGet.mono _ _)
   | (with_reducible exact LeO.refl _)
   | (with_reducible exact LeO.none _)
   | (with_reducible refine LeO.ite ?_ ?_)
   | (with_reducible refine LeO.bind ?_ (fun _ => ?_))
   | exact impl_FrameGet.mono _ _
   | exact LeO.none _
   | refine LeO.ite ?_ ?_
   | refine LeO.bind ?_ (fun _ => ?_)
set_option maxHeartbeats 8000000 in
set_option maxRecDepth 100000 in
theorem impl_PipeOk.calls (k : Nat) (a0_0 : ByteArray) (a0_1 : Bool) (r : Bool) (w : World) (h : impl_PipeOk.f k a0_0 a0_1 = some r) :
  Calls Tryd.prog 37 #[.agg #[.string a0_0, .bool a0_1]] w fun e w' => e = .returned (.bool r) ∧ Below w.heap.size w w' := by
 have hu34 := Tryd.underlying34
 have HB := AM (Below.refl w.heap.size w)
 have H : (if a0_1 = true then (some (a0_0.toList == ([] : List UInt8))) else ((impl_FrameGet.f k a0_0).bind fun bt115 => (if bt115.2 = 0 then (some (decide ((a0_0.size : Int) ≤ 1800))) else (some false)))) = some r := h
 clear h
 by_cases c2 : a0_1 = true
 ·subst c2
  have H1 : (some (a0_0.toList == ([] : List UInt8))) = some r := by rw [if_pos rfl] at H; exact H
  clear H
  have H := H1
  clear H1
  obtain rfl := Option.some.inj H
  go_enter Tryd.func37, Tryd.ntmps37
  go_wp2_with (first | ((with_reducible refine gate_dst (N := 1) rfl ?_); (try (refine gate_guard (by rfl) ?_; dsimp only)); refine box_event ?hg (N := 1) ?hd (cs := #[.string a0_0, .bool true]) (t := 34) ?hr ?_; (case hd => rfl); (case hg => rfl); (case hr => first | (go_simp; done) | (go_simp; rfl)); intro gb114 hg w3 hbox hb; have n0_ := AM (bS (by repeat (first | (with_reducible first | exact HB.out | apply bA | apply bD | apply bE) | exact HB.out)) hb); have n1_ := AM (hbox); have n2_ := AM ((by rw [hg]; exact (bZ (by repeat (first | (with_reducible first | exact HB.out | apply bA | apply bD | apply bE) | exact HB.out))) : w.heap.size ≤ gb114)); have n3_ := AM ((by rw [hg]; exact (bZ (by repeat (first | (with_reducible first | exact HB.out | apply bA | apply bD | apply bE) | exact HB.out))) : w.heap.size ≤ gb114)); clear HB; have HB := n0_; have BK114 := n1_; have GW114 := n2_; have GE114 := n3_; clear n0_ n1_ n2_ n3_; clear hb hbox hg; have hcz4_0 : w3.cell? ⟨gb114, 0, none⟩ = some (.string a0_0) := (kC BK114.out 0).trans rfl; have hcz4_1 : w3.cell? ⟨gb114, 1, none⟩ = some (.bool true) := (kC BK114.out 1).trans rfl; have hfz4_0 := blk_frozen BK114.out 0; have hfz4_1 := blk_frozen BK114.out 1))
  go_ret
  exact ⟨by first | rfl | (simp [errW_none, errW_some] <;> rfl) | (simp [*, errW_none, errW_some] <;> rfl), by repeat (first | (with_reducible first | exact HB.out | apply bA | apply bD | apply bE | refine below_set ?_ GE114.out) | exact HB.out)⟩
 ·replace c2 := Bool.eq_false_iff.mpr c2
  subst c2
  have H1 : ((impl_FrameGet.f k a0_0).bind fun bt115 => (if bt115.2 = 0 then (some (decide ((a0_0.size : Int) ≤ 1800))) else (some false))) = some r := by rw [if_neg (show ¬ (false = true) by decide)] at H; exact H
  clear H
  have H := H1
  clear H1
  replace H := Option.bind_eq_some_iff.mp H
  obtain ⟨⟨t115, t116⟩, A50, H⟩ := H
  replace H : (if t116 = 0 then (some (decide ((a0_0.size : Int) ≤ 1800))) else (some false)) = some r := H
  have A5 := AM A50
  clear A50
  by_cases c6 : t116 = 0
  ·rw [if_pos c6] at H
   have c6b0 : (t116 == 0) = true := beq_iff_eq.mpr c6
   have c6b1 : (t116 != 0) = false := bne_eq_false_iff_eq.mpr c6
   clear c6
   obtain rfl := Option.some.inj H
   go_enter Tryd.func37, Tryd.ntmps37
   go_wp2_with (first | ((with_reducible refine gate_dst (N := 1) rfl ?_); (try (refine gate_guard (by rfl) ?_; dsimp only)); refine box_event ?hg (N := 1) ?hd (cs := #[.string a0_0, .bool false]) (t := 34) ?hr ?_; (case hd => rfl); (case hg => rfl); (case hr => first | (go_simp; done) | (go_simp; rfl)); intro gb114 hg w7 hbox hb; have n0_ := AM (bS (by repeat (first | (with_reducible first | exact HB.out | apply bA | apply bD | apply bE) | exact HB.out)) hb); have n1_ := AM (hbox); have n2_ := AM ((by rw [hg]; exact (bZ (by repeat (first | (with_reducible first | exact HB.out | apply bA | apply bD | apply bE) | exact HB.out))) : w.heap.size ≤ gb114)); have n3_ := AM ((by rw [hg]; exact (bZ (by repeat (first | (with_reducible first | exact HB.out | apply bA | apply bD | apply bE) | exact HB.out))) : w.heap.size ≤ gb114)); clear HB; have HB := n0_; have BK114 := n1_; have GW114 := n2_; have GE114 := n3_; clear n0_ n1_ n2_ n3_; clear hb hbox hg; have hcz8_0 : w7.cell? ⟨gb114, 0, none⟩ = some (.string a0_0) := (kC BK114.out 0).trans rfl; have hcz8_1 : w7.cell? ⟨gb114, 1, none⟩ = some (.bool false) := (kC BK114.out 1).trans rfl; have hfz8_0 := blk_frozen BK114.out 0; have hfz8_1 := blk_frozen BK114.out 1) | ((with_reducible refine gate_callee (f := 71) rfl ?_); refine goesL_ (some 13) rfl rfl Tryd.func71 (by kernel_rfl) rfl #[.string a0_0] rfl (by (try simp only [List.map_toArray, List.map_cons, List.map_nil]); first | done | rfl | (simp only [List.length_drop, List.length_take]; rfl)) ?_; (with_reducible refine (impl_FrameGet.calls k a0_0 t115 t116 _ A5.out).mono ?_); rintro e w9 ⟨v117, rfl, ho0, hb⟩; refine ⟨_, rfl, ?_⟩; have n0_ := AM (Kd.R_lower ho0 (bZ (by repeat (first | (with_reducible first | exact HB.out | apply bA | apply bD | apply bE | refine below_set ?_ GE114.out) | exact HB.out)))); have n1_ := AM (kB (g := gb114) (o := .cells #[.string a0_0, .bool false] 34 (0, 0)) (by (with_reducible repeat (first | refine kD ?_ _ | refine kE ?_ | refine kA ?_ _)); exact BK114.out) hb); have n2_ := AM (bS (by repeat (first | (with_reducible first | exact HB.out | apply bA | apply bD | apply bE | refine below_set ?_ GE114.out) | exact HB.out)) hb); clear BK114; clear HB; have HO118 := n0_; have BK114 := n1_; have HB := n2_; clear n0_ n1_ n2_; (try clear hb); (try clear hb2); (try clear hk); (try clear hi); (try clear ho0); have hcz10_0 : w9.cell? ⟨gb114, 0, none⟩ = some (.string a0_0) := (kC BK114.out 0).trans rfl; have hcz10_1 : w9.cell? ⟨gb114, 1, none⟩ = some (.bool false) := (kC BK114.out 1).trans rfl; have hfz10_0 := blk_frozen BK114.out 0; have hfz10_1 := blk_frozen BK114.out 1))
   go_ret
   exact ⟨by first | rfl | (simp [errW_none, errW_some] <;> rfl) | (simp [*, errW_none, errW_some] <;> rfl), by repeat (first | (with_reducible first | exact HB.out | apply bA | apply bD | apply bE | refine below_set ?_ GE114.out) | exact HB.out)⟩
  ·rw [if_neg c6] at H
   have c6b0 : (t116 == 0) = false := beq_eq_false_iff_ne.mpr c6
   have c6b1 : (t116 != 0) = true := bne_iff_ne.mpr c6
   obtain rfl := Option.some.inj H
   go_enter Tryd.func37, Tryd.ntmps37
   go_wp2_with (first | ((with_reducible refine gate_dst (N := 1) rfl ?_); (try (refine gate_guard (by rfl) ?_; dsimp only)); refine box_event ?hg (N := 1) ?hd (cs := #[.string a0_0, .bool false]) (t := 34) ?hr ?_; (case hd => rfl); (case hg => rfl); (case hr => first | (go_simp; done) | (go_simp; rfl)); intro gb114 hg w11 hbox hb; have n0_ := AM (bS (by repeat (first | (with_reducible first | exact HB.out | apply bA | apply bD | apply bE) | exact HB.out)) hb); have n1_ := AM (hbox); have n2_ := AM ((by rw [hg]; exact (bZ (by repeat (first | (with_reducible first | exact HB.out | apply bA | apply bD | apply bE) | exact HB.out))) : w.heap.size ≤ gb114)); have n3_ := AM ((by rw [hg]; exact (bZ (by repeat (first | (with_reducible first | exact HB.out | apply bA | apply bD | apply bE) | exact HB.out))) : w.heap.size ≤ gb114)); clear HB; have HB := n0_; have BK114 := n1_; have GW114 := n2_; have GE114 := n3_; clear n0_ n1_ n2_ n3_; clear hb hbox hg; have hcz12_0 : w11.cell? ⟨gb114, 0, none⟩ = some (.string a0_0) := (kC BK114.out 0).trans rfl; have hcz12_1 : w11.cell? ⟨gb114, 1, none⟩ = some (.bool false) := (kC BK114.out 1).trans rfl; have hfz12_0 := blk_frozen BK114.out 0; have hfz12_1 := blk_frozen BK114.out 1) | ((with_reducible refine gate_callee (f := 71) rfl ?_); refine goesL_ (some 13) rfl rfl Tryd.func71 (by kernel_rfl) rfl #[.string a0_0] rfl (by (try simp only [List.map_toArray, List.map_cons, List.map_nil]); first | done | rfl | (simp only [List.length_drop, List.length_take]; rfl)) ?_; (with_reducible refine (impl_FrameGet.calls k a0_0 t115 t116 _ A5.out).mono ?_); rintro e w13 ⟨v117, rfl, ho0, hb⟩; refine ⟨_, rfl, ?_⟩; have n0_ := AM (Kd.R_lower ho0 (bZ (by repeat (first | (with_reducible first | exact HB.out | apply bA | apply bD | apply bE | refine below_set ?_ GE114.out) | exact HB.out)))); have n1_ := AM (kB (g := gb114) (o := .cells #[.string a0_0, .bool false] 34 (0, 0)) (by (with_reducible repeat (first | refine kD ?_ _ | refine kE ?_ | refine kA ?_ _)); exact BK114.out) hb); have n2_ := AM (bS (by repeat (first | (with_reducible first | exact HB.out | apply bA | apply bD | apply bE | refine below_set ?_ GE114.out) | exact HB.out)) hb); clear BK114; clear HB; have HO118 := n0_; have BK114 := n1_; have HB := n2_; clear n0_ n1_ n2_; (try clear hb); (try clear hb2); (try clear hk); (try clear hi); (try clear ho0)))
   go_ret
   exact ⟨by first | rfl | (simp [errW_none, errW_some] <;> rfl) | (simp [*, errW_none, errW_some] <;> rfl), by repeat (first | (with_reducible first | exact HB.out | apply bA | apply bD | apply bE | refine below_set ?_ GE114.out) | exact HB.out)⟩

/-! ### impl_PipeFeed: function 19 -/
mutual
def impl_PipeFeed.j0 : Nat → ByteArray → Bool → ByteArray → Bool → Option (ByteArray × Bool × (List (List ByteArray)))
  | 0, _, _, _, _ => none
  | k + 1, x1, x17, x120000, x120001 => if x17 = true then (some ((⟨#[]⟩ : ByteArray), false, ([] : List (List ByteArray)))) else (if x120001 = true then (some (x120000, x120001, ([] : List (List ByteArray)))) else (if x120000.size + x1.size ≤ 9223372036854775807 then (impl_PipeFeed.l0 k (x120000 ++ x1) ([] : List (List ByteArray))) else (none)))
def impl_PipeFeed.l0 : Nat → ByteArray → List (List ByteArray) → Option (ByteArray × Bool × (List (List ByteArray)))
  | 0, _, _ => none
  | k + 1, x6, x7 => (impl_FrameGet.f k x6).bind fun bt122 => (if bt122.2 = (-1) then (some ((⟨#[]⟩ : ByteArray), true, x7)) else (if bt122.2 = 0 then (some (x6, false, x7)) else (if x7.length < 5864062014805 then (if 0 ≤ bt122.2 then (if bt122.2 ≤ (x6.size : Int) then (impl_PipeFeed.l0 k (x6.extract (bt122.2 : Int).toNat x6.size) (x7 ++ [bt122.1])) else (none)) else (none)) else (none))))
end
def impl_PipeFeed.f (k : Nat) (a0_0 : ByteArray) (a0_1 : Bool) (a1 : ByteArray) : Option (ByteArray × Bool × (List (List ByteArray))) := (impl_PipeOk.f k a0_0 a0_1).bind fun t121 => (if t121 = true then (impl_PipeFeed.j0 k a1 (decide ((a1.size : Int) > 4000)) a0_0 a0_1) else (impl_PipeFeed.j0 k a1 true a0_0 a0_1))
theorem impl_PipeFeed.mono_l : ∀ k, (∀ y0 y1 y2 y3, LeO (impl_PipeFeed.j0 k y0 y1 y2 y3) (impl_PipeFeed.j0 (k + 1) y0 y1 y2 y3)) ∧ (∀ y0 y1, LeO (impl_PipeFeed.l0 k y0 y1) (impl_PipeFeed.l0 (k + 1) y0 y1))
 | 0 => ⟨fun _ _ _ _ r h => by simp [impl_PipeFeed.j0] at h, fun _ _ r h => by simp [impl_PipeFeed.l0] at h⟩
 | k + 1 => by
  obtain ⟨ih0, ih1⟩ := impl_PipeFeed.mono_l k
  refine ⟨?_, ?_⟩
  ·intro y0 y1 y2 y3
   unfold impl_PipeFeed.j0
   repeat' first
   | (with_reducible exact ih0 _ _ _ _)
   | (with_reducible exact ih1 _ _)
   | (with_reducible exact impl_FrameGet.mono _ _)
   | (with_reducible exact impl_PipeOk.mono _ _ _)
   | (with_reducible exact LeO.refl _)
   | (with_reducible exact LeO.none _)
   | (with_reducible refine LeO.ite ?_ ?_)
   | (with_reducible refine LeO.bind ?_ (fun _ => ?_))
   | exact ih0 _ _ _ _
   | exact ih1 _ _
   | exact impl_FrameGet.mono _ _
   | exact impl_PipeOk.mono _ _ _
   | exact LeO.none _
   | refine LeO.ite ?_ ?_
   | refine LeO.bind ?_ (fun _ => ?_)
  ·intro y0 y1
   unfold impl_PipeFeed.l0
   repeat' first
   | (with_reducible exact ih0 _ _ _ _)
   | (with_reducible exact ih1 _ _)
   | (with_reducible exact impl_FrameGet.mono _ _)
   | (with_reducible exact impl_PipeOk.mono _ _ _)
   | (with_reducible exact LeO.refl _)
   | (with_reducible exact LeO.none _)
   | (with_reducible refine LeO.ite ?_ ?_)
   | (with_reducible refine LeO.bind ?_ (fun _ => ?_))
   | exact ih0 _ _ _ _
   | exact ih1 _ _
   | exact impl_FrameGet.mono _ _
   | exact impl_PipeOk.mono _ _ _
   | exact LeO.none _
   | refine LeO.ite ?_ ?_
   | refine LeO.bind ?_ (fun _ => ?_)
theorem impl_PipeFeed.mono : ∀ a0 a1 a2 k, LeO (impl_PipeFeed.f k a0 a1 a2) (impl_PipeFeed.f (k + 1) a0 a1 a2) := by
 intro a0 a1 a2 k
 obtain ⟨ih0, ih1⟩ := impl_PipeFeed.mono_l k
 unfold impl_PipeFeed.f
 repeat' first
   | (with_reducible exact ih0 _ _ _ _)
   | (with_reducible exact ih1 _ _)
   | (with_reducible exact impl_FrameGet.mono _ _)
   | (with_reducible exact impl_PipeOk.mono _ _ _)
   | (with_reducible exact LeO.refl _)
   | (with_reducible exact LeO.none _)
   | (with_reducible refine LeO.ite ?_ ?_)
   | (with_reducible refine LeO.bind ?_ (fun _ => ?_))
   | exact ih0 _ _ _ _
   | exact ih1 _ _
   | exact impl_FrameGet.mono _ _
   | exact impl_PipeOk.mono _ _ _
   | exact LeO.none _
   | refine LeO.ite ?_ ?_
   | refine LeO.bind ?_ (fun _ => ?_)
set_option maxHeartbeats 8000000 in
set_option maxRecDepth 100000 in
theorem impl_PipeFeed.calls (k : Nat) (a0_0 : ByteArray) (a0_1 : Bool) (a1 : ByteArray) (r1 : ByteArray) (r2 : Bool) (r3 : List (List ByteArray)) (w : World) (h : impl_PipeFeed.f k a0_0 a0_1 a1 = some (r1, r2, r3)) :
  Calls Tryd.prog 19 #[.agg #[.string a0_0, .bool a0_1], .string a1] w fun e w' => ∃ v2_ : Value, e = .returned (.tuple #[.agg #[.string r1, .bool r2], v2_]) ∧ Kd.S (Kd.slice 9 Kd.string) 30 w' w.heap.size (fun _ => True) v2_ r3 ∧ Below w.heap.size w w' := by
 have hu34 := Tryd.underlying34
 have HB := AM (Below.refl w.heap.size w)
 have H : ((impl_PipeOk.f k a0_0 a0_1).bind fun t121 => (if t121 = true then (impl_PipeFeed.j0 k a1 (decide ((a1.size : Int) > 4000)) a0_0 a0_1) else (impl_PipeFeed.j0 k a1 true a0_0 a0_1))) = some (r1, r2, r3) := h
 clear h
 have HC3 := AM H
 clear H
 go_enter Tryd.func19, Tryd.ntmps19
 go_upto_region 1 with (first | ((with_reducible refine gate_dst (N := 2) rfl ?_); (try (refine gate_guard (by rfl) ?_; dsimp only)); refine box_event ?hg (N := 2) ?hd (cs := #[.string a0_0, .bool a0_1]) (t := 34) ?hr ?_; (case hd => rfl); (case hg => rfl); (case hr => first | (go_simp; done) | (go_simp; rfl)); intro gb119 hg w4 hbox hb; have n0_ := AM (bS (by repeat (first | (with_reducible first | exact HB.out | apply bA | apply bD | apply bE) | exact HB.out)) hb); have n1_ := AM (hbox); have n2_ := AM ((by rw [hg]; exact (bZ (by repeat (first | (with_reducible first | exact HB.out | apply bA | apply bD | apply bE) | exact HB.out))) : w.heap.size ≤ gb119)); have n3_ := AM ((by rw [hg]; exact (bZ (by repeat (first | (with_reducible first | exact HB.out | apply bA | apply bD | apply bE) | exact HB.out))) : w.heap.size ≤ gb119)); clear HB; have HB := n0_; have BK119 := n1_; have GW119 := n2_; have GE119 := n3_; clear n0_ n1_ n2_ n3_; clear hb hbox hg) | ((with_reducible refine gate_dst (N := 4) rfl ?_); (try (refine gate_guard (by rfl) ?_; dsimp only)); refine box_event ?hg (N := 4) ?hd (cs := #[.string (⟨#[]⟩ : ByteArray), .bool false]) (t := 34) ?hr ?_; (case hd => rfl); (case hg => rfl); (case hr => first | (go_simp; done) | (go_simp; rfl)); intro gb120 hg w5 hbox hb; have n0_ := AM (kB (g := gb119) (o := .cells #[.string a0_0, .bool a0_1] 34 (0, 0)) (by (with_reducible repeat (first | refine kD ?_ _ | refine kE ?_ | refine kA ?_ _)); exact BK119.out) hb); have n1_ := AM (bS (by repeat (first | (with_reducible first | exact HB.out | apply bA | apply bD | apply bE | refine below_set ?_ GE119.out) | exact HB.out)) hb); have n2_ := AM (hbox); have n3_ := AM ((by rw [hg]; exact (bZ (by repeat (first | (with_reducible first | exact HB.out | apply bA | apply bD | apply bE | refine below_set ?_ GE119.out) | exact HB.out))) : w.heap.size ≤ gb120)); have n4_ := AM ((by rw [hg]; exact (bZ (by repeat (first | (with_reducible first | exact HB.out | apply bA | apply bD | apply bE | refine below_set ?_ GE119.out) | exact HB.out))) : w.heap.size ≤ gb120)); have n5_ := AM ((by rw [hg]; exact Nat.ne_of_lt (blk_lt (g := gb119) (o := .cells #[.string a0_0, .bool a0_1] 34 (0, 0)) (by (with_reducible repeat (first | refine kD ?_ _ | refine kE ?_ | refine kA ?_ _)); exact BK119.out)) : gb119 ≠ gb120)); have n6_ := AM ((by rw [hg]; exact Nat.ne_of_gt (blk_lt (g := gb119) (o := .cells #[.string a0_0, .bool a0_1] 34 (0, 0)) (by (with_reducible repeat (first | refine kD ?_ _ | refine kE ?_ | refine kA ?_ _)); exact BK119.out)) : gb120 ≠ gb119)); clear BK119; clear HB; have BK119 := n0_; have HB := n1_; have BK120 := n2_; have GW120 := n3_; have GE120 := n4_; have NB119_120 := n5_; have NB120_119 := n6_; clear n0_ n1_ n2_ n3_ n4_ n5_ n6_; clear hb hbox hg))
 (try simp only [Act.put, lA, lZ, lS])
 go_cut [17] (fun v17 wc => ∃ (kq : Nat) (x17_2 : Bool), v17 = .bool x17_2 ∧ Aside0 (impl_PipeFeed.j0 kq a1 x17_2 a0_0 a0_1 = some (r1, r2, r3)) ∧ Aside0 (kq ≤ k) ∧ Aside0 (wc.heap[gb119]? = some (.cells #[.string a0_0, .bool a0_1] 34 (0, 0))) ∧ Aside0 (wc.heap[gb120]? = some (.cells #[.string (⟨#[]⟩ : ByteArray), .bool false] 34 (0, 0))) ∧ Aside0 (Below w.heap.size w wc))
 case first =>
  have H := HC3.out
  clear HC3
  replace H := Option.bind_eq_some_iff.mp H
  obtain ⟨t121, A60, H⟩ := H
  replace H : (if t121 = true then (impl_PipeFeed.j0 k a1 (decide ((a1.size : Int) > 4000)) a0_0 a0_1) else (impl_PipeFeed.j0 k a1 true a0_0 a0_1)) = some (r1, r2, r3) := H
  have A6 := AM A60
  clear A60
  by_cases c7 : t121 = true
  ·subst c7
   have H1 : (impl_PipeFeed.j0 k a1 (decide ((a1.size : Int) > 4000)) a0_0 a0_1) = some (r1, r2, r3) := by rw [if_pos rfl] at H; exact H
   clear H
   have H := H1
   clear H1
   have H' := AM H
   clear H
   have hnb8 := NB119_120.out
   have hnc8 := NB120_119.out
   have hcz9_0 : w5.cell? ⟨gb119, 0, none⟩ = some (.string a0_0) := (kC BK119.out 0).trans rfl
   have hcz9_1 : w5.cell? ⟨gb119, 1, none⟩ = some (.bool a0_1) := (kC BK119.out 1).trans rfl
   have hfz9_0 := blk_frozen BK119.out 0
   have hfz9_1 := blk_frozen BK119.out 1
   go_wp2_with (first | ((with_reducible refine gate_callee (f := 37) rfl ?_); refine goesL_ (some 11) rfl rfl Tryd.func37 (by kernel_rfl) rfl #[.agg #[.string a0_0, .bool a0_1]] rfl (by (try simp only [List.map_toArray, List.map_cons, List.map_nil]); first | done | rfl | (simp only [List.length_drop, List.length_take]; rfl)) ?_; (with_reducible refine (impl_PipeOk.calls k a0_0 a0_1 true _ A6.out).mono ?_); rintro e w10 ⟨rfl, hb⟩; refine ⟨_, rfl, ?_⟩; have n0_ := AM (kB (g := gb119) (o := .cells #[.string a0_0, .bool a0_1] 34 (0, 0)) (by (with_reducible repeat (first | refine kD ?_ _ | refine kE ?_ | refine kA ?_ _)); exact BK119.out) hb); have n1_ := AM (kB (g := gb120) (o := .cells #[.string (⟨#[]⟩ : ByteArray), .bool false] 34 (0, 0)) (by (with_reducible repeat (first | refine kD ?_ _ | refine kE ?_ | refine kA ?_ _)); exact BK120.out) hb); have n2_ := AM (bS (by repeat (first | (with_reducible first | exact HB.out | apply bA | apply bD | apply bE | refine below_set ?_ GE119.out | refine below_set ?_ GE120.out) | exact HB.out)) hb); clear BK119; clear BK120; clear HB; have BK119 := n0_; have BK120 := n1_; have HB := n2_; clear n0_ n1_ n2_; (try clear hb); (try clear hb2); (try clear hk); (try clear hi)))
   go_meet
   case rel => exact ⟨_, (decide ((a1.size : Int) > 4000)), (by first | rfl | (simp; done) | (simp [*]; done)), H', ⟨by first | omega | exact Nat.le_refl _⟩, ⟨by (with_reducible repeat (first | refine kD ?_ _ | refine kE ?_ | refine kA ?_ _)); exact BK119.out⟩, ⟨by (with_reducible repeat (first | refine kD ?_ _ | refine kE ?_ | refine kA ?_ _)); exact BK120.out⟩, ⟨by repeat (first | (with_reducible first | exact HB.out | apply bA | apply bD | apply bE | refine below_set ?_ GE119.out | refine below_set ?_ GE120.out) | exact HB.out)⟩⟩
  ·replace c7 := Bool.eq_false_iff.mpr c7
   subst c7
   have H1 : (impl_PipeFeed.j0 k a1 true a0_0 a0_1) = some (r1, r2, r3) := by rw [if_neg (show ¬ (false = true) by decide)] at H; exact H
   clear H
   have H := H1
   clear H1
   have H' := AM H
   clear H
   have hnb11 := NB119_120.out
   have hnc11 := NB120_119.out
   have hcz12_0 : w5.cell? ⟨gb119, 0, none⟩ = some (.string a0_0) := (kC BK119.out 0).trans rfl
   have hcz12_1 : w5.cell? ⟨gb119, 1, none⟩ = some (.bool a0_1) := (kC BK119.out 1).trans rfl
   have hfz12_0 := blk_frozen BK119.out 0
   have hfz12_1 := blk_frozen BK119.out 1
   go_wp2_with (first | ((with_reducible refine gate_callee (f := 37) rfl ?_); refine goesL_ (some 11) rfl rfl Tryd.func37 (by kernel_rfl) rfl #[.agg #[.string a0_0, .bool a0_1]] rfl (by (try simp only [List.map_toArray, List.map_cons, List.map_nil]); first | done | rfl | (simp only [List.length_drop, List.length_take]; rfl)) ?_; (with_reducible refine (impl_PipeOk.calls k a0_0 a0_1 false _ A6.out).mono ?_); rintro e w13 ⟨rfl, hb⟩; refine ⟨_, rfl, ?_⟩; have n0_ := AM (kB (g := gb119) (o := .cells #[.string a0_0, .bool a0_1] 34 (0, 0)) (by (with_reducible repeat (first | refine kD ?_ _ | refine kE ?_ | refine kA ?_ _)); exact BK119.out) hb); have n1_ := AM (kB (g := gb120) (o := .cells #[.string (⟨#[]⟩ : ByteArray), .bool false] 34 (0, 0)) (by (with_reducible repeat (first | refine kD ?_ _ | refine kE ?_ | refine kA ?_ _)); exact BK120.out) hb); have n2_ := AM (bS (by repeat (first | (with_reducible first | exact HB.out | apply bA | apply bD | apply bE | refine below_set ?_ GE119.out | refine below_set ?_ GE120.out) | exact HB.out)) hb); clear BK119; clear BK120; clear HB; have BK119 := n0_; have BK120 := n1_; have HB := n2_; clear n0_ n1_ n2_; (try clear hb); (try clear hb2); (try clear hk); (try clear hi)))
   go_meet
   case rel => exact ⟨_, (true), (by first | rfl | (simp; done) | (simp [*]; done)), H', ⟨by first | omega | exact Nat.le_refl _⟩, ⟨by (with_reducible repeat (first | refine kD ?_ _ | refine kE ?_ | refine kA ?_ _)); exact BK119.out⟩, ⟨by (with_reducible repeat (first | refine kD ?_ _ | refine kE ?_ | refine kA ?_ _)); exact BK120.out⟩, ⟨by repeat (first | (with_reducible first | exact HB.out | apply bA | apply bD | apply bE | refine below_set ?_ GE119.out | refine below_set ?_ GE120.out) | exact HB.out)⟩⟩
 case rest =>
  clear HC3
  try clear c1
  try clear p2
  try clear c3
  try clear c7
  try clear c8
  try clear c11
  try clear hcz12_0
  try clear hcz12_1
  try clear hcz9_0
  try clear hcz9_1
  try clear hfz12_0
  try clear hfz12_1
  try clear hfz9_0
  try clear hfz9_1
  obtain ⟨kq, x17_2, rfl, HA, HJ2, BK119, BK120, HB⟩ := hcut
  cases kq with
  | zero => exact absurd HA.out (by simp [impl_PipeFeed.j0])
  | succ kj2 =>
   have H := HA.out
   clear HA
   simp only [impl_PipeFeed.j0] at H
   by_cases c14 : x17_2 = true
   ·subst c14
    have H1 : (some ((⟨#[]⟩ : ByteArray), false, ([] : List (List ByteArray)))) = some (r1, r2, r3) := by rw [if_pos rfl] at H; exact H
    clear H
    have H := H1
    clear H1
    simp only [Option.some.injEq, Prod.mk.injEq] at H
    obtain ⟨rfl, rfl, rfl⟩ := H
    have hnb15 := NB120_119.out
    have hnc15 := NB119_120.out
    have hcz16_0 : wc.cell? ⟨gb120, 0, none⟩ = some (.string (⟨#[]⟩ : ByteArray)) := (kC BK120.out 0).trans rfl
    have hcz16_1 : wc.cell? ⟨gb120, 1, none⟩ = some (.bool false) := (kC BK120.out 1).trans rfl
    have hfz16_0 := blk_frozen BK120.out 0
    have hfz16_1 := blk_frozen BK120.out 1
    go_wp2
    refine bodyPost_ret (results_ct rfl _ _ gb120 34 #[.string (⟨#[]⟩ : ByteArray), .bool false] (0, 0) _ rfl (by (with_reducible repeat (first | refine kD ?_ _ | refine kE ?_ | refine kA ?_ _)); refine blk_put (cs := #[.string (⟨#[]⟩ : ByteArray), .bool false]) ?_ 1 _ rfl; (with_reducible repeat (first | refine kD ?_ _ | refine kE ?_ | refine kA ?_ _)); refine blk_put (cs := #[.string (⟨#[]⟩ : ByteArray), .bool false]) ?_ 0 _ rfl; (with_reducible repeat (first | refine kD ?_ _ | refine kE ?_ | refine kA ?_ _)); exact BK120.out) Tryd.underlying34 rfl (by kernel_rfl)) rfl ?_
    exact ⟨_, by first | rfl | (simp [errW_none, errW_some] <;> rfl) | (simp [*, errW_none, errW_some] <;> rfl), by first | exact Kd.S_nil _ _ _ _ _ | exact Kd.N_nil _ _ _ _ _ | exact Kd.V_nil _ _ _ _ _ | exact Kd.Q_nil _ _ _ _ _ | exact Kd.R_nil _ _ _ _ _, by repeat (first | (with_reducible first | exact HB.out | apply bA | apply bD | apply bE | refine below_set ?_ GE119.out | refine below_set ?_ GE120.out) | exact HB.out)⟩
   ·replace c14 := Bool.eq_false_iff.mpr c14
    subst c14
    have H1 : (if a0_1 = true then (some (a0_0, a0_1, ([] : List (List ByteArray)))) else (if a0_0.size + a1.size ≤ 9223372036854775807 then (impl_PipeFeed.l0 kj2 (a0_0 ++ a1) ([] : List (List ByteArray))) else (none))) = some (r1, r2, r3) := by rw [if_neg (show ¬ (false = true) by decide)] at H; exact H
    clear H
    have H := H1
    clear H1
    by_cases c17 : a0_1 = true
    ·subst c17
     have H1 : (some (a0_0, true, ([] : List (List ByteArray)))) = some (r1, r2, r3) := by rw [if_pos rfl] at H; exact H
     clear H
     have H := H1
     clear H1
     simp only [Option.some.injEq, Prod.mk.injEq] at H
     obtain ⟨rfl, rfl, rfl⟩ := H
     have hnb18 := NB119_120.out
     have hnc18 := NB120_119.out
     have hcz19_0 : wc.cell? ⟨gb119, 0, none⟩ = some (.string a0_0) := (kC BK119.out 0).trans rfl
     have hcz19_1 : wc.cell? ⟨gb119, 1, none⟩ = some (.bool true) := (kC BK119.out 1).trans rfl
     have hfz19_0 := blk_frozen BK119.out 0
     have hfz19_1 := blk_frozen BK119.out 1
     have hcz20_0 : wc.cell? ⟨gb120, 0, none⟩ = some (.string (⟨#[]⟩ : ByteArray)) := (kC BK120.out 0).trans rfl
     have hcz20_1 : wc.cell? ⟨gb120, 1, none⟩ = some (.bool false) := (kC BK120.out 1).trans rfl
     have hfz20_0 := blk_frozen BK120.out 0
     have hfz20_1 := blk_frozen BK120.out 1
     go_wp2
     refine bodyPost_ret (results_ct rfl _ _ gb120 34 #[.string a0_0, .bool true] (0, 0) _ rfl (by (with_reducible repeat (first | refine kD ?_ _ | refine kE ?_ | refine kA ?_ _)); refine blk_put (cs := #[.string a0_0, .bool false]) ?_ 1 _ rfl; (with_reducible repeat (first | refine kD ?_ _ | refine kE ?_ | refine kA ?_ _)); refine blk_put (cs := #[.string (⟨#[]⟩ : ByteArray), .bool false]) ?_ 0 _ rfl; (with_reducible repeat (first | refine kD ?_ _ | refine kE ?_ | refine kA ?_ _)); exact BK120.out) Tryd.underlying34 rfl (by kernel_rfl)) rfl ?_
     exact ⟨_, by first | rfl | (simp [errW_none, errW_some] <;> rfl) | (simp [*, errW_none, errW_some] <;> rfl), by first | exact Kd.S_nil _ _ _ _ _ | exact Kd.N_nil _ _ _ _ _ | exact Kd.V_nil _ _ _ _ _ | exact Kd.Q_nil _ _ _ _ _ | exact Kd.R_nil _ _ _ _ _, by repeat (first | (with_reducible first | exact HB.out | apply bA | apply bD | apply bE | refine below_set ?_ GE119.out | refine below_set ?_ GE120.out) | exact HB.out)⟩
    ·replace c17 := Bool.eq_false_iff.mpr c17
     subst c17
     have H1 : (if a0_0.size + a1.size ≤ 9223372036854775807 then (impl_PipeFeed.l0 kj2 (a0_0 ++ a1) ([] : List (List ByteArray))) else (none)) = some (r1, r2, r3) := by rw [if_neg (show ¬ (false = true) by decide)] at H; exact H
     clear H
     have H := H1
     clear H1
     by_cases c21 : a0_0.size + a1.size ≤ 9223372036854775807
     ·rw [if_pos c21] at H
      have c21b0 := eq_true c21
      have c21b1 : decide (a0_0.size + a1.size ≤ 9223372036854775807) = true := decide_eq_true c21
      try have c21b2 : (9223372036854775807 < a0_0.size + a1.size) = False := eq_false (Nat.not_lt.2 c21)
      have H' := AM H
      clear H
      have hnb22 := NB119_120.out
      have hnc22 := NB120_119.out
      have hcz23_0 : wc.cell? ⟨gb119, 0, none⟩ = some (.string a0_0) := (kC BK119.out 0).trans rfl
      have hcz23_1 : wc.cell? ⟨gb119, 1, none⟩ = some (.bool false) := (kC BK119.out 1).trans rfl
      have hfz23_0 := blk_frozen BK119.out 0
      have hfz23_1 := blk_frozen BK119.out 1
      go_wp2
      go_loopg [6, 7] kj2 (fun kq v6 v7 w' => ∃ (x6_2 : ByteArray) (x7_2 : List (List ByteArray)) (x121000_2 : ByteArray) (x121001_2 : Bool), v6 = .string x6_2 ∧ Aside0 (impl_PipeFeed.l0 kq x6_2 x7_2 = some (r1, r2, r3)) ∧ Aside0 (kq ≤ kj2) ∧ Aside0 (Kd.S (Kd.slice 9 Kd.string) 30 w' w.heap.size (fun _ => True) v7 x7_2) ∧ Aside0 (w'.heap[gb119]? = some (.cells #[.string a0_0, .bool false] 34 (0, 0))) ∧ Aside0 (w'.heap[gb120]? = some (.cells #[.string x121000_2, .bool x121001_2] 34 (0, 0))) ∧ Aside0 (Below w.heap.size w w'))
      case atStart => exact ⟨(a0_0 ++ a1), (([] : List (List ByteArray))), ((⟨#[]⟩ : ByteArray)), (false), (by first | rfl | (simp; done) | (simp [*]; done)), H', ⟨Nat.le_refl _⟩, ⟨by first | exact Kd.S_nil _ _ _ _ _ | exact Kd.N_nil _ _ _ _ _ | exact Kd.V_nil _ _ _ _ _ | exact Kd.Q_nil _ _ _ _ _ | exact Kd.R_nil _ _ _ _ _⟩, ⟨by (with_reducible repeat (first | refine kD ?_ _ | refine kE ?_ | refine kA ?_ _)); exact BK119.out⟩, ⟨by (with_reducible repeat (first | refine kD ?_ _ | refine kE ?_ | refine kA ?_ _)); exact BK120.out⟩, ⟨by repeat (first | (with_reducible first | exact HB.out | apply bA | apply bD | apply bE | refine below_set ?_ GE119.out | refine below_set ?_ GE120.out) | exact HB.out)⟩⟩
      case round =>
       clear H'
       try clear c1
       try clear c2
       try clear p2
       try clear c3
       try clear c7
       try clear c8
       try clear c11
       try clear c14
       try clear c15
       try clear c17
       try clear c18
       try clear c19
       try clear c21
       try clear c21b0
       try clear c21b1
       try clear c21b2
       try clear c22
       try clear hcz12_0
       try clear hcz12_1
       try clear hcz16_0
       try clear hcz16_1
       try clear hcz19_0
       try clear hcz19_1
       try clear hcz20_0
       try clear hcz20_1
       try clear hcz23_0
       try clear hcz23_1
       try clear hcz9_0
       try clear hcz9_1
       try clear hfz12_0
       try clear hfz12_1
       try clear hfz16_0
       try clear hfz16_1
       try clear hfz19_0
       try clear hfz19_1
       try clear hfz20_0
       try clear hfz20_1
       try clear hfz23_0
       try clear hfz23_1
       try clear hfz9_0
       try clear hfz9_1
       try clear p2
       obtain ⟨x6_2, x7_2, x121000_2, x121001_2, rfl, HA, HK2, HO_7, BK119, BK120, HB⟩ := hrel
       cases gk with
       | zero => exact absurd HA.out (by simp [impl_PipeFeed.l0])
       | succ k2 =>
        have H := HA.out
        clear HA
        simp only [impl_PipeFeed.l0] at H
        replace H := Option.bind_eq_some_iff.mp H
        obtain ⟨⟨t122, t123⟩, A240, H⟩ := H
        replace H : (if t123 = (-1) then (some ((⟨#[]⟩ : ByteArray), true, x7_2)) else (if t123 = 0 then (some (x6_2, false, x7_2)) else (if x7_2.length < 5864062014805 then (if 0 ≤ t123 then (if t123 ≤ (x6_2.size : Int) then (impl_PipeFeed.l0 k2 (x6_2.extract (t123 : Int).toNat x6_2.size) (x7_2 ++ [t122])) else (none)) else (none)) else (none)))) = some (r1, r2, r3) := H
        have A24 := AM A240
        clear A240
        by_cases c25 : t123 = (-1)
        ·rw [if_pos c25] at H
         have c25b0 : (t123 == (-1)) = true := beq_iff_eq.mpr c25
         have c25b1 : (t123 != (-1)) = false := bne_eq_false_iff_eq.mpr c25
         clear c25
         simp only [Option.some.injEq, Prod.mk.injEq] at H
         obtain ⟨rfl, rfl, rfl⟩ := H
         go_wp2_with (first | ((with_reducible refine gate_callee (f := 71) rfl ?_); refine goesL_ (some 28) rfl rfl Tryd.func71 (by kernel_rfl) rfl #[.string x6_2] rfl (by (try simp only [List.map_toArray, List.map_cons, List.map_nil]); first | done | rfl | (simp only [List.length_drop, List.length_take]; rfl)) ?_; (with_reducible refine (impl_FrameGet.calls k2 x6_2 t122 t123 _ A24.out).mono ?_); rintro e w26 ⟨v124, rfl, ho0, hb⟩; refine ⟨_, rfl, ?_⟩; have n0_ := AM (Kd.S_elder' (by (with_reducible repeat (first | apply sA | apply sD | apply sE)); exact HO_7.out) (Kd.R_base ho0) hb); have n1_ := AM (Kd.R_lower ho0 (bZ (by repeat (first | (with_reducible first | exact HB.out | apply bA | apply bD | apply bE | refine below_set ?_ GE119.out | refine below_set ?_ GE120.out) | exact HB.out)))); have n2_ := AM (kB (g := gb119) (o := .cells #[.string a0_0, .bool false] 34 (0, 0)) (by (with_reducible repeat (first | refine kD ?_ _ | refine kE ?_ | refine kA ?_ _)); exact BK119.out) hb); have n3_ := AM (kB (g := gb120) (o := .cells #[.string x121000_2, .bool x121001_2] 34 (0, 0)) (by (with_reducible repeat (first | refine kD ?_ _ | refine kE ?_ | refine kA ?_ _)); exact BK120.out) hb); have n4_ := AM (bS (by repeat (first | (with_reducible first | exact HB.out | apply bA | apply bD | apply bE | refine below_set ?_ GE119.out | refine below_set ?_ GE120.out) | exact HB.out)) hb); clear HO_7; clear BK119; clear BK120; clear HB; have HO_7 := n0_; have HO125 := n1_; have BK119 := n2_; have BK120 := n3_; have HB := n4_; clear n0_ n1_ n2_ n3_ n4_; (try clear hb); (try clear hb2); (try clear hk); (try clear hi); (try clear ho0); have hnb27 := NB120_119.out; have hnc27 := NB119_120.out; have hcz28_0 : w26.cell? ⟨gb120, 0, none⟩ = some (.string x121000_2) := (kC BK120.out 0).trans rfl; have hcz28_1 : w26.cell? ⟨gb120, 1, none⟩ = some (.bool x121001_2) := (kC BK120.out 1).trans rfl; have hfz28_0 := blk_frozen BK120.out 0; have hfz28_1 := blk_frozen BK120.out 1))
         refine bodyPost_ret (results_ct rfl _ _ gb120 34 #[.string (⟨#[]⟩ : ByteArray), .bool true] (0, 0) _ rfl (by (with_reducible repeat (first | refine kD ?_ _ | refine kE ?_ | refine kA ?_ _)); refine blk_put (cs := #[.string (⟨#[]⟩ : ByteArray), .bool x121001_2]) ?_ 1 _ rfl; (with_reducible repeat (first | refine kD ?_ _ | refine kE ?_ | refine kA ?_ _)); refine blk_put (cs := #[.string x121000_2, .bool x121001_2]) ?_ 0 _ rfl; (with_reducible repeat (first | refine kD ?_ _ | refine kE ?_ | refine kA ?_ _)); exact BK120.out) Tryd.underlying34 rfl (by kernel_rfl)) rfl ?_
         exact ⟨_, by first | rfl | (simp [errW_none, errW_some] <;> rfl) | (simp [*, errW_none, errW_some] <;> rfl), by (with_reducible repeat (first | apply sA | apply sD | apply sE)); exact sM (Kd.S_far (p := ⟨gb120, 1, none⟩) (Kd.S_far (p := ⟨gb120, 0, none⟩) (Kd.S_types HO_7.out BK120.out (by decide)) (fun _ hk => hk.2) (.string (⟨#[]⟩ : ByteArray))) (fun _ hk => hk.2) (.bool true)) (fun _ hk => trivial), by repeat (first | (with_reducible first | exact HB.out | apply bA | apply bD | apply bE | refine below_set ?_ GE119.out | refine below_set ?_ GE120.out) | exact HB.out)⟩
        ·rw [if_neg c25] at H
         have c25b0 : (t123 == (-1)) = false := beq_eq_false_iff_ne.mpr c25
         have c25b1 : (t123 != (-1)) = true := bne_iff_ne.mpr c25
         by_cases c29 : t123 = 0
         ·rw [if_pos c29] at H
          have c29b0 : (t123 == 0) = true := beq_iff_eq.mpr c29
          have c29b1 : (t123 != 0) = false := bne_eq_false_iff_eq.mpr c29
          clear c29
          simp only [Option.some.injEq, Prod.mk.injEq] at H
          obtain ⟨rfl, rfl, rfl⟩ := H
          go_wp2_with (first | ((with_reducible refine gate_callee (f := 71) rfl ?_); refine goesL_ (some 28) rfl rfl Tryd.func71 (by kernel_rfl) rfl #[.string x6_2] rfl (by (try simp only [List.map_toArray, List.map_cons, List.map_nil]); first | done | rfl | (simp only [List.length_drop, List.length_take]; rfl)) ?_; (with_reducible refine (impl_FrameGet.calls k2 x6_2 t122 t123 _ A24.out).mono ?_); rintro e w30 ⟨v124, rfl, ho0, hb⟩; refine ⟨_, rfl, ?_⟩; have n0_ := AM (Kd.S_elder' (by (with_reducible repeat (first | apply sA | apply sD | apply sE)); exact HO_7.out) (Kd.R_base ho0) hb); have n1_ := AM (Kd.R_lower ho0 (bZ (by repeat (first | (with_reducible first | exact HB.out | apply bA | apply bD | apply bE | refine below_set ?_ GE119.out | refine below_set ?_ GE120.out) | exact HB.out)))); have n2_ := AM (kB (g := gb119) (o := .cells #[.string a0_0, .bool false] 34 (0, 0)) (by (with_reducible repeat (first | refine kD ?_ _ | refine kE ?_ | refine kA ?_ _)); exact BK119.out) hb); have n3_ := AM (kB (g := gb120) (o := .cells #[.string x121000_2, .bool x121001_2] 34 (0, 0)) (by (with_reducible repeat (first | refine kD ?_ _ | refine kE ?_ | refine kA ?_ _)); exact BK120.out) hb); have n4_ := AM (bS (by repeat (first | (with_reducible first | exact HB.out | apply bA | apply bD | apply bE | refine below_set ?_ GE119.out | refine below_set ?_ GE120.out) | exact HB.out)) hb); clear HO_7; clear BK119; clear BK120; clear HB; have HO_7 := n0_; have HO125 := n1_; have BK119 := n2_; have BK120 := n3_; have HB := n4_; clear n0_ n1_ n2_ n3_ n4_; (try clear hb); (try clear hb2); (try clear hk); (try clear hi); (try clear ho0); have hnb31 := NB120_119.out; have hnc31 := NB119_120.out; have hcz32_0 : w30.cell? ⟨gb120, 0, none⟩ = some (.string x121000_2) := (kC BK120.out 0).trans rfl; have hcz32_1 : w30.cell? ⟨gb120, 1, none⟩ = some (.bool x121001_2) := (kC BK120.out 1).trans rfl; have hfz32_0 := blk_frozen BK120.out 0; have hfz32_1 := blk_frozen BK120.out 1))
          refine bodyPost_ret (results_ct rfl _ _ gb120 34 #[.string x6_2, .bool false] (0, 0) _ rfl (by (with_reducible repeat (first | refine kD ?_ _ | refine kE ?_ | refine kA ?_ _)); refine blk_put (cs := #[.string x6_2, .bool x121001_2]) ?_ 1 _ rfl; (with_reducible repeat (first | refine kD ?_ _ | refine kE ?_ | refine kA ?_ _)); refine blk_put (cs := #[.string x121000_2, .bool x121001_2]) ?_ 0 _ rfl; (with_reducible repeat (first | refine kD ?_ _ | refine kE ?_ | refine kA ?_ _)); exact BK120.out) Tryd.underlying34 rfl (by kernel_rfl)) rfl ?_
          exact ⟨_, by first | rfl | (simp [errW_none, errW_some] <;> rfl) | (simp [*, errW_none, errW_some] <;> rfl), by (with_reducible repeat (first | apply sA | apply sD | apply sE)); exact sM (Kd.S_far (p := ⟨gb120, 1, none⟩) (Kd.S_far (p := ⟨gb120, 0, none⟩) (Kd.S_types HO_7.out BK120.out (by decide)) (fun _ hk => hk.2) (.string x6_2)) (fun _ hk => hk.2) (.bool false)) (fun _ hk => trivial), by repeat (first | (with_reducible first | exact HB.out | apply bA | apply bD | apply bE | refine below_set ?_ GE119.out | refine below_set ?_ GE120.out) | exact HB.out)⟩
         ·rw [if_neg c29] at H
          have c29b0 : (t123 == 0) = false := beq_eq_false_iff_ne.mpr c29
          have c29b1 : (t123 != 0) = true := bne_iff_ne.mpr c29
          by_cases c33 : x7_2.length < 5864062014805
          ·rw [if_pos c33] at H
           have LMc33 := AM c33
           clear c33
           obtain ⟨y126, hy126⟩ : ∃ y_ : List (List ByteArray), y_ = (x7_2 ++ [t122]) := ⟨_, rfl⟩
           replace H : (if 0 ≤ t123 then (if t123 ≤ (x6_2.size : Int) then (impl_PipeFeed.l0 k2 (x6_2.extract (t123 : Int).toNat x6_2.size) y126) else (none)) else (none)) = some (r1, r2, r3) := by first | (rw [hy126]; with_reducible exact H) | (have H2_ := (Option.bind_some _ _).symm.trans H; rw [hy126]; with_reducible exact H2_) | (have H2_ := (Option.bind_some _ _).symm.trans H; with_reducible exact H2_) | with_reducible exact H | (rw [hy126]; exact H) | exact H
           have Ny126 := AM hy126
           clear hy126
           by_cases c34 : 0 ≤ t123
           ·rw [if_pos c34] at H
            have c34b0 := eq_true c34
            have c34b1 : decide (0 ≤ t123) = true := decide_eq_true c34
            clear c34
            by_cases c35 : t123 ≤ (x6_2.size : Int)
            ·rw [if_pos c35] at H
             have c35b0 := eq_true c35
             have c35b1 : decide (t123 ≤ (x6_2.size : Int)) = true := decide_eq_true c35
             clear c35
             have H' := AM H
             clear H
             go_wp2_with (first | ((with_reducible refine gate_callee (f := 71) rfl ?_); refine goesL_ (some 28) rfl rfl Tryd.func71 (by kernel_rfl) rfl #[.string x6_2] rfl (by (try simp only [List.map_toArray, List.map_cons, List.map_nil]); first | done | rfl | (simp only [List.length_drop, List.length_take]; rfl)) ?_; (with_reducible refine (impl_FrameGet.calls k2 x6_2 t122 t123 _ A24.out).mono ?_); rintro e w36 ⟨v124, rfl, ho0, hb⟩; refine ⟨_, rfl, ?_⟩; have n0_ := AM (Kd.S_elder' (by (with_reducible repeat (first | apply sA | apply sD | apply sE)); exact HO_7.out) (Kd.R_base ho0) hb); have n1_ := AM (Kd.R_lower ho0 (bZ (by repeat (first | (with_reducible first | exact HB.out | apply bA | apply bD | apply bE | refine below_set ?_ GE119.out | refine below_set ?_ GE120.out) | exact HB.out)))); have n2_ := AM (kB (g := gb119) (o := .cells #[.string a0_0, .bool false] 34 (0, 0)) (by (with_reducible repeat (first | refine kD ?_ _ | refine kE ?_ | refine kA ?_ _)); exact BK119.out) hb); have n3_ := AM (kB (g := gb120) (o := .cells #[.string x121000_2, .bool x121001_2] 34 (0, 0)) (by (with_reducible repeat (first | refine kD ?_ _ | refine kE ?_ | refine kA ?_ _)); exact BK120.out) hb); have n4_ := AM (bS (by repeat (first | (with_reducible first | exact HB.out | apply bA | apply bD | apply bE | refine below_set ?_ GE119.out | refine below_set ?_ GE120.out) | exact HB.out)) hb); clear HO_7; clear BK119; clear BK120; clear HB; have HO_7 := n0_; have HO125 := n1_; have BK119 := n2_; have BK120 := n3_; have HB := n4_; clear n0_ n1_ n2_ n3_ n4_; (try clear hb); (try clear hb2); (try clear hk); (try clear hi); (try clear ho0); obtain ⟨Ao38, co38, eo38⟩ := Kd.R_slice HO125.out; subst eo38) | ((with_reducible refine gate_builtin (b := .append) (xs := #[.tmp 41, .tmp 43]) rfl ?_); (try (refine gate_guard (by rfl) ?_; dsimp only)); at_builtin; refine Kd.S_append (Kd.slice 9 Kd.string) (w0 := w) w.heap.size rfl (.tmp 41) (.tmp 43) 35 30 (.slice none 0 0) 24 rfl Tryd.underlying35 info30 rfl (by decide) (by omega) u7 x7_2 t122 [.slice Ao38 t122.length co38] (fun _ => True) (fun k_ => some k_ = (.slice Ao38 t122.length co38 : Value).ownBlock) rfl rfl ?aP (fun k_ hk_ => ((rM (ok' := fun k_ => ((fun _ => True)) k_ ∧ some k_ ≠ (u7 : Value).ownBlock) (Kd.R_apart' (HO125.out) (Kd.S_typed HO_7.out) (by decide)) (fun k_ hk => ⟨trivial, hk.2⟩))).1 k_ hk_.symm) ?aF ?aO ?aB ?aS ?aL ?_; (case aP => exact Kd.M_row (rM (Kd.R_tight rfl (rM (ok' := fun k_ => ((fun _ => True)) k_ ∧ some k_ ≠ (u7 : Value).ownBlock) (Kd.R_apart' (HO125.out) (Kd.S_typed HO_7.out) (by decide)) (fun k_ hk => ⟨trivial, hk.2⟩))) (fun _ h_ => h_))); (case aB => exact (by repeat (first | (with_reducible first | exact HB.out | apply bA | apply bD | apply bE | refine below_set ?_ GE119.out | refine below_set ?_ GE120.out) | exact HB.out))); (case aF => exact (fun _ _ => trivial)); (case aO => exact (by (with_reducible repeat (first | apply sA | apply sD | apply sE)); exact sM HO_7.out (fun k_ hk => ⟨trivial, fun e_ => hk.2 e_⟩))); (case aS => exact (bZ (by repeat (first | (with_reducible first | exact HB.out | apply bA | apply bD | apply bE | refine below_set ?_ GE119.out | refine below_set ?_ GE120.out) | exact HB.out)))); (case aL => have := LMc33.out; omega); intro v127 w37 ho hb hg hat; rw [← Ny126.out] at ho; have n0_ := AM (blk_grown (g := gb119) (o := .cells #[.string a0_0, .bool false] 34 (0, 0)) (by (with_reducible repeat (first | refine kD ?_ _ | refine kE ?_ | refine kA ?_ _)); exact BK119.out) hg (Kd.S_ne HO_7.out BK119.out (by decide))); have n1_ := AM (blk_grown (g := gb120) (o := .cells #[.string x121000_2, .bool x121001_2] 34 (0, 0)) (by (with_reducible repeat (first | refine kD ?_ _ | refine kE ?_ | refine kA ?_ _)); exact BK120.out) hg (Kd.S_ne HO_7.out BK120.out (by decide))); have n2_ := AM (hb); have n3_ := AM (ho); clear BK119; clear BK120; clear HB; clear HO_7; clear HO125; have BK119 := n0_; have BK120 := n1_; have HB := n2_; have HO128 := n3_; clear n0_ n1_ n2_ n3_; clear ho hb hg hat))
             go_roundg k2
             case measure => have := HJ2.out; have := HK2.out; omega
             case rel => exact ⟨(x6_2.extract (t123 : Int).toNat x6_2.size), (y126), (x121000_2), (x121001_2), (by first | rfl | (simp; done) | (simp [*]; done)), H', ⟨by have := HJ2.out; have := HK2.out; omega⟩, ⟨by (with_reducible repeat (first | apply sA | apply sD | apply sE)); exact HO128.out⟩, ⟨by (with_reducible repeat (first | refine kD ?_ _ | refine kE ?_ | refine kA ?_ _)); exact BK119.out⟩, ⟨by (with_reducible repeat (first | refine kD ?_ _ | refine kE ?_ | refine kA ?_ _)); exact BK120.out⟩, ⟨by repeat (first | (with_reducible first | exact HB.out | apply bA | apply bD | apply bE | refine below_set ?_ GE119.out | refine below_set ?_ GE120.out) | exact HB.out)⟩⟩
            ·rw [if_neg c35] at H
             exact absurd H (by simp)
           ·rw [if_neg c34] at H
            exact absurd H (by simp)
          ·rw [if_neg c33] at H
           exact absurd H (by simp)
     ·rw [if_neg c21] at H
      exact absurd H (by simp)

end Go.Proofs.YtfkjjmhbljlbkaaDoor.P
