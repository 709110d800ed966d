/- Part of the proof of a statement about the given program: Y14I. No condition of its own. -/
import Derived.Test.YthlmbapkgblnkaaDoorY13I
namespace Go.Ev.Tryd
open Go.Proofs
set_option maxRecDepth 10000
set_option linter.unusedSimpArgs false
set_option linter.unusedVariables false
attribute [local congr] comes_congr bB_congr gK_congr gdK_congr

set_option maxHeartbeats 8000000 in
theorem measured_eq : ∀ (n : Nod), n.Sane → szN n ≤ 1048576 → ∀ left : Int, -10 ≤ left → left ≤ 100 → fnA CC PR 60 [n.av, .int .i64 left] = some (measA (meas n left)) := by
  intro n
  induction n using Nod.ind with
  | h k d p s c i ih1 ih2 =>
  intro hd hz left hl1 hl2
  have hsh := shaped_eq _ hd
  cases hd with
  | mk _ _ _ _ _ _ hk hs hc hd hp hi h1 h2 =>
  rw [szN_mk] at hz
  have hzp : ∀ x ∈ p, szN x ≤ 1048576 := fun x hx => by have := szNL_mem hx; omega
  have hzi : ∀ x ∈ i, szN x ≤ 1048576 := fun x hx => by have := szNL_mem hx; omega
  have hdp : (p.map ndep).foldr max 0 ≤ 1048577 := foldr_dep p _ fun x hx => by have := hzp x hx; have := ndep_le x; omega
  have hdi : (i.map ndep).foldr max 0 ≤ 1048577 := foldr_dep i _ fun x hx => by have := hzi x hx; have := ndep_le x; omega
  rw [meas_mk]
  rw [Nod.av_mk] at hsh ⊢
  have hW0 := ownW_mk k d p s c i
  generalize nshape (.mk k d p s c i) = sh at *
  generalize ownW (.mk k d p s c i) = W at *
  by_cases hcond : sh = true ∧ 0 ≤ left
  case neg =>
    rw [if_neg hcond]
    apply comes_eq.1
    refine fnA_wp (rs := [.tmp 4, .tmp 5, .tmp 6]) Tryd.func60 rfl rfl (Nat.le_of_ble_eq_true rfl) rfl ?_
    cases sh
    · simp +decide only [go_sem, Nat.reduceAdd, Nat.reduceMul, Nat.reduceSub, Nat.reduceLT, Nat.reduceLeDiff, Nat.reduceEqDiff, Nat.add_assoc, Int.reduceAdd, Int.reduceSub, Int.reduceMul, Int.reduceLT, Int.reduceLE, Int.reduceEq, Int.reduceNeg, strOp_add, hsh]
      rfl
    · have l0 : (left < 0) = True := eq_true (by have : ¬ 0 ≤ left := fun h => hcond ⟨rfl, h⟩; omega)
      simp +decide only [go_sem, Nat.reduceAdd, Nat.reduceMul, Nat.reduceSub, Nat.reduceLT, Nat.reduceLeDiff, Nat.reduceEqDiff, Nat.add_assoc, Int.reduceAdd, Int.reduceSub, Int.reduceMul, Int.reduceLT, Int.reduceLE, Int.reduceEq, Int.reduceNeg, strOp_add, hsh, l0]
      rfl
  rw [if_pos hcond]
  obtain ⟨rfl, hl0⟩ := hcond
  have l0 : (left < 0) = False := eq_false (by omega)
  by_cases hk0 : k = 0
  · rw [if_pos hk0]
    subst hk0
    apply comes_eq.1
    refine fnA_wp (rs := [.tmp 4, .tmp 5, .tmp 6]) Tryd.func60 rfl rfl (Nat.le_of_ble_eq_true rfl) rfl ?_
    simp +decide only [go_sem, Nat.reduceAdd, Nat.reduceMul, Nat.reduceSub, Nat.reduceLT, Nat.reduceLeDiff, Nat.reduceEqDiff, Nat.add_assoc, Int.reduceAdd, Int.reduceSub, Int.reduceMul, Int.reduceLT, Int.reduceLE, Int.reduceEq, Int.reduceNeg, strOp_add, hsh, l0]
    rfl
  rw [if_neg hk0]
  have hWl : W ≤ d.size + p.length + 2 := by
    rw [hW0]
    by_cases h7 : s = 7
    · rw [if_pos h7]; omega
    · rw [if_neg h7]; omega
  have q1 : IntKind.wrap .i64 ((d.size : Int) + 8) = ((d.size + 8 : Nat) : Int) := by rw [wrap_id (by omega) (by omega)]; omega
  have q2 : IntKind.wrap .i64 (((d.size + 8 : Nat) : Int) - 1) = ((d.size + 7 : Nat) : Int) := by rw [wrap_id (by omega) (by omega)]; omega
  have q3 : (((d.size + 7 : Nat) : Int).tdiv 8) = (((d.size + 7) / 8 : Nat) : Int) := rfl
  have q4 : IntKind.wrap .i64 (((d.size + 7) / 8 : Nat) : Int) = (((d.size + 7) / 8 : Nat) : Int) := wrap_id (by omega) (by omega)
  have q5 : IntKind.wrap .i64 ((((d.size + 7) / 8 : Nat) : Int) + (p.length : Int)) = (((d.size + 7) / 8 + p.length : Nat) : Int) := by rw [wrap_id (by omega) (by omega)]; omega
  have q6 : IntKind.wrap .i64 ((((d.size + 7) / 8 + p.length : Nat) : Int) + 1) = (((d.size + 7) / 8 + p.length + 1 : Nat) : Int) := by rw [wrap_id (by omega) (by omega)]; omega
  have q7 : IntKind.wrap .i64 (left - 1) = left - 1 := wrap_id (by omega) (by omega)
  have hcase : ∃ a0 a1 : Nat, a0 = (d.size + 7) / 8 + p.length ∧ a1 = a0 + 1 ∧ (((s = 7) = True ∧ W = a1) ∨ ((s = 7) = False ∧ W = a0)) := by
    refine ⟨_, _, rfl, rfl, ?_⟩
    by_cases h7 : s = 7
    · rw [if_pos h7] at hW0
      exact .inl ⟨eq_true h7, hW0⟩
    · rw [if_neg h7] at hW0
      exact .inr ⟨eq_false h7, hW0⟩
  obtain ⟨w0, w1, hw0, hw1, hcase⟩ := hcase
  rw [← hw0] at q5 q6
  rw [← hw1] at q6
  generalize (d.size + 7) / 8 = dw at *
  generalize d.size + 8 = d8 at *
  generalize d.size + 7 = d7 at *
  clear hW0 hw0 hw1
  apply comes_eq.1
  refine fnA_wp (rs := [.tmp 4, .tmp 5, .tmp 6]) Tryd.func60 rfl rfl (Nat.le_of_ble_eq_true rfl) rfl ?_
  rcases hcase with ⟨h7, hWx⟩ | ⟨h7, hWx⟩
  all_goals
    simp +decide only [go_sem, Nat.reduceAdd, Nat.reduceMul, Nat.reduceSub, Nat.reduceLT, Nat.reduceLeDiff, Nat.reduceEqDiff, Nat.add_assoc, Int.reduceAdd, Int.reduceSub, Int.reduceMul, Int.reduceLT, Int.reduceLE, Int.reduceEq, Int.reduceNeg, strOp_add, hsh, l0, hk0, h7, q1, q2, q3, q4, q5, q6, List.length_map]
    refine comes_upto p.length (fun j st => st.env 1 = .int .i64 left ∧ st.env 2 = .ptr 0 0 0 ∧ st.env 43 = .slice 6 (p.map Nod.av) ∧ st.env 44 = .int .i64 p.length ∧ st.env 45 = .int .i64 j ∧ 1 ≤ st.nid ∧ st.sto 0 = ⟨[.int .i64 k, .str d, .slice 6 (p.map Nod.av), .int .i64 s, .int .i64 c, .slice 6 (i.map Nod.av)], 0, false, none⟩ ∧ ∃ b : Int × Nat, measP (p.take j) (left - 1) (0, W) = some b ∧ st.env 4 = .int .i64 b.1 ∧ st.env 5 = .int .i64 (b.2 : Int)) ?_ ?_ _ ?_
    · rintro j st hj ⟨e1, e2, e43, e44, e45, en, s0, b, hb, e4, e5⟩
      have hq := ih1 _ (List.getElem_mem hj) (h1 _ (List.getElem_mem hj)) (hzp _ (List.getElem_mem hj)) (left - 1) (by omega) (by omega)
      have ha := nav_at hj
      have w1 : IntKind.wrap .i64 ((j : Int) + 1) = ((j + 1 : Nat) : Int) := wrap_succ (by omega)
      have htk := measP_take p (left - 1) (0, W) j hj
      rw [hb] at htk
      simp only [Option.bind_some] at htk
      rw [nav_eta] at ha hq
      cases hm : meas p[j] (left - 1) with
      | none =>
        rw [hm] at htk hq
        have hno := measP_stop p (left - 1) (0, W) (j + 1) htk
        rw [hno]
        simp only [measA] at hq ⊢
        simp +decide (disch := first | decide | omega) only [go_sem, Nat.reduceAdd, Nat.reduceMul, Nat.reduceSub, Nat.reduceLT, Nat.reduceLeDiff, Nat.reduceEqDiff, Nat.add_assoc, Int.reduceAdd, Int.reduceSub, Int.reduceMul, Int.reduceLT, Int.reduceLE, Int.reduceEq, Int.reduceNeg, strOp_add, e1, e2, e4, e5, e43, e44, e45, s0, hj, ha, hq, w1, q7, List.length_map]
      | some e =>
        rw [hm] at htk hq
        simp only [Option.map_some] at htk
        have hble := measP_le _ _ _ _ htk
        have hzt := szNL_le p (j + 1)
        have hln : (p.take (j + 1)).length ≤ p.length := by rw [List.length_take]; omega
        have hb0 := measP_le _ _ _ _ hb
        simp only at hble hb0
        have w2 : IntKind.wrap .i64 ((b.2 : Int) + (e.2 : Int)) = ((b.2 + e.2 : Nat) : Int) := by rw [wrap_id (by omega) (by omega)]; omega
        simp only [measA] at hq
        simp +decide (disch := first | decide | omega) only [go_sem, Nat.reduceAdd, Nat.reduceMul, Nat.reduceSub, Nat.reduceLT, Nat.reduceLeDiff, Nat.reduceEqDiff, Nat.add_assoc, Int.reduceAdd, Int.reduceSub, Int.reduceMul, Int.reduceLT, Int.reduceLE, Int.reduceEq, Int.reduceNeg, strOp_add, e1, e2, e4, e5, e43, e44, e45, s0, hj, ha, hq, w1, w2, q7, List.length_map]
        refine ⟨_, htk, ?_, rfl⟩
        exact congrArg (AV.int .i64) (by rw [Int.max_def]; split <;> split <;> omega)
    · rintro st ⟨e1, e2, e43, e44, e45, en, s0, b, hb, e4, e5⟩
      rw [List.take_length] at hb
      rw [hb]
      have hb0 := measP_le _ _ _ _ hb
      simp only at hb0
      simp +decide (disch := first | decide | omega) only [go_sem, Nat.reduceAdd, Nat.reduceMul, Nat.reduceSub, Nat.reduceLT, Nat.reduceLeDiff, Nat.reduceEqDiff, Nat.add_assoc, Int.reduceAdd, Int.reduceSub, Int.reduceMul, Int.reduceLT, Int.reduceLE, Int.reduceEq, Int.reduceNeg, strOp_add, e1, e2, e4, e5, e43, e44, e45, s0, List.length_map]
      refine comes_upto i.length (fun j st2 => st2.env 1 = .int .i64 left ∧ st2.env 2 = .ptr 0 0 0 ∧ st2.env 67 = .slice 6 (i.map Nod.av) ∧ st2.env 68 = .int .i64 i.length ∧ st2.env 69 = .int .i64 j ∧ 1 ≤ st2.nid ∧ st2.sto 0 = ⟨[.int .i64 k, .str d, .slice 6 (p.map Nod.av), .int .i64 s, .int .i64 c, .slice 6 (i.map Nod.av)], 0, false, none⟩ ∧ ∃ e : Int × Nat, measI (i.take j) left b = some e ∧ st2.env 4 = .int .i64 e.1 ∧ st2.env 5 = .int .i64 (e.2 : Int)) ?_ ?_ _ ?_
      · rintro j st2 hj ⟨e1, e2, e43, e44, e45, en, s0, f, hf, e4, e5⟩
        have hq := ih2 _ (List.getElem_mem hj) (h2 _ (List.getElem_mem hj)) (hzi _ (List.getElem_mem hj)) left (by omega) (by omega)
        have ha := nav_at hj
        have w1 : IntKind.wrap .i64 ((j : Int) + 1) = ((j + 1 : Nat) : Int) := wrap_succ (by omega)
        have htk := measI_take i left b j hj
        rw [hf] at htk
        simp only [Option.bind_some] at htk
        have hzx := hzi _ (List.getElem_mem hj)
        have hdx := ndep_le i[j]
        rw [nav_eta] at ha hq
        cases hm : meas i[j] left with
        | none =>
          rw [hm] at htk hq
          have hno := measI_stop i left b (j + 1) htk
          rw [hno]
          simp only [measA] at hq ⊢
          simp +decide (disch := first | decide | omega) only [go_sem, Nat.reduceAdd, Nat.reduceMul, Nat.reduceSub, Nat.reduceLT, Nat.reduceLeDiff, Nat.reduceEqDiff, Nat.add_assoc, Int.reduceAdd, Int.reduceSub, Int.reduceMul, Int.reduceLT, Int.reduceLE, Int.reduceEq, Int.reduceNeg, strOp_add, e1, e2, e4, e5, e43, e44, e45, s0, hj, ha, hq, w1, List.length_map]
        | some e =>
          rw [hm] at htk hq
          simp only [Option.map_some] at htk
          have hme := meas_le i[j] left e.1 e.2 hm
          have hble := measI_le _ _ _ _ htk
          have hzt := szNL_le i (j + 1)
          have hln : (i.take (j + 1)).length ≤ i.length := by rw [List.length_take]; omega
          have hf0 := measI_le _ _ _ _ hf
          simp only at hble hf0
          have w2 : IntKind.wrap .i64 ((f.2 : Int) + (e.2 : Int)) = ((f.2 + e.2 : Nat) : Int) := by rw [wrap_id (by omega) (by omega)]; omega
          have w3 : IntKind.wrap .i64 (e.1 - 1) = e.1 - 1 := wrap_id (by omega) (by omega)
          simp only [measA] at hq
          simp +decide (disch := first | decide | omega) only [go_sem, Nat.reduceAdd, Nat.reduceMul, Nat.reduceSub, Nat.reduceLT, Nat.reduceLeDiff, Nat.reduceEqDiff, Nat.add_assoc, Int.reduceAdd, Int.reduceSub, Int.reduceMul, Int.reduceLT, Int.reduceLE, Int.reduceEq, Int.reduceNeg, strOp_add, e1, e2, e4, e5, e43, e44, e45, s0, hj, ha, hq, w1, w2, w3, List.length_map]
          refine ⟨_, htk, ?_, rfl⟩
          exact congrArg (AV.int .i64) (by rw [Int.max_def]; split <;> split <;> omega)
      · rintro st2 ⟨e1, e2, e43, e44, e45, en, s0, f, hf, e4, e5⟩
        rw [List.take_length] at hf
        rw [hf]
        have hf0 := measI_le _ _ _ _ hf
        have w4 : IntKind.wrap .i64 (f.1 + 1) = f.1 + 1 := wrap_id (by omega) (by omega)
        simp +decide (disch := first | decide | omega) only [go_sem, Nat.reduceAdd, Nat.reduceMul, Nat.reduceSub, Nat.reduceLT, Nat.reduceLeDiff, Nat.reduceEqDiff, Nat.add_assoc, Int.reduceAdd, Int.reduceSub, Int.reduceMul, Int.reduceLT, Int.reduceLE, Int.reduceEq, Int.reduceNeg, strOp_add, e1, e2, e4, e5, e43, e44, e45, s0, w4, List.length_map]
        rfl
      · simp +decide (disch := first | decide | omega) only [go_sem, Nat.reduceAdd, Nat.reduceMul, Nat.reduceSub, Nat.reduceLT, Nat.reduceLeDiff, Nat.reduceEqDiff, Nat.add_assoc, Int.reduceAdd, Int.reduceSub, Int.reduceMul, Int.reduceLT, Int.reduceLE, Int.reduceEq, Int.reduceNeg, strOp_add]
        exact ⟨e1, e2, rfl, en, s0, b, by first | (rw [measI_nil]; done) | rw [List.take_zero, measI_nil], e4, e5⟩
    · simp +decide (disch := first | decide | omega) only [go_sem, Nat.reduceAdd, Nat.reduceMul, Nat.reduceSub, Nat.reduceLT, Nat.reduceLeDiff, Nat.reduceEqDiff, Nat.add_assoc, Int.reduceAdd, Int.reduceSub, Int.reduceMul, Int.reduceLT, Int.reduceLE, Int.reduceEq, Int.reduceNeg, strOp_add]
      exact ⟨rfl, _, by rw [measP_nil], rfl, by rw [hWx]⟩
end Go.Ev.Tryd
