/- Part of the proof of a statement about the given program: A3D. No condition of its own. -/
import Derived.Test.YtjegppoenhfjlaaDoorA2D
import Derived.Test.YtjegppoenhfjlaaDoorJD
namespace Go.Ev.Tryd
open Go.Proofs
set_option maxRecDepth 10000
set_option linter.unusedSimpArgs false
set_option linter.unusedVariables false
attribute [local congr] comes_congr bB_congr gK_congr gdK_congr

/-- An access as its line. -/
def accText (x0 : ByteArray) (x1 x2 x3 x4 x5 x6 : Int) : ByteArray :=
  let out := x0 ++ ⟨#[32, 105, 115, 32]⟩
  let out := if x1 = 1 then out ++ ⟨#[98, 105, 116, 32]⟩ ++ dec x2 ++ ⟨#[32, 116, 117, 114, 110, 101, 100, 32]⟩ ++ dec x4
    else if x1 = 2 then out ++ ⟨#[98, 121, 116, 101, 115, 32]⟩ ++ dec x2 ++ ⟨#[32, 115, 105, 122, 101, 32]⟩ ++ dec x3 ++ ⟨#[32, 116, 117, 114, 110, 101, 100, 32]⟩ ++ dec x4
    else out ++ ⟨#[112, 111, 105, 110, 116, 101, 114, 32]⟩ ++ dec x2
  if 0 ≤ x5 then out ++ ⟨#[32, 105, 102, 32]⟩ ++ dec x5 ++ ⟨#[32, 116, 101, 108, 108, 115, 32]⟩ ++ dec x6 else out
theorem l12Text_eq (x0 : ByteArray) (x1 x2 x3 x4 x5 x6 : Int) (h0 : x0.size ≤ 1000) (h2 : i64 x2) (h3 : i64 x3) (h4 : i64 x4) (h5 : i64 x5) (h6 : i64 x6) :
    fnA CC PR 13 [accA x0 x1 x2 x3 x4 x5 x6] = some (.str (accText x0 x1 x2 x3 x4 x5 x6)) := by
  apply comes_eq.1
  refine fnA_wp (rs := [.tmp 2]) Tryd.func13 rfl rfl (Nat.le_of_ble_eq_true rfl) rfl ?_
  have d2 := l1Dec_eq x2 h2.1 h2.2
  have d3 := l1Dec_eq x3 h3.1 h3.2
  have d4 := l1Dec_eq x4 h4.1 h4.2
  have d5 := l1Dec_eq x5 h5.1 h5.2
  have d6 := l1Dec_eq x6 h6.1 h6.2
  have z2 := dec_size x2 h2.1 h2.2
  have z3 := dec_size x3 h3.1 h3.2
  have z4 := dec_size x4 h4.1 h4.2
  have z5 := dec_size x5 h5.1 h5.2
  have z6 := dec_size x6 h6.1 h6.2
  simp +decide (disch := first | decide | (simp only [size_cat, size_lit, List.size_toArray, List.length_cons, List.length_nil]; omega)) only [go_sem, Nat.reduceAdd, Nat.reduceMul, Nat.reduceSub, Nat.reduceLT, Nat.reduceLeDiff, Nat.reduceEqDiff, Nat.add_assoc, Int.reduceAdd, Int.reduceSub, Int.reduceMul, Int.reduceLT, Int.reduceLE, Int.reduceEq, Int.reduceNeg, str_add]
  refine bB_split (fun hB => ?_) (fun hB => ?_)
  · simp only [decide_eq_true_eq] at hB
    simp +decide (disch := first | decide | (simp only [size_cat, size_lit, List.size_toArray, List.length_cons, List.length_nil]; omega)) only [go_sem, Nat.reduceAdd, Nat.reduceMul, Nat.reduceSub, Nat.reduceLT, Nat.reduceLeDiff, Nat.reduceEqDiff, Nat.add_assoc, Int.reduceAdd, Int.reduceSub, Int.reduceMul, Int.reduceLT, Int.reduceLE, Int.reduceEq, Int.reduceNeg, str_add, hB]
    refine (d_plan (ord := [0, 1, 2, 3, 4, 5, 6, 7, 8, 9, 10, 11]) (prs := [(3, 8), (4, 8)]) (by kernel_rfl)).2 ?_
    simp +decide (disch := first | decide | (simp only [size_cat, size_lit, List.size_toArray, List.length_cons, List.length_nil]; omega)) only [go_sem, Nat.reduceAdd, Nat.reduceMul, Nat.reduceSub, Nat.reduceLT, Nat.reduceLeDiff, Nat.reduceEqDiff, Nat.add_assoc, Int.reduceAdd, Int.reduceSub, Int.reduceMul, Int.reduceLT, Int.reduceLE, Int.reduceEq, Int.reduceNeg, str_add, d2, d3, d4, d5, d6]
    refine bB_split (fun hT => ?_) (fun hT => ?_)
    · simp only [decide_eq_true_eq] at hT
      simp +decide (disch := first | decide | (simp only [size_cat, size_lit, List.size_toArray, List.length_cons, List.length_nil]; omega)) only [go_sem, Nat.reduceAdd, Nat.reduceMul, Nat.reduceSub, Nat.reduceLT, Nat.reduceLeDiff, Nat.reduceEqDiff, Nat.add_assoc, Int.reduceAdd, Int.reduceSub, Int.reduceMul, Int.reduceLT, Int.reduceLE, Int.reduceEq, Int.reduceNeg, str_add, hT]
      refine (d_plan (ord := [0, 1, 2, 3, 4, 5, 6, 7, 8, 9, 10, 11]) (prs := [(3, 8), (4, 8)]) (by kernel_rfl)).2 ?_
      simp +decide (disch := first | decide | (simp only [size_cat, size_lit, List.size_toArray, List.length_cons, List.length_nil]; omega)) only [go_sem, Nat.reduceAdd, Nat.reduceMul, Nat.reduceSub, Nat.reduceLT, Nat.reduceLeDiff, Nat.reduceEqDiff, Nat.add_assoc, Int.reduceAdd, Int.reduceSub, Int.reduceMul, Int.reduceLT, Int.reduceLE, Int.reduceEq, Int.reduceNeg, str_add, d2, d3, d4, d5, d6]
      simp [accText, *]
    · simp only [decide_eq_false_iff_not] at hT
      simp +decide (disch := first | decide | (simp only [size_cat, size_lit, List.size_toArray, List.length_cons, List.length_nil]; omega)) only [go_sem, Nat.reduceAdd, Nat.reduceMul, Nat.reduceSub, Nat.reduceLT, Nat.reduceLeDiff, Nat.reduceEqDiff, Nat.add_assoc, Int.reduceAdd, Int.reduceSub, Int.reduceMul, Int.reduceLT, Int.reduceLE, Int.reduceEq, Int.reduceNeg, str_add, hT]
      simp [accText, *]
  · simp only [decide_eq_false_iff_not] at hB
    simp +decide (disch := first | decide | (simp only [size_cat, size_lit, List.size_toArray, List.length_cons, List.length_nil]; omega)) only [go_sem, Nat.reduceAdd, Nat.reduceMul, Nat.reduceSub, Nat.reduceLT, Nat.reduceLeDiff, Nat.reduceEqDiff, Nat.add_assoc, Int.reduceAdd, Int.reduceSub, Int.reduceMul, Int.reduceLT, Int.reduceLE, Int.reduceEq, Int.reduceNeg, str_add, hB]
    refine bB_split (fun hB2 => ?_) (fun hB2 => ?_)
    · simp only [decide_eq_true_eq] at hB2
      simp +decide (disch := first | decide | (simp only [size_cat, size_lit, List.size_toArray, List.length_cons, List.length_nil]; omega)) only [go_sem, Nat.reduceAdd, Nat.reduceMul, Nat.reduceSub, Nat.reduceLT, Nat.reduceLeDiff, Nat.reduceEqDiff, Nat.add_assoc, Int.reduceAdd, Int.reduceSub, Int.reduceMul, Int.reduceLT, Int.reduceLE, Int.reduceEq, Int.reduceNeg, str_add, hB2]
      refine (d_plan (ord := [0, 1, 2, 3, 4, 5, 6, 7, 8, 9, 10, 11, 12, 13, 14, 15, 16]) (prs := [(3, 8), (4, 8), (3, 13), (4, 13), (8, 13), (9, 13)]) (by kernel_rfl)).2 ?_
      simp +decide (disch := first | decide | (simp only [size_cat, size_lit, List.size_toArray, List.length_cons, List.length_nil]; omega)) only [go_sem, Nat.reduceAdd, Nat.reduceMul, Nat.reduceSub, Nat.reduceLT, Nat.reduceLeDiff, Nat.reduceEqDiff, Nat.add_assoc, Int.reduceAdd, Int.reduceSub, Int.reduceMul, Int.reduceLT, Int.reduceLE, Int.reduceEq, Int.reduceNeg, str_add, d2, d3, d4, d5, d6]
      refine bB_split (fun hT => ?_) (fun hT => ?_)
      · simp only [decide_eq_true_eq] at hT
        simp +decide (disch := first | decide | (simp only [size_cat, size_lit, List.size_toArray, List.length_cons, List.length_nil]; omega)) only [go_sem, Nat.reduceAdd, Nat.reduceMul, Nat.reduceSub, Nat.reduceLT, Nat.reduceLeDiff, Nat.reduceEqDiff, Nat.add_assoc, Int.reduceAdd, Int.reduceSub, Int.reduceMul, Int.reduceLT, Int.reduceLE, Int.reduceEq, Int.reduceNeg, str_add, hT]
        refine (d_plan (ord := [0, 1, 2, 3, 4, 5, 6, 7, 8, 9, 10, 11]) (prs := [(3, 8), (4, 8)]) (by kernel_rfl)).2 ?_
        simp +decide (disch := first | decide | (simp only [size_cat, size_lit, List.size_toArray, List.length_cons, List.length_nil]; omega)) only [go_sem, Nat.reduceAdd, Nat.reduceMul, Nat.reduceSub, Nat.reduceLT, Nat.reduceLeDiff, Nat.reduceEqDiff, Nat.add_assoc, Int.reduceAdd, Int.reduceSub, Int.reduceMul, Int.reduceLT, Int.reduceLE, Int.reduceEq, Int.reduceNeg, str_add, d2, d3, d4, d5, d6]
        simp [accText, *]
      · simp only [decide_eq_false_iff_not] at hT
        simp +decide (disch := first | decide | (simp only [size_cat, size_lit, List.size_toArray, List.length_cons, List.length_nil]; omega)) only [go_sem, Nat.reduceAdd, Nat.reduceMul, Nat.reduceSub, Nat.reduceLT, Nat.reduceLeDiff, Nat.reduceEqDiff, Nat.add_assoc, Int.reduceAdd, Int.reduceSub, Int.reduceMul, Int.reduceLT, Int.reduceLE, Int.reduceEq, Int.reduceNeg, str_add, hT]
        simp [accText, *]
    · simp only [decide_eq_false_iff_not] at hB2
      simp +decide (disch := first | decide | (simp only [size_cat, size_lit, List.size_toArray, List.length_cons, List.length_nil]; omega)) only [go_sem, Nat.reduceAdd, Nat.reduceMul, Nat.reduceSub, Nat.reduceLT, Nat.reduceLeDiff, Nat.reduceEqDiff, Nat.add_assoc, Int.reduceAdd, Int.reduceSub, Int.reduceMul, Int.reduceLT, Int.reduceLE, Int.reduceEq, Int.reduceNeg, str_add, hB2, d2, d3, d4, d5, d6]
      refine bB_split (fun hT => ?_) (fun hT => ?_)
      · simp only [decide_eq_true_eq] at hT
        simp +decide (disch := first | decide | (simp only [size_cat, size_lit, List.size_toArray, List.length_cons, List.length_nil]; omega)) only [go_sem, Nat.reduceAdd, Nat.reduceMul, Nat.reduceSub, Nat.reduceLT, Nat.reduceLeDiff, Nat.reduceEqDiff, Nat.add_assoc, Int.reduceAdd, Int.reduceSub, Int.reduceMul, Int.reduceLT, Int.reduceLE, Int.reduceEq, Int.reduceNeg, str_add, hT]
        refine (d_plan (ord := [0, 1, 2, 3, 4, 5, 6, 7, 8, 9, 10, 11]) (prs := [(3, 8), (4, 8)]) (by kernel_rfl)).2 ?_
        simp +decide (disch := first | decide | (simp only [size_cat, size_lit, List.size_toArray, List.length_cons, List.length_nil]; omega)) only [go_sem, Nat.reduceAdd, Nat.reduceMul, Nat.reduceSub, Nat.reduceLT, Nat.reduceLeDiff, Nat.reduceEqDiff, Nat.add_assoc, Int.reduceAdd, Int.reduceSub, Int.reduceMul, Int.reduceLT, Int.reduceLE, Int.reduceEq, Int.reduceNeg, str_add, d2, d3, d4, d5, d6]
        simp [accText, *]
      · simp only [decide_eq_false_iff_not] at hT
        simp +decide (disch := first | decide | (simp only [size_cat, size_lit, List.size_toArray, List.length_cons, List.length_nil]; omega)) only [go_sem, Nat.reduceAdd, Nat.reduceMul, Nat.reduceSub, Nat.reduceLT, Nat.reduceLeDiff, Nat.reduceEqDiff, Nat.add_assoc, Int.reduceAdd, Int.reduceSub, Int.reduceMul, Int.reduceLT, Int.reduceLE, Int.reduceEq, Int.reduceNeg, str_add, hT]
        simp [accText, *]
end Go.Ev.Tryd
