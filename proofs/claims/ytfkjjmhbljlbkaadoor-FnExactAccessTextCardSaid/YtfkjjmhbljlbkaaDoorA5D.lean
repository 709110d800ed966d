/- Part of the proof of a statement about the given program: A5D. No condition of its own. -/
import Derived.Test.YtfkjjmhbljlbkaaDoorA4D
namespace Go.Ev.Tryd
open Go.Proofs
set_option maxRecDepth 10000
set_option linter.unusedSimpArgs false
set_option linter.unusedVariables false
attribute [local congr] comes_congr bB_congr gK_congr gdK_congr
theorem toAccess_eq (x0 : ByteArray) (x1 x2 x3 x4 x5 x6 : Int) : fnA CC PR 14 [accA x0 x1 x2 x3 x4 x5 x6] = some (accA x0 x1 x2 x3 x4 x5 x6) := by
  apply comes_eq.1
  refine fnA_wp (rs := [.cell 2 26]) Tryd.func14 rfl rfl (Nat.le_of_ble_eq_true rfl) rfl ?_
  simp +decide only [go_sem, Nat.reduceAdd, Nat.reduceMul, Nat.reduceSub, Nat.reduceLT, Nat.reduceLeDiff, Nat.reduceEqDiff, Nat.add_assoc, Int.reduceAdd, Int.reduceSub, Int.reduceMul, Int.reduceLT, Int.reduceLE, Int.reduceEq, Int.reduceNeg, strOp_add]
theorem szAccess_eq (x0 : ByteArray) (x1 x2 x3 x4 x5 x6 n : Int) (hs : x0.size ≤ 9223372036854775807) (hn : 0 ≤ n) (hn' : n ≤ 1048576) : fnA CC PR 12 [accA x0 x1 x2 x3 x4 x5 x6, .int .i64 n] = some (.int .i64 (if n - x0.size < 0 then -1 else n - x0.size)) := by
  apply comes_eq.1
  refine fnA_wp (rs := [.tmp 4]) Tryd.func12 rfl rfl (Nat.le_of_ble_eq_true rfl) rfl ?_
  have w : IntKind.wrap .i64 (n - (x0.size : Int)) = n - x0.size := wrap_id (by omega) (by omega)
  (simp +decide only [go_sem, Nat.reduceAdd, Nat.reduceMul, Nat.reduceSub, Nat.reduceLT, Nat.reduceLeDiff, Nat.reduceEqDiff, Nat.add_assoc, Int.reduceAdd, Int.reduceSub, Int.reduceMul, Int.reduceLT, Int.reduceLE, Int.reduceEq, Int.reduceNeg, strOp_add, w]); repeat' (refine bB_split (fun hB => ?_) (fun hB => ?_) <;> (try simp only [Bool.and_eq_true, Bool.or_eq_false_iff, decide_eq_true_eq, decide_eq_false_iff_not] at hB) <;> simp +decide only [go_sem, Nat.reduceAdd, Nat.reduceMul, Nat.reduceSub, Nat.reduceLT, Nat.reduceLeDiff, Nat.reduceEqDiff, Nat.add_assoc, Int.reduceAdd, Int.reduceSub, Int.reduceMul, Int.reduceLT, Int.reduceLE, Int.reduceEq, Int.reduceNeg, strOp_add, hB, w])
  all_goals simp [*]
theorem specText_eq (x0 : ByteArray) (x1 x2 x3 x4 x5 x6 : Int) (hs : x0.size ≤ 1099511627776) (h2 : i64 x2) (h3 : i64 x3) (h4 : i64 x4) (h5 : i64 x5) (h6 : i64 x6) :
    fnA CC PR 13 [accA x0 x1 x2 x3 x4 x5 x6] = some (.str (if accOk x0 x1 x2 x3 x4 x5 x6 = true then accText x0 x1 x2 x3 x4 x5 x6 else ⟨#[]⟩)) := by
  apply comes_eq.1
  refine fnA_wp (rs := [.tmp 2]) Tryd.func13 rfl rfl (Nat.le_of_ble_eq_true rfl) rfl ?_
  simp +decide only [go_sem, Nat.reduceAdd, Nat.reduceMul, Nat.reduceSub, Nat.reduceLT, Nat.reduceLeDiff, Nat.reduceEqDiff, Nat.add_assoc, Int.reduceAdd, Int.reduceSub, Int.reduceMul, Int.reduceLT, Int.reduceLE, Int.reduceEq, Int.reduceNeg, strOp_add, specAcc_eq x0 x1 x2 x3 x4 x5 x6 hs]
  refine bB_split (fun hB => ?_) (fun hB => ?_)
  · have hz := accOk_size hB
    simp +decide only [go_sem, Nat.reduceAdd, Nat.reduceMul, Nat.reduceSub, Nat.reduceLT, Nat.reduceLeDiff, Nat.reduceEqDiff, Nat.add_assoc, Int.reduceAdd, Int.reduceSub, Int.reduceMul, Int.reduceLT, Int.reduceLE, Int.reduceEq, Int.reduceNeg, strOp_add, hB, l12Text_eq x0 x1 x2 x3 x4 x5 x6 (by omega) h2 h3 h4 h5 h6]
    try simp [hB]
  · simp +decide only [go_sem, Nat.reduceAdd, Nat.reduceMul, Nat.reduceSub, Nat.reduceLT, Nat.reduceLeDiff, Nat.reduceEqDiff, Nat.add_assoc, Int.reduceAdd, Int.reduceSub, Int.reduceMul, Int.reduceLT, Int.reduceLE, Int.reduceEq, Int.reduceNeg, strOp_add, hB]
    try simp [hB]
theorem law_eq (x0 : ByteArray) (x1 x2 x3 x4 x5 x6 : Int) (hs : x0.size ≤ 9223372036854775807) (h2 : i64 x2) (h3 : i64 x3) (h4 : i64 x4) (h5 : i64 x5) (h6 : i64 x6) :
    fnA CC PR 3 [accA x0 x1 x2 x3 x4 x5 x6] = some (.bool true) := by
  apply comes_eq.1
  refine fnA_wp (rs := [.tmp 2]) Tryd.func3 rfl rfl (Nat.le_of_ble_eq_true rfl) rfl ?_
  have e1 := szAccess_eq x0 x1 x2 x3 x4 x5 x6 1048576 hs (by omega) (by omega)
  have e2 := toAccess_eq x0 x1 x2 x3 x4 x5 x6
  by_cases hz : x0.size ≤ 1048576
  · have e3 := accText_eq x0 x1 x2 x3 x4 x5 x6 h2 h3 h4 h5 h6
    have e4 := specText_eq x0 x1 x2 x3 x4 x5 x6 (by omega) h2 h3 h4 h5 h6
    have c : ((1048576 : Int) - x0.size < 0) = False := eq_false (by omega)
    simp +decide only [go_sem, Nat.reduceAdd, Nat.reduceMul, Nat.reduceSub, Nat.reduceLT, Nat.reduceLeDiff, Nat.reduceEqDiff, Nat.add_assoc, Int.reduceAdd, Int.reduceSub, Int.reduceMul, Int.reduceLT, Int.reduceLE, Int.reduceEq, Int.reduceNeg, strOp_add, e1, e2, e3, e4, c]
  · have c : ((1048576 : Int) - x0.size < 0) = True := eq_true (by omega)
    simp +decide only [go_sem, Nat.reduceAdd, Nat.reduceMul, Nat.reduceSub, Nat.reduceLT, Nat.reduceLeDiff, Nat.reduceEqDiff, Nat.add_assoc, Int.reduceAdd, Int.reduceSub, Int.reduceMul, Int.reduceLT, Int.reduceLE, Int.reduceEq, Int.reduceNeg, strOp_add, e1, c]
end Go.Ev.Tryd
