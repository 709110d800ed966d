/- Part of the proof of a statement about the given program: Y32I. No condition of its own. -/
import Derived.Test.YthlmbapkgblnkaaDoorY31I
namespace Go.Ev.Tryd
open Go.Proofs
set_option maxRecDepth 10000
set_option linter.unusedSimpArgs false
set_option linter.unusedVariables false
attribute [local congr] comes_congr bB_congr gK_congr gdK_congr

/-- Data with other bytes at a place. -/
def sto (d : ByteArray) (p : Nat) (w : ByteArray) : ByteArray := d.extract 0 p ++ w ++ d.extract (p + w.size) d.size
theorem sto_size (d : ByteArray) (p : Nat) (w : ByteArray) (h : p + w.size ≤ d.size) : (sto d p w).size = d.size := by
  unfold sto
  simp only [ByteArray.size_append, ByteArray.size_extract]
  omega
theorem stored_eq (d : ByteArray) (p : Nat) (w : ByteArray) (h : p + w.size ≤ d.size) (hd : d.size ≤ 1600) : fnA CC PR 40 [.str d, .int .i64 (p : Int), .str w] = some (.str (sto d p w)) := by
  have w1 : IntKind.wrap .i64 ((p : Int) + (w.size : Int)) = ((p + w.size : Nat) : Int) := by rw [wrap_id (by omega) (by omega)]; omega
  have g1 : (p ≤ d.size) = True := eq_true (by omega)
  have g2 : (p + w.size ≤ d.size) = True := eq_true (by omega)
  apply comes_eq.1
  refine fnA_wp (rs := [.tmp 6]) Tryd.func40 rfl rfl (Nat.le_of_ble_eq_true rfl) rfl ?_
  simp +decide only [go_sem, Nat.reduceAdd, Nat.reduceMul, Nat.reduceSub, Nat.reduceLT, Nat.reduceLeDiff, Nat.reduceEqDiff, Nat.add_assoc, Int.reduceAdd, Int.reduceSub, Int.reduceMul, Int.reduceLT, Int.reduceLE, Int.reduceEq, Int.reduceNeg, strOp_add]
  refine (d_plan (ord := [0, 1, 2, 3, 4, 5, 6, 7, 8, 9, 10, 11, 12]) (prs := []) (by kernel_rfl)).2 ?_
  have g3 : ((d.extract 0 p).size + w.size ≤ 9223372036854775807) = True := eq_true (by rw [ByteArray.size_extract]; omega)
  have g4 : ((d.extract 0 p).size + (w.size + (d.extract (p + w.size) d.size).size) ≤ 9223372036854775807) = True := eq_true (by rw [ByteArray.size_extract, ByteArray.size_extract]; omega)
  simp +decide (disch := first | decide | omega) only [go_sem, Nat.reduceAdd, Nat.reduceMul, Nat.reduceSub, Nat.reduceLT, Nat.reduceLeDiff, Nat.reduceEqDiff, Nat.add_assoc, Int.reduceAdd, Int.reduceSub, Int.reduceMul, Int.reduceLT, Int.reduceLE, Int.reduceEq, Int.reduceNeg, strOp_add, w1, g1, g2, g3, g4, and_false]
  try rfl
theorem l1Ok_eq (t : ByteArray) (ht : t.size ≤ 1600) (h8 : t.size % 8 = 0) : fnA CC PR 50 [.str t] = some (.bool true) := by
  have n1 : ((t.size : Int).tmod 8) = ((t.size % 8 : Nat) : Int) := rfl
  have n2 : ((t.size : Int) ≤ 1600) = True := eq_true (by omega)
  apply comes_eq.1
  refine fnA_wp (rs := [.tmp 2]) Tryd.func50 rfl rfl (Nat.le_of_ble_eq_true rfl) rfl ?_
  simp +decide only [go_sem, Nat.reduceAdd, Nat.reduceMul, Nat.reduceSub, Nat.reduceLT, Nat.reduceLeDiff, Nat.reduceEqDiff, Nat.add_assoc, Int.reduceAdd, Int.reduceSub, Int.reduceMul, Int.reduceLT, Int.reduceLE, Int.reduceEq, Int.reduceNeg, strOp_add, n1, n2, h8]
set_option maxHeartbeats 1000000 in
theorem Put_eq (d : ByteArray) (p s : Nat) (v : Int) (hd : d.size ≤ 1600) (h8 : d.size % 8 = 0) (hp : p ≤ 12799) (hs : isSize (s : Int) = true) (hm : (p : Int).tmod (s : Int) = 0) : fnA CC PR 33 [.str d, .int .i64 (p : Int), .int .i64 (s : Int), .int .i64 v] = some (if p + s ≤ d.size ∧ fitsB v (8 * (s : Int)) = true then .tup [.str (sto d p (bytesV v s)), .bool true] else .tup [.str d, .bool false]) := by
  have hok := l1Ok_eq d hd h8
  have hfit := l1Fits_eq v s hs
  have s8 : s ≤ 8 ∧ 1 ≤ s := by rcases isSize_iff.1 hs with h | h | h | h <;> omega
  have hb := l1Bytes_eq v s s8.1
  have hbz := bytesV_size v s
  have p0 : ((p : Int) < 0) = False := eq_false (by omega)
  have hs0 : ((s : Int) = 0) = False := eq_false (by omega)
  have w1 : IntKind.wrap .i64 ((d.size : Int) - (s : Int)) = (d.size : Int) - (s : Int) := wrap_id (by omega) (by omega)
  apply comes_eq.1
  refine fnA_wp (rs := [.tmp 8, .tmp 9]) Tryd.func33 rfl rfl (Nat.le_of_ble_eq_true rfl) rfl ?_
  by_cases h1 : p + s ≤ d.size
  · have g0 : ((d.size : Int) - (s : Int) < (p : Int)) = False := eq_false (by omega)
    cases hf : fitsB v (8 * (s : Int)) with
    | true =>
      rw [hf] at hfit
      rw [if_pos ⟨h1, rfl⟩]
      have w2 : IntKind.wrap .i64 ((p : Int) + (s : Int)) = ((p + s : Nat) : Int) := by rw [wrap_id (by omega) (by omega)]; omega
      have g1 : (p ≤ d.size) = True := eq_true (by omega)
      have g2 : (p + s ≤ d.size) = True := eq_true h1
      unfold sto
      rw [hbz]
      generalize bytesV v s = B at *
      simp +decide (disch := first | decide | omega) only [go_sem, Nat.reduceAdd, Nat.reduceMul, Nat.reduceSub, Nat.reduceLT, Nat.reduceLeDiff, Nat.reduceEqDiff, Nat.add_assoc, Int.reduceAdd, Int.reduceSub, Int.reduceMul, Int.reduceLT, Int.reduceLE, Int.reduceEq, Int.reduceNeg, strOp_add, hok, hs, hfit, p0, w1, g0, hm, hs0]
      refine (d_plan (ord := [0, 1, 2, 3, 4, 5, 6, 7, 8, 9, 10, 11, 12, 13, 14]) (prs := []) (by kernel_rfl)).2 ?_
      have g3 : ((d.extract 0 p).size + B.size ≤ 9223372036854775807) = True := eq_true (by rw [ByteArray.size_extract]; omega)
      have g4 : ((d.extract 0 p).size + (B.size + (d.extract (p + s) d.size).size) ≤ 9223372036854775807) = True := eq_true (by rw [ByteArray.size_extract, ByteArray.size_extract]; omega)
      simp +decide (disch := first | decide | omega) only [go_sem, Nat.reduceAdd, Nat.reduceMul, Nat.reduceSub, Nat.reduceLT, Nat.reduceLeDiff, Nat.reduceEqDiff, Nat.add_assoc, Int.reduceAdd, Int.reduceSub, Int.reduceMul, Int.reduceLT, Int.reduceLE, Int.reduceEq, Int.reduceNeg, strOp_add, hb, w2, g1, g2, g3, g4, and_false]
    | false =>
      rw [hf] at hfit
      rw [if_neg (fun h => by cases h.2)]
      simp +decide (disch := first | decide | omega) only [go_sem, Nat.reduceAdd, Nat.reduceMul, Nat.reduceSub, Nat.reduceLT, Nat.reduceLeDiff, Nat.reduceEqDiff, Nat.add_assoc, Int.reduceAdd, Int.reduceSub, Int.reduceMul, Int.reduceLT, Int.reduceLE, Int.reduceEq, Int.reduceNeg, strOp_add, hok, hs, hfit, p0, w1, g0, hm, hs0]
  · have g0 : ((d.size : Int) - (s : Int) < (p : Int)) = True := eq_true (by omega)
    rw [if_neg (fun h => h1 h.1)]
    simp +decide (disch := first | decide | omega) only [go_sem, Nat.reduceAdd, Nat.reduceMul, Nat.reduceSub, Nat.reduceLT, Nat.reduceLeDiff, Nat.reduceEqDiff, Nat.add_assoc, Int.reduceAdd, Int.reduceSub, Int.reduceMul, Int.reduceLT, Int.reduceLE, Int.reduceEq, Int.reduceNeg, strOp_add, hok, hs, p0, w1, g0]
end Go.Ev.Tryd
