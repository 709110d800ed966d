/- Part of the proof of a statement about the given program: A2I. No condition of its own. -/
import Derived.Test.YthlmbapkgblnkaaDoorSI
namespace Go.Ev.Tryd
open Go.Proofs
set_option maxRecDepth 10000
set_option linter.unusedSimpArgs false
set_option linter.unusedVariables false
attribute [local congr] comes_congr bB_congr gK_congr gdK_congr

def isSize (n : Int) : Bool := decide (n = 1) || decide (n = 2) || decide (n = 4) || decide (n = 8)
@[go_sem] theorem size_eq (n : Int) : fnA CC PR 54 [.int .i64 n] = some (.bool (isSize n)) := by
  apply comes_eq.1
  refine fnA_wp (rs := [.tmp 2]) Tryd.func54 rfl rfl (Nat.le_of_ble_eq_true rfl) rfl ?_
  (simp +decide only [go_sem, Nat.reduceAdd, Nat.reduceMul, Nat.reduceSub, Nat.reduceLT, Nat.reduceLeDiff, Nat.reduceEqDiff, Nat.add_assoc, Int.reduceAdd, Int.reduceSub, Int.reduceMul, Int.reduceLT, Int.reduceLE, Int.reduceEq, Int.reduceNeg, strOp_add]); repeat' (refine bB_split (fun hB => ?_) (fun hB => ?_) <;> (try simp only [Bool.and_eq_true, Bool.or_eq_false_iff, decide_eq_true_eq, decide_eq_false_iff_not] at hB) <;> simp +decide only [go_sem, Nat.reduceAdd, Nat.reduceMul, Nat.reduceSub, Nat.reduceLT, Nat.reduceLeDiff, Nat.reduceEqDiff, Nat.add_assoc, Int.reduceAdd, Int.reduceSub, Int.reduceMul, Int.reduceLT, Int.reduceLE, Int.reduceEq, Int.reduceNeg, strOp_add, hB])
  all_goals simp [isSize, *]
@[go_sem] theorem l1Size_eq (n : Int) : fnA CC PR 46 [.int .i64 n] = some (.bool (isSize n)) := by
  apply comes_eq.1
  refine fnA_wp (rs := [.tmp 2]) Tryd.func46 rfl rfl (Nat.le_of_ble_eq_true rfl) rfl ?_
  (simp +decide only [go_sem, Nat.reduceAdd, Nat.reduceMul, Nat.reduceSub, Nat.reduceLT, Nat.reduceLeDiff, Nat.reduceEqDiff, Nat.add_assoc, Int.reduceAdd, Int.reduceSub, Int.reduceMul, Int.reduceLT, Int.reduceLE, Int.reduceEq, Int.reduceNeg, strOp_add]); repeat' (refine bB_split (fun hB => ?_) (fun hB => ?_) <;> (try simp only [Bool.and_eq_true, Bool.or_eq_false_iff, decide_eq_true_eq, decide_eq_false_iff_not] at hB) <;> simp +decide only [go_sem, Nat.reduceAdd, Nat.reduceMul, Nat.reduceSub, Nat.reduceLT, Nat.reduceLeDiff, Nat.reduceEqDiff, Nat.add_assoc, Int.reduceAdd, Int.reduceSub, Int.reduceMul, Int.reduceLT, Int.reduceLE, Int.reduceEq, Int.reduceNeg, strOp_add, hB])
  all_goals simp [isSize, *]
theorem isSize_iff {n : Int} : isSize n = true ↔ n = 1 ∨ n = 2 ∨ n = 4 ∨ n = 8 := by simp [isSize, or_assoc]
/-- Is a number one of so many bits? -/
def fitsB (n bits : Int) : Bool := decide (bits = 64) || (decide (0 ≤ n) && decide (n ≤ 2 ^ bits.toNat - 1))
theorem bits_eq (n bits : Int) (h : bits = 1 ∨ bits = 8 ∨ bits = 16 ∨ bits = 32 ∨ bits = 64) : fnA CC PR 39 [.int .i64 n, .int .i64 bits] = some (.bool (fitsB n bits)) := by
  apply comes_eq.1
  refine fnA_wp (rs := [.tmp 4]) Tryd.func39 rfl rfl (Nat.le_of_ble_eq_true rfl) rfl ?_
  rcases h with rfl | rfl | rfl | rfl | rfl
  all_goals simp +decide only [go_sem, Nat.reduceAdd, Nat.reduceMul, Nat.reduceSub, Nat.reduceLT, Nat.reduceLeDiff, Nat.reduceEqDiff, Nat.add_assoc, Int.reduceAdd, Int.reduceSub, Int.reduceMul, Int.reduceLT, Int.reduceLE, Int.reduceEq, Int.reduceNeg, strOp_add]
  all_goals simp [fitsB, IntKind.wrap, IntKind.bits, IntKind.signed]
theorem l1Fits_eq (n size : Int) (h : isSize size = true) : fnA CC PR 36 [.int .i64 n, .int .i64 size] = some (.bool (fitsB n (8 * size))) := by
  apply comes_eq.1
  refine fnA_wp (rs := [.tmp 4]) Tryd.func36 rfl rfl (Nat.le_of_ble_eq_true rfl) rfl ?_
  rcases isSize_iff.1 h with rfl | rfl | rfl | rfl
  all_goals simp +decide only [go_sem, Nat.reduceAdd, Nat.reduceMul, Nat.reduceSub, Nat.reduceLT, Nat.reduceLeDiff, Nat.reduceEqDiff, Nat.add_assoc, Int.reduceAdd, Int.reduceSub, Int.reduceMul, Int.reduceLT, Int.reduceLE, Int.reduceEq, Int.reduceNeg, strOp_add]
  all_goals simp [fitsB, IntKind.wrap, IntKind.bits, IntKind.signed]

/-- An access, as a value. -/
abbrev accA (x0 : ByteArray) (x1 x2 x3 x4 x5 x6 : Int) : AV := .agg [.str x0, .int .i64 x1, .int .i64 x2, .int .i64 x3, .int .i64 x4, .int .i64 x5, .int .i64 x6]
def spanA (k at_ size : Int) : Int × Int := if k = 1 then (at_ / 8, 1) else if k = 2 then (at_, size) else (0, 0)
theorem span_eq (x0 : ByteArray) (x1 x2 x3 x4 x5 x6 : Int) (h : 0 ≤ x2) (h' : x2 ≤ 12799) : fnA CC PR 38 [accA x0 x1 x2 x3 x4 x5 x6] = some (.tup [.int .i64 (spanA x1 x2 x3).1, .int .i64 (spanA x1 x2 x3).2]) := by
  apply comes_eq.1
  refine fnA_wp (rs := [.tmp 2, .tmp 3]) Tryd.func38 rfl rfl (Nat.le_of_ble_eq_true rfl) rfl ?_
  have hw : IntKind.wrap .i64 (x2.tdiv 8) = x2 / 8 := by rw [Int.tdiv_eq_ediv_of_nonneg h]; exact wrap_id (by omega) (by omega)
  simp +decide only [go_sem, Nat.reduceAdd, Nat.reduceMul, Nat.reduceSub, Nat.reduceLT, Nat.reduceLeDiff, Nat.reduceEqDiff, Nat.add_assoc, Int.reduceAdd, Int.reduceSub, Int.reduceMul, Int.reduceLT, Int.reduceLE, Int.reduceEq, Int.reduceNeg, strOp_add, hw]
  refine bB_split (fun h1 => ?_) (fun h1 => ?_)
  · simp only [decide_eq_true_eq] at h1
    simp +decide only [go_sem, Nat.reduceAdd, Nat.reduceMul, Nat.reduceSub, Nat.reduceLT, Nat.reduceLeDiff, Nat.reduceEqDiff, Nat.add_assoc, Int.reduceAdd, Int.reduceSub, Int.reduceMul, Int.reduceLT, Int.reduceLE, Int.reduceEq, Int.reduceNeg, strOp_add, h1, hw]
    simp [spanA]
  · simp only [decide_eq_false_iff_not] at h1
    simp +decide only [go_sem, Nat.reduceAdd, Nat.reduceMul, Nat.reduceSub, Nat.reduceLT, Nat.reduceLeDiff, Nat.reduceEqDiff, Nat.add_assoc, Int.reduceAdd, Int.reduceSub, Int.reduceMul, Int.reduceLT, Int.reduceLE, Int.reduceEq, Int.reduceNeg, strOp_add, h1, hw]
    refine bB_split (fun h2 => ?_) (fun h2 => ?_)
    · simp only [decide_eq_true_eq] at h2
      subst h2
      simp +decide only [go_sem, Nat.reduceAdd, Nat.reduceMul, Nat.reduceSub, Nat.reduceLT, Nat.reduceLeDiff, Nat.reduceEqDiff, Nat.add_assoc, Int.reduceAdd, Int.reduceSub, Int.reduceMul, Int.reduceLT, Int.reduceLE, Int.reduceEq, Int.reduceNeg, strOp_add]
      refine (d_plan (ord := [0, 1, 2, 3, 4, 5]) (prs := [(1, 3)]) (by kernel_rfl)).2 ?_
      simp +decide only [go_sem, Nat.reduceAdd, Nat.reduceMul, Nat.reduceSub, Nat.reduceLT, Nat.reduceLeDiff, Nat.reduceEqDiff, Nat.add_assoc, Int.reduceAdd, Int.reduceSub, Int.reduceMul, Int.reduceLT, Int.reduceLE, Int.reduceEq, Int.reduceNeg, strOp_add]
      simp [spanA]
    · simp only [decide_eq_false_iff_not] at h2
      simp +decide only [go_sem, Nat.reduceAdd, Nat.reduceMul, Nat.reduceSub, Nat.reduceLT, Nat.reduceLeDiff, Nat.reduceEqDiff, Nat.add_assoc, Int.reduceAdd, Int.reduceSub, Int.reduceMul, Int.reduceLT, Int.reduceLE, Int.reduceEq, Int.reduceNeg, strOp_add, h2]
      simp [spanA, h1, h2]

/-- Are the bytes of an access not those of its tag? -/
def apartB (k at_ size tag : Int) : Bool := decide (tag < 0) || (decide ((spanA k at_ size).2 = 0) || (decide ((spanA k at_ size).1 + (spanA k at_ size).2 ≤ tag) || decide (tag + 2 ≤ (spanA k at_ size).1)))
theorem apart_eq (x0 : ByteArray) (x1 x2 x3 x4 x5 x6 : Int) (h : 0 ≤ x2) (h' : x2 ≤ 12799) (h3 : 0 ≤ x3) (h3' : x3 ≤ 8) (h5 : -1 ≤ x5) (h5' : x5 ≤ 1598) : fnA CC PR 53 [accA x0 x1 x2 x3 x4 x5 x6] = some (.bool (apartB x1 x2 x3 x5)) := by
  apply comes_eq.1
  refine fnA_wp (rs := [.tmp 2]) Tryd.func53 rfl rfl (Nat.le_of_ble_eq_true rfl) rfl ?_
  have b1 : 0 ≤ (spanA x1 x2 x3).1 ∧ (spanA x1 x2 x3).1 ≤ 12799 ∧ 0 ≤ (spanA x1 x2 x3).2 ∧ (spanA x1 x2 x3).2 ≤ 8 := by
    unfold spanA
    split
    · simp; omega
    · split <;> simp <;> omega
  have hw : IntKind.wrap .i64 ((spanA x1 x2 x3).1 + (spanA x1 x2 x3).2) = (spanA x1 x2 x3).1 + (spanA x1 x2 x3).2 := wrap_id (by omega) (by omega)
  have hw2 : IntKind.wrap .i64 (x5 + 2) = x5 + 2 := wrap_id (by omega) (by omega)
  (simp +decide only [go_sem, Nat.reduceAdd, Nat.reduceMul, Nat.reduceSub, Nat.reduceLT, Nat.reduceLeDiff, Nat.reduceEqDiff, Nat.add_assoc, Int.reduceAdd, Int.reduceSub, Int.reduceMul, Int.reduceLT, Int.reduceLE, Int.reduceEq, Int.reduceNeg, strOp_add, span_eq x0 x1 x2 x3 x4 x5 x6 h h', hw, hw2]); repeat' (refine bB_split (fun hB => ?_) (fun hB => ?_) <;> (try simp only [Bool.and_eq_true, Bool.or_eq_false_iff, decide_eq_true_eq, decide_eq_false_iff_not] at hB) <;> simp +decide only [go_sem, Nat.reduceAdd, Nat.reduceMul, Nat.reduceSub, Nat.reduceLT, Nat.reduceLeDiff, Nat.reduceEqDiff, Nat.add_assoc, Int.reduceAdd, Int.reduceSub, Int.reduceMul, Int.reduceLT, Int.reduceLE, Int.reduceEq, Int.reduceNeg, strOp_add, hB, span_eq x0 x1 x2 x3 x4 x5 x6 h h', hw, hw2])
  all_goals simp [apartB, *]
def l12ApartB (at_ size tag : Int) : Bool := decide (tag < 0) || (decide (at_ + size ≤ tag) || decide (tag + 2 ≤ at_))
theorem l12Apart_eq (a b c : Int) (h : 0 ≤ a) (h' : a ≤ 12799) (h3 : 0 ≤ b) (h3' : b ≤ 8) (h5 : -1 ≤ c) (h5' : c ≤ 1598) : fnA CC PR 45 [.int .i64 a, .int .i64 b, .int .i64 c] = some (.bool (l12ApartB a b c)) := by
  apply comes_eq.1
  refine fnA_wp (rs := [.tmp 6]) Tryd.func45 rfl rfl (Nat.le_of_ble_eq_true rfl) rfl ?_
  have hw : IntKind.wrap .i64 (a + b) = a + b := wrap_id (by omega) (by omega)
  have hw2 : IntKind.wrap .i64 (c + 2) = c + 2 := wrap_id (by omega) (by omega)
  (simp +decide only [go_sem, Nat.reduceAdd, Nat.reduceMul, Nat.reduceSub, Nat.reduceLT, Nat.reduceLeDiff, Nat.reduceEqDiff, Nat.add_assoc, Int.reduceAdd, Int.reduceSub, Int.reduceMul, Int.reduceLT, Int.reduceLE, Int.reduceEq, Int.reduceNeg, strOp_add, hw, hw2]); repeat' (refine bB_split (fun hB => ?_) (fun hB => ?_) <;> (try simp only [Bool.and_eq_true, Bool.or_eq_false_iff, decide_eq_true_eq, decide_eq_false_iff_not] at hB) <;> simp +decide only [go_sem, Nat.reduceAdd, Nat.reduceMul, Nat.reduceSub, Nat.reduceLT, Nat.reduceLeDiff, Nat.reduceEqDiff, Nat.add_assoc, Int.reduceAdd, Int.reduceSub, Int.reduceMul, Int.reduceLT, Int.reduceLE, Int.reduceEq, Int.reduceNeg, strOp_add, hB, hw, hw2])
  all_goals simp [l12ApartB, *]

def tagB (tag place : Int) : Bool := (decide (tag = -1) && decide (place = 0)) || ((decide (0 ≤ tag) && decide (tag ≤ 1598)) && (decide (tag.tmod 2 = 0) && (decide (0 ≤ place) && decide (place ≤ 65535))))
def accOk (x0 : ByteArray) (x1 x2 x3 x4 x5 x6 : Int) : Bool :=
  isName x0 && (tagB x5 x6 && ((decide (0 ≤ x2) && decide (x2 ≤ 12799)) &&
    (if x1 = 1 then (decide (0 ≤ x4) && decide (x4 ≤ 1)) && (decide (x3 = 0) && apartB x1 x2 x3 x5)
     else if x1 = 2 then isSize x3 && (decide (x2.tmod x3 = 0) && (fitsB x4 (8 * x3) && (isShort x4 && apartB x1 x2 x3 x5)))
     else if x1 = 3 then decide (x3 = 0) && decide (x4 = 0) else false)))
theorem tagB_rng {a b : Int} (h : tagB a b = true) : -1 ≤ a ∧ a ≤ 1598 := by
  simp [tagB] at h
  omega
theorem rem_ok {a b : Int} (h : isSize b = true) {α : Type} {x y : α} : (if b = 0 then x else y) = y := by
  rw [if_neg]
  rintro rfl
  cases h
@[go_sem] theorem accOk_eq (x0 : ByteArray) (x1 x2 x3 x4 x5 x6 : Int) : fnA CC PR 26 [accA x0 x1 x2 x3 x4 x5 x6] = some (.bool (accOk x0 x1 x2 x3 x4 x5 x6)) := by
  apply comes_eq.1
  refine fnA_wp (rs := [.tmp 2]) Tryd.func26 rfl rfl (Nat.le_of_ble_eq_true rfl) rfl ?_
  (simp +decide only [go_sem, Nat.reduceAdd, Nat.reduceMul, Nat.reduceSub, Nat.reduceLT, Nat.reduceLeDiff, Nat.reduceEqDiff, Nat.add_assoc, Int.reduceAdd, Int.reduceSub, Int.reduceMul, Int.reduceLT, Int.reduceLE, Int.reduceEq, Int.reduceNeg, strOp_add]); repeat' (refine bB_split (fun hB => ?_) (fun hB => ?_) <;> (try simp only [Bool.and_eq_true, Bool.or_eq_false_iff, decide_eq_true_eq, decide_eq_false_iff_not] at hB) <;> simp +decide only [go_sem, Nat.reduceAdd, Nat.reduceMul, Nat.reduceSub, Nat.reduceLT, Nat.reduceLeDiff, Nat.reduceEqDiff, Nat.add_assoc, Int.reduceAdd, Int.reduceSub, Int.reduceMul, Int.reduceLT, Int.reduceLE, Int.reduceEq, Int.reduceNeg, strOp_add, hB])
  all_goals first
    | (simp [accOk, tagB, *]; done)
    | skip
  · simp +decide only [go_sem, Nat.reduceAdd, Nat.reduceMul, Nat.reduceSub, Nat.reduceLT, Nat.reduceLeDiff, Nat.reduceEqDiff, Nat.add_assoc, Int.reduceAdd, Int.reduceSub, Int.reduceMul, Int.reduceLT, Int.reduceLE, Int.reduceEq, Int.reduceNeg, strOp_add, apart_eq x0 1 x2 0 x4 (-1) 0 (by omega) (by omega) (by omega) (by omega) (by omega) (by omega)]
    simp [accOk, tagB, *]
  · rcases isSize_iff.1 hB with rfl | rfl | rfl | rfl
    all_goals (simp +decide only [go_sem, Nat.reduceAdd, Nat.reduceMul, Nat.reduceSub, Nat.reduceLT, Nat.reduceLeDiff, Nat.reduceEqDiff, Nat.add_assoc, Int.reduceAdd, Int.reduceSub, Int.reduceMul, Int.reduceLT, Int.reduceLE, Int.reduceEq, Int.reduceNeg, strOp_add, bits_eq, apart_eq, *]); repeat' (refine bB_split (fun hB => ?_) (fun hB => ?_) <;> (try simp only [Bool.and_eq_true, Bool.or_eq_false_iff, decide_eq_true_eq, decide_eq_false_iff_not] at hB) <;> simp +decide only [go_sem, Nat.reduceAdd, Nat.reduceMul, Nat.reduceSub, Nat.reduceLT, Nat.reduceLeDiff, Nat.reduceEqDiff, Nat.add_assoc, Int.reduceAdd, Int.reduceSub, Int.reduceMul, Int.reduceLT, Int.reduceLE, Int.reduceEq, Int.reduceNeg, strOp_add, hB, bits_eq, apart_eq, *])
    all_goals first
      | (simp [accOk, tagB, *]; done)
      | (simp at hB; done)
  · simp +decide only [go_sem, Nat.reduceAdd, Nat.reduceMul, Nat.reduceSub, Nat.reduceLT, Nat.reduceLeDiff, Nat.reduceEqDiff, Nat.add_assoc, Int.reduceAdd, Int.reduceSub, Int.reduceMul, Int.reduceLT, Int.reduceLE, Int.reduceEq, Int.reduceNeg, strOp_add, apart_eq x0 1 x2 0 x4 x5 x6 (by omega) (by omega) (by omega) (by omega) (by omega) (by omega)]
    simp [accOk, tagB, *]
  · have hx : -1 ≤ x5 := by omega
    rcases isSize_iff.1 hB with rfl | rfl | rfl | rfl
    all_goals (simp +decide only [go_sem, Nat.reduceAdd, Nat.reduceMul, Nat.reduceSub, Nat.reduceLT, Nat.reduceLeDiff, Nat.reduceEqDiff, Nat.add_assoc, Int.reduceAdd, Int.reduceSub, Int.reduceMul, Int.reduceLT, Int.reduceLE, Int.reduceEq, Int.reduceNeg, strOp_add, bits_eq, apart_eq, *]); repeat' (refine bB_split (fun hB => ?_) (fun hB => ?_) <;> (try simp only [Bool.and_eq_true, Bool.or_eq_false_iff, decide_eq_true_eq, decide_eq_false_iff_not] at hB) <;> simp +decide only [go_sem, Nat.reduceAdd, Nat.reduceMul, Nat.reduceSub, Nat.reduceLT, Nat.reduceLeDiff, Nat.reduceEqDiff, Nat.add_assoc, Int.reduceAdd, Int.reduceSub, Int.reduceMul, Int.reduceLT, Int.reduceLE, Int.reduceEq, Int.reduceNeg, strOp_add, hB, bits_eq, apart_eq, *])
    all_goals first
      | (simp [accOk, tagB, *]; done)
      | (simp at hB; done)
theorem specAcc_eq (x0 : ByteArray) (x1 x2 x3 x4 x5 x6 : Int) (hs : x0.size ≤ 1099511627776) : fnA CC PR 20 [accA x0 x1 x2 x3 x4 x5 x6] = some (.bool (accOk x0 x1 x2 x3 x4 x5 x6)) := by
  apply comes_eq.1
  refine fnA_wp (rs := [.tmp 2]) Tryd.func20 rfl rfl (Nat.le_of_ble_eq_true rfl) rfl ?_
  have hd : 0 ≤ x2 → x2.tdiv 8 = x2 / 8 := fun h => Int.tdiv_eq_ediv_of_nonneg h
  have hn := l9Name_eq x0 hs
  (simp +decide only [go_sem, Nat.reduceAdd, Nat.reduceMul, Nat.reduceSub, Nat.reduceLT, Nat.reduceLeDiff, Nat.reduceEqDiff, Nat.add_assoc, Int.reduceAdd, Int.reduceSub, Int.reduceMul, Int.reduceLT, Int.reduceLE, Int.reduceEq, Int.reduceNeg, strOp_add, hn]); repeat' (refine bB_split (fun hB => ?_) (fun hB => ?_) <;> (try simp only [Bool.and_eq_true, Bool.or_eq_false_iff, decide_eq_true_eq, decide_eq_false_iff_not] at hB) <;> simp +decide only [go_sem, Nat.reduceAdd, Nat.reduceMul, Nat.reduceSub, Nat.reduceLT, Nat.reduceLeDiff, Nat.reduceEqDiff, Nat.add_assoc, Int.reduceAdd, Int.reduceSub, Int.reduceMul, Int.reduceLT, Int.reduceLE, Int.reduceEq, Int.reduceNeg, strOp_add, hB, hn])
  all_goals first
    | (simp [accOk, tagB, *]; done)
    | skip
  · have hw : IntKind.wrap .i64 (x2.tdiv 8) = x2 / 8 := by rw [hd (by omega)]; exact wrap_id (by omega) (by omega)
    simp +decide only [go_sem, Nat.reduceAdd, Nat.reduceMul, Nat.reduceSub, Nat.reduceLT, Nat.reduceLeDiff, Nat.reduceEqDiff, Nat.add_assoc, Int.reduceAdd, Int.reduceSub, Int.reduceMul, Int.reduceLT, Int.reduceLE, Int.reduceEq, Int.reduceNeg, strOp_add, hw, l12Apart_eq (x2 / 8) 1 (-1) (by omega) (by omega) (by omega) (by omega) (by omega) (by omega)]
    simp [accOk, tagB, l12ApartB, apartB, spanA, *]
  · rcases isSize_iff.1 hB with rfl | rfl | rfl | rfl
    all_goals (simp +decide only [go_sem, Nat.reduceAdd, Nat.reduceMul, Nat.reduceSub, Nat.reduceLT, Nat.reduceLeDiff, Nat.reduceEqDiff, Nat.add_assoc, Int.reduceAdd, Int.reduceSub, Int.reduceMul, Int.reduceLT, Int.reduceLE, Int.reduceEq, Int.reduceNeg, strOp_add, l1Fits_eq, l12Apart_eq, *]); repeat' (refine bB_split (fun hB => ?_) (fun hB => ?_) <;> (try simp only [Bool.and_eq_true, Bool.or_eq_false_iff, decide_eq_true_eq, decide_eq_false_iff_not] at hB) <;> simp +decide only [go_sem, Nat.reduceAdd, Nat.reduceMul, Nat.reduceSub, Nat.reduceLT, Nat.reduceLeDiff, Nat.reduceEqDiff, Nat.add_assoc, Int.reduceAdd, Int.reduceSub, Int.reduceMul, Int.reduceLT, Int.reduceLE, Int.reduceEq, Int.reduceNeg, strOp_add, hB, l1Fits_eq, l12Apart_eq, *])
    all_goals first
      | (simp [accOk, tagB, l12ApartB, apartB, spanA, *]; done)
      | (simp at hB; done)
  · have hw : IntKind.wrap .i64 (x2.tdiv 8) = x2 / 8 := by rw [hd (by omega)]; exact wrap_id (by omega) (by omega)
    simp +decide only [go_sem, Nat.reduceAdd, Nat.reduceMul, Nat.reduceSub, Nat.reduceLT, Nat.reduceLeDiff, Nat.reduceEqDiff, Nat.add_assoc, Int.reduceAdd, Int.reduceSub, Int.reduceMul, Int.reduceLT, Int.reduceLE, Int.reduceEq, Int.reduceNeg, strOp_add, hw, l12Apart_eq (x2 / 8) 1 x5 (by omega) (by omega) (by omega) (by omega) (by omega) (by omega)]
    simp [accOk, tagB, l12ApartB, apartB, spanA, *]
  · have hx : -1 ≤ x5 := by omega
    rcases isSize_iff.1 hB with rfl | rfl | rfl | rfl
    all_goals (simp +decide only [go_sem, Nat.reduceAdd, Nat.reduceMul, Nat.reduceSub, Nat.reduceLT, Nat.reduceLeDiff, Nat.reduceEqDiff, Nat.add_assoc, Int.reduceAdd, Int.reduceSub, Int.reduceMul, Int.reduceLT, Int.reduceLE, Int.reduceEq, Int.reduceNeg, strOp_add, l1Fits_eq, l12Apart_eq, *]); repeat' (refine bB_split (fun hB => ?_) (fun hB => ?_) <;> (try simp only [Bool.and_eq_true, Bool.or_eq_false_iff, decide_eq_true_eq, decide_eq_false_iff_not] at hB) <;> simp +decide only [go_sem, Nat.reduceAdd, Nat.reduceMul, Nat.reduceSub, Nat.reduceLT, Nat.reduceLeDiff, Nat.reduceEqDiff, Nat.add_assoc, Int.reduceAdd, Int.reduceSub, Int.reduceMul, Int.reduceLT, Int.reduceLE, Int.reduceEq, Int.reduceNeg, strOp_add, hB, l1Fits_eq, l12Apart_eq, *])
    all_goals first
      | (simp [accOk, tagB, l12ApartB, apartB, spanA, *]; done)
      | (simp at hB; done)
end Go.Ev.Tryd
