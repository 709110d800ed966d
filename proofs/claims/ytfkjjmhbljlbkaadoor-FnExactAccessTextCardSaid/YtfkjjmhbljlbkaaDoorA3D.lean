/- Part of the proof of a statement about the given program: A3D. No condition of its own. -/
import Derived.Test.YtfkjjmhbljlbkaaDoorA2D
import Derived.Test.YtfkjjmhbljlbkaaDoorJD
import Derived.Lib.ItoaLen
namespace Go.Ev.Tryd
open Go.Proofs
set_option maxRecDepth 10000
set_option linter.unusedSimpArgs false
set_option linter.unusedVariables false
attribute [local congr] comes_congr bB_congr gK_congr gdK_congr

theorem dec_size (n : Int) (h0 : -9223372036854775808 ≤ n) (h1 : n ≤ 9223372036854775807) : (dec n).size ≤ 21 := by
  have := Lib.itoa_length_le n h0 h1
  simpa [dec, ByteArray.size] using this
theorem dec_small (u : Nat) (h : u < 10) : dec u = ⟨#[UInt8.ofNat (48 + u)]⟩ := by
  unfold dec Lib.itoa
  rw [if_neg (by omega)]
  have : ((u : Int)).toNat = u := by simp
  rw [this, Lib.decDigits, dif_pos h]
theorem dec_big (u : Nat) (h : ¬ u < 10) : dec u = dec ((u / 10 : Nat) : Int) ++ ⟨#[UInt8.ofNat (48 + u % 10)]⟩ := by
  unfold dec Lib.itoa
  rw [if_neg (by omega), if_neg (by omega)]
  have h1 : ((u : Int)).toNat = u := by simp
  have h2 : (((u / 10 : Nat) : Int)).toNat = u / 10 := Int.toNat_natCast _
  rw [h1, h2]
  conv => lhs; rw [Lib.decDigits, dif_neg h]
  apply ByteArray.ext
  simp
theorem dec_neg (u : Nat) (h : 1 ≤ u) : dec (-(u : Int)) = ⟨#[45]⟩ ++ dec u := by
  unfold dec Lib.itoa
  rw [if_pos (by omega), if_neg (by omega)]
  have h1 : (-(u : Int)).natAbs = u := by omega
  have h2 : ((u : Int)).toNat = u := by simp
  rw [h1, h2]
  apply ByteArray.ext
  simp
theorem l1Dec_nat (u : Nat) : u ≤ 9223372036854775807 → fnA CC PR 120 [.int .i64 u] = some (.str (dec u)) := by
  induction u using Nat.strongRecOn with
  | ind u ih =>
    intro hu
    apply comes_eq.1
    refine fnA_wp (rs := [.tmp 2]) Tryd.func120 rfl rfl (Nat.le_of_ble_eq_true rfl) rfl ?_
    have g1 : ((u : Int) < -9223372036854775807) = False := eq_false (by omega)
    have g2 : ((u : Int) < 0) = False := eq_false (by omega)
    by_cases h : u < 10
    · have g3 : ((u : Int) < 10) = True := eq_true (by omega)
      have w1 : IntKind.wrap .i64 (48 + (u : Int)) = ((48 + u : Nat) : Int) := by rw [wrap_id (by omega) (by omega)]; omega
      have w2 : IntKind.wrap .u8 ((48 + u : Nat) : Int) = ((48 + u : Nat) : Int) := wrap_u8 (by omega) (by omega)
      simp +decide only [go_sem, Nat.reduceAdd, Nat.reduceMul, Nat.reduceSub, Nat.reduceLT, Nat.reduceLeDiff, Nat.reduceEqDiff, Nat.add_assoc, Int.reduceAdd, Int.reduceSub, Int.reduceMul, Int.reduceLT, Int.reduceLE, Int.reduceEq, Int.reduceNeg, strOp_add, g1, g2, g3, w1, w2]
      rw [dec_small u h]
    · have g3 : ((u : Int) < 10) = False := eq_false (by omega)
      have w3 : IntKind.wrap .i64 ((u : Int).tdiv 10) = ((u / 10 : Nat) : Int) := by
        rw [Int.tdiv_eq_ediv_of_nonneg (by omega), wrap_id (by omega) (by omega)]; omega
      have w4 : (u : Int).tmod 10 = ((u % 10 : Nat) : Int) := by
        rw [Int.tmod_eq_emod_of_nonneg (by omega)]; omega
      have w1 : IntKind.wrap .i64 (48 + ((u % 10 : Nat) : Int)) = ((48 + u % 10 : Nat) : Int) := by rw [wrap_id (by omega) (by omega)]; omega
      have w2 : IntKind.wrap .u8 ((48 + u % 10 : Nat) : Int) = ((48 + u % 10 : Nat) : Int) := wrap_u8 (by omega) (by omega)
      have hr := ih (u / 10) (by omega) (by omega)
      have hz' := dec_size ((u / 10 : Nat) : Int) (by omega) (by omega)
      have hz : (dec ((u / 10 : Nat) : Int)).size ≤ 9223372036854775806 := by omega
      simp +decide only [go_sem, Nat.reduceAdd, Nat.reduceMul, Nat.reduceSub, Nat.reduceLT, Nat.reduceLeDiff, Nat.reduceEqDiff, Nat.add_assoc, Int.reduceAdd, Int.reduceSub, Int.reduceMul, Int.reduceLT, Int.reduceLE, Int.reduceEq, Int.reduceNeg, strOp_add, g1, g2, g3]
      refine (d_plan (ord := [0, 1, 2, 3, 4, 5, 6, 7, 8, 9, 10]) (prs := [(2, 6), (2, 7), (2, 8)]) (by kernel_rfl)).2 ?_
      simp +decide only [go_sem, Nat.reduceAdd, Nat.reduceMul, Nat.reduceSub, Nat.reduceLT, Nat.reduceLeDiff, Nat.reduceEqDiff, Nat.add_assoc, Int.reduceAdd, Int.reduceSub, Int.reduceMul, Int.reduceLT, Int.reduceLE, Int.reduceEq, Int.reduceNeg, strOp_add, w1, w2, w3, w4, hr, hz]
      rw [dec_big u h]
@[go_sem] theorem dec_min : dec (-9223372036854775808) = ⟨#[45, 57, 50, 50, 51, 51, 55, 50, 48, 51, 54, 56, 53, 52, 55, 55, 53, 56, 48, 56]⟩ := by
  have := dec_neg 9223372036854775808 (by omega)
  rw [show (-((9223372036854775808 : Nat) : Int)) = -9223372036854775808 from rfl] at this
  rw [this]
  decide +kernel
theorem l1Dec_eq (n : Int) (h0 : -9223372036854775808 ≤ n) (h1 : n ≤ 9223372036854775807) : fnA CC PR 120 [.int .i64 n] = some (.str (dec n)) := by
  by_cases hn : 0 ≤ n
  · have := l1Dec_nat n.toNat (by omega)
    rwa [show ((n.toNat : Nat) : Int) = n by omega] at this
  · apply comes_eq.1
    refine fnA_wp (rs := [.tmp 2]) Tryd.func120 rfl rfl (Nat.le_of_ble_eq_true rfl) rfl ?_
    by_cases hm : n = -9223372036854775808
    · subst hm
      simp +decide only [go_sem, Nat.reduceAdd, Nat.reduceMul, Nat.reduceSub, Nat.reduceLT, Nat.reduceLeDiff, Nat.reduceEqDiff, Nat.add_assoc, Int.reduceAdd, Int.reduceSub, Int.reduceMul, Int.reduceLT, Int.reduceLE, Int.reduceEq, Int.reduceNeg, strOp_add]
    · have g1 : (n < -9223372036854775807) = False := eq_false (by omega)
      have g2 : (n < 0) = True := eq_true (by omega)
      have w1 : IntKind.wrap .i64 (0 - n) = ((n.natAbs : Nat) : Int) := by rw [wrap_id (by omega) (by omega)]; omega
      have hr := l1Dec_nat n.natAbs (by omega)
      have hz' := dec_size ((n.natAbs : Nat) : Int) (by omega) (by omega)
      have hz : 1 + (dec ((n.natAbs : Nat) : Int)).size ≤ 9223372036854775807 := by omega
      have e : dec n = ⟨#[45]⟩ ++ dec ((n.natAbs : Nat) : Int) := by
        rw [← dec_neg n.natAbs (by omega)]
        congr 1
        omega
      simp +decide only [go_sem, Nat.reduceAdd, Nat.reduceMul, Nat.reduceSub, Nat.reduceLT, Nat.reduceLeDiff, Nat.reduceEqDiff, Nat.add_assoc, Int.reduceAdd, Int.reduceSub, Int.reduceMul, Int.reduceLT, Int.reduceLE, Int.reduceEq, Int.reduceNeg, strOp_add, g1, g2, w1, hr, hz]
      rw [e]
/-- An access as its line. -/
def accText (x0 : ByteArray) (x1 x2 x3 x4 x5 x6 : Int) : ByteArray :=
  let out := x0 ++ ⟨#[32, 105, 115, 32]⟩
  let out := if x1 = 1 then out ++ ⟨#[98, 105, 116, 32]⟩ ++ dec x2 ++ ⟨#[32, 116, 117, 114, 110, 101, 100, 32]⟩ ++ dec x4
    else if x1 = 2 then out ++ ⟨#[98, 121, 116, 101, 115, 32]⟩ ++ dec x2 ++ ⟨#[32, 115, 105, 122, 101, 32]⟩ ++ dec x3 ++ ⟨#[32, 116, 117, 114, 110, 101, 100, 32]⟩ ++ dec x4
    else out ++ ⟨#[112, 111, 105, 110, 116, 101, 114, 32]⟩ ++ dec x2
  if 0 ≤ x5 then out ++ ⟨#[32, 105, 102, 32]⟩ ++ dec x5 ++ ⟨#[32, 116, 101, 108, 108, 115, 32]⟩ ++ dec x6 else out
def i64 (n : Int) : Prop := -9223372036854775808 ≤ n ∧ n ≤ 9223372036854775807
theorem l12Text_eq (x0 : ByteArray) (x1 x2 x3 x4 x5 x6 : Int) (h0 : x0.size ≤ 1000) (h2 : i64 x2) (h3 : i64 x3) (h4 : i64 x4) (h5 : i64 x5) (h6 : i64 x6) :
    fnA CC PR 58 [accA x0 x1 x2 x3 x4 x5 x6] = some (.str (accText x0 x1 x2 x3 x4 x5 x6)) := by
  apply comes_eq.1
  refine fnA_wp (rs := [.tmp 2]) Tryd.func58 rfl rfl (Nat.le_of_ble_eq_true rfl) rfl ?_
  have d2 := l1Dec_eq x2 h2.1 h2.2
  have d3 := l1Dec_eq x3 h3.1 h3.2
  have d4 := l1Dec_eq x4 h4.1 h4.2
  have d5 := l1Dec_eq x5 h5.1 h5.2
  have d6 := l1Dec_eq x6 h6.1 h6.2
  have z2 := dec_size x2 h2.1 h2.2
  have z3 := dec_size x3 h3.1 h3.2
  have z4 := dec_size x4 h4.1 h4.2
  have z5 := dec_size x5 h5.1 h5.2
  have z6 := dec_size x6 h6.1 h6.2
  simp +decide (disch := first | decide | (simp only [size_cat, size_lit, List.size_toArray, List.length_cons, List.length_nil]; omega)) only [go_sem, Nat.reduceAdd, Nat.reduceMul, Nat.reduceSub, Nat.reduceLT, Nat.reduceLeDiff, Nat.reduceEqDiff, Nat.add_assoc, Int.reduceAdd, Int.reduceSub, Int.reduceMul, Int.reduceLT, Int.reduceLE, Int.reduceEq, Int.reduceNeg, str_add]
  refine bB_split (fun hB => ?_) (fun hB => ?_)
  · simp only [decide_eq_true_eq] at hB
    simp +decide (disch := first | decide | (simp only [size_cat, size_lit, List.size_toArray, List.length_cons, List.length_nil]; omega)) only [go_sem, Nat.reduceAdd, Nat.reduceMul, Nat.reduceSub, Nat.reduceLT, Nat.reduceLeDiff, Nat.reduceEqDiff, Nat.add_assoc, Int.reduceAdd, Int.reduceSub, Int.reduceMul, Int.reduceLT, Int.reduceLE, Int.reduceEq, Int.reduceNeg, str_add, hB]
    refine (d_plan (ord := [0, 1, 2, 3, 4, 5, 6, 7, 8, 9, 10, 11]) (prs := [(3, 8), (4, 8)]) (by kernel_rfl)).2 ?_
    simp +decide (disch := first | decide | (simp only [size_cat, size_lit, List.size_toArray, List.length_cons, List.length_nil]; omega)) only [go_sem, Nat.reduceAdd, Nat.reduceMul, Nat.reduceSub, Nat.reduceLT, Nat.reduceLeDiff, Nat.reduceEqDiff, Nat.add_assoc, Int.reduceAdd, Int.reduceSub, Int.reduceMul, Int.reduceLT, Int.reduceLE, Int.reduceEq, Int.reduceNeg, str_add, d2, d3, d4, d5, d6]
    refine bB_split (fun hT => ?_) (fun hT => ?_)
    · simp only [decide_eq_true_eq] at hT
      simp +decide (disch := first | decide | (simp only [size_cat, size_lit, List.size_toArray, List.length_cons, List.length_nil]; omega)) only [go_sem, Nat.reduceAdd, Nat.reduceMul, Nat.reduceSub, Nat.reduceLT, Nat.reduceLeDiff, Nat.reduceEqDiff, Nat.add_assoc, Int.reduceAdd, Int.reduceSub, Int.reduceMul, Int.reduceLT, Int.reduceLE, Int.reduceEq, Int.reduceNeg, str_add, hT]
      refine (d_plan (ord := [0, 1, 2, 3, 4, 5, 6, 7, 8, 9, 10, 11]) (prs := [(3, 8), (4, 8)]) (by kernel_rfl)).2 ?_
      simp +decide (disch := first | decide | (simp only [size_cat, size_lit, List.size_toArray, List.length_cons, List.length_nil]; omega)) only [go_sem, Nat.reduceAdd, Nat.reduceMul, Nat.reduceSub, Nat.reduceLT, Nat.reduceLeDiff, Nat.reduceEqDiff, Nat.add_assoc, Int.reduceAdd, Int.reduceSub, Int.reduceMul, Int.reduceLT, Int.reduceLE, Int.reduceEq, Int.reduceNeg, str_add, d2, d3, d4, d5, d6]
      simp [accText, *]
    · simp only [decide_eq_false_iff_not] at hT
      simp +decide (disch := first | decide | (simp only [size_cat, size_lit, List.size_toArray, List.length_cons, List.length_nil]; omega)) only [go_sem, Nat.reduceAdd, Nat.reduceMul, Nat.reduceSub, Nat.reduceLT, Nat.reduceLeDiff, Nat.reduceEqDiff, Nat.add_assoc, Int.reduceAdd, Int.reduceSub, Int.reduceMul, Int.reduceLT, Int.reduceLE, Int.reduceEq, Int.reduceNeg, str_add, hT]
      simp [accText, *]
  · simp only [decide_eq_false_iff_not] at hB
    simp +decide (disch := first | decide | (simp only [size_cat, size_lit, List.size_toArray, List.length_cons, List.length_nil]; omega)) only [go_sem, Nat.reduceAdd, Nat.reduceMul, Nat.reduceSub, Nat.reduceLT, Nat.reduceLeDiff, Nat.reduceEqDiff, Nat.add_assoc, Int.reduceAdd, Int.reduceSub, Int.reduceMul, Int.reduceLT, Int.reduceLE, Int.reduceEq, Int.reduceNeg, str_add, hB]
    refine bB_split (fun hB2 => ?_) (fun hB2 => ?_)
    · simp only [decide_eq_true_eq] at hB2
      simp +decide (disch := first | decide | (simp only [size_cat, size_lit, List.size_toArray, List.length_cons, List.length_nil]; omega)) only [go_sem, Nat.reduceAdd, Nat.reduceMul, Nat.reduceSub, Nat.reduceLT, Nat.reduceLeDiff, Nat.reduceEqDiff, Nat.add_assoc, Int.reduceAdd, Int.reduceSub, Int.reduceMul, Int.reduceLT, Int.reduceLE, Int.reduceEq, Int.reduceNeg, str_add, hB2]
      refine (d_plan (ord := [0, 1, 2, 3, 4, 5, 6, 7, 8, 9, 10, 11, 12, 13, 14, 15, 16]) (prs := [(3, 8), (4, 8), (3, 13), (4, 13), (8, 13), (9, 13)]) (by kernel_rfl)).2 ?_
      simp +decide (disch := first | decide | (simp only [size_cat, size_lit, List.size_toArray, List.length_cons, List.length_nil]; omega)) only [go_sem, Nat.reduceAdd, Nat.reduceMul, Nat.reduceSub, Nat.reduceLT, Nat.reduceLeDiff, Nat.reduceEqDiff, Nat.add_assoc, Int.reduceAdd, Int.reduceSub, Int.reduceMul, Int.reduceLT, Int.reduceLE, Int.reduceEq, Int.reduceNeg, str_add, d2, d3, d4, d5, d6]
      refine bB_split (fun hT => ?_) (fun hT => ?_)
      · simp only [decide_eq_true_eq] at hT
        simp +decide (disch := first | decide | (simp only [size_cat, size_lit, List.size_toArray, List.length_cons, List.length_nil]; omega)) only [go_sem, Nat.reduceAdd, Nat.reduceMul, Nat.reduceSub, Nat.reduceLT, Nat.reduceLeDiff, Nat.reduceEqDiff, Nat.add_assoc, Int.reduceAdd, Int.reduceSub, Int.reduceMul, Int.reduceLT, Int.reduceLE, Int.reduceEq, Int.reduceNeg, str_add, hT]
        refine (d_plan (ord := [0, 1, 2, 3, 4, 5, 6, 7, 8, 9, 10, 11]) (prs := [(3, 8), (4, 8)]) (by kernel_rfl)).2 ?_
        simp +decide (disch := first | decide | (simp only [size_cat, size_lit, List.size_toArray, List.length_cons, List.length_nil]; omega)) only [go_sem, Nat.reduceAdd, Nat.reduceMul, Nat.reduceSub, Nat.reduceLT, Nat.reduceLeDiff, Nat.reduceEqDiff, Nat.add_assoc, Int.reduceAdd, Int.reduceSub, Int.reduceMul, Int.reduceLT, Int.reduceLE, Int.reduceEq, Int.reduceNeg, str_add, d2, d3, d4, d5, d6]
        simp [accText, *]
      · simp only [decide_eq_false_iff_not] at hT
        simp +decide (disch := first | decide | (simp only [size_cat, size_lit, List.size_toArray, List.length_cons, List.length_nil]; omega)) only [go_sem, Nat.reduceAdd, Nat.reduceMul, Nat.reduceSub, Nat.reduceLT, Nat.reduceLeDiff, Nat.reduceEqDiff, Nat.add_assoc, Int.reduceAdd, Int.reduceSub, Int.reduceMul, Int.reduceLT, Int.reduceLE, Int.reduceEq, Int.reduceNeg, str_add, hT]
        simp [accText, *]
    · simp only [decide_eq_false_iff_not] at hB2
      simp +decide (disch := first | decide | (simp only [size_cat, size_lit, List.size_toArray, List.length_cons, List.length_nil]; omega)) only [go_sem, Nat.reduceAdd, Nat.reduceMul, Nat.reduceSub, Nat.reduceLT, Nat.reduceLeDiff, Nat.reduceEqDiff, Nat.add_assoc, Int.reduceAdd, Int.reduceSub, Int.reduceMul, Int.reduceLT, Int.reduceLE, Int.reduceEq, Int.reduceNeg, str_add, hB2, d2, d3, d4, d5, d6]
      refine bB_split (fun hT => ?_) (fun hT => ?_)
      · simp only [decide_eq_true_eq] at hT
        simp +decide (disch := first | decide | (simp only [size_cat, size_lit, List.size_toArray, List.length_cons, List.length_nil]; omega)) only [go_sem, Nat.reduceAdd, Nat.reduceMul, Nat.reduceSub, Nat.reduceLT, Nat.reduceLeDiff, Nat.reduceEqDiff, Nat.add_assoc, Int.reduceAdd, Int.reduceSub, Int.reduceMul, Int.reduceLT, Int.reduceLE, Int.reduceEq, Int.reduceNeg, str_add, hT]
        refine (d_plan (ord := [0, 1, 2, 3, 4, 5, 6, 7, 8, 9, 10, 11]) (prs := [(3, 8), (4, 8)]) (by kernel_rfl)).2 ?_
        simp +decide (disch := first | decide | (simp only [size_cat, size_lit, List.size_toArray, List.length_cons, List.length_nil]; omega)) only [go_sem, Nat.reduceAdd, Nat.reduceMul, Nat.reduceSub, Nat.reduceLT, Nat.reduceLeDiff, Nat.reduceEqDiff, Nat.add_assoc, Int.reduceAdd, Int.reduceSub, Int.reduceMul, Int.reduceLT, Int.reduceLE, Int.reduceEq, Int.reduceNeg, str_add, d2, d3, d4, d5, d6]
        simp [accText, *]
      · simp only [decide_eq_false_iff_not] at hT
        simp +decide (disch := first | decide | (simp only [size_cat, size_lit, List.size_toArray, List.length_cons, List.length_nil]; omega)) only [go_sem, Nat.reduceAdd, Nat.reduceMul, Nat.reduceSub, Nat.reduceLT, Nat.reduceLeDiff, Nat.reduceEqDiff, Nat.add_assoc, Int.reduceAdd, Int.reduceSub, Int.reduceMul, Int.reduceLT, Int.reduceLE, Int.reduceEq, Int.reduceNeg, str_add, hT]
        simp [accText, *]
end Go.Ev.Tryd
