/- Part of the proof of a statement about the given program: Y24I. No condition of its own. -/
import Derived.Test.YthlmbapkgblnkaaDoorY23I
namespace Go.Ev.Tryd
open Go.Proofs
set_option maxRecDepth 10000
set_option linter.unusedSimpArgs false
set_option linter.unusedVariables false
attribute [local congr] comes_congr bB_congr gK_congr gdK_congr

theorem wrap_u (n : Int) : IntKind.wrap .u64 n = ((BitVec.ofInt 64 n).toNat : Int) := by
  rw [BitVec.toNat_ofInt]
  show n % (2 ^ 64 : Int) = _
  omega
theorem wrap_i (n : Int) : IntKind.wrap .i64 n = (BitVec.ofInt 64 n).toInt := by
  rw [BitVec.toInt_ofInt, Int.bmod_def]
  unfold IntKind.wrap
  have hb : IntKind.bits .i64 = 64 := rfl
  have hs : IntKind.signed .i64 = true := rfl
  simp only [hb, hs, Bool.true_and, decide_eq_true_eq]
  rw [show (2 : Int) ^ 64 = 18446744073709551616 from rfl, show (2 : Int) ^ (64 - 1) = 9223372036854775808 from rfl, show ((2 ^ 64 : Nat) : Int) = 18446744073709551616 from rfl]
  split <;> split <;> omega
theorem shl_u (X : BitVec 64) : IntKind.wrap .u64 ((X.toNat : Int) * 256) = ((X <<< 8).toNat : Int) := by
  rw [wrap_u, BitVec.toNat_ofInt, BitVec.toNat_shiftLeft, Nat.shiftLeft_eq]
  omega
theorem shl_u' (X : BitVec 64) : IntKind.wrap .u64 ((X.toNat : Int) * 2 ^ min 8 64) = ((X <<< 8).toNat : Int) := shl_u X
theorem of_int (X : BitVec 64) : BitVec.ofInt 64 X.toInt = X := BitVec.ofInt_toInt
theorem of_nat (X : BitVec 64) : BitVec.ofInt 64 (X.toNat : Int) = X := by
  rw [BitVec.ofInt_natCast, BitVec.ofNat_toNat, BitVec.setWidth_eq]
theorem shl_i (X : BitVec 64) : IntKind.wrap .i64 (X.toInt * 256) = (X <<< 8).toInt := by
  rw [wrap_i]
  congr 1
  rw [BitVec.ofInt_mul, of_int]
  apply BitVec.eq_of_toNat_eq
  rw [BitVec.toNat_shiftLeft, Nat.shiftLeft_eq, BitVec.toNat_mul]
  rfl
theorem shl_i' (X : BitVec 64) : IntKind.wrap .i64 (X.toInt * 2 ^ min 8 64) = (X <<< 8).toInt := shl_i X
theorem or_u (X : BitVec 64) (b : Nat) : IntKind.wrap .u64 ((BitVec.ofInt 64 (X.toNat : Int) ||| BitVec.ofInt 64 (b : Int)).toNat : Int) = ((X ||| BitVec.ofNat 64 b).toNat : Int) := by
  rw [of_nat, BitVec.ofInt_natCast, wrap_u, of_nat]
theorem or_i (X : BitVec 64) (b : Nat) : IntKind.wrap .i64 ((BitVec.ofInt 64 X.toInt ||| BitVec.ofInt 64 (b : Int)).toNat : Int) = (X ||| BitVec.ofNat 64 b).toInt := by
  rw [of_int, BitVec.ofInt_natCast, wrap_i, of_nat]
/-- The byte at a place; 0, where there is none. -/
def byA (t : ByteArray) (k : Nat) : Nat := if k < t.size then (sget t k).toNat else 0
/-- What is read, when so many bytes of so many are read, the last ones first. -/
def fe (t : ByteArray) (p s : Nat) : Nat → BitVec 64
  | 0 => 0#64
  | j + 1 => (fe t p s j <<< 8) ||| BitVec.ofNat 64 (byA t (p + (s - 1 - j)))
def feI (t : ByteArray) (p s : Nat) : Int := (fe t p s s).toInt
theorem fetch_eq (t : ByteArray) (p s : Nat) (hp : p ≤ 1000000) (hs : s ≤ 8) (h1 : 1 ≤ s) (ht : t.size ≤ 1099511627776) : fnA CC PR 28 [.str t, .int .i64 (p : Int), .int .i64 (s : Int)] = some (.int .i64 (feI t p s)) := by
  have w0 : IntKind.wrap .i64 ((s : Int) - 1) = (s : Int) - 1 := wrap_id (by omega) (by omega)
  apply comes_eq.1
  refine fnA_wp (rs := [.tmp 6]) Tryd.func28 rfl rfl (Nat.le_of_ble_eq_true rfl) rfl ?_
  simp +decide only [go_sem, Nat.reduceAdd, Nat.reduceMul, Nat.reduceSub, Nat.reduceLT, Nat.reduceLeDiff, Nat.reduceEqDiff, Nat.add_assoc, Int.reduceAdd, Int.reduceSub, Int.reduceMul, Int.reduceLT, Int.reduceLE, Int.reduceEq, Int.reduceNeg, strOp_add, w0]
  refine comes_upto s (fun j st => st.env 0 = .str t ∧ st.env 1 = .int .i64 (p : Int) ∧ st.env 7 = .int .u64 ((fe t p s j).toNat : Int) ∧ st.env 8 = .int .i64 ((s : Int) - 1 - j)) ?_ ?_ _ ?_
  · rintro j st hj ⟨e0, e1, e7, e8⟩
    obtain ⟨q, hq⟩ : ∃ q : Nat, q = s - 1 - j := ⟨_, rfl⟩
    have hq' : (s : Int) - 1 - j = (q : Int) := by omega
    rw [hq'] at e8
    have w1 : IntKind.wrap .i64 ((q : Int) - 1) = (s : Int) - 1 - ((j + 1 : Nat) : Int) := by rw [wrap_id (by omega) (by omega)]; omega
    have w2 : IntKind.wrap .i64 ((p : Int) + (q : Int)) = ((p + q : Nat) : Int) := by rw [wrap_id (by omega) (by omega)]; omega
    have hq0 : (0 ≤ (q : Int)) = True := eq_true (by omega)
    have hfe : fe t p s (j + 1) = (fe t p s j <<< 8) ||| BitVec.ofNat 64 (byA t (p + q)) := by rw [fe, ← hq]
    generalize fe t p s (j + 1) = F at *
    generalize fe t p s j = X at *
    have g1 := shl_u' X
    have g2 := or_u (X <<< 8) (byA t (p + q))
    by_cases hl : p + q < t.size
    · have l1 : (((p + q : Nat) : Int) < ((t.size : Nat) : Int)) = True := eq_true (by omega)
      unfold byA at g2 hfe
      rw [if_pos hl] at g2 hfe
      have hl1 := s_at hl
      have c8 : IntKind.wrap .u64 (((sget t (p + q)).toNat : Nat) : Int) = (((sget t (p + q)).toNat : Nat) : Int) := by rw [wrap_u, BitVec.ofInt_natCast, BitVec.toNat_ofNat]; have := (sget t (p + q)).toNat_lt; omega
      rw [← hfe] at g2
      simp +decide only [go_sem, Nat.reduceAdd, Nat.reduceMul, Nat.reduceSub, Nat.reduceLT, Nat.reduceLeDiff, Nat.reduceEqDiff, Nat.add_assoc, Int.reduceAdd, Int.reduceSub, Int.reduceMul, Int.reduceLT, Int.reduceLE, Int.reduceEq, Int.reduceNeg, strOp_add, e0, e1, e7, e8, hq0, w1, w2, l1, hl, hl1, c8, g1]
      exact congrArg (AV.int .u64) g2
    · have l1 : (((p + q : Nat) : Int) < ((t.size : Nat) : Int)) = False := eq_false (by omega)
      unfold byA at hfe
      rw [if_neg hl] at hfe
      rw [hfe, BitVec.or_zero]
      simp +decide only [go_sem, Nat.reduceAdd, Nat.reduceMul, Nat.reduceSub, Nat.reduceLT, Nat.reduceLeDiff, Nat.reduceEqDiff, Nat.add_assoc, Int.reduceAdd, Int.reduceSub, Int.reduceMul, Int.reduceLT, Int.reduceLE, Int.reduceEq, Int.reduceNeg, strOp_add, e0, e1, e7, e8, hq0, w1, w2, l1, g1]
  · rintro st ⟨e0, e1, e7, e8⟩
    have hq0 : (0 ≤ (s : Int) - 1 - (s : Int)) = False := eq_false (by omega)
    have c1 : IntKind.wrap .i64 (((fe t p s s).toNat : Nat) : Int) = feI t p s := by rw [wrap_i, of_nat]; rfl
    simp +decide only [go_sem, Nat.reduceAdd, Nat.reduceMul, Nat.reduceSub, Nat.reduceLT, Nat.reduceLeDiff, Nat.reduceEqDiff, Nat.add_assoc, Int.reduceAdd, Int.reduceSub, Int.reduceMul, Int.reduceLT, Int.reduceLE, Int.reduceEq, Int.reduceNeg, strOp_add, e0, e1, e7, e8, hq0, c1]
  · simp +decide only [go_sem, Nat.reduceAdd, Nat.reduceMul, Nat.reduceSub, Nat.reduceLT, Nat.reduceLeDiff, Nat.reduceEqDiff, Nat.add_assoc, Int.reduceAdd, Int.reduceSub, Int.reduceMul, Int.reduceLT, Int.reduceLE, Int.reduceEq, Int.reduceNeg, strOp_add]
    exact ⟨rfl, congrArg (AV.int .i64) (by omega)⟩
theorem l1Get_eq (t : ByteArray) (p s : Nat) (hp : p ≤ 1000000) (hs : s ≤ 8) (h1 : 1 ≤ s) (ht : t.size ≤ 1099511627776) : fnA CC PR 22 [.str t, .int .i64 (p : Int), .int .i64 (s : Int)] = some (.int .i64 (feI t p s)) := by
  have w0 : IntKind.wrap .i64 ((s : Int) - 1) = (s : Int) - 1 := wrap_id (by omega) (by omega)
  apply comes_eq.1
  refine fnA_wp (rs := [.tmp 6]) Tryd.func22 rfl rfl (Nat.le_of_ble_eq_true rfl) rfl ?_
  simp +decide only [go_sem, Nat.reduceAdd, Nat.reduceMul, Nat.reduceSub, Nat.reduceLT, Nat.reduceLeDiff, Nat.reduceEqDiff, Nat.add_assoc, Int.reduceAdd, Int.reduceSub, Int.reduceMul, Int.reduceLT, Int.reduceLE, Int.reduceEq, Int.reduceNeg, strOp_add, w0]
  refine comes_upto s (fun j st => st.env 0 = .str t ∧ st.env 1 = .int .i64 (p : Int) ∧ st.env 7 = .int .i64 (fe t p s j).toInt ∧ st.env 8 = .int .i64 ((s : Int) - 1 - j)) ?_ ?_ _ ?_
  · rintro j st hj ⟨e0, e1, e7, e8⟩
    obtain ⟨q, hq⟩ : ∃ q : Nat, q = s - 1 - j := ⟨_, rfl⟩
    have hq' : (s : Int) - 1 - j = (q : Int) := by omega
    rw [hq'] at e8
    have w1 : IntKind.wrap .i64 ((q : Int) - 1) = (s : Int) - 1 - ((j + 1 : Nat) : Int) := by rw [wrap_id (by omega) (by omega)]; omega
    have w2 : IntKind.wrap .i64 ((p : Int) + (q : Int)) = ((p + q : Nat) : Int) := by rw [wrap_id (by omega) (by omega)]; omega
    have hq0 : (0 ≤ (q : Int)) = True := eq_true (by omega)
    have hfe : fe t p s (j + 1) = (fe t p s j <<< 8) ||| BitVec.ofNat 64 (byA t (p + q)) := by rw [fe, ← hq]
    generalize fe t p s (j + 1) = F at *
    generalize fe t p s j = X at *
    have g1 := shl_i' X
    have g2 := or_i (X <<< 8) (byA t (p + q))
    rw [← hfe] at g2
    by_cases hl : p + q < t.size
    · have l1 : (((p + q : Nat) : Int) < ((t.size : Nat) : Int)) = True := eq_true (by omega)
      unfold byA at g2
      rw [if_pos hl] at g2
      have hl1 := s_at hl
      have c8 : IntKind.wrap .i64 (((sget t (p + q)).toNat : Nat) : Int) = (((sget t (p + q)).toNat : Nat) : Int) := wrap_id (by omega) (by have := (sget t (p + q)).toNat_lt; omega)
      simp +decide only [go_sem, Nat.reduceAdd, Nat.reduceMul, Nat.reduceSub, Nat.reduceLT, Nat.reduceLeDiff, Nat.reduceEqDiff, Nat.add_assoc, Int.reduceAdd, Int.reduceSub, Int.reduceMul, Int.reduceLT, Int.reduceLE, Int.reduceEq, Int.reduceNeg, strOp_add, e0, e1, e7, e8, hq0, w1, w2, l1, hl, hl1, c8, g1]
      exact congrArg (AV.int .i64) g2
    · have l1 : (((p + q : Nat) : Int) < ((t.size : Nat) : Int)) = False := eq_false (by omega)
      unfold byA at g2
      rw [if_neg hl] at g2
      simp +decide only [go_sem, Nat.reduceAdd, Nat.reduceMul, Nat.reduceSub, Nat.reduceLT, Nat.reduceLeDiff, Nat.reduceEqDiff, Nat.add_assoc, Int.reduceAdd, Int.reduceSub, Int.reduceMul, Int.reduceLT, Int.reduceLE, Int.reduceEq, Int.reduceNeg, strOp_add, e0, e1, e7, e8, hq0, w1, w2, l1, g1]
      exact congrArg (AV.int .i64) g2
  · rintro st ⟨e0, e1, e7, e8⟩
    have hq0 : (0 ≤ (s : Int) - 1 - (s : Int)) = False := eq_false (by omega)
    simp +decide only [go_sem, Nat.reduceAdd, Nat.reduceMul, Nat.reduceSub, Nat.reduceLT, Nat.reduceLeDiff, Nat.reduceEqDiff, Nat.add_assoc, Int.reduceAdd, Int.reduceSub, Int.reduceMul, Int.reduceLT, Int.reduceLE, Int.reduceEq, Int.reduceNeg, strOp_add, e0, e1, e7, e8, hq0]
    rfl
  · simp +decide only [go_sem, Nat.reduceAdd, Nat.reduceMul, Nat.reduceSub, Nat.reduceLT, Nat.reduceLeDiff, Nat.reduceEqDiff, Nat.add_assoc, Int.reduceAdd, Int.reduceSub, Int.reduceMul, Int.reduceLT, Int.reduceLE, Int.reduceEq, Int.reduceNeg, strOp_add]
    exact ⟨rfl, congrArg (AV.int .i64) (by omega)⟩
/-! ### bits -/
def bitA (t : ByteArray) (k : Nat) : Nat := if k / 8 < t.size then (sget t (k / 8)).toNat / 2 ^ (k % 8) % 2 else 0
theorem and1 (n : Nat) (h : n < 256) : bitsI .i64 (· &&& ·) (n : Int) 1 = .int .i64 ((n % 2 : Nat) : Int) := by
  show AV.int .i64 (IntKind.wrap .i64 ((BitVec.ofInt 64 (n : Int) &&& BitVec.ofInt 64 1).toNat : Int)) = _
  congr 1
  rw [BitVec.ofInt_natCast, BitVec.toNat_and, BitVec.toNat_ofNat, show (BitVec.ofInt 64 1).toNat = 1 from rfl, Nat.and_one_is_mod, wrap_id (by omega) (by omega)]
  omega
theorem bitOf_eq (t : ByteArray) (k : Nat) (hk : k ≤ 1000000) (ht : t.size ≤ 1099511627776) : fnA CC PR 29 [.str t, .int .i64 (k : Int)] = some (.int .i64 (bitA t k)) := by
  have m0 : ((k : Int) < 0) = False := eq_false (by omega)
  have m1 : ((k : Int).tdiv 8) = ((k / 8 : Nat) : Int) := rfl
  have m2 : ((k : Int).tmod 8) = ((k % 8 : Nat) : Int) := rfl
  have m3 : IntKind.wrap .i64 ((k / 8 : Nat) : Int) = ((k / 8 : Nat) : Int) := wrap_id (by omega) (by omega)
  have m4 : (((k % 8 : Nat) : Int) < 0) = False := eq_false (by omega)
  have m5 : min (k % 8) 64 = k % 8 := Nat.min_eq_left (by omega)
  apply comes_eq.1
  refine fnA_wp (rs := [.tmp 4]) Tryd.func29 rfl rfl (Nat.le_of_ble_eq_true rfl) rfl ?_
  unfold bitA
  by_cases hl : k / 8 < t.size
  · have l1 : (((t.size : Nat) : Int) ≤ ((k / 8 : Nat) : Int)) = False := eq_false (by omega)
    have hl1 := s_at hl
    have w2 : IntKind.wrap .i64 (((sget t (k / 8)).toNat : Nat) : Int) = (((sget t (k / 8)).toNat : Nat) : Int) := wrap_id (by omega) (by have := (sget t (k / 8)).toNat_lt; omega)
    have m6 := fd (sget t (k / 8)).toNat (k % 8)
    have m7 := and1 ((sget t (k / 8)).toNat / 2 ^ (k % 8)) (Nat.lt_of_le_of_lt (Nat.div_le_self _ _) (sget t (k / 8)).toNat_lt)
    rw [if_pos hl]
    generalize k / 8 = k8 at *
    simp +decide only [go_sem, Nat.reduceAdd, Nat.reduceMul, Nat.reduceSub, Nat.reduceLT, Nat.reduceLeDiff, Nat.reduceEqDiff, Nat.add_assoc, Int.reduceAdd, Int.reduceSub, Int.reduceMul, Int.reduceLT, Int.reduceLE, Int.reduceEq, Int.reduceNeg, strOp_add, m0, m1, m2, m3, m4, m5, l1, hl, hl1, w2, m6, m7]
    erw [m7]
    simp +decide only [go_sem, Nat.reduceAdd, Nat.reduceMul, Nat.reduceSub, Nat.reduceLT, Nat.reduceLeDiff, Nat.reduceEqDiff, Nat.add_assoc, Int.reduceAdd, Int.reduceSub, Int.reduceMul, Int.reduceLT, Int.reduceLE, Int.reduceEq, Int.reduceNeg, strOp_add]
  · have l1 : (((t.size : Nat) : Int) ≤ ((k / 8 : Nat) : Int)) = True := eq_true (by omega)
    rw [if_neg hl]
    generalize k / 8 = k8 at *
    simp +decide only [go_sem, Nat.reduceAdd, Nat.reduceMul, Nat.reduceSub, Nat.reduceLT, Nat.reduceLeDiff, Nat.reduceEqDiff, Nat.add_assoc, Int.reduceAdd, Int.reduceSub, Int.reduceMul, Int.reduceLT, Int.reduceLE, Int.reduceEq, Int.reduceNeg, strOp_add, m0, m1, m2, m3, l1]
    rfl
theorem BitGet_eq (t : ByteArray) (k : Nat) (hk : k ≤ 1000000) (ht : t.size ≤ 1600) (h8 : t.size % 8 = 0) : fnA CC PR 23 [.str t, .int .i64 (k : Int)] = some (.int .i64 (bitA t k)) := by
  have hok : fnA CC PR 50 [.str t] = some (.bool true) := by
    have n1 : ((t.size : Int).tmod 8) = ((t.size % 8 : Nat) : Int) := rfl
    have n2 : ((t.size : Int) ≤ 1600) = True := eq_true (by omega)
    apply comes_eq.1
    refine fnA_wp (rs := [.tmp 2]) Tryd.func50 rfl rfl (Nat.le_of_ble_eq_true rfl) rfl ?_
    simp +decide only [go_sem, Nat.reduceAdd, Nat.reduceMul, Nat.reduceSub, Nat.reduceLT, Nat.reduceLeDiff, Nat.reduceEqDiff, Nat.add_assoc, Int.reduceAdd, Int.reduceSub, Int.reduceMul, Int.reduceLT, Int.reduceLE, Int.reduceEq, Int.reduceNeg, strOp_add, n1, n2, h8]
  have m0 : ((k : Int) < 0) = False := eq_false (by omega)
  have m1 : ((k : Int).tdiv 8) = ((k / 8 : Nat) : Int) := rfl
  have m2 : ((k : Int).tmod 8) = ((k % 8 : Nat) : Int) := rfl
  have m3 : IntKind.wrap .i64 ((k / 8 : Nat) : Int) = ((k / 8 : Nat) : Int) := wrap_id (by omega) (by omega)
  have m4 : (((k % 8 : Nat) : Int) < 0) = False := eq_false (by omega)
  have m5 : min (k % 8) 64 = k % 8 := Nat.min_eq_left (by omega)
  have m9 : IntKind.wrap .i64 (8 * (t.size : Int)) = ((8 * t.size : Nat) : Int) := by rw [wrap_id (by omega) (by omega)]; omega
  apply comes_eq.1
  refine fnA_wp (rs := [.tmp 4]) Tryd.func23 rfl rfl (Nat.le_of_ble_eq_true rfl) rfl ?_
  unfold bitA
  by_cases hl : k / 8 < t.size
  · have l1 : (((8 * t.size : Nat) : Int) ≤ (k : Int)) = False := eq_false (by omega)
    have hl1 := s_at hl
    have w2 : IntKind.wrap .i64 (((sget t (k / 8)).toNat : Nat) : Int) = (((sget t (k / 8)).toNat : Nat) : Int) := wrap_id (by omega) (by have := (sget t (k / 8)).toNat_lt; omega)
    have m6 := fd (sget t (k / 8)).toNat (k % 8)
    have m7 := and1 ((sget t (k / 8)).toNat / 2 ^ (k % 8)) (Nat.lt_of_le_of_lt (Nat.div_le_self _ _) (sget t (k / 8)).toNat_lt)
    rw [if_pos hl]
    generalize k / 8 = k8 at *
    generalize 8 * t.size = t8 at *
    simp +decide only [go_sem, Nat.reduceAdd, Nat.reduceMul, Nat.reduceSub, Nat.reduceLT, Nat.reduceLeDiff, Nat.reduceEqDiff, Nat.add_assoc, Int.reduceAdd, Int.reduceSub, Int.reduceMul, Int.reduceLT, Int.reduceLE, Int.reduceEq, Int.reduceNeg, strOp_add, hok, m0, m1, m2, m3, m4, m5, m9, l1, hl, hl1, w2, m6, m7]
    erw [m7]
    simp +decide only [go_sem, Nat.reduceAdd, Nat.reduceMul, Nat.reduceSub, Nat.reduceLT, Nat.reduceLeDiff, Nat.reduceEqDiff, Nat.add_assoc, Int.reduceAdd, Int.reduceSub, Int.reduceMul, Int.reduceLT, Int.reduceLE, Int.reduceEq, Int.reduceNeg, strOp_add]
  · have l1 : (((8 * t.size : Nat) : Int) ≤ (k : Int)) = True := eq_true (by omega)
    rw [if_neg hl]
    generalize k / 8 = k8 at *
    generalize 8 * t.size = t8 at *
    simp +decide only [go_sem, Nat.reduceAdd, Nat.reduceMul, Nat.reduceSub, Nat.reduceLT, Nat.reduceLeDiff, Nat.reduceEqDiff, Nat.add_assoc, Int.reduceAdd, Int.reduceSub, Int.reduceMul, Int.reduceLT, Int.reduceLE, Int.reduceEq, Int.reduceNeg, strOp_add, hok, m0, m1, m2, m3, m9, l1]
    rfl
end Go.Ev.Tryd
