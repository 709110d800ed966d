/- Part of the proof of a statement about the given program: Y34I. No condition of its own. -/
import Derived.Test.YthlmbapkgblnkaaDoorY33I
namespace Go.Ev.Tryd
open Go.Proofs
set_option maxRecDepth 10000
set_option linter.unusedSimpArgs false
set_option linter.unusedVariables false
attribute [local congr] comes_congr bB_congr gK_congr gdK_congr

set_option maxHeartbeats 1000000 in
theorem BitPut_eq (d : ByteArray) (k : Nat) (v : Int) (hd : d.size ≤ 1600) (h8 : d.size % 8 = 0) (hk : k ≤ 12799) (hv : v = 0 ∨ v = 1) : fnA CC PR 35 [.str d, .int .i64 (k : Int), .int .i64 v] = some (if k / 8 < d.size then .tup [.str (stoB d k v), .bool true] else .tup [.str d, .bool false]) := by
  have hok := l1Ok_eq d hd h8
  have m0 : ((k : Int) < 0) = False := eq_false (by omega)
  have m9 : IntKind.wrap .i64 (8 * (d.size : Int)) = ((8 * d.size : Nat) : Int) := by rw [wrap_id (by omega) (by omega)]; omega
  have g1 : (0 ≤ v) = True := eq_true (by omega)
  have g2 : (v ≤ 1) = True := eq_true (by omega)
  by_cases hl : k / 8 < d.size
  · have l1 : (((8 * d.size : Nat) : Int) ≤ (k : Int)) = False := eq_false (by omega)
    have hb := l1BitPut_eq d k v hv hd hl
    rw [if_pos hl]
    generalize 8 * d.size = t8 at *
    apply comes_eq.1
    refine fnA_wp (rs := [.tmp 6, .tmp 7]) Tryd.func35 rfl rfl (Nat.le_of_ble_eq_true rfl) rfl ?_
    simp +decide (disch := first | decide | omega) only [go_sem, Nat.reduceAdd, Nat.reduceMul, Nat.reduceSub, Nat.reduceLT, Nat.reduceLeDiff, Nat.reduceEqDiff, Nat.add_assoc, Int.reduceAdd, Int.reduceSub, Int.reduceMul, Int.reduceLT, Int.reduceLE, Int.reduceEq, Int.reduceNeg, strOp_add, hok, m0, m9, g1, g2, l1, hb]
  · have l1 : (((8 * d.size : Nat) : Int) ≤ (k : Int)) = True := eq_true (by omega)
    rw [if_neg hl]
    generalize 8 * d.size = t8 at *
    apply comes_eq.1
    refine fnA_wp (rs := [.tmp 6, .tmp 7]) Tryd.func35 rfl rfl (Nat.le_of_ble_eq_true rfl) rfl ?_
    simp +decide (disch := first | decide | omega) only [go_sem, Nat.reduceAdd, Nat.reduceMul, Nat.reduceSub, Nat.reduceLT, Nat.reduceLeDiff, Nat.reduceEqDiff, Nat.add_assoc, Int.reduceAdd, Int.reduceSub, Int.reduceMul, Int.reduceLT, Int.reduceLE, Int.reduceEq, Int.reduceNeg, strOp_add, hok, m0, m9, g1, g2, l1]
/-- May it be put? -/
def fitP (x1 x2 x3 x5 v : Int) (z : Nat) : Bool := decide (x1 ≠ 3) && (decide ((spanA x1 x2 x3).1 + (spanA x1 x2 x3).2 ≤ (z : Int)) && (decide (x5 + 2 ≤ (z : Int)) && fitsB v (max (8 * x3) 1)))
/-- The data with the tag put. -/
def putT (x5 x6 : Int) (d : ByteArray) : ByteArray := if x5 < 0 then d else sto d x5.toNat (bytesV x6 2)
/-- The data with all put. -/
def putD (x1 x2 x3 x4 x5 x6 v : Int) (d : ByteArray) : ByteArray :=
  if x1 = 1 then stoB (putT x5 x6 d) x2.toNat (xorI v x4) else sto (putT x5 x6 d) x2.toNat (bytesV (xorI v x4) x3.toNat)
def Nod.setD (n : Nod) (d : ByteArray) : Nod := .mk n.kind d n.ptrs n.size n.count n.items
/-- What is put: is it, and the node. -/
def putR (x0 : ByteArray) (x1 x2 x3 x4 x5 x6 : Int) (n : Nod) (v : Int) : Bool × Nod :=
  if accOk x0 x1 x2 x3 x4 x5 x6 = false then (false, zeroN)
  else if nodeOk n = false then (false, zeroN)
  else if n.kind ≠ 1 then (false, zeroN)
  else if fitP x1 x2 x3 x5 v n.data.size = false then (false, n)
  else (true, n.setD (putD x1 x2 x3 x4 x5 x6 v n.data))
theorem xor_bit {v w : Int} (hv : v = 0 ∨ v = 1) (hw : w = 0 ∨ w = 1) : xorI v w = 0 ∨ xorI v w = 1 := by
  rcases hv with rfl | rfl <;> rcases hw with rfl | rfl <;> decide
theorem xor_nat (a b k : Nat) (hk : k < 64) (ha : a < 2 ^ k) (hb : b < 2 ^ k) : xorI (a : Int) (b : Int) = ((a ^^^ b : Nat) : Int) := by
  unfold xorI
  have hx := Nat.xor_lt_two_pow ha hb
  have h63 : (2 : Nat) ^ k ≤ 2 ^ 63 := Nat.pow_le_pow_right (by decide) (by omega)
  rw [BitVec.ofInt_natCast, BitVec.ofInt_natCast, BitVec.toNat_xor, BitVec.toNat_ofNat, BitVec.toNat_ofNat, Nat.mod_eq_of_lt (by omega), Nat.mod_eq_of_lt (by omega), wrap_id (by omega) (by omega)]
theorem fits_iff {n : Int} {k : Nat} (hk : k < 64) : fitsB n (k : Int) = true ↔ 0 ≤ n ∧ n < 2 ^ k := by
  unfold fitsB
  have : ¬ ((k : Int) = 64) := by omega
  simp only [this, decide_false, Bool.false_or, Bool.and_eq_true, decide_eq_true_eq, Int.toNat_natCast]
  omega
theorem xor_fits {v w : Int} {k : Nat} (hk : k < 64) (hv : fitsB v (k : Int) = true) (hw : fitsB w (k : Int) = true) : fitsB (xorI v w) (k : Int) = true := by
  rw [fits_iff hk] at hv hw ⊢
  obtain ⟨a, rfl⟩ : ∃ a : Nat, v = a := ⟨v.toNat, by omega⟩
  obtain ⟨b, rfl⟩ : ∃ b : Nat, w = b := ⟨w.toNat, by omega⟩
  have ha : a < 2 ^ k := by exact_mod_cast hv.2
  have hb : b < 2 ^ k := by exact_mod_cast hw.2
  rw [xor_nat a b k hk ha hb]
  exact ⟨by omega, by exact_mod_cast Nat.xor_lt_two_pow ha hb⟩
/-- What an access that may be says, besides. -/
theorem accOk_more {x0 : ByteArray} {x1 x2 x3 x4 x5 x6 : Int} (h : accOk x0 x1 x2 x3 x4 x5 x6 = true) : ((x5 = -1 ∧ x6 = 0) ∨ (0 ≤ x5 ∧ x5.tmod 2 = 0 ∧ 0 ≤ x6 ∧ x6 ≤ 65535)) ∧ ((x1 = 1 ∧ x3 = 0 ∧ (x4 = 0 ∨ x4 = 1)) ∨ (x1 = 2 ∧ isSize x3 = true ∧ x2.tmod x3 = 0 ∧ fitsB x4 (8 * x3) = true) ∨ (x1 = 3 ∧ x3 = 0)) := by
  unfold accOk at h
  simp only [Bool.and_eq_true, decide_eq_true_eq] at h
  obtain ⟨h0, h5, h2, h⟩ := h
  constructor
  · unfold tagB at h5
    simp only [Bool.or_eq_true, Bool.and_eq_true, decide_eq_true_eq] at h5
    rcases h5 with h5 | h5
    · exact .inl h5
    · exact .inr ⟨h5.1.1, h5.2.1, h5.2.2⟩
  · split at h
    · rename_i hx
      simp only [Bool.and_eq_true, decide_eq_true_eq] at h
      exact .inl ⟨hx, h.2.1, by omega⟩
    · split at h
      · rename_i hx
        simp only [Bool.and_eq_true, decide_eq_true_eq] at h
        exact .inr (.inl ⟨hx, h.1, h.2.1, h.2.2.1⟩)
      · split at h
        · rename_i hx
          simp only [Bool.and_eq_true, decide_eq_true_eq] at h
          exact .inr (.inr ⟨hx, h.1⟩)
        · cases h
end Go.Ev.Tryd
