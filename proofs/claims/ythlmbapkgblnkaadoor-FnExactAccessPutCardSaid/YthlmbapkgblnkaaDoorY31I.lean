/- Part of the proof of a statement about the given program: Y31I. No condition of its own. -/
import Derived.Test.YthlmbapkgblnkaaDoorY25I
namespace Go.Ev.Tryd
open Go.Proofs
set_option maxRecDepth 10000
set_option linter.unusedSimpArgs false
set_option linter.unusedVariables false
attribute [local congr] comes_congr bB_congr gK_congr gdK_congr

/-- The i-th byte of a number, the lowest first. -/
def byV (v : Int) (i : Nat) : Nat := (BitVec.ofInt 64 v).toNat / 2 ^ (8 * i) % 256
theorem byV_lt (v : Int) (i : Nat) : byV v i < 256 := Nat.mod_lt _ (by decide)
def celV (v : Int) (s : Nat) : List AV := (List.range s).map fun i => .int .u8 (byV v i)
def bytesV (v : Int) (s : Nat) : ByteArray := ⟨((List.range s).map fun i => UInt8.ofNat (byV v i)).toArray⟩
theorem celV_len (v : Int) (s : Nat) : (celV v s).length = s := by simp [celV]
theorem bytesV_size (v : Int) (s : Nat) : (bytesV v s).size = s := by simp [bytesV, ByteArray.size]
theorem celV_succ (v : Int) (s : Nat) : celV v (s + 1) = celV v s ++ [.int .u8 (byV v s)] := by simp [celV, List.range_succ]
theorem celV_str (v : Int) (s : Nat) : bytesStr (celV v s) = some (bytesV v s).data.toList := by
  unfold celV bytesV
  simp only
  generalize List.range s = l
  induction l with
  | nil => rfl
  | cons i l ih =>
    simp only [List.map_cons, bytesStr, ih, Option.map_some, Int.toNat_natCast]
theorem bytes_back (b : ByteArray) : (⟨b.data.toList.toArray⟩ : ByteArray) = b := by cases b; simp
theorem wrap_u8n (n : Nat) : IntKind.wrap .u8 (n : Int) = ((n % 256 : Nat) : Int) := by
  show (n : Int) % (2 ^ 8 : Int) = _
  omega
theorem cel_set (v : Int) (i s : Nat) (hi : i < s) : List.take i (celV v i ++ List.replicate (s - i) (.int .u8 0)) ++ [AV.int .u8 (byV v i)] ++ List.drop (i + 1) (celV v i ++ List.replicate (s - i) (.int .u8 0)) = celV v (i + 1) ++ List.replicate (s - (i + 1)) (.int .u8 0) := by
  have h1 := celV_len v i
  rw [celV_succ, List.take_append_of_le_length (by omega), List.take_of_length_le (by omega), List.drop_append, List.drop_eq_nil_of_le (by omega), h1, List.drop_replicate]
  simp
  omega
theorem flat_repl (n : Nat) (x : AV) : (List.replicate n [x]).flatten = List.replicate n x := by
  induction n with
  | zero => rfl
  | succ n ih => rw [List.replicate_succ, List.flatten_cons, ih, List.replicate_succ]; rfl
theorem bytesOf_eq (v : Int) (s : Nat) (hs : s ≤ 8) : fnA CC PR 41 [.int .i64 v, .int .i64 (s : Int)] = some (.str (bytesV v s)) := by
  have h1 : ((s : Int) ≤ (most : Int)) = True := eq_true (by simp only [most]; omega)
  have h2 : ((0 : Int) ≤ (s : Int)) = True := eq_true (by omega)
  apply comes_eq.1
  refine fnA_wp (rs := [.tmp 4]) Tryd.func41 rfl rfl (Nat.le_of_ble_eq_true rfl) rfl ?_
  simp +decide only [go_sem, Nat.reduceAdd, Nat.reduceMul, Nat.reduceSub, Nat.reduceLT, Nat.reduceLeDiff, Nat.reduceEqDiff, Nat.add_assoc, Int.reduceAdd, Int.reduceSub, Int.reduceMul, Int.reduceLT, Int.reduceLE, Int.reduceEq, Int.reduceNeg, strOp_add, h1, h2, flat_repl]
  refine comes_upto s (fun i st => st.env 0 = .int .i64 v ∧ st.env 5 = .arr 0 0 0 s 1 true ∧ st.env 10 = .int .i64 s ∧ st.env 11 = .int .i64 i ∧ st.sto 0 = ⟨celV v i ++ List.replicate (s - i) (.int .u8 0), 0, false, none⟩) ?_ ?_ _ ?_
  · rintro i st hi ⟨e0, e5, e10, e11, hs0⟩
    have w1 : IntKind.wrap .i64 ((i : Int) + 1) = ((i + 1 : Nat) : Int) := wrap_succ (by omega)
    have w2 : IntKind.wrap .i64 (8 * (i : Int)) = ((8 * i : Nat) : Int) := by rw [wrap_id (by omega) (by omega)]; omega
    have m5 : min (8 * i) 64 = 8 * i := Nat.min_eq_left (by omega)
    have m6 := fd (BitVec.ofInt 64 v).toNat (8 * i)
    have m7 := wrap_u8n ((BitVec.ofInt 64 v).toNat / 2 ^ (8 * i))
    have m8 := wrap_u v
    have n0 : (((8 * i : Nat) : Int) < 0) = False := eq_false (by omega)
    have ll : (i + 1 ≤ (celV v i ++ List.replicate (s - i) (AV.int .u8 0)).length) = True := eq_true (by rw [List.length_append, celV_len, List.length_replicate]; omega)
    have hc := cel_set v i s hi
    rw [show (BitVec.ofInt 64 v).toNat / 2 ^ (8 * i) % 256 = byV v i from rfl] at m7
    generalize celV v i ++ List.replicate (s - i) (.int .u8 0) = L at *
    generalize celV v (i + 1) ++ List.replicate (s - (i + 1)) (.int .u8 0) = L' at *
    generalize 8 * i = i8 at *
    simp +decide (disch := first | decide | omega) only [go_sem, Nat.reduceAdd, Nat.reduceMul, Nat.reduceSub, Nat.reduceLT, Nat.reduceLeDiff, Nat.reduceEqDiff, Nat.add_assoc, Int.reduceAdd, Int.reduceSub, Int.reduceMul, Int.reduceLT, Int.reduceLE, Int.reduceEq, Int.reduceNeg, strOp_add, e0, e5, e10, e11, hs0, hi, w1, w2, m5, m6, m7, m8, n0, ll, hc]
  · rintro st ⟨e0, e5, e10, e11, hs0⟩
    have ll : (celV v s).length = s := celV_len v s
    have hc := celV_str v s
    have hb := bytes_back (bytesV v s)
    rw [Nat.sub_self, List.replicate_zero, List.append_nil] at hs0
    have ht : (celV v s).take s = celV v s := List.take_of_length_le (by omega)
    simp +decide (disch := first | decide | omega) only [go_sem, Nat.reduceAdd, Nat.reduceMul, Nat.reduceSub, Nat.reduceLT, Nat.reduceLeDiff, Nat.reduceEqDiff, Nat.add_assoc, Int.reduceAdd, Int.reduceSub, Int.reduceMul, Int.reduceLT, Int.reduceLE, Int.reduceEq, Int.reduceNeg, strOp_add, e0, e5, e10, e11, hs0, ll, hc, ht, hb, Nat.le_refl]
  · simp +decide only [go_sem, Nat.reduceAdd, Nat.reduceMul, Nat.reduceSub, Nat.reduceLT, Nat.reduceLeDiff, Nat.reduceEqDiff, Nat.add_assoc, Int.reduceAdd, Int.reduceSub, Int.reduceMul, Int.reduceLT, Int.reduceLE, Int.reduceEq, Int.reduceNeg, strOp_add]
    exact ⟨rfl, rfl⟩
/-- A number, so many bytes on. -/
def shV (v : Int) (i : Nat) : Int := v / 256 ^ i
theorem shV_succ (v : Int) (i : Nat) : shV v (i + 1) = (shV v i).fdiv (2 ^ min 8 64) := by
  have e : (shV v i).fdiv (2 ^ min 8 64) = shV v i / 256 := Int.fdiv_eq_ediv_of_nonneg _ (by decide)
  rw [e]
  unfold shV
  rw [Int.pow_succ, Int.ediv_ediv_of_nonneg]
  exact Int.le_of_lt (Int.pow_pos (by decide))
theorem shV_byte (v : Int) (i : Nat) (hi : i < 8) : IntKind.wrap .u8 (shV v i) = (byV v i : Nat) := by
  unfold shV byV
  rw [BitVec.toNat_ofInt]
  show v / 256 ^ i % (2 ^ 8 : Int) = _
  match i, hi with
  | 0, _ => simp only [Nat.mul_zero, Nat.pow_zero]; omega
  | 1, _ => simp only [Int.reducePow, Nat.reducePow, Nat.reduceMul]; omega
  | 2, _ => simp only [Int.reducePow, Nat.reducePow, Nat.reduceMul]; omega
  | 3, _ => simp only [Int.reducePow, Nat.reducePow, Nat.reduceMul]; omega
  | 4, _ => simp only [Int.reducePow, Nat.reducePow, Nat.reduceMul]; omega
  | 5, _ => simp only [Int.reducePow, Nat.reducePow, Nat.reduceMul]; omega
  | 6, _ => simp only [Int.reducePow, Nat.reducePow, Nat.reduceMul]; omega
  | 7, _ => simp only [Int.reducePow, Nat.reducePow, Nat.reduceMul]; omega
theorem l1Bytes_eq (v : Int) (s : Nat) (hs : s ≤ 8) : fnA CC PR 58 [.int .i64 v, .int .i64 (s : Int)] = some (.str (bytesV v s)) := by
  apply comes_eq.1
  refine fnA_wp (rs := [.tmp 4]) Tryd.func58 rfl rfl (Nat.le_of_ble_eq_true rfl) rfl ?_
  simp +decide only [go_sem, Nat.reduceAdd, Nat.reduceMul, Nat.reduceSub, Nat.reduceLT, Nat.reduceLeDiff, Nat.reduceEqDiff, Nat.add_assoc, Int.reduceAdd, Int.reduceSub, Int.reduceMul, Int.reduceLT, Int.reduceLE, Int.reduceEq, Int.reduceNeg, strOp_add]
  refine comes_upto s (fun i st => st.env 0 = .int .i64 (shV v i) ∧ st.env 1 = .int .i64 s ∧ st.env 5 = .arr 0 i 0 i 1 true ∧ st.env 6 = .int .i64 i ∧ 1 ≤ st.nid ∧ ∃ ty, st.sto 0 = ⟨celV v i, i, false, ty⟩ ∧ (ty = none ∨ ty = some (5, false))) ?_ ?_ _ ?_
  · rintro i st hi ⟨e0, e1, e5, e6, en, ty, hs0, hty⟩
    have w1 : IntKind.wrap .i64 ((i : Int) + 1) = ((i + 1 : Nat) : Int) := wrap_succ (by omega)
    have m7 := shV_byte v i (by omega)
    have m8 := shV_succ v i
    have hc := celV_succ v i
    have hl := celV_len v i
    have hm : (i + 1 ≤ most) = True := eq_true (by simp only [most]; omega)
    generalize shV v (i + 1) = V at *
    generalize celV v (i + 1) = L' at *
    generalize celV v i = L at *
    rcases hty with rfl | rfl
    · simp +decide (disch := first | decide | omega) only [go_sem, Nat.reduceAdd, Nat.reduceMul, Nat.reduceSub, Nat.reduceLT, Nat.reduceLeDiff, Nat.reduceEqDiff, Nat.add_assoc, Int.reduceAdd, Int.reduceSub, Int.reduceMul, Int.reduceLT, Int.reduceLE, Int.reduceEq, Int.reduceNeg, strOp_add, e0, e1, e5, e6, hs0, hi, w1, m7, ← m8, hl, ← hc, hm]
      exact ⟨_, rfl, .inl rfl⟩
    · simp +decide (disch := first | decide | omega) only [go_sem, Nat.reduceAdd, Nat.reduceMul, Nat.reduceSub, Nat.reduceLT, Nat.reduceLeDiff, Nat.reduceEqDiff, Nat.add_assoc, Int.reduceAdd, Int.reduceSub, Int.reduceMul, Int.reduceLT, Int.reduceLE, Int.reduceEq, Int.reduceNeg, strOp_add, e0, e1, e5, e6, hs0, hi, w1, m7, ← m8, hl, ← hc, hm]
      exact ⟨_, rfl, .inr rfl⟩
  · rintro st ⟨e0, e1, e5, e6, en, ty, hs0, hty⟩
    have ll : (celV v s).length = s := celV_len v s
    have hc := celV_str v s
    have hb := bytes_back (bytesV v s)
    have ht : (celV v s).take s = celV v s := List.take_of_length_le (by omega)
    simp +decide (disch := first | decide | omega) only [go_sem, Nat.reduceAdd, Nat.reduceMul, Nat.reduceSub, Nat.reduceLT, Nat.reduceLeDiff, Nat.reduceEqDiff, Nat.add_assoc, Int.reduceAdd, Int.reduceSub, Int.reduceMul, Int.reduceLT, Int.reduceLE, Int.reduceEq, Int.reduceNeg, strOp_add, e0, e1, e5, e6, hs0, ll, hc, ht, hb, Nat.le_refl]
  · simp +decide only [go_sem, Nat.reduceAdd, Nat.reduceMul, Nat.reduceSub, Nat.reduceLT, Nat.reduceLeDiff, Nat.reduceEqDiff, Nat.add_assoc, Int.reduceAdd, Int.reduceSub, Int.reduceMul, Int.reduceLT, Int.reduceLE, Int.reduceEq, Int.reduceNeg, strOp_add]
    exact ⟨by unfold shV; simp, rfl, none, rfl, .inl rfl⟩
end Go.Ev.Tryd
