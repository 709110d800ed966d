/- Part of the proof of a statement about the given program: JF. No condition of its own. -/
import Derived.Test.YtjjebjackjeneaaDoorSF
namespace Go.Ev.Tryd
open Go.Proofs
set_option maxRecDepth 10000
set_option linter.unusedSimpArgs false
set_option linter.unusedVariables false
attribute [local congr] comes_congr bB_congr gK_congr gdK_congr

def sumB (l : List ByteArray) : Nat := (l.map ByteArray.size).sum
def joinL (sep x : ByteArray) (l : List ByteArray) : ByteArray := l.foldl (fun a y => a ++ sep ++ y) x
def joinB (sep : ByteArray) : List ByteArray → ByteArray
  | [] => ⟨#[]⟩
  | x :: l => joinL sep x l
abbrev strsA (xs : List ByteArray) : AV := .slice 1 (xs.map AV.str)
theorem joinL_snoc (sep x : ByteArray) (l : List ByteArray) (y : ByteArray) : joinL sep x (l ++ [y]) = joinL sep x l ++ sep ++ y := by simp [joinL]
theorem joinL_size (sep x : ByteArray) (l : List ByteArray) : (joinL sep x l).size = x.size + sumB l + sep.size * l.length := by
  induction l generalizing x with
  | nil => simp [joinL, sumB]
  | cons y l ih =>
    have : joinL sep x (y :: l) = joinL sep (x ++ sep ++ y) l := rfl
    rw [this, ih]
    simp only [size_app, sumB, List.map_cons, List.sum_cons, List.length_cons, Nat.mul_succ]
    omega
theorem sumB_append (a b : List ByteArray) : sumB (a ++ b) = sumB a + sumB b := by simp [sumB]
theorem sumB_one (x : ByteArray) : sumB [x] = x.size := by simp [sumB]
theorem sumB_take_succ (l : List ByteArray) (i : Nat) (h : i < l.length) : sumB (l.take (i + 1)) = sumB (l.take i) + (l[i]).size := by
  rw [List.take_succ_eq_append_getElem h, sumB_append, sumB_one]
theorem sumB_take_le (l : List ByteArray) (i : Nat) : sumB (l.take i) ≤ sumB l := by
  have h : sumB (l.take i ++ l.drop i) = sumB l := by rw [List.take_append_drop]
  rw [sumB_append] at h
  omega
theorem strs_at {xs : List ByteArray} {i : Nat} (h : i < xs.length) : (xs.map AV.str)[i]? = some (.str xs[i]) := by simp [h]

theorem join_eq (sep : ByteArray) (xs : List ByteArray) (h1 : sep.size ≤ 1000) (h2 : xs.length ≤ 1000000) (h3 : sumB xs ≤ 549755813888) : fnA CC PR 68 [strsA xs, .str sep] = some (.str (joinB sep xs)) := by
  apply comes_eq.1
  refine fnA_wp (rs := [.tmp 4]) Tryd.func68 rfl rfl (Nat.le_of_ble_eq_true rfl) rfl ?_
  rcases Nat.lt_or_ge xs.length 2 with hlt | hn2
  · match xs, hlt with
    | [], _ =>
      simp +decide only [go_sem, Nat.reduceAdd, Nat.reduceMul, Nat.reduceSub, Nat.reduceLT, Nat.reduceLeDiff, Nat.reduceEqDiff, Nat.add_assoc, Int.reduceAdd, Int.reduceSub, Int.reduceMul, Int.reduceLT, Int.reduceLE, Int.reduceEq, Int.reduceNeg, strOp_add]
      rfl
    | [x], _ =>
      simp +decide only [go_sem, Nat.reduceAdd, Nat.reduceMul, Nat.reduceSub, Nat.reduceLT, Nat.reduceLeDiff, Nat.reduceEqDiff, Nat.add_assoc, Int.reduceAdd, Int.reduceSub, Int.reduceMul, Int.reduceLT, Int.reduceLE, Int.reduceEq, Int.reduceNeg, strOp_add]
      rfl
  · have hj : joinB sep xs = joinL sep (xs[0]'(by omega)) (xs.drop 1) := by
      match xs, hn2 with
      | x :: l, _ => rfl
    rw [hj]
    have n0 : ((xs.length : Int) = 0) = False := eq_false (by omega)
    have n1 : ((xs.length : Int) = 1) = False := eq_false (by omega)
    have w1 : IntKind.wrap .i64 ((xs.length : Int) - 1) = (xs.length : Int) - 1 := wrap_id (by omega) (by omega)
    simp +decide only [go_sem, Nat.reduceAdd, Nat.reduceMul, Nat.reduceSub, Nat.reduceLT, Nat.reduceLeDiff, Nat.reduceEqDiff, Nat.add_assoc, Int.reduceAdd, Int.reduceSub, Int.reduceMul, Int.reduceLT, Int.reduceLE, Int.reduceEq, Int.reduceNeg, strOp_add, n0, n1, List.length_map]
    refine bB_merge (fun p => ∃ s', p = (Ex.normal, s') ∧ s'.env 0 = strsA xs ∧ s'.env 1 = .str sep ∧ s'.env 5 = .int .i64 (sep.size * (xs.length - 1 : Nat) : Nat) ∧ s'.sto = Mem.empty.sto ∧ s'.nid = 0) (fun hB => ?_) (fun hB => ?_) ?_
    · simp only [decide_eq_true_eq] at hB
      have nq : ((xs.length : Int) - 1 = 0) = False := eq_false (by omega)
      have q0 : (1001 : Int) ≤ 9223372036854775807 / ((xs.length : Int) - 1) := (Int.le_ediv_iff_mul_le (by omega)).2 (by omega)
      have q1 : 9223372036854775807 / ((xs.length : Int) - 1) ≤ 9223372036854775807 := Int.ediv_le_self _ (by omega)
      have wq : IntKind.wrap .i64 (Int.tdiv 9223372036854775807 ((xs.length : Int) - 1)) = 9223372036854775807 / ((xs.length : Int) - 1) := by
        rw [Int.tdiv_eq_ediv_of_nonneg (by omega)]
        exact wrap_id (by omega) (by omega)
      have hqs : (9223372036854775807 / ((xs.length : Int) - 1) ≤ (sep.size : Int)) = False := eq_false (by omega)
      have hP : sep.size * (xs.length - 1) ≤ 1000 * 1000000 := Nat.mul_le_mul h1 (by omega)
      have wm : IntKind.wrap .i64 ((sep.size : Int) * ((xs.length : Int) - 1)) = ((sep.size * (xs.length - 1) : Nat) : Int) := by
        rw [show (sep.size : Int) * ((xs.length : Int) - 1) = ((sep.size * (xs.length - 1) : Nat) : Int) by
          rw [Int.natCast_mul, Int.natCast_sub (by omega)]; rfl]
        exact wrap_nat (by omega)
      simp +decide only [go_sem, Nat.reduceAdd, Nat.reduceMul, Nat.reduceSub, Nat.reduceLT, Nat.reduceLeDiff, Nat.reduceEqDiff, Nat.add_assoc, Int.reduceAdd, Int.reduceSub, Int.reduceMul, Int.reduceLT, Int.reduceLE, Int.reduceEq, Int.reduceNeg, strOp_add, n0, n1, List.length_map, w1, nq, wq, hqs, wm, wrap_nat (show sep.size * (xs.length - 1) ≤ 9223372036854775807 by omega)]
      refine ⟨_, rfl, ?_⟩
      simp +decide only [go_sem, Nat.reduceAdd, Nat.reduceMul, Nat.reduceSub, Nat.reduceLT, Nat.reduceLeDiff, Nat.reduceEqDiff, Nat.add_assoc, Int.reduceAdd, Int.reduceSub, Int.reduceMul, Int.reduceLT, Int.reduceLE, Int.reduceEq, Int.reduceNeg, strOp_add]
    · simp only [decide_eq_false_iff_not] at hB
      have hz : sep.size = 0 := by omega
      simp +decide only [go_sem, Nat.reduceAdd, Nat.reduceMul, Nat.reduceSub, Nat.reduceLT, Nat.reduceLeDiff, Nat.reduceEqDiff, Nat.add_assoc, Int.reduceAdd, Int.reduceSub, Int.reduceMul, Int.reduceLT, Int.reduceLE, Int.reduceEq, Int.reduceNeg, strOp_add, n0, n1, List.length_map]
      refine ⟨_, rfl, ?_⟩
      simp +decide only [go_sem, Nat.reduceAdd, Nat.reduceMul, Nat.reduceSub, Nat.reduceLT, Nat.reduceLeDiff, Nat.reduceEqDiff, Nat.add_assoc, Int.reduceAdd, Int.reduceSub, Int.reduceMul, Int.reduceLT, Int.reduceLE, Int.reduceEq, Int.reduceNeg, strOp_add]
      simp [hz]
    · rintro _ ⟨s', rfl, e0, e1, e5, es, en⟩
      simp +decide only [go_sem, Nat.reduceAdd, Nat.reduceMul, Nat.reduceSub, Nat.reduceLT, Nat.reduceLeDiff, Nat.reduceEqDiff, Nat.add_assoc, Int.reduceAdd, Int.reduceSub, Int.reduceMul, Int.reduceLT, Int.reduceLE, Int.reduceEq, Int.reduceNeg, strOp_add, e0, e1, e5, es, en, List.length_map]
      have hP : sep.size * (xs.length - 1) ≤ 1000 * 1000000 := Nat.mul_le_mul h1 (by omega)
      obtain ⟨P, hPe⟩ : ∃ P, P = sep.size * (xs.length - 1) := ⟨_, rfl⟩
      rw [← hPe] at hP e5
      refine comes_upto xs.length (fun i st => st.env 0 = strsA xs ∧ st.env 1 = .str sep ∧ st.env 39 = strsA xs ∧ st.env 40 = .int .i64 xs.length ∧ st.env 41 = .int .i64 i ∧ st.env 5 = .int .i64 (P + sumB (xs.take i) : Nat) ∧ st.sto = Mem.empty.sto ∧ st.nid = 0) ?_ ?_ _ ?_
      · rintro i st hi ⟨a0, a1, a39, a40, a41, a5, asto, anid⟩
        have hle := sumB_take_le xs i
        have hle2 := sumB_take_le xs (i + 1)
        have hsuc := sumB_take_succ xs i hi
        have w2 : IntKind.wrap .i64 (9223372036854775807 - ((P + sumB (xs.take i) : Nat) : Int)) = 9223372036854775807 - ((P + sumB (xs.take i) : Nat) : Int) := wrap_id (by omega) (by omega)
        have c2 : (9223372036854775807 - ((P + sumB (xs.take i) : Nat) : Int) < ((xs[i]).size : Int)) = False := eq_false (by omega)
        have w3 : IntKind.wrap .i64 (((P + sumB (xs.take i) : Nat) : Int) + ((xs[i]).size : Int)) = ((P + sumB (xs.take (i + 1)) : Nat) : Int) := by
          rw [hsuc, wrap_id (by omega) (by omega)]; omega
        simp +decide only [go_sem, Nat.reduceAdd, Nat.reduceMul, Nat.reduceSub, Nat.reduceLT, Nat.reduceLeDiff, Nat.reduceEqDiff, Nat.add_assoc, Int.reduceAdd, Int.reduceSub, Int.reduceMul, Int.reduceLT, Int.reduceLE, Int.reduceEq, Int.reduceNeg, strOp_add, a0, a1, a39, a40, a41, a5, hi, List.length_map, strs_at hi, w2, c2, w3, wrap_succ (show i + 1 ≤ 9223372036854775807 by omega)]
        exact ⟨asto, anid⟩
      · rintro st ⟨a0, a1, a39, a40, a41, a5, asto, anid⟩
        simp +decide only [go_sem, Nat.reduceAdd, Nat.reduceMul, Nat.reduceSub, Nat.reduceLT, Nat.reduceLeDiff, Nat.reduceEqDiff, Nat.add_assoc, Int.reduceAdd, Int.reduceSub, Int.reduceMul, Int.reduceLT, Int.reduceLE, Int.reduceEq, Int.reduceNeg, strOp_add, a0, a1, a39, a40, a41, a5, List.length_map, asto, anid]
        have htk : sumB (xs.take xs.length) = sumB xs := by rw [List.take_length]
        refine Grow_wp _ _ 0 ⟨Nat.zero_lt_one, rfl, .nilp, .inl rfl, by simp [upd]⟩ (by omega) (by omega) _ (fun m1 b1 k1 k2 kz => ?_)
        have h0 : 0 < xs.length := by omega
        have h0' : (0 : Int) < xs.length := by omega
        have hx0 : (xs.map AV.str)[0]? = some (.str xs[0]) := strs_at h0
        have hall : ∀ i (h : i < xs.length), (xs[i]).size ≤ sumB xs := fun i h => by
          have h1 := sumB_take_le xs (i + 1)
          rw [sumB_take_succ xs i h] at h1
          omega
        have hs0 := hall 0 h0
        simp +decide only [go_sem, Nat.reduceAdd, Nat.reduceMul, Nat.reduceSub, Nat.reduceLT, Nat.reduceLeDiff, Nat.reduceEqDiff, Nat.add_assoc, Int.reduceAdd, Int.reduceSub, Int.reduceMul, Int.reduceLT, Int.reduceLE, Int.reduceEq, Int.reduceNeg, strOp_add, a0, a1, h0, h0', hx0, List.length_map]
        refine WriteString_wp _ _ _ _ _ k1 (by rw [show (⟨#[]⟩ : ByteArray).size = 0 from rfl]; omega) _ (fun m2 b2 k3 k4 kz2 => ?_)
        rw [empty_app] at k3
        have hsl : ((1 : Int) ≤ xs.length) := by omega
        have hto : (List.map AV.str xs).take xs.length = List.map AV.str xs := List.take_of_length_le (by simp)
        simp +decide only [go_sem, Nat.reduceAdd, Nat.reduceMul, Nat.reduceSub, Nat.reduceLT, Nat.reduceLeDiff, Nat.reduceEqDiff, Nat.add_assoc, Int.reduceAdd, Int.reduceSub, Int.reduceMul, Int.reduceLT, Int.reduceLE, Int.reduceEq, Int.reduceNeg, strOp_add, a0, a1, h0, h0', hx0, hsl, List.length_map, Nat.min_self, hto, Int.le_refl]
        have hd : sumB xs = xs[0].size + sumB (xs.drop 1) := by
          match xs, h0 with
          | x :: l, _ => simp [sumB]
        have hdl : (xs.drop 1).length = xs.length - 1 := by simp
        have hdm : (List.map AV.str xs).drop 1 = (xs.drop 1).map AV.str := by simp
        refine comes_upto (xs.drop 1).length (fun i st => st.env 1 = .str sep ∧ st.env 8 = .ptr 0 0 0 ∧ st.env 63 = strsA (xs.drop 1) ∧ st.env 64 = .int .i64 (xs.drop 1).length ∧ st.env 65 = .int .i64 i ∧ ∃ b, BldAt st.toMem 0 b (joinL sep xs[0] ((xs.drop 1).take i)) ∧ (P + sumB xs = 0 → b = none)) ?_ ?_ _ ?_
        · rintro i st hi ⟨c1, c8, c63, c64, c65, b, cb, cz⟩
          have hle := sumB_take_le (xs.drop 1) i
          have hle2 := sumB_take_le (xs.drop 1) (i + 1)
          have hsuc := sumB_take_succ (xs.drop 1) i hi
          have hsz := joinL_size sep xs[0] ((xs.drop 1).take i)
          have hmul : sep.size * ((xs.drop 1).take i).length ≤ 1000 * 1000000 := Nat.mul_le_mul h1 (by simp; omega)
          simp +decide only [go_sem, Nat.reduceAdd, Nat.reduceMul, Nat.reduceSub, Nat.reduceLT, Nat.reduceLeDiff, Nat.reduceEqDiff, Nat.add_assoc, Int.reduceAdd, Int.reduceSub, Int.reduceMul, Int.reduceLT, Int.reduceLE, Int.reduceEq, Int.reduceNeg, strOp_add, c1, c8, c63, c64, c65, hi, List.length_map, strs_at hi]
          refine WriteString_wp _ _ _ _ _ cb (by omega) _ (fun m3 b3 k5 k6 kz3 => ?_)
          simp +decide only [go_sem, Nat.reduceAdd, Nat.reduceMul, Nat.reduceSub, Nat.reduceLT, Nat.reduceLeDiff, Nat.reduceEqDiff, Nat.add_assoc, Int.reduceAdd, Int.reduceSub, Int.reduceMul, Int.reduceLT, Int.reduceLE, Int.reduceEq, Int.reduceNeg, strOp_add, c1, c8, c63, c64, c65]
          refine WriteString_wp _ _ _ _ _ k5 (by rw [size_app]; omega) _ (fun m4 b4 k7 k8 kz4 => ?_)
          simp +decide only [go_sem, Nat.reduceAdd, Nat.reduceMul, Nat.reduceSub, Nat.reduceLT, Nat.reduceLeDiff, Nat.reduceEqDiff, Nat.add_assoc, Int.reduceAdd, Int.reduceSub, Int.reduceMul, Int.reduceLT, Int.reduceLE, Int.reduceEq, Int.reduceNeg, strOp_add, c1, c8, c63, c64, c65, wrap_succ (show i + 1 ≤ 9223372036854775807 by omega)]
          refine ⟨b4, ?_, fun hz => ?_⟩
          · rw [List.take_succ_eq_append_getElem hi, joinL_snoc]
            exact k7
          · have hsep : sep.size = 0 := by
              rcases Nat.mul_eq_zero.1 (show sep.size * (xs.length - 1) = 0 by omega) with h | h <;> omega
            exact kz4 (kz3 (cz hz) hsep) (by omega)
        · rintro st ⟨c1, c8, c63, c64, c65, b, cb, cz⟩
          rw [List.take_length] at cb
          have hsz := joinL_size sep xs[0] (xs.drop 1)
          rw [hdl, ← hPe] at hsz
          simp +decide only [go_sem, Nat.reduceAdd, Nat.reduceMul, Nat.reduceSub, Nat.reduceLT, Nat.reduceLeDiff, Nat.reduceEqDiff, Nat.add_assoc, Int.reduceAdd, Int.reduceSub, Int.reduceMul, Int.reduceLT, Int.reduceLE, Int.reduceEq, Int.reduceNeg, strOp_add, c1, c8, c63, c64, c65]
          refine String_wp _ _ _ _ cb (by omega) ?_ _ (fun m5 k9 k10 => ?_)
          · rcases Nat.eq_zero_or_pos (P + sumB xs) with h | h
            · exact .inr (cz h)
            · exact .inl (by omega)
          · simp +decide only [go_sem, Nat.reduceAdd, Nat.reduceMul, Nat.reduceSub, Nat.reduceLT, Nat.reduceLeDiff, Nat.reduceEqDiff, Nat.add_assoc, Int.reduceAdd, Int.reduceSub, Int.reduceMul, Int.reduceLT, Int.reduceLE, Int.reduceEq, Int.reduceNeg, strOp_add]
        · simp +decide only [go_sem, Nat.reduceAdd, Nat.reduceMul, Nat.reduceSub, Nat.reduceLT, Nat.reduceLeDiff, Nat.reduceEqDiff, Nat.add_assoc, Int.reduceAdd, Int.reduceSub, Int.reduceMul, Int.reduceLT, Int.reduceLE, Int.reduceEq, Int.reduceNeg, strOp_add, a1, hdl, hdm, List.length_map]
          refine ⟨rfl, b2, k3, fun hz => kz2 (kz (by rw [htk]; omega)) (by omega)⟩
      · simp +decide only [go_sem, Nat.reduceAdd, Nat.reduceMul, Nat.reduceSub, Nat.reduceLT, Nat.reduceLeDiff, Nat.reduceEqDiff, Nat.add_assoc, Int.reduceAdd, Int.reduceSub, Int.reduceMul, Int.reduceLT, Int.reduceLE, Int.reduceEq, Int.reduceNeg, strOp_add, e0, e1, e5]
        simp [sumB]
end Go.Ev.Tryd
