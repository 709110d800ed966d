/- Part of the proof of a statement about the given program: Y2I. No condition of its own. -/
import Derived.Test.YthlmbapkgblnkaaDoorY1I
namespace Go.Ev.Tryd
open Go.Proofs
set_option maxRecDepth 10000
set_option linter.unusedSimpArgs false
set_option linter.unusedVariables false
attribute [local congr] comes_congr bB_congr gK_congr gdK_congr

theorem szNodes_eq (l : List Nod) (ih : ∀ x ∈ l, x.Wide → ∀ left : Nat, left ≤ 1048576 → fnA CC PR 6 [x.av, .int .i64 left] = some (.int .i64 (lft left (szN x)))) (left : Nat) (hl : left ≤ 1048576) (hn : l.length ≤ 9223372036854775807) (hs : ∀ s ∈ l, s.Wide) :
    fnA CC PR 19 [.slice 6 (l.map Nod.av), .int .i64 left] = some (.int .i64 (lft left (l.length + szNL l))) := by
  apply comes_eq.1
  refine fnA_wp (rs := [.tmp 4]) Tryd.func19 rfl rfl (Nat.le_of_ble_eq_true rfl) rfl ?_
  by_cases h0 : l.length ≤ left
  · have w0 : IntKind.wrap .i64 ((left : Int) - (l.length : Int)) = ((left - l.length : Nat) : Int) := by rw [wrap_id (by omega) (by omega)]; omega
    have l0 : (((left - l.length : Nat) : Int) < 0) = False := eq_false (by omega)
    simp +decide only [go_sem, Nat.reduceAdd, Nat.reduceMul, Nat.reduceSub, Nat.reduceLT, Nat.reduceLeDiff, Nat.reduceEqDiff, Nat.add_assoc, Int.reduceAdd, Int.reduceSub, Int.reduceMul, Int.reduceLT, Int.reduceLE, Int.reduceEq, Int.reduceNeg, strOp_add, List.length_map, w0, l0]
    refine comes_upto l.length (fun i st => st.env 0 = .slice 6 (l.map Nod.av) ∧ l.length + szNL (l.take i) ≤ left ∧ st.env 1 = .int .i64 ((left - (l.length + szNL (l.take i)) : Nat) : Int) ∧ st.env 5 = .int .i64 i) ?_ ?_ _ ?_
    · rintro i st hi ⟨e0, hle, e1, e5⟩
      have hz := szNL_take hi
      have hz2 := szNL_le l (i + 1)
      have hq := ih _ (List.getElem_mem hi) (hs _ (List.getElem_mem hi)) (left - (l.length + szNL (l.take i))) (by omega)
      have ha := nav_at hi
      have w1 : IntKind.wrap .i64 ((i : Int) + 1) = ((i + 1 : Nat) : Int) := wrap_succ (by omega)
      rw [hz] at hz2 ⊢
      rw [nav_eta] at ha hq
      generalize szN l[i] = x at *
      generalize szNL (l.take i) = z at *
      by_cases h1 : l.length + (z + x) ≤ left
      · rw [lft_le (by omega)] at hq
        have w2 : ((left - (l.length + z) - x : Nat) : Int) = ((left - (l.length + (z + x)) : Nat) : Int) := by omega
        have l2 : (((left - (l.length + (z + x)) : Nat) : Int) < 0) = False := eq_false (by omega)
        rw [w2] at hq
        simp +decide only [go_sem, Nat.reduceAdd, Nat.reduceMul, Nat.reduceSub, Nat.reduceLT, Nat.reduceLeDiff, Nat.reduceEqDiff, Nat.add_assoc, Int.reduceAdd, Int.reduceSub, Int.reduceMul, Int.reduceLT, Int.reduceLE, Int.reduceEq, Int.reduceNeg, strOp_add, e0, e1, e5, hi, ha, hq, w1, l2, List.length_map]
        exact h1
      · rw [lft_no (by omega)] at hq ⊢
        simp +decide only [go_sem, Nat.reduceAdd, Nat.reduceMul, Nat.reduceSub, Nat.reduceLT, Nat.reduceLeDiff, Nat.reduceEqDiff, Nat.add_assoc, Int.reduceAdd, Int.reduceSub, Int.reduceMul, Int.reduceLT, Int.reduceLE, Int.reduceEq, Int.reduceNeg, strOp_add, e0, e1, e5, hi, ha, hq, w1, List.length_map]
    · rintro st ⟨e0, hle, e1, e5⟩
      rw [List.take_length] at hle e1
      rw [lft_le hle]
      simp +decide only [go_sem, Nat.reduceAdd, Nat.reduceMul, Nat.reduceSub, Nat.reduceLT, Nat.reduceLeDiff, Nat.reduceEqDiff, Nat.add_assoc, Int.reduceAdd, Int.reduceSub, Int.reduceMul, Int.reduceLT, Int.reduceLE, Int.reduceEq, Int.reduceNeg, strOp_add, e0, e1, e5, List.length_map]
    · simp +decide only [go_sem, Nat.reduceAdd, Nat.reduceMul, Nat.reduceSub, Nat.reduceLT, Nat.reduceLeDiff, Nat.reduceEqDiff, Nat.add_assoc, Int.reduceAdd, Int.reduceSub, Int.reduceMul, Int.reduceLT, Int.reduceLE, Int.reduceEq, Int.reduceNeg, strOp_add]
      exact ⟨h0, rfl, rfl⟩
  · have w0 : IntKind.wrap .i64 ((left : Int) - (l.length : Int)) = (left : Int) - (l.length : Int) := wrap_id (by omega) (by omega)
    have l0 : ((left : Int) - (l.length : Int) < 0) = True := eq_true (by omega)
    rw [lft_no (by omega)]
    simp +decide only [go_sem, Nat.reduceAdd, Nat.reduceMul, Nat.reduceSub, Nat.reduceLT, Nat.reduceLeDiff, Nat.reduceEqDiff, Nat.add_assoc, Int.reduceAdd, Int.reduceSub, Int.reduceMul, Int.reduceLT, Int.reduceLE, Int.reduceEq, Int.reduceNeg, strOp_add, List.length_map, w0, l0]
theorem szNode_eq : ∀ (n : Nod), n.Wide → ∀ left : Nat, left ≤ 1048576 → fnA CC PR 6 [n.av, .int .i64 left] = some (.int .i64 (lft left (szN n))) := by
  intro n
  induction n using Nod.ind with
  | h k d p s c i ih1 ih2 =>
  intro hd left hle
  cases hd with
  | mk _ _ _ _ _ _ hk hs hc hd hp hi h1 h2 =>
  have q1 := szNodes_eq p ih1
  have q2 := szNodes_eq i ih2
  rw [szN_mk, Nod.av_mk]
  apply comes_eq.1
  refine fnA_wp (rs := [.tmp 4]) Tryd.func6 rfl rfl (Nat.le_of_ble_eq_true rfl) rfl ?_
  by_cases h0 : d.size ≤ left
  · have w0 : IntKind.wrap .i64 ((left : Int) - (d.size : Int)) = ((left - d.size : Nat) : Int) := by rw [wrap_id (by omega) (by omega)]; omega
    have l0 : (((left - d.size : Nat) : Int) < 0) = False := eq_false (by omega)
    have q1 := q1 (left - d.size) (by omega) hp h1
    by_cases h3 : p.length + szNL p ≤ left - d.size
    · rw [lft_le h3] at q1
      have l1 : (((left - d.size - (p.length + szNL p) : Nat) : Int) < 0) = False := eq_false (by omega)
      have q2 := q2 (left - d.size - (p.length + szNL p)) (by omega) hi h2
      by_cases h4 : i.length + szNL i ≤ left - d.size - (p.length + szNL p)
      · rw [lft_le h4] at q2
        have l2 : (((left - d.size - (p.length + szNL p) - (i.length + szNL i) : Nat) : Int) < 0) = False := eq_false (by omega)
        rw [lft_le (by omega), show left - (d.size + (p.length + szNL p) + (i.length + szNL i)) = left - d.size - (p.length + szNL p) - (i.length + szNL i) by omega]
        generalize left - d.size - (p.length + szNL p) - (i.length + szNL i) = c at *
        generalize left - d.size - (p.length + szNL p) = b at *
        generalize left - d.size = a at *
        simp +decide only [go_sem, Nat.reduceAdd, Nat.reduceMul, Nat.reduceSub, Nat.reduceLT, Nat.reduceLeDiff, Nat.reduceEqDiff, Nat.add_assoc, Int.reduceAdd, Int.reduceSub, Int.reduceMul, Int.reduceLT, Int.reduceLE, Int.reduceEq, Int.reduceNeg, strOp_add, w0, l0, q1, l1, q2, l2]
      · rw [lft_no h4] at q2
        rw [lft_no (by omega)]
        generalize left - d.size - (p.length + szNL p) = b at *
        generalize left - d.size = a at *
        simp +decide only [go_sem, Nat.reduceAdd, Nat.reduceMul, Nat.reduceSub, Nat.reduceLT, Nat.reduceLeDiff, Nat.reduceEqDiff, Nat.add_assoc, Int.reduceAdd, Int.reduceSub, Int.reduceMul, Int.reduceLT, Int.reduceLE, Int.reduceEq, Int.reduceNeg, strOp_add, w0, l0, q1, l1, q2]
    · rw [lft_no h3] at q1
      rw [lft_no (by omega)]
      generalize left - d.size = a at *
      simp +decide only [go_sem, Nat.reduceAdd, Nat.reduceMul, Nat.reduceSub, Nat.reduceLT, Nat.reduceLeDiff, Nat.reduceEqDiff, Nat.add_assoc, Int.reduceAdd, Int.reduceSub, Int.reduceMul, Int.reduceLT, Int.reduceLE, Int.reduceEq, Int.reduceNeg, strOp_add, w0, l0, q1]
  · have w0 : IntKind.wrap .i64 ((left : Int) - (d.size : Int)) = (left : Int) - (d.size : Int) := wrap_id (by omega) (by omega)
    have l0 : ((left : Int) - (d.size : Int) < 0) = True := eq_true (by omega)
    rw [lft_no (by omega)]
    simp +decide only [go_sem, Nat.reduceAdd, Nat.reduceMul, Nat.reduceSub, Nat.reduceLT, Nat.reduceLeDiff, Nat.reduceEqDiff, Nat.add_assoc, Int.reduceAdd, Int.reduceSub, Int.reduceMul, Int.reduceLT, Int.reduceLE, Int.reduceEq, Int.reduceNeg, strOp_add, w0, l0]
theorem eqNode_self : ∀ (n : Nod), n.Sane → fnA CC PR 12 [n.av, n.av] = some (.bool true) := by
  have key : ∀ l : List Nod, l.length ≤ 1048576 → (∀ x ∈ l, x.Sane) → (∀ x ∈ l, x.Sane → fnA CC PR 12 [x.av, x.av] = some (.bool true)) → fnA CC PR 31 [.slice 6 (l.map Nod.av), .slice 6 (l.map Nod.av)] = some (.bool true) := by
    intro l hl h ih
    apply comes_eq.1
    refine fnA_wp (rs := [.tmp 4]) Tryd.func31 rfl rfl (Nat.le_of_ble_eq_true rfl) rfl ?_
    simp +decide only [go_sem, Nat.reduceAdd, Nat.reduceMul, Nat.reduceSub, Nat.reduceLT, Nat.reduceLeDiff, Nat.reduceEqDiff, Nat.add_assoc, Int.reduceAdd, Int.reduceSub, Int.reduceMul, Int.reduceLT, Int.reduceLE, Int.reduceEq, Int.reduceNeg, strOp_add, List.length_map]
    refine comes_upto l.length (fun i st => st.env 0 = .slice 6 (l.map Nod.av) ∧ st.env 1 = .slice 6 (l.map Nod.av) ∧ st.env 5 = .int .i64 i) ?_ ?_ _ ?_
    · rintro i st hi ⟨e0, e1, e5⟩
      have hqq := ih _ (List.getElem_mem hi) (h _ (List.getElem_mem hi))
      have ha := nav_at hi
      rw [nav_eta] at ha hqq
      have w1 : IntKind.wrap .i64 ((i : Int) + 1) = ((i + 1 : Nat) : Int) := wrap_succ (by omega)
      simp +decide only [go_sem, Nat.reduceAdd, Nat.reduceMul, Nat.reduceSub, Nat.reduceLT, Nat.reduceLeDiff, Nat.reduceEqDiff, Nat.add_assoc, Int.reduceAdd, Int.reduceSub, Int.reduceMul, Int.reduceLT, Int.reduceLE, Int.reduceEq, Int.reduceNeg, strOp_add, e0, e1, e5, hi, List.length_map, ha, hqq, w1]
      refine (d_plan (ord := [0, 1, 2, 3, 4, 5, 6, 7, 8, 9]) (prs := [(3, 7)]) (by kernel_rfl)).2 ?_
      simp +decide only [go_sem, Nat.reduceAdd, Nat.reduceMul, Nat.reduceSub, Nat.reduceLT, Nat.reduceLeDiff, Nat.reduceEqDiff, Nat.add_assoc, Int.reduceAdd, Int.reduceSub, Int.reduceMul, Int.reduceLT, Int.reduceLE, Int.reduceEq, Int.reduceNeg, strOp_add, e0, e1, e5, hi, List.length_map, ha, hqq, w1]
    · rintro st ⟨e0, e1, e5⟩
      simp +decide only [go_sem, Nat.reduceAdd, Nat.reduceMul, Nat.reduceSub, Nat.reduceLT, Nat.reduceLeDiff, Nat.reduceEqDiff, Nat.add_assoc, Int.reduceAdd, Int.reduceSub, Int.reduceMul, Int.reduceLT, Int.reduceLE, Int.reduceEq, Int.reduceNeg, strOp_add, e0, e1, e5, List.length_map]
    · simp +decide only [go_sem, Nat.reduceAdd, Nat.reduceMul, Nat.reduceSub, Nat.reduceLT, Nat.reduceLeDiff, Nat.reduceEqDiff, Nat.add_assoc, Int.reduceAdd, Int.reduceSub, Int.reduceMul, Int.reduceLT, Int.reduceLE, Int.reduceEq, Int.reduceNeg, strOp_add]
      rfl
  intro n
  induction n using Nod.ind with
  | h k d p s c i ih1 ih2 =>
  intro hd
  cases hd with
  | mk _ _ _ _ _ _ hk hs hc hd hp hi h1 h2 =>
  have hq := key p hp h1 ih1
  have hq2 := key i hi h2 ih2
  rw [Nod.av_mk]
  apply comes_eq.1
  refine fnA_wp (rs := [.tmp 4]) Tryd.func12 rfl rfl (Nat.le_of_ble_eq_true rfl) rfl ?_
  simp +decide only [go_sem, Nat.reduceAdd, Nat.reduceMul, Nat.reduceSub, Nat.reduceLT, Nat.reduceLeDiff, Nat.reduceEqDiff, Nat.add_assoc, Int.reduceAdd, Int.reduceSub, Int.reduceMul, Int.reduceLT, Int.reduceLE, Int.reduceEq, Int.reduceNeg, strOp_add, hq, hq2]
end Go.Ev.Tryd
