/- Part of the proof of a statement about the given program: D14ZD. No condition of its own. -/
import Derived.Test.YtmnpcdchlobdlaaGreatDoorD12ZD
namespace Go.Ev.Tryz
open Go.Proofs
set_option maxRecDepth 10000
set_option linter.unusedSimpArgs false
set_option linter.unusedVariables false
attribute [local congr] comes_congr bB_congr gK_congr gdK_congr

/-- Two data that are not the same are told apart. -/
theorem qnDatum_no : ∀ (x y : Dat), x.Sane → y.Sane → x ≠ y → fnA CC PR 9 [x.av, y.av] = some (.bool false) := by
  intro x
  induction x using Dat.ind with
  | h k n t l ns ih =>
  intro y hd hd' hne
  obtain ⟨k2, n2, t2, l2, ns2⟩ := y
  cases hd with
  | mk _ _ _ _ _ hk hn ht hl hns hss h =>
  cases hd' with
  | mk _ _ _ _ _ hk' hn' ht' hl' hns' hss' h' =>
  have hq := qnTexts_eq ns ns2 hns
  rw [Dat.av_mk, Dat.av_mk]
  apply comes_eq.1
  by_cases e1 : k = k2
  · by_cases e2 : n = n2
    · by_cases e3 : t = t2
      · by_cases e4 : l.length = l2.length
        · by_cases e5 : ns = ns2
          · subst e1 e2 e3 e5
            rw [decide_eq_true rfl] at hq
            have e6 : l ≠ l2 := fun e => hne (by rw [e])
            have e4' : ((l.length : Int) = (l2.length : Int)) = True := eq_true (by omega)
            refine fnA_wp (rs := [.tmp 4]) Tryz.func9 rfl rfl (Nat.le_of_ble_eq_true rfl) rfl ?_
            simp +decide only [go_sem, Nat.reduceAdd, Nat.reduceMul, Nat.reduceSub, Nat.reduceLT, Nat.reduceLeDiff, Nat.reduceEqDiff, Nat.add_assoc, Int.reduceAdd, Int.reduceSub, Int.reduceMul, Int.reduceLT, Int.reduceLE, Int.reduceEq, Int.reduceNeg, strOp_add, List.length_map, hq, e4']
            refine comes_upto l.length (fun i st => st.env 2 = .ptr 0 0 0 ∧ st.env 3 = .ptr 1 0 0 ∧ st.env 5 = .int .i64 i ∧ 2 ≤ st.nid ∧ st.sto 0 = ⟨[.int .i64 k, .int .i64 n, .str t, .slice 5 (l.map Dat.av), .slice 1 (ns.map AV.str)], 0, false, none⟩ ∧ st.sto 1 = ⟨[.int .i64 k, .int .i64 n, .str t, .slice 5 (l2.map Dat.av), .slice 1 (ns.map AV.str)], 0, false, none⟩ ∧ ∀ j, (hj : j < l.length) → j < i → l[j] = l2[j]'(by omega)) ?_ ?_ _ ?_
            · rintro i st hi ⟨e2, e3, e5, en, s0, s1, hsame⟩
              have hi2 : i < l2.length := by omega
              obtain ⟨a1, a2, a3, a4, a5, hcs⟩ := cells_of l[i]
              obtain ⟨b1, b2, b3, b4, b5, hcs2⟩ := cells_of l2[i]
              have ha := av_at hi
              have ha2 := av_at hi2
              have w1 : IntKind.wrap .i64 ((i : Int) + 1) = ((i + 1 : Nat) : Int) := wrap_succ (by omega)
              by_cases hB : l[i] = l2[i]
              · have hqq := qnDatum_self l[i] (h _ (List.getElem_mem hi))
                have hqq2 : fnA CC PR 9 [l[i].av, l2[i].av] = some (.bool true) := by
                  rw [← hB]
                  exact hqq
                have nxt : ∀ j, (hj : j < l.length) → j < i + 1 → l[j] = l2[j]'(by omega) := by
                  intro j h1 h2
                  rcases Nat.lt_or_ge j i with h3 | h3
                  · exact hsame j h1 h3
                  · have : j = i := by omega
                    subst this
                    exact hB
                rw [hcs] at ha hqq2
                rw [hcs2] at ha2 hqq2
                simp +decide only [go_sem, Nat.reduceAdd, Nat.reduceMul, Nat.reduceSub, Nat.reduceLT, Nat.reduceLeDiff, Nat.reduceEqDiff, Nat.add_assoc, Int.reduceAdd, Int.reduceSub, Int.reduceMul, Int.reduceLT, Int.reduceLE, Int.reduceEq, Int.reduceNeg, strOp_add, e2, e3, e5, s0, s1, hi, hi2, List.length_map, ha, ha2, hqq2, w1]
                refine (d_plan (ord := [0, 1, 2, 3, 4, 5, 6, 7, 8, 9, 10, 11]) (prs := [(1, 6), (4, 6), (1, 9), (4, 9)]) (by kernel_rfl)).2 ?_
                simp +decide only [go_sem, Nat.reduceAdd, Nat.reduceMul, Nat.reduceSub, Nat.reduceLT, Nat.reduceLeDiff, Nat.reduceEqDiff, Nat.add_assoc, Int.reduceAdd, Int.reduceSub, Int.reduceMul, Int.reduceLT, Int.reduceLE, Int.reduceEq, Int.reduceNeg, strOp_add, e2, e3, e5, s0, s1, hi, hi2, List.length_map, ha, ha2, hqq2, w1]
                exact nxt
              · have hqq := ih _ (List.getElem_mem hi) l2[i] (h _ (List.getElem_mem hi)) (h' _ (List.getElem_mem hi2)) hB
                rw [hcs] at ha hqq
                rw [hcs2] at ha2 hqq
                simp +decide only [go_sem, Nat.reduceAdd, Nat.reduceMul, Nat.reduceSub, Nat.reduceLT, Nat.reduceLeDiff, Nat.reduceEqDiff, Nat.add_assoc, Int.reduceAdd, Int.reduceSub, Int.reduceMul, Int.reduceLT, Int.reduceLE, Int.reduceEq, Int.reduceNeg, strOp_add, e2, e3, e5, s0, s1, hi, hi2, List.length_map, ha, ha2, hqq, w1]
                refine (d_plan (ord := [0, 1, 2, 3, 4, 5, 6, 7, 8, 9, 10, 11]) (prs := [(1, 6), (4, 6), (1, 9), (4, 9)]) (by kernel_rfl)).2 ?_
                simp +decide only [go_sem, Nat.reduceAdd, Nat.reduceMul, Nat.reduceSub, Nat.reduceLT, Nat.reduceLeDiff, Nat.reduceEqDiff, Nat.add_assoc, Int.reduceAdd, Int.reduceSub, Int.reduceMul, Int.reduceLT, Int.reduceLE, Int.reduceEq, Int.reduceNeg, strOp_add, e2, e3, e5, s0, s1, hi, hi2, List.length_map, ha, ha2, hqq, w1]
            · rintro st ⟨e2, e3, e5, en, s0, s1, hsame⟩
              exact absurd (List.ext_getElem e4 fun j h1 h2 => hsame j h1 h1) e6
            · simp +decide only [go_sem, Nat.reduceAdd, Nat.reduceMul, Nat.reduceSub, Nat.reduceLT, Nat.reduceLeDiff, Nat.reduceEqDiff, Nat.add_assoc, Int.reduceAdd, Int.reduceSub, Int.reduceMul, Int.reduceLT, Int.reduceLE, Int.reduceEq, Int.reduceNeg, strOp_add]
              simp
          · subst e1 e2 e3
            rw [decide_eq_false e5] at hq
            have e4' : ((l.length : Int) = (l2.length : Int)) = True := eq_true (by omega)
            refine fnA_wp (rs := [.tmp 4]) Tryz.func9 rfl rfl (Nat.le_of_ble_eq_true rfl) rfl ?_
            simp +decide only [go_sem, Nat.reduceAdd, Nat.reduceMul, Nat.reduceSub, Nat.reduceLT, Nat.reduceLeDiff, Nat.reduceEqDiff, Nat.add_assoc, Int.reduceAdd, Int.reduceSub, Int.reduceMul, Int.reduceLT, Int.reduceLE, Int.reduceEq, Int.reduceNeg, strOp_add, List.length_map, hq, e4']
        · subst e1 e2 e3
          have e4' : ((l.length : Int) = (l2.length : Int)) = False := eq_false (by omega)
          refine fnA_wp (rs := [.tmp 4]) Tryz.func9 rfl rfl (Nat.le_of_ble_eq_true rfl) rfl ?_
          simp +decide only [go_sem, Nat.reduceAdd, Nat.reduceMul, Nat.reduceSub, Nat.reduceLT, Nat.reduceLeDiff, Nat.reduceEqDiff, Nat.add_assoc, Int.reduceAdd, Int.reduceSub, Int.reduceMul, Int.reduceLT, Int.reduceLE, Int.reduceEq, Int.reduceNeg, strOp_add, List.length_map, e4']
      · subst e1 e2
        refine fnA_wp (rs := [.tmp 4]) Tryz.func9 rfl rfl (Nat.le_of_ble_eq_true rfl) rfl ?_
        simp +decide only [go_sem, Nat.reduceAdd, Nat.reduceMul, Nat.reduceSub, Nat.reduceLT, Nat.reduceLeDiff, Nat.reduceEqDiff, Nat.add_assoc, Int.reduceAdd, Int.reduceSub, Int.reduceMul, Int.reduceLT, Int.reduceLE, Int.reduceEq, Int.reduceNeg, strOp_add, e3]
    · subst e1
      refine fnA_wp (rs := [.tmp 4]) Tryz.func9 rfl rfl (Nat.le_of_ble_eq_true rfl) rfl ?_
      simp +decide only [go_sem, Nat.reduceAdd, Nat.reduceMul, Nat.reduceSub, Nat.reduceLT, Nat.reduceLeDiff, Nat.reduceEqDiff, Nat.add_assoc, Int.reduceAdd, Int.reduceSub, Int.reduceMul, Int.reduceLT, Int.reduceLE, Int.reduceEq, Int.reduceNeg, strOp_add, e2]
  · refine fnA_wp (rs := [.tmp 4]) Tryz.func9 rfl rfl (Nat.le_of_ble_eq_true rfl) rfl ?_
    simp +decide only [go_sem, Nat.reduceAdd, Nat.reduceMul, Nat.reduceSub, Nat.reduceLT, Nat.reduceLeDiff, Nat.reduceEqDiff, Nat.add_assoc, Int.reduceAdd, Int.reduceSub, Int.reduceMul, Int.reduceLT, Int.reduceLE, Int.reduceEq, Int.reduceNeg, strOp_add, e1]
end Go.Ev.Tryz
