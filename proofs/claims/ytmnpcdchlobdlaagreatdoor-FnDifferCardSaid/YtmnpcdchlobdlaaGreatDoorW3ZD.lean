/- Part of the proof of a statement about the given program: W3ZD. No condition of its own. -/
import Derived.Test.YtmnpcdchlobdlaaGreatDoorW2aZD
import Derived.Test.YtmnpcdchlobdlaaGreatDoorU4ZD
import Derived.Test.YtmnpcdchlobdlaaGreatDoorD14ZD
namespace Go.Ev.Tryz
open Go.Proofs
set_option maxRecDepth 10000
set_option linter.unusedSimpArgs false
set_option linter.unusedVariables false
attribute [local congr] comes_congr bB_congr gK_congr gdK_congr

set_option maxHeartbeats 8000000 in
theorem law_FnDiffer (bs : List Int) (hb : ∀ b ∈ bs, 0 ≤ b ∧ b ≤ 255) (hlen : bs.length ≤ 140737488351232) : fnA CC PR 3 [.slice 1 (bs.map (.int .u8 ·))] = some (.bool true) := by
  obtain ⟨a, b, h1, ha, hb2⟩ := DrawDiffer_ok bs hb
  unfold bytesA at h1
  have e1 := Differ_eq a b ha hb2
  have e2 := specDiffer_eq a b ha hb2
  have e3 := Differ_eq b a hb2 ha
  rw [differs_flip] at e3
  have hshort := differs_short a b
  have hfew := differs_few a b
  have e4' : ∀ q ∈ differs a b, ∃ x y : Dat, fnA CC PR 7 [a.av, strsA q] = some (.tup [x.av, .bool true]) ∧ fnA CC PR 7 [b.av, strsA q] = some (.tup [y.av, .bool true]) ∧ fnA CC PR 9 [x.av, y.av] = some (.bool false) := by
    intro q hq
    obtain ⟨x, y, x1, y1, hx, hy, hne⟩ := differs_apart a b ha hb2 q hq
    have hp := hshort q hq
    refine ⟨x, y, ?_, ?_, qnDatum_no x y hx hy hne⟩
    · rw [PathGet_eq q a (by omega) ha, x1]
    · rw [PathGet_eq q b (by omega) hb2, y1]
  have e4 : ∀ i, (hi : i < (differs a b).length) → ∃ x y : Dat, fnA CC PR 7 [a.av, strsA (differs a b)[i]] = some (.tup [x.av, .bool true]) ∧ fnA CC PR 7 [b.av, strsA (differs a b)[i]] = some (.tup [y.av, .bool true]) ∧ fnA CC PR 9 [x.av, y.av] = some (.bool false) := fun i hi => e4' _ (List.getElem_mem hi)
  clear e4'
  have e5 : ∀ i, (hi : i < (differs a b).length) → fnA CC PR 8 [strsA (differs a b)[i], strsA (differs a b)[i]] = some (.bool true) := fun i hi => by
    rw [qnTexts_eq _ _ (by have := hshort _ (List.getElem_mem hi); omega)]
    simp
  have e6 : fnA CC PR 10 [a.av] = some (.str ⟨#[]⟩) ∨ ∃ s : ByteArray, fnA CC PR 10 [a.av] = some (.str s) ∧ ¬ s = ⟨#[]⟩ ∧ (fnA CC PR 10 [b.av] = some (.str ⟨#[]⟩) ∨ ∃ t : ByteArray, fnA CC PR 10 [b.av] = some (.str t) ∧ ¬ t = ⟨#[]⟩ ∧ ∃ f : Bool, fnA CC PR 9 [a.av, b.av] = some (.bool f) ∧ (f = true ↔ (differs a b).length = 0)) := by
    have hne : ∀ s : ByteArray, 1 ≤ s.size → ¬ s = ⟨#[]⟩ := by
      rintro s hs rfl
      exact absurd hs (by decide)
    cases hw : writ 8 a
    · exact .inl (DatumPut_no a ha hw)
    · obtain ⟨s, s1, s2⟩ := DatumPut_ok a ha hw
      refine .inr ⟨s, s1, hne s s2, ?_⟩
      cases hw2 : writ 8 b
      · exact .inl (DatumPut_no b hb2 hw2)
      · obtain ⟨t, t1, t2⟩ := DatumPut_ok b hb2 hw2
        refine .inr ⟨t, t1, hne t t2, ?_⟩
        have hn := differs_nil a b hw hw2
        by_cases hab : a = b
        · refine ⟨true, ?_, ?_⟩
          · subst hab
            exact qnDatum_self a ha
          · rw [hn.2 hab]
            simp
        · refine ⟨false, qnDatum_no a b ha hb2 hab, ?_⟩
          simp only [Bool.false_eq_true, false_iff]
          intro h0
          exact hab (hn.1 (List.length_eq_zero_iff.1 h0))
  generalize differs a b = ps at e1 e2 e3 e4 e5 e6 hfew
  obtain ⟨d1, d2, d3, d4, d5, hac⟩ := cells_of a
  obtain ⟨x1, x2, x3, x4, x5, hbc⟩ := cells_of b
  rw [hac, hbc] at h1 e1 e2 e3
  simp only [hac, hbc] at e4 e6
  clear hshort ha hb2 hac hbc
  unfold pathsA at e1 e2 e3
  apply comes_eq.1
  refine fnA_wp (rs := [.tmp 2]) Tryz.func3 rfl rfl (Nat.le_of_ble_eq_true rfl) rfl ?_
  simp +decide only [go_sem, Nat.reduceAdd, Nat.reduceMul, Nat.reduceSub, Nat.reduceLT, Nat.reduceLeDiff, Nat.reduceEqDiff, Nat.add_assoc, Int.reduceAdd, Int.reduceSub, Int.reduceMul, Int.reduceLT, Int.reduceLE, Int.reduceEq, Int.reduceNeg, strOp_add, List.length_map]
  refine bB_split (fun hB => ?_) (fun hB => ?_)
  · simp +decide only [go_sem, Nat.reduceAdd, Nat.reduceMul, Nat.reduceSub, Nat.reduceLT, Nat.reduceLeDiff, Nat.reduceEqDiff, Nat.add_assoc, Int.reduceAdd, Int.reduceSub, Int.reduceMul, Int.reduceLT, Int.reduceLE, Int.reduceEq, Int.reduceNeg, strOp_add]
  · simp +decide only [go_sem, Nat.reduceAdd, Nat.reduceMul, Nat.reduceSub, Nat.reduceLT, Nat.reduceLeDiff, Nat.reduceEqDiff, Nat.add_assoc, Int.reduceAdd, Int.reduceSub, Int.reduceMul, Int.reduceLT, Int.reduceLE, Int.reduceEq, Int.reduceNeg, strOp_add, h1, e1, e2, e3, List.length_map]
    refine comes_upto ps.length (fun i st => st.env 3 = .ptr 0 0 0 ∧ st.env 4 = .ptr 1 0 0 ∧ st.env 5 = .slice 1 (ps.map strsA) ∧ st.env 6 = .slice 1 (ps.map strsA) ∧ st.env 7 = .slice 1 (ps.map strsA) ∧ st.env 8 = .int .i64 i ∧ 2 ≤ st.nid ∧ st.sto 0 = ⟨[.int .i64 d1, .int .i64 d2, .str d3, .slice 5 d4, .slice 1 d5], 0, false, some (26, true)⟩ ∧ st.sto 1 = ⟨[.int .i64 x1, .int .i64 x2, .str x3, .slice 5 x4, .slice 1 x5], 0, false, some (26, true)⟩) ?_ ?_ _ ?_
    · rintro i st hi ⟨e03, e04, e05, e06, e07, e08, en, s0, s1⟩
      obtain ⟨x, y, q1, q2, q3⟩ := e4 i hi
      have q4 := e5 i hi
      have hat : (ps.map strsA)[i]? = some (.slice 1 (ps[i].map AV.str)) := by simp [hi, strsA]
      have w1 : IntKind.wrap .i64 ((i : Int) + 1) = ((i + 1 : Nat) : Int) := wrap_succ (by omega)
      obtain ⟨k, n, t, l, ns⟩ := x
      obtain ⟨k', n', t', l', ns'⟩ := y
      rw [Dat.av_mk] at q1 q2 q3
      rw [Dat.av_mk] at q3
      unfold strsA at q1 q2 q4
      simp +decide (disch := first | decide | omega) only [go_sem, Nat.reduceAdd, Nat.reduceMul, Nat.reduceSub, Nat.reduceLT, Nat.reduceLeDiff, Nat.reduceEqDiff, Nat.add_assoc, Int.reduceAdd, Int.reduceSub, Int.reduceMul, Int.reduceLT, Int.reduceLE, Int.reduceEq, Int.reduceNeg, strOp_add, e03, e04, e05, e06, e07, e08, hi, List.length_map]
      refine (d_plan (ord := [0, 1, 2, 3, 4, 5, 6, 7, 8, 9, 10, 11]) (prs := [(0, 4), (0, 9), (4, 9), (5, 9)]) (by kernel_rfl)).2 ?_
      simp +decide (disch := first | decide | omega) only [go_sem, Nat.reduceAdd, Nat.reduceMul, Nat.reduceSub, Nat.reduceLT, Nat.reduceLeDiff, Nat.reduceEqDiff, Nat.add_assoc, Int.reduceAdd, Int.reduceSub, Int.reduceMul, Int.reduceLT, Int.reduceLE, Int.reduceEq, Int.reduceNeg, strOp_add, e03, e04, e05, e06, e07, e08, s0, s1, hi, hat, q1, List.length_map]
      refine (d_plan (ord := [0, 1, 2, 3, 4, 5, 6, 7, 8, 9, 10, 11]) (prs := [(0, 4), (0, 9), (4, 9), (5, 9)]) (by kernel_rfl)).2 ?_
      simp +decide (disch := first | decide | omega) only [go_sem, Nat.reduceAdd, Nat.reduceMul, Nat.reduceSub, Nat.reduceLT, Nat.reduceLeDiff, Nat.reduceEqDiff, Nat.add_assoc, Int.reduceAdd, Int.reduceSub, Int.reduceMul, Int.reduceLT, Int.reduceLE, Int.reduceEq, Int.reduceNeg, strOp_add, e03, e04, e05, e06, e07, e08, s0, s1, hi, hat, q1, q2, List.length_map]
      refine (d_plan (ord := [0, 1, 2, 3, 4, 5, 6, 7, 8, 9, 10, 11, 12, 13, 14, 15, 16, 17, 18, 19, 20, 21, 22, 23, 24, 25, 26, 27, 28, 29, 30, 31, 32]) (prs := [(3, 7), (14, 18), (28, 29)]) (by kernel_rfl)).2 ?_
      simp (maxSteps := 2000000) +decide (disch := first | decide | omega) only [go_sem, Nat.reduceAdd, Nat.reduceMul, Nat.reduceSub, Nat.reduceLT, Nat.reduceLeDiff, Nat.reduceEqDiff, Nat.add_assoc, Int.reduceAdd, Int.reduceSub, Int.reduceMul, Int.reduceLT, Int.reduceLE, Int.reduceEq, Int.reduceNeg, strOp_add, e03, e04, e05, e06, e07, e08, s0, s1, hi, hat, q1, q2, q3, q4, w1, List.length_map]
    · rintro st ⟨e03, e04, e05, e06, e07, e08, en, s0, s1⟩
      rcases e6 with e6 | ⟨s, e6, n6, e7 | ⟨t, e7, n7, f, e8, e9⟩⟩
      · simp +decide (disch := first | decide | omega) only [go_sem, Nat.reduceAdd, Nat.reduceMul, Nat.reduceSub, Nat.reduceLT, Nat.reduceLeDiff, Nat.reduceEqDiff, Nat.add_assoc, Int.reduceAdd, Int.reduceSub, Int.reduceMul, Int.reduceLT, Int.reduceLE, Int.reduceEq, Int.reduceNeg, strOp_add, e03, e04, e05, e06, e07, e08, s0, s1, e6, List.length_map]
      · simp +decide (disch := first | decide | omega) only [go_sem, Nat.reduceAdd, Nat.reduceMul, Nat.reduceSub, Nat.reduceLT, Nat.reduceLeDiff, Nat.reduceEqDiff, Nat.add_assoc, Int.reduceAdd, Int.reduceSub, Int.reduceMul, Int.reduceLT, Int.reduceLE, Int.reduceEq, Int.reduceNeg, strOp_add, e03, e04, e05, e06, e07, e08, s0, s1, e6, n6, e7, List.length_map]
      · have hz : ((ps.length : Int) = 0) = (f = true) := by
          rw [eq_iff_iff, e9]
          omega
        simp +decide (disch := first | decide | omega) only [go_sem, Nat.reduceAdd, Nat.reduceMul, Nat.reduceSub, Nat.reduceLT, Nat.reduceLeDiff, Nat.reduceEqDiff, Nat.add_assoc, Int.reduceAdd, Int.reduceSub, Int.reduceMul, Int.reduceLT, Int.reduceLE, Int.reduceEq, Int.reduceNeg, strOp_add, e03, e04, e05, e06, e07, e08, s0, s1, e6, n6, e7, n7, e8, hz, List.length_map]
        cases f <;> simp
    · simp +decide only [go_sem, Nat.reduceAdd, Nat.reduceMul, Nat.reduceSub, Nat.reduceLT, Nat.reduceLeDiff, Nat.reduceEqDiff, Nat.add_assoc, Int.reduceAdd, Int.reduceSub, Int.reduceMul, Int.reduceLT, Int.reduceLE, Int.reduceEq, Int.reduceNeg, strOp_add]
      rfl
end Go.Ev.Tryz
