/- Part of the proof of a statement about the given program: Y35I. No condition of its own. -/
import Derived.Test.YthlmbapkgblnkaaDoorY34I
namespace Go.Ev.Tryd
open Go.Proofs
set_option maxRecDepth 10000
set_option linter.unusedSimpArgs false
set_option linter.unusedVariables false
attribute [local congr] comes_congr bB_congr gK_congr gdK_congr

theorem fitP_1 {x2 x5 v : Int} {z : Nat} : fitP 1 x2 0 x5 v z = (decide (x2 / 8 + 1 ≤ (z : Int)) && (decide (x5 + 2 ≤ (z : Int)) && fitsB v 1)) := rfl
theorem fitP_2 {x2 x3 x5 v : Int} {z : Nat} (h : isSize x3 = true) : fitP 2 x2 x3 x5 v z = (decide (x2 + x3 ≤ (z : Int)) && (decide (x5 + 2 ≤ (z : Int)) && fitsB v (8 * x3))) := by
  rcases isSize_iff.1 h with rfl | rfl | rfl | rfl <;> rfl
theorem fitP_3 {x2 x3 x5 v : Int} {z : Nat} : fitP 3 x2 x3 x5 v z = false := rfl
theorem fits_bit {v : Int} : fitsB v 1 = true ↔ v = 0 ∨ v = 1 := by
  have h := @fits_iff v 1 (by decide)
  rw [show ((1 : Nat) : Int) = 1 from rfl] at h
  rw [h]
  omega
theorem xor_fits8 {v w x3 : Int} (hs : isSize x3 = true) (hv : fitsB v (8 * x3) = true) (hw : fitsB w (8 * x3) = true) : fitsB (xorI v w) (8 * x3) = true := by
  rcases isSize_iff.1 hs with rfl | rfl | rfl | rfl
  · exact xor_fits (k := 8) (by decide) hv hw
  · exact xor_fits (k := 16) (by decide) hv hw
  · exact xor_fits (k := 32) (by decide) hv hw
  · unfold fitsB
    rfl
def putA (r : Bool × Nod) : AV := .tup [.agg [.int .i64 r.2.kind, .str r.2.data, .slice 6 (r.2.ptrs.map Nod.av), .int .i64 r.2.size, .int .i64 r.2.count, .slice 6 (r.2.items.map Nod.av)], .bool r.1]
set_option maxHeartbeats 4000000 in
theorem specAccessPut_eq (x0 : ByteArray) (x1 x2 x3 x4 x5 x6 v : Int) (n : Nod) (hs : x0.size ≤ 1099511627776) (hd : n.Sane) (hz : szN n ≤ 1048576) : fnA CC PR 16 [accA x0 x1 x2 x3 x4 x5 x6, n.av, .int .i64 v] = some (putA (putR x0 x1 x2 x3 x4 x5 x6 n v)) := by
  have hA := specAcc_eq x0 x1 x2 x3 x4 x5 x6 hs
  have hN := specNodeOk_eq n hd hz
  have hC := l8Copy_eq n hd
  rw [← nodeOk_same] at hN
  rw [nav_eta] at hN hC ⊢
  unfold putR
  cases hacc : accOk x0 x1 x2 x3 x4 x5 x6 with
  | false =>
    rw [hacc] at hA
    rw [if_pos rfl]
    apply comes_eq.1
    refine fnA_wp (rs := [.cell 6 31, .tmp 7]) Tryd.func16 rfl rfl (Nat.le_of_ble_eq_true rfl) rfl ?_
    simp +decide only [go_sem, Nat.reduceAdd, Nat.reduceMul, Nat.reduceSub, Nat.reduceLT, Nat.reduceLeDiff, Nat.reduceEqDiff, Nat.add_assoc, Int.reduceAdd, Int.reduceSub, Int.reduceMul, Int.reduceLT, Int.reduceLE, Int.reduceEq, Int.reduceNeg, strOp_add, hA]
    try rfl
  | true =>
    rw [hacc] at hA
    rw [if_neg (by decide)]
    obtain ⟨a1, a2, a3, a4, a5⟩ := accOk_says hacc
    obtain ⟨m1, m2⟩ := accOk_more hacc
    cases hok : nodeOk n with
    | false =>
      rw [hok] at hN
      rw [if_pos rfl]
      apply comes_eq.1
      refine fnA_wp (rs := [.cell 6 31, .tmp 7]) Tryd.func16 rfl rfl (Nat.le_of_ble_eq_true rfl) rfl ?_
      simp +decide only [go_sem, Nat.reduceAdd, Nat.reduceMul, Nat.reduceSub, Nat.reduceLT, Nat.reduceLeDiff, Nat.reduceEqDiff, Nat.add_assoc, Int.reduceAdd, Int.reduceSub, Int.reduceMul, Int.reduceLT, Int.reduceLE, Int.reduceEq, Int.reduceNeg, strOp_add, hA, hN]
      try rfl
    | true =>
    rw [hok] at hN
    rw [if_neg (by decide)]
    obtain ⟨-, b2, b3⟩ := nodeOk_says hok
    by_cases k1 : n.kind = 1
    case neg =>
      rw [if_pos k1]
      have k1' : (n.kind = 1) = False := eq_false k1
      apply comes_eq.1
      refine fnA_wp (rs := [.cell 6 31, .tmp 7]) Tryd.func16 rfl rfl (Nat.le_of_ble_eq_true rfl) rfl ?_
      simp +decide only [go_sem, Nat.reduceAdd, Nat.reduceMul, Nat.reduceSub, Nat.reduceLT, Nat.reduceLeDiff, Nat.reduceEqDiff, Nat.add_assoc, Int.reduceAdd, Int.reduceSub, Int.reduceMul, Int.reduceLT, Int.reduceLE, Int.reduceEq, Int.reduceNeg, strOp_add, hA, hN, k1']
      try rfl
    rw [if_neg (by simp [k1])]
    have k1' : (n.kind = 1) = True := eq_true k1
    obtain ⟨z1, z2⟩ := b3 (by omega)
    obtain ⟨q2, rfl⟩ : ∃ q : Nat, x2 = q := ⟨x2.toNat, by omega⟩
    have hq2 : q2 ≤ 12799 := by omega
    unfold putD Nod.setD putA
    rw [Int.toNat_natCast]
    by_cases h5 : x5 < 0
    · have h5' : (0 ≤ x5) = False := eq_false (by omega)
      have t0 : putT x5 x6 n.data = n.data := if_pos h5
      rw [t0]
      rcases m2 with ⟨rfl, rfl, h4⟩ | ⟨rfl, h3, hm, h4⟩ | ⟨rfl, h3⟩
      · by_cases hv : v = 0 ∨ v = 1
        · have hfv := fits_bit.2 hv
          have hb := BitPut_eq n.data q2 (xorI v x4) z1 z2 (by omega) (xor_bit hv h4)
          have g1 : (0 ≤ v) = True := eq_true (by omega)
          have g2 : (v ≤ 1) = True := eq_true (by omega)
          by_cases hl : q2 / 8 < n.data.size
          · rw [if_pos (by exact hl)] at hb
            rw [fitP_1, hfv, decide_eq_true (by omega), decide_eq_true (by omega)]
            rw [if_neg (by decide), if_pos rfl]
            apply comes_eq.1
            refine fnA_wp (rs := [.cell 6 31, .tmp 7]) Tryd.func16 rfl rfl (Nat.le_of_ble_eq_true rfl) rfl ?_
            simp +decide only [go_sem, Nat.reduceAdd, Nat.reduceMul, Nat.reduceSub, Nat.reduceLT, Nat.reduceLeDiff, Nat.reduceEqDiff, Nat.add_assoc, Int.reduceAdd, Int.reduceSub, Int.reduceMul, Int.reduceLT, Int.reduceLE, Int.reduceEq, Int.reduceNeg, strOp_add, hA, hN, hC, k1', h5', hb, g1, g2]
            try rfl
          · rw [if_neg (by exact hl)] at hb
            rw [fitP_1, decide_eq_false (by omega), Bool.false_and, if_pos rfl]
            apply comes_eq.1
            refine fnA_wp (rs := [.cell 6 31, .tmp 7]) Tryd.func16 rfl rfl (Nat.le_of_ble_eq_true rfl) rfl ?_
            simp +decide only [go_sem, Nat.reduceAdd, Nat.reduceMul, Nat.reduceSub, Nat.reduceLT, Nat.reduceLeDiff, Nat.reduceEqDiff, Nat.add_assoc, Int.reduceAdd, Int.reduceSub, Int.reduceMul, Int.reduceLT, Int.reduceLE, Int.reduceEq, Int.reduceNeg, strOp_add, hA, hN, hC, k1', h5', hb, g1, g2]
            try rfl
        · have hfv : fitsB v 1 = false := by
            cases h : fitsB v 1 with
            | false => rfl
            | true => exact absurd (fits_bit.1 h) hv
          have hin : (decide (0 ≤ v) && decide (v ≤ 1)) = false := by
            rw [Bool.and_eq_false_iff, decide_eq_false_iff_not, decide_eq_false_iff_not]
            omega
          rw [fitP_1, hfv, Bool.and_false, Bool.and_false, if_pos rfl]
          apply comes_eq.1
          refine fnA_wp (rs := [.cell 6 31, .tmp 7]) Tryd.func16 rfl rfl (Nat.le_of_ble_eq_true rfl) rfl ?_
          simp +decide only [go_sem, Nat.reduceAdd, Nat.reduceMul, Nat.reduceSub, Nat.reduceLT, Nat.reduceLeDiff, Nat.reduceEqDiff, Nat.add_assoc, Int.reduceAdd, Int.reduceSub, Int.reduceMul, Int.reduceLT, Int.reduceLE, Int.reduceEq, Int.reduceNeg, strOp_add, hA, hN, hC, k1', h5', hin]
          try rfl
      · obtain ⟨s, rfl⟩ : ∃ s : Nat, x3 = s := ⟨x3.toNat, by rcases isSize_iff.1 h3 with rfl | rfl | rfl | rfl <;> rfl⟩
        have s8 : 1 ≤ s := by rcases isSize_iff.1 h3 with h | h | h | h <;> omega
        have hfe := l1Fits_eq v s h3
        cases hf : fitsB v (8 * (s : Int)) with
        | true =>
          rw [hf] at hfe
          have hb := Put_eq n.data q2 s (xorI v x4) z1 z2 (by omega) h3 hm
          rw [xor_fits8 h3 hf h4] at hb
          by_cases hl : q2 + s ≤ n.data.size
          · rw [if_pos ⟨by exact hl, rfl⟩] at hb
            rw [fitP_2 h3, hf, decide_eq_true (by omega), decide_eq_true (by omega)]
            rw [if_neg (by decide), if_neg (by decide), Int.toNat_natCast]
            apply comes_eq.1
            refine fnA_wp (rs := [.cell 6 31, .tmp 7]) Tryd.func16 rfl rfl (Nat.le_of_ble_eq_true rfl) rfl ?_
            simp +decide only [go_sem, Nat.reduceAdd, Nat.reduceMul, Nat.reduceSub, Nat.reduceLT, Nat.reduceLeDiff, Nat.reduceEqDiff, Nat.add_assoc, Int.reduceAdd, Int.reduceSub, Int.reduceMul, Int.reduceLT, Int.reduceLE, Int.reduceEq, Int.reduceNeg, strOp_add, hA, hN, hC, k1', h5', hfe, hb]
            try rfl
          · rw [if_neg (fun h => hl (by exact h.1))] at hb
            rw [fitP_2 h3, decide_eq_false (by omega), Bool.false_and, if_pos rfl]
            apply comes_eq.1
            refine fnA_wp (rs := [.cell 6 31, .tmp 7]) Tryd.func16 rfl rfl (Nat.le_of_ble_eq_true rfl) rfl ?_
            simp +decide only [go_sem, Nat.reduceAdd, Nat.reduceMul, Nat.reduceSub, Nat.reduceLT, Nat.reduceLeDiff, Nat.reduceEqDiff, Nat.add_assoc, Int.reduceAdd, Int.reduceSub, Int.reduceMul, Int.reduceLT, Int.reduceLE, Int.reduceEq, Int.reduceNeg, strOp_add, hA, hN, hC, k1', h5', hfe, hb]
            try rfl
        | false =>
          rw [hf] at hfe
          rw [fitP_2 h3, hf, Bool.and_false, Bool.and_false, if_pos rfl]
          apply comes_eq.1
          refine fnA_wp (rs := [.cell 6 31, .tmp 7]) Tryd.func16 rfl rfl (Nat.le_of_ble_eq_true rfl) rfl ?_
          simp +decide only [go_sem, Nat.reduceAdd, Nat.reduceMul, Nat.reduceSub, Nat.reduceLT, Nat.reduceLeDiff, Nat.reduceEqDiff, Nat.add_assoc, Int.reduceAdd, Int.reduceSub, Int.reduceMul, Int.reduceLT, Int.reduceLE, Int.reduceEq, Int.reduceNeg, strOp_add, hA, hN, hC, k1', h5', hfe]
          try rfl
      · rw [fitP_3, if_pos rfl]
        apply comes_eq.1
        refine fnA_wp (rs := [.cell 6 31, .tmp 7]) Tryd.func16 rfl rfl (Nat.le_of_ble_eq_true rfl) rfl ?_
        simp +decide only [go_sem, Nat.reduceAdd, Nat.reduceMul, Nat.reduceSub, Nat.reduceLT, Nat.reduceLeDiff, Nat.reduceEqDiff, Nat.add_assoc, Int.reduceAdd, Int.reduceSub, Int.reduceMul, Int.reduceLT, Int.reduceLE, Int.reduceEq, Int.reduceNeg, strOp_add, hA, hN, hC, k1', h5', true_or]
        try rfl
    · have h5' : (0 ≤ x5) = True := eq_true (by omega)
      rcases m1 with ⟨h, -⟩ | ⟨h5n, t2, t3, t4⟩
      · omega
      obtain ⟨q5, rfl⟩ : ∃ q : Nat, x5 = q := ⟨x5.toNat, by omega⟩
      have t0 : putT (q5 : Int) x6 n.data = sto n.data q5 (bytesV x6 2) := by
        unfold putT
        rw [if_neg h5, Int.toNat_natCast]
      rw [t0]
      have hp5 := Put_eq n.data q5 2 x6 z1 z2 (by omega) rfl t2
      have hf6 : fitsB x6 (8 * ((2 : Nat) : Int)) = true := (fits_iff (k := 16) (by decide)).2 (by omega)
      rw [hf6, show ((2 : Nat) : Int) = 2 from rfl] at hp5
      by_cases ht : q5 + 2 ≤ n.data.size
      case neg =>
        rw [if_neg (fun h => ht h.1)] at hp5
        have hfp : fitP x1 (q2 : Int) x3 (q5 : Int) v n.data.size = false := by
          unfold fitP
          rw [show decide ((q5 : Int) + 2 ≤ (n.data.size : Int)) = false from decide_eq_false (by omega), Bool.false_and, Bool.and_false, Bool.and_false]
        rw [hfp, if_pos rfl]
        apply comes_eq.1
        refine fnA_wp (rs := [.cell 6 31, .tmp 7]) Tryd.func16 rfl rfl (Nat.le_of_ble_eq_true rfl) rfl ?_
        simp +decide only [go_sem, Nat.reduceAdd, Nat.reduceMul, Nat.reduceSub, Nat.reduceLT, Nat.reduceLeDiff, Nat.reduceEqDiff, Nat.add_assoc, Int.reduceAdd, Int.reduceSub, Int.reduceMul, Int.reduceLT, Int.reduceLE, Int.reduceEq, Int.reduceNeg, strOp_add, hA, hN, hC, k1', h5', hp5]
        try rfl
      rw [if_pos ⟨ht, rfl⟩] at hp5
      have hds : (sto n.data q5 (bytesV x6 2)).size = n.data.size := sto_size _ _ _ (by rw [bytesV_size]; exact ht)
      generalize sto n.data q5 (bytesV x6 2) = d1 at *
      rcases m2 with ⟨rfl, rfl, h4⟩ | ⟨rfl, h3, hm, h4⟩ | ⟨rfl, h3⟩
      · by_cases hv : v = 0 ∨ v = 1
        · have hfv := fits_bit.2 hv
          have hb := BitPut_eq d1 q2 (xorI v x4) (by omega) (by omega) (by omega) (xor_bit hv h4)
          have g1 : (0 ≤ v) = True := eq_true (by omega)
          have g2 : (v ≤ 1) = True := eq_true (by omega)
          by_cases hl : q2 / 8 < n.data.size
          · rw [if_pos (by rw [hds]; exact hl)] at hb
            rw [fitP_1, hfv, decide_eq_true (by omega), decide_eq_true (by omega)]
            rw [if_neg (by decide), if_pos rfl]
            apply comes_eq.1
            refine fnA_wp (rs := [.cell 6 31, .tmp 7]) Tryd.func16 rfl rfl (Nat.le_of_ble_eq_true rfl) rfl ?_
            simp +decide only [go_sem, Nat.reduceAdd, Nat.reduceMul, Nat.reduceSub, Nat.reduceLT, Nat.reduceLeDiff, Nat.reduceEqDiff, Nat.add_assoc, Int.reduceAdd, Int.reduceSub, Int.reduceMul, Int.reduceLT, Int.reduceLE, Int.reduceEq, Int.reduceNeg, strOp_add, hA, hN, hC, k1', h5', hp5, hb, g1, g2]
            try rfl
          · rw [if_neg (by rw [hds]; exact hl)] at hb
            rw [fitP_1, decide_eq_false (by omega), Bool.false_and, if_pos rfl]
            apply comes_eq.1
            refine fnA_wp (rs := [.cell 6 31, .tmp 7]) Tryd.func16 rfl rfl (Nat.le_of_ble_eq_true rfl) rfl ?_
            simp +decide only [go_sem, Nat.reduceAdd, Nat.reduceMul, Nat.reduceSub, Nat.reduceLT, Nat.reduceLeDiff, Nat.reduceEqDiff, Nat.add_assoc, Int.reduceAdd, Int.reduceSub, Int.reduceMul, Int.reduceLT, Int.reduceLE, Int.reduceEq, Int.reduceNeg, strOp_add, hA, hN, hC, k1', h5', hp5, hb, g1, g2]
            try rfl
        · have hfv : fitsB v 1 = false := by
            cases h : fitsB v 1 with
            | false => rfl
            | true => exact absurd (fits_bit.1 h) hv
          have hin : (decide (0 ≤ v) && decide (v ≤ 1)) = false := by
            rw [Bool.and_eq_false_iff, decide_eq_false_iff_not, decide_eq_false_iff_not]
            omega
          rw [fitP_1, hfv, Bool.and_false, Bool.and_false, if_pos rfl]
          apply comes_eq.1
          refine fnA_wp (rs := [.cell 6 31, .tmp 7]) Tryd.func16 rfl rfl (Nat.le_of_ble_eq_true rfl) rfl ?_
          simp +decide only [go_sem, Nat.reduceAdd, Nat.reduceMul, Nat.reduceSub, Nat.reduceLT, Nat.reduceLeDiff, Nat.reduceEqDiff, Nat.add_assoc, Int.reduceAdd, Int.reduceSub, Int.reduceMul, Int.reduceLT, Int.reduceLE, Int.reduceEq, Int.reduceNeg, strOp_add, hA, hN, hC, k1', h5', hp5, hin]
          try rfl
      · obtain ⟨s, rfl⟩ : ∃ s : Nat, x3 = s := ⟨x3.toNat, by rcases isSize_iff.1 h3 with rfl | rfl | rfl | rfl <;> rfl⟩
        have s8 : 1 ≤ s := by rcases isSize_iff.1 h3 with h | h | h | h <;> omega
        have hfe := l1Fits_eq v s h3
        cases hf : fitsB v (8 * (s : Int)) with
        | true =>
          rw [hf] at hfe
          have hb := Put_eq d1 q2 s (xorI v x4) (by omega) (by omega) (by omega) h3 hm
          rw [xor_fits8 h3 hf h4] at hb
          by_cases hl : q2 + s ≤ n.data.size
          · rw [if_pos ⟨by rw [hds]; exact hl, rfl⟩] at hb
            rw [fitP_2 h3, hf, decide_eq_true (by omega), decide_eq_true (by omega)]
            rw [if_neg (by decide), if_neg (by decide), Int.toNat_natCast]
            apply comes_eq.1
            refine fnA_wp (rs := [.cell 6 31, .tmp 7]) Tryd.func16 rfl rfl (Nat.le_of_ble_eq_true rfl) rfl ?_
            simp +decide only [go_sem, Nat.reduceAdd, Nat.reduceMul, Nat.reduceSub, Nat.reduceLT, Nat.reduceLeDiff, Nat.reduceEqDiff, Nat.add_assoc, Int.reduceAdd, Int.reduceSub, Int.reduceMul, Int.reduceLT, Int.reduceLE, Int.reduceEq, Int.reduceNeg, strOp_add, hA, hN, hC, k1', h5', hp5, hfe, hb]
            try rfl
          · rw [if_neg (fun h => hl (by rw [← hds]; exact h.1))] at hb
            rw [fitP_2 h3, decide_eq_false (by omega), Bool.false_and, if_pos rfl]
            apply comes_eq.1
            refine fnA_wp (rs := [.cell 6 31, .tmp 7]) Tryd.func16 rfl rfl (Nat.le_of_ble_eq_true rfl) rfl ?_
            simp +decide only [go_sem, Nat.reduceAdd, Nat.reduceMul, Nat.reduceSub, Nat.reduceLT, Nat.reduceLeDiff, Nat.reduceEqDiff, Nat.add_assoc, Int.reduceAdd, Int.reduceSub, Int.reduceMul, Int.reduceLT, Int.reduceLE, Int.reduceEq, Int.reduceNeg, strOp_add, hA, hN, hC, k1', h5', hp5, hfe, hb]
            try rfl
        | false =>
          rw [hf] at hfe
          rw [fitP_2 h3, hf, Bool.and_false, Bool.and_false, if_pos rfl]
          apply comes_eq.1
          refine fnA_wp (rs := [.cell 6 31, .tmp 7]) Tryd.func16 rfl rfl (Nat.le_of_ble_eq_true rfl) rfl ?_
          simp +decide only [go_sem, Nat.reduceAdd, Nat.reduceMul, Nat.reduceSub, Nat.reduceLT, Nat.reduceLeDiff, Nat.reduceEqDiff, Nat.add_assoc, Int.reduceAdd, Int.reduceSub, Int.reduceMul, Int.reduceLT, Int.reduceLE, Int.reduceEq, Int.reduceNeg, strOp_add, hA, hN, hC, k1', h5', hp5, hfe]
          try rfl
      · rw [fitP_3, if_pos rfl]
        apply comes_eq.1
        refine fnA_wp (rs := [.cell 6 31, .tmp 7]) Tryd.func16 rfl rfl (Nat.le_of_ble_eq_true rfl) rfl ?_
        simp +decide only [go_sem, Nat.reduceAdd, Nat.reduceMul, Nat.reduceSub, Nat.reduceLT, Nat.reduceLeDiff, Nat.reduceEqDiff, Nat.add_assoc, Int.reduceAdd, Int.reduceSub, Int.reduceMul, Int.reduceLT, Int.reduceLE, Int.reduceEq, Int.reduceNeg, strOp_add, hA, hN, hC, k1', h5', hp5, true_or]
        try rfl
end Go.Ev.Tryd
