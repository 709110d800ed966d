/- Part of the proof of a statement about the given program: Y15I. No condition of its own. -/
import Derived.Test.YthlmbapkgblnkaaDoorY14I
namespace Go.Ev.Tryd
open Go.Proofs
set_option maxRecDepth 10000
set_option linter.unusedSimpArgs false
set_option linter.unusedVariables false
attribute [local congr] comes_congr bB_congr gK_congr gdK_congr

/-- Is a node ok? -/
def nodeOk (n : Nod) : Bool := match meas n 8 with
  | none => false
  | some b => decide (b.1 ≤ 8) && decide ((b.2 : Int) < 200)
theorem NodeOk_eq (n : Nod) (hd : n.Sane) (hz : szN n ≤ 1048576) : fnA CC PR 37 [n.av] = some (.bool (nodeOk n)) := by
  have hm := measured_eq n hd hz 8 (by omega) (by omega)
  unfold nodeOk
  rw [nav_eta] at hm ⊢
  cases h : meas n 8 with
  | none =>
    rw [h] at hm
    simp only [measA] at hm
    apply comes_eq.1
    refine fnA_wp (rs := [.tmp 2]) Tryd.func37 rfl rfl (Nat.le_of_ble_eq_true rfl) rfl ?_
    simp +decide only [go_sem, Nat.reduceAdd, Nat.reduceMul, Nat.reduceSub, Nat.reduceLT, Nat.reduceLeDiff, Nat.reduceEqDiff, Nat.add_assoc, Int.reduceAdd, Int.reduceSub, Int.reduceMul, Int.reduceLT, Int.reduceLE, Int.reduceEq, Int.reduceNeg, strOp_add, hm]
  | some b =>
    rw [h] at hm
    simp only [measA] at hm
    apply comes_eq.1
    refine fnA_wp (rs := [.tmp 2]) Tryd.func37 rfl rfl (Nat.le_of_ble_eq_true rfl) rfl ?_
    (simp +decide only [go_sem, Nat.reduceAdd, Nat.reduceMul, Nat.reduceSub, Nat.reduceLT, Nat.reduceLeDiff, Nat.reduceEqDiff, Nat.add_assoc, Int.reduceAdd, Int.reduceSub, Int.reduceMul, Int.reduceLT, Int.reduceLE, Int.reduceEq, Int.reduceNeg, strOp_add, hm]); repeat' (refine bB_split (fun hB => ?_) (fun hB => ?_) <;> (try simp only [Bool.and_eq_true, Bool.or_eq_false_iff, decide_eq_true_eq, decide_eq_false_iff_not] at hB) <;> simp +decide only [go_sem, Nat.reduceAdd, Nat.reduceMul, Nat.reduceSub, Nat.reduceLT, Nat.reduceLeDiff, Nat.reduceEqDiff, Nat.add_assoc, Int.reduceAdd, Int.reduceSub, Int.reduceMul, Int.reduceLT, Int.reduceLE, Int.reduceEq, Int.reduceNeg, strOp_add, hB, hm])
    all_goals simp_all
theorem isRecord_eq (n : Nod) (hd : n.Sane) (hz : szN n ≤ 1048576) : fnA CC PR 27 [n.av] = some (.bool (nodeOk n && (decide (n.kind = 1) || decide (n.kind = 0)))) := by
  have hm := NodeOk_eq n hd hz
  rw [nav_eta] at hm ⊢
  generalize nodeOk n = ok at *
  apply comes_eq.1
  refine fnA_wp (rs := [.tmp 2]) Tryd.func27 rfl rfl (Nat.le_of_ble_eq_true rfl) rfl ?_
  (simp +decide only [go_sem, Nat.reduceAdd, Nat.reduceMul, Nat.reduceSub, Nat.reduceLT, Nat.reduceLeDiff, Nat.reduceEqDiff, Nat.add_assoc, Int.reduceAdd, Int.reduceSub, Int.reduceMul, Int.reduceLT, Int.reduceLE, Int.reduceEq, Int.reduceNeg, strOp_add, hm]); repeat' (refine bB_split (fun hB => ?_) (fun hB => ?_) <;> (try simp only [Bool.and_eq_true, Bool.or_eq_false_iff, decide_eq_true_eq, decide_eq_false_iff_not] at hB) <;> simp +decide only [go_sem, Nat.reduceAdd, Nat.reduceMul, Nat.reduceSub, Nat.reduceLT, Nat.reduceLeDiff, Nat.reduceEqDiff, Nat.add_assoc, Int.reduceAdd, Int.reduceSub, Int.reduceMul, Int.reduceLT, Int.reduceLE, Int.reduceEq, Int.reduceNeg, strOp_add, hB, hm])
  all_goals simp_all
/-! ### the reference's -/
def structB (n : Nod) : Bool := decide (n.kind = 1) && (decide (n.data.size % 8 = 0) && (decide (n.size = 0) && (decide (n.count = 0) && decide (n.items.length = 0))))
theorem l4Struct_eq (n : Nod) (hd : n.Sane) : fnA CC PR 61 [n.av] = some (.bool (structB n)) := by
  obtain ⟨h1, h3⟩ : n.data.size ≤ 1048576 ∧ n.items.length ≤ 1048576 := by
    cases hd
    exact ⟨by assumption, by assumption⟩
  have m1 : ((n.data.size : Int).tmod 8) = ((n.data.size % 8 : Nat) : Int) := rfl
  have m2 : (((n.data.size % 8 : Nat) : Int) = 0) = (n.data.size % 8 = 0) := propext ⟨fun h => by omega, fun h => by omega⟩
  have m3 : (((n.items.length : Nat) : Int) = 0) = (n.items.length = 0) := propext ⟨fun h => by omega, fun h => by omega⟩
  unfold structB
  rw [nav_eta]
  apply comes_eq.1
  refine fnA_wp (rs := [.tmp 2]) Tryd.func61 rfl rfl (Nat.le_of_ble_eq_true rfl) rfl ?_
  (simp +decide only [go_sem, Nat.reduceAdd, Nat.reduceMul, Nat.reduceSub, Nat.reduceLT, Nat.reduceLeDiff, Nat.reduceEqDiff, Nat.add_assoc, Int.reduceAdd, Int.reduceSub, Int.reduceMul, Int.reduceLT, Int.reduceLE, Int.reduceEq, Int.reduceNeg, strOp_add, m1, m2, m3, List.length_map]); repeat' (refine bB_split (fun hB => ?_) (fun hB => ?_) <;> (try simp only [Bool.and_eq_true, Bool.or_eq_false_iff, decide_eq_true_eq, decide_eq_false_iff_not] at hB) <;> simp +decide only [go_sem, Nat.reduceAdd, Nat.reduceMul, Nat.reduceSub, Nat.reduceLT, Nat.reduceLeDiff, Nat.reduceEqDiff, Nat.add_assoc, Int.reduceAdd, Int.reduceSub, Int.reduceMul, Int.reduceLT, Int.reduceLE, Int.reduceEq, Int.reduceNeg, strOp_add, hB, m1, m2, m3, List.length_map])
  all_goals simp_all
/-- Bytes of a plain list, as the reference asks. -/
def plainB (n : Nod) : Bool := decide (n.data.size = (bitsN n.size * n.count.toNat + 7) / 8) && spareB n.data (bitsN n.size * n.count.toNat)
set_option maxHeartbeats 2000000 in
theorem l4Plain_eq (n : Nod) (hd : n.Sane) (hs : 0 ≤ n.size ∧ n.size ≤ 5) (hc : 0 ≤ n.count ∧ n.count ≤ 12800) : fnA CC PR 67 [n.av] = some (.bool (plainB n)) := by
  obtain ⟨h1, h3⟩ : n.data.size ≤ 1048576 ∧ n.items.length ≤ 1048576 := by
    cases hd
    exact ⟨by assumption, by assumption⟩
  have hby := l4Bytes_eq n.size n.count hs hc
  obtain ⟨c, hcn⟩ : ∃ c : Nat, n.count = (c : Int) := ⟨n.count.toNat, by omega⟩
  have hc2 : c ≤ 12800 := by omega
  unfold plainB
  rw [nav_eta]
  rw [hcn] at hby ⊢
  rw [Int.toNat_natCast] at hby ⊢
  have hE : (((n.data.size : Nat) : Int) = (((bitsN n.size * c + 7) / 8 : Nat) : Int)) = (n.data.size = (bitsN n.size * c + 7) / 8) := propext ⟨fun h => by omega, fun h => by omega⟩
  by_cases hEq : n.data.size = (bitsN n.size * c + 7) / 8
  · have hE' : (((n.data.size : Nat) : Int) = (((bitsN n.size * c + 7) / 8 : Nat) : Int)) = True := by rw [hE]; exact eq_true hEq
    have m1 : ((c : Int).tmod 8) = ((c % 8 : Nat) : Int) := rfl
    rw [show (decide (n.data.size = (bitsN n.size * c + 7) / 8)) = true from decide_eq_true hEq, Bool.true_and]
    have hsz : n.size = 1 ∨ (¬ n.size = 1 ∧ bitsN n.size * c % 8 = 0) := by
      have : n.size = 0 ∨ n.size = 1 ∨ n.size = 2 ∨ n.size = 3 ∨ n.size = 4 ∨ n.size = 5 := by omega
      rcases this with h | h | h | h | h | h
      · exact .inr ⟨by omega, by rw [h]; show 0 * c % 8 = 0; omega⟩
      · exact .inl h
      · exact .inr ⟨by omega, by rw [h]; show 8 * c % 8 = 0; omega⟩
      · exact .inr ⟨by omega, by rw [h]; show 16 * c % 8 = 0; omega⟩
      · exact .inr ⟨by omega, by rw [h]; show 32 * c % 8 = 0; omega⟩
      · exact .inr ⟨by omega, by rw [h]; show 64 * c % 8 = 0; omega⟩
    rcases hsz with hs1 | ⟨hs1, hmod⟩
    · have hb1 : bitsN n.size * c = c := by rw [hs1]; show 1 * c = c; omega
      rw [hb1] at hEq hE' hby ⊢
      unfold spareB
      by_cases h0 : c % 8 = 0
      · have m3 : (((c % 8 : Nat) : Int) = 0) = True := eq_true (by omega)
        generalize (c + 7) / 8 = db at *
        rw [decide_eq_true h0, Bool.true_or]
        rw [hs1] at hby ⊢
        apply comes_eq.1
        refine fnA_wp (rs := [.tmp 2]) Tryd.func67 rfl rfl (Nat.le_of_ble_eq_true rfl) rfl ?_
        simp +decide only [go_sem, Nat.reduceAdd, Nat.reduceMul, Nat.reduceSub, Nat.reduceLT, Nat.reduceLeDiff, Nat.reduceEqDiff, Nat.add_assoc, Int.reduceAdd, Int.reduceSub, Int.reduceMul, Int.reduceLT, Int.reduceLE, Int.reduceEq, Int.reduceNeg, strOp_add]
        refine (d_plan (ord := [0, 1, 2, 3, 4, 5, 6, 7, 8]) (prs := [(1, 4), (1, 6), (4, 6), (1, 7)]) (by kernel_rfl)).2 ?_
        simp +decide only [go_sem, Nat.reduceAdd, Nat.reduceMul, Nat.reduceSub, Nat.reduceLT, Nat.reduceLeDiff, Nat.reduceEqDiff, Nat.add_assoc, Int.reduceAdd, Int.reduceSub, Int.reduceMul, Int.reduceLT, Int.reduceLE, Int.reduceEq, Int.reduceNeg, strOp_add, hby, hE', m1, m3]
      · have m3 : (((c % 8 : Nat) : Int) = 0) = False := eq_false (by omega)
        have ht1 : 1 ≤ n.data.size := by omega
        have w1 : IntKind.wrap .i64 ((n.data.size : Int) - 1) = ((n.data.size - 1 : Nat) : Int) := by rw [wrap_id (by omega) (by omega)]; omega
        have l1 : n.data.size - 1 < n.data.size := by omega
        have m4 : (((c % 8 : Nat) : Int) < 0) = False := eq_false (by omega)
        have m5 : min (c % 8) 64 = c % 8 := Nat.min_eq_left (by omega)
        have m6 := fd (sget n.data (n.data.size - 1)).toNat (c % 8)
        have w2 : IntKind.wrap .i64 (((sget n.data (n.data.size - 1)).toNat : Nat) : Int) = (((sget n.data (n.data.size - 1)).toNat : Nat) : Int) := wrap_id (by omega) (by have := (sget n.data (n.data.size - 1)).toNat_lt; omega)
        have m7 : decide ((((sget n.data (n.data.size - 1)).toNat / 2 ^ (c % 8) : Nat) : Int) = 0) = (decide (c % 8 = 0) || decide ((sget n.data (n.data.size - 1)).toNat / 2 ^ (c % 8) = 0)) := by
          rw [decide_eq_false h0, Bool.false_or]
          congr 1
          exact propext ⟨fun e => by omega, fun e => by omega⟩
        rw [← m7]
        have hl1 := s_at l1
        generalize (c + 7) / 8 = db at *
        rw [hs1] at hby ⊢
        apply comes_eq.1
        refine fnA_wp (rs := [.tmp 2]) Tryd.func67 rfl rfl (Nat.le_of_ble_eq_true rfl) rfl ?_
        simp +decide only [go_sem, Nat.reduceAdd, Nat.reduceMul, Nat.reduceSub, Nat.reduceLT, Nat.reduceLeDiff, Nat.reduceEqDiff, Nat.add_assoc, Int.reduceAdd, Int.reduceSub, Int.reduceMul, Int.reduceLT, Int.reduceLE, Int.reduceEq, Int.reduceNeg, strOp_add]
        refine (d_plan (ord := [0, 1, 2, 3, 4, 5, 6, 7, 8]) (prs := [(1, 4), (1, 6), (4, 6), (1, 7)]) (by kernel_rfl)).2 ?_
        simp +decide only [go_sem, Nat.reduceAdd, Nat.reduceMul, Nat.reduceSub, Nat.reduceLT, Nat.reduceLeDiff, Nat.reduceEqDiff, Nat.add_assoc, Int.reduceAdd, Int.reduceSub, Int.reduceMul, Int.reduceLT, Int.reduceLE, Int.reduceEq, Int.reduceNeg, strOp_add, hby, hE', m1, m3, w1, l1, hl1, m4, m5, m6, w2]
    · unfold spareB
      rw [decide_eq_true hmod, Bool.true_or]
      generalize (bitsN n.size * c + 7) / 8 = db at *
      have h1f : (n.size = 1) = False := eq_false hs1
      apply comes_eq.1
      refine fnA_wp (rs := [.tmp 2]) Tryd.func67 rfl rfl (Nat.le_of_ble_eq_true rfl) rfl ?_
      simp +decide only [go_sem, Nat.reduceAdd, Nat.reduceMul, Nat.reduceSub, Nat.reduceLT, Nat.reduceLeDiff, Nat.reduceEqDiff, Nat.add_assoc, Int.reduceAdd, Int.reduceSub, Int.reduceMul, Int.reduceLT, Int.reduceLE, Int.reduceEq, Int.reduceNeg, strOp_add]
      refine (d_plan (ord := [0, 1, 2, 3, 4, 5, 6, 7, 8]) (prs := [(1, 4), (1, 6), (4, 6), (1, 7)]) (by kernel_rfl)).2 ?_
      simp +decide only [go_sem, Nat.reduceAdd, Nat.reduceMul, Nat.reduceSub, Nat.reduceLT, Nat.reduceLeDiff, Nat.reduceEqDiff, Nat.add_assoc, Int.reduceAdd, Int.reduceSub, Int.reduceMul, Int.reduceLT, Int.reduceLE, Int.reduceEq, Int.reduceNeg, strOp_add, hby, hE', m1, h1f]
  · have hE' : (((n.data.size : Nat) : Int) = (((bitsN n.size * c + 7) / 8 : Nat) : Int)) = False := by rw [hE]; exact eq_false hEq
    rw [show (decide (n.data.size = (bitsN n.size * c + 7) / 8)) = false from decide_eq_false hEq, Bool.false_and]
    generalize (bitsN n.size * c + 7) / 8 = db at *
    apply comes_eq.1
    refine fnA_wp (rs := [.tmp 2]) Tryd.func67 rfl rfl (Nat.le_of_ble_eq_true rfl) rfl ?_
    simp +decide only [go_sem, Nat.reduceAdd, Nat.reduceMul, Nat.reduceSub, Nat.reduceLT, Nat.reduceLeDiff, Nat.reduceEqDiff, Nat.add_assoc, Int.reduceAdd, Int.reduceSub, Int.reduceMul, Int.reduceLT, Int.reduceLE, Int.reduceEq, Int.reduceNeg, strOp_add]
    refine (d_plan (ord := [0, 1, 2, 3, 4, 5, 6, 7, 8]) (prs := [(1, 4), (1, 6), (4, 6), (1, 7)]) (by kernel_rfl)).2 ?_
    simp +decide only [go_sem, Nat.reduceAdd, Nat.reduceMul, Nat.reduceSub, Nat.reduceLT, Nat.reduceLeDiff, Nat.reduceEqDiff, Nat.add_assoc, Int.reduceAdd, Int.reduceSub, Int.reduceMul, Int.reduceLT, Int.reduceLE, Int.reduceEq, Int.reduceNeg, strOp_add, hby, hE']
end Go.Ev.Tryd
