/- Part of the proof of a statement about the given program: Y36I. No condition of its own. -/
import Derived.Test.YthlmbapkgblnkaaDoorY35I
import Derived.Test.YthlmbapkgblnkaaDoorY27I
namespace Go.Ev.Tryd
open Go.Proofs
set_option maxRecDepth 10000
set_option linter.unusedSimpArgs false
set_option linter.unusedVariables false
attribute [local congr] comes_congr bB_congr gK_congr gdK_congr

theorem ONod.setD {M : Mem} {n : Nod} {k s c : Int} {d : ByteArray} {pv iv : AV} {B : List Nat} (h : ONod M n [.int .i64 k, .str d, pv, .int .i64 s, .int .i64 c, iv] B) (e : ByteArray) : ONod M (n.setD e) [.int .i64 k, .str e, pv, .int .i64 s, .int .i64 c, iv] B := by
  obtain ⟨k', d', p, s', c', i⟩ := n
  obtain ⟨pv', iv', Bp, Bi, he, rfl, h1, h2⟩ := oNod_iff.1 h
  simp only [List.cons.injEq, and_true] at he
  obtain ⟨he1, he2, rfl, he3, he4, rfl⟩ := he
  cases he1; cases he3; cases he4
  exact oNod_iff.2 ⟨_, _, Bp, Bi, rfl, rfl, h1, h2⟩
set_option maxHeartbeats 8000000 in
theorem AccessPutM_1 (x0 : ByteArray) (x1 x2 x3 x4 x5 x6 v : Int) (n : Nod) (hd : n.Sane) (hz : szN n ≤ 1048576) (hdep : ndep n ≤ 2000000) (pv iv : AV) (B : List Nat) (m : Mem) (hO : ONod m n [.int .i64 n.kind, .str n.data, pv, .int .i64 n.size, .int .i64 n.count, iv] B) (hB : ∀ b ∈ B, b < m.nid) (Q : AV × Mem → Prop) (hacc : accOk x0 x1 x2 x3 x4 x5 x6 = true) (hok : nodeOk n = true) (k1 : n.kind = 1) (hx1 : x1 = 1)
    (hQ : ∀ k d pv s c iv m' B', ONod m' (putR x0 x1 x2 x3 x4 x5 x6 n v).2 [.int .i64 k, .str d, pv, .int .i64 s, .int .i64 c, iv] B' → Own m.nid m'.nid B' → m.nid ≤ m'.nid → (∀ j, j < m.nid → m'.sto j = m.sto j) → pv.one = true → iv.one = true → Q (.tup [.agg [.int .i64 k, .str d, pv, .int .i64 s, .int .i64 c, iv], .bool (putR x0 x1 x2 x3 x4 x5 x6 n v).1], m')) :
    Comes (fnI CC PR 17 [accA x0 x1 x2 x3 x4 x5 x6, .agg [.int .i64 n.kind, .str n.data, pv, .int .i64 n.size, .int .i64 n.count, iv], .int .i64 v] m) Q := by
  obtain ⟨o1, o2⟩ := hO.ones
  have hA := accOk_eq x0 x1 x2 x3 x4 x5 x6
  have hN := NodeOk_eq n hd hz
  rw [nav_eta] at hN
  have hO0 := hO
  obtain ⟨Bp, Bi, hp, hi, hBe, -, -, -, -⟩ := hO.parts
  have l1 : pv.loud = false := by rcases hp with ⟨_, rfl, _⟩ | ⟨_, _, _, _, _, _, rfl, _⟩ <;> rfl
  have l2 : iv.loud = false := by rcases hi with ⟨_, rfl, _⟩ | ⟨_, _, _, _, _, _, rfl, _⟩ <;> rfl
  simp only [AV.one] at o1 o2
  simp only [AV.loud] at l1 l2
  have key : ∀ m' : Mem, (∀ j, j < m.nid → m'.sto j = m.sto j) → snapD m' 2097151 pv = some (.slice 6 (n.ptrs.map Nod.av)) ∧ snapD m' 2097151 iv = some (.slice 6 (n.items.map Nod.av)) := fun m' hm =>
    ⟨snap_np (hO.keep _ fun b hb => hm b (hB b hb)) hdep, snap_ni (hO.keep _ fun b hb => hm b (hB b hb)) hdep⟩
  have fr3 : ∀ (x y z : Blk) (j : Nat), j < m.nid → upd (upd (upd m.sto m.nid x) (m.nid + 1) y) (m.nid + 2) z j = m.sto j := fun x y z j hj => by
    simp (disch := omega) only [upd_hit, upd_miss]
  unfold putR at hQ
  rw [hacc] at hA hQ
  rw [if_neg (by decide)] at hQ
  obtain ⟨c1, c2, c3, c4, c5⟩ := accOk_says hacc
  obtain ⟨e1, e2⟩ := accOk_more hacc
  have hSp := span_eq x0 x1 x2 x3 x4 x5 x6 c1 c2
  rw [hok] at hN hQ
  rw [if_neg (by decide)] at hQ
  obtain ⟨-, b2, b3⟩ := nodeOk_says hok
  rw [if_neg (by simp [k1])] at hQ
  have k1' : (n.kind = 1) = True := eq_true k1
  obtain ⟨z1, z2⟩ := b3 (by omega)
  obtain ⟨q2, rfl⟩ : ∃ q : Nat, x2 = q := ⟨x2.toNat, by omega⟩
  have hq2 : q2 ≤ 12799 := by omega
  have hCW := copied_wp n hd hdep
  have w5 : IntKind.wrap .i64 (x5 + 2) = x5 + 2 := wrap_id (by omega) (by omega)
  have hs0 : ∀ x y z : Blk, upd (upd (upd m.sto m.nid x) (m.nid + 1) y) (m.nid + 2) z m.nid = x := fun x y z => by
    simp (disch := omega) only [upd_hit, upd_miss]
  have e9 : x3 = 0 ∧ (x4 = 0 ∨ x4 = 1) := by
    rcases e2 with ⟨-, h⟩ | ⟨h, -⟩ | ⟨h, -⟩
    · exact h
    · omega
    · omega
  subst hx1
  obtain ⟨rfl, h4⟩ := e9
  have hfb := bits_eq v 1 (.inl rfl)
  have hsp : spanA 1 (q2 : Int) 0 = (((q2 / 8 : Nat) : Int), 1) := rfl
  rw [hsp] at hSp
  have w6 : IntKind.wrap .i64 (((q2 / 8 : Nat) : Int) + 1) = ((q2 / 8 + 1 : Nat) : Int) := by rw [wrap_id (by omega) (by omega)]; omega
  by_cases hl : q2 / 8 + 1 ≤ n.data.size
  case neg =>
    have g1 : (((n.data.size : Nat) : Int) < ((q2 / 8 + 1 : Nat) : Int)) = True := eq_true (by omega)
    rw [fitP_1, decide_eq_false (by omega), Bool.false_and, if_pos rfl] at hQ
    generalize q2 / 8 + 1 = q9 at *
    generalize q2 / 8 = q8 at *
    refine fnI_wp (rs := [.cell 6 31, .tmp 7]) Tryd.func17 rfl rfl (Nat.le_of_ble_eq_true rfl) rfl rfl ?_
    simp +decide (disch := first | decide | omega) only [go_sem, Nat.reduceAdd, Nat.reduceMul, Nat.reduceSub, Nat.reduceLT, Nat.reduceLeDiff, Nat.reduceEqDiff, Nat.add_assoc, Int.reduceAdd, Int.reduceSub, Int.reduceMul, Int.reduceLT, Int.reduceLE, Int.reduceEq, Int.reduceNeg, strOp_add, hA, o1, o2, l1, l2, true_or]
    rw [(key _ (fun j hj => fr3 _ _ _ j hj)).1, (key _ (fun j hj => fr3 _ _ _ j hj)).2]
    simp (maxSteps := 2000000) +decide (disch := first | decide | omega) only [go_sem, Nat.reduceAdd, Nat.reduceMul, Nat.reduceSub, Nat.reduceLT, Nat.reduceLeDiff, Nat.reduceEqDiff, Nat.add_assoc, Int.reduceAdd, Int.reduceSub, Int.reduceMul, Int.reduceLT, Int.reduceLE, Int.reduceEq, Int.reduceNeg, strOp_add, hN, k1', hSp, w6, g1, o1, o2, true_or]
    refine hCW _ B _ (hO0.keep _ fun b hb => fr3 _ _ _ b (hB b hb)) (fun b hb => by show b < m.nid + 3; have := hB b hb; omega) _ fun yk yd yp ys yc yi m1 B3 f1 f2 f3 f4 f5 f6 => ?_
    have f3' : m.nid + 3 ≤ m1.nid := f3
    have f4' : ∀ j, j < m.nid → m1.sto j = m.sto j := fun j hj => (f4 j (by show j < m.nid + 3; omega)).trans (fr3 _ _ _ j hj)
    have s2 := (f4 (m.nid + 2) (by show m.nid + 2 < m.nid + 3; omega)).trans (upd_hit _ _ _)
    have u5 := f5
    have u6 := f6
    simp only [AV.one] at f5 f6
    have fB : ∀ b ∈ B3, m.nid + 3 ≤ b ∧ b < m1.nid := f2.2
    have r5 := AV.cells_one u5
    have r6 := AV.cells_one u6
    simp only [AV.cells] at r5 r6
    simp (maxSteps := 2000000) +decide (disch := first | decide | omega) only [go_sem, Nat.reduceAdd, Nat.reduceMul, Nat.reduceSub, Nat.reduceLT, Nat.reduceLeDiff, Nat.reduceEqDiff, Nat.add_assoc, Int.reduceAdd, Int.reduceSub, Int.reduceMul, Int.reduceLT, Int.reduceLE, Int.reduceEq, Int.reduceNeg, strOp_add, s2, f5, f6, r5, r6, true_or]
    refine hQ yk yd yp ys yc yi ⟨_, m1.nid⟩ B3 (f1.keep _ fun b hb => ?_) (f2.wide (Nat.le_add_right _ _) (Nat.le_refl _)) (by show m.nid ≤ m1.nid; omega) (fun j hj => ?_) u5 u6
    · have := fB b hb
      show upd _ _ _ _ = _
      simp (disch := omega) only [upd_hit, upd_miss]
    · show upd _ _ _ _ = _
      simp (disch := omega) only [upd_hit, upd_miss]
      exact f4' j hj
  have g1 : (((n.data.size : Nat) : Int) < ((q2 / 8 + 1 : Nat) : Int)) = False := eq_false (by omega)
  by_cases ht : x5 + 2 ≤ (n.data.size : Int)
  case neg =>
    have g2 : (((n.data.size : Nat) : Int) < x5 + 2) = True := eq_true (by omega)
    rw [fitP_1, decide_eq_false ht, Bool.false_and, Bool.and_false, if_pos rfl] at hQ
    generalize q2 / 8 + 1 = q9 at *
    generalize q2 / 8 = q8 at *
    refine fnI_wp (rs := [.cell 6 31, .tmp 7]) Tryd.func17 rfl rfl (Nat.le_of_ble_eq_true rfl) rfl rfl ?_
    simp +decide (disch := first | decide | omega) only [go_sem, Nat.reduceAdd, Nat.reduceMul, Nat.reduceSub, Nat.reduceLT, Nat.reduceLeDiff, Nat.reduceEqDiff, Nat.add_assoc, Int.reduceAdd, Int.reduceSub, Int.reduceMul, Int.reduceLT, Int.reduceLE, Int.reduceEq, Int.reduceNeg, strOp_add, hA, o1, o2, l1, l2, true_or]
    rw [(key _ (fun j hj => fr3 _ _ _ j hj)).1, (key _ (fun j hj => fr3 _ _ _ j hj)).2]
    simp (maxSteps := 2000000) +decide (disch := first | decide | omega) only [go_sem, Nat.reduceAdd, Nat.reduceMul, Nat.reduceSub, Nat.reduceLT, Nat.reduceLeDiff, Nat.reduceEqDiff, Nat.add_assoc, Int.reduceAdd, Int.reduceSub, Int.reduceMul, Int.reduceLT, Int.reduceLE, Int.reduceEq, Int.reduceNeg, strOp_add, hN, k1', hSp, w6, w5, g1, g2, o1, o2, true_or]
    refine hCW _ B _ (hO0.keep _ fun b hb => fr3 _ _ _ b (hB b hb)) (fun b hb => by show b < m.nid + 3; have := hB b hb; omega) _ fun yk yd yp ys yc yi m1 B3 f1 f2 f3 f4 f5 f6 => ?_
    have f3' : m.nid + 3 ≤ m1.nid := f3
    have f4' : ∀ j, j < m.nid → m1.sto j = m.sto j := fun j hj => (f4 j (by show j < m.nid + 3; omega)).trans (fr3 _ _ _ j hj)
    have s2 := (f4 (m.nid + 2) (by show m.nid + 2 < m.nid + 3; omega)).trans (upd_hit _ _ _)
    have u5 := f5
    have u6 := f6
    simp only [AV.one] at f5 f6
    have fB : ∀ b ∈ B3, m.nid + 3 ≤ b ∧ b < m1.nid := f2.2
    have r5 := AV.cells_one u5
    have r6 := AV.cells_one u6
    simp only [AV.cells] at r5 r6
    simp (maxSteps := 2000000) +decide (disch := first | decide | omega) only [go_sem, Nat.reduceAdd, Nat.reduceMul, Nat.reduceSub, Nat.reduceLT, Nat.reduceLeDiff, Nat.reduceEqDiff, Nat.add_assoc, Int.reduceAdd, Int.reduceSub, Int.reduceMul, Int.reduceLT, Int.reduceLE, Int.reduceEq, Int.reduceNeg, strOp_add, s2, f5, f6, r5, r6, true_or]
    refine hQ yk yd yp ys yc yi ⟨_, m1.nid⟩ B3 (f1.keep _ fun b hb => ?_) (f2.wide (Nat.le_add_right _ _) (Nat.le_refl _)) (by show m.nid ≤ m1.nid; omega) (fun j hj => ?_) u5 u6
    · have := fB b hb
      show upd _ _ _ _ = _
      simp (disch := omega) only [upd_hit, upd_miss]
    · show upd _ _ _ _ = _
      simp (disch := omega) only [upd_hit, upd_miss]
      exact f4' j hj
  have g2 : (((n.data.size : Nat) : Int) < x5 + 2) = False := eq_false (by omega)
  cases hf : fitsB v 1 with
  | false =>
    rw [hf] at hfb
    rw [fitP_1, hf, Bool.and_false, Bool.and_false, if_pos rfl] at hQ
    generalize q2 / 8 + 1 = q9 at *
    generalize q2 / 8 = q8 at *
    refine fnI_wp (rs := [.cell 6 31, .tmp 7]) Tryd.func17 rfl rfl (Nat.le_of_ble_eq_true rfl) rfl rfl ?_
    simp +decide (disch := first | decide | omega) only [go_sem, Nat.reduceAdd, Nat.reduceMul, Nat.reduceSub, Nat.reduceLT, Nat.reduceLeDiff, Nat.reduceEqDiff, Nat.add_assoc, Int.reduceAdd, Int.reduceSub, Int.reduceMul, Int.reduceLT, Int.reduceLE, Int.reduceEq, Int.reduceNeg, strOp_add, hA, o1, o2, l1, l2, true_or]
    rw [(key _ (fun j hj => fr3 _ _ _ j hj)).1, (key _ (fun j hj => fr3 _ _ _ j hj)).2]
    simp (maxSteps := 2000000) +decide (disch := first | decide | omega) only [go_sem, Nat.reduceAdd, Nat.reduceMul, Nat.reduceSub, Nat.reduceLT, Nat.reduceLeDiff, Nat.reduceEqDiff, Nat.add_assoc, Int.reduceAdd, Int.reduceSub, Int.reduceMul, Int.reduceLT, Int.reduceLE, Int.reduceEq, Int.reduceNeg, strOp_add, hN, k1', hSp, w6, w5, g1, g2, hfb, o1, o2, true_or]
    refine hCW _ B _ (hO0.keep _ fun b hb => fr3 _ _ _ b (hB b hb)) (fun b hb => by show b < m.nid + 3; have := hB b hb; omega) _ fun yk yd yp ys yc yi m1 B3 f1 f2 f3 f4 f5 f6 => ?_
    have f3' : m.nid + 3 ≤ m1.nid := f3
    have f4' : ∀ j, j < m.nid → m1.sto j = m.sto j := fun j hj => (f4 j (by show j < m.nid + 3; omega)).trans (fr3 _ _ _ j hj)
    have s2 := (f4 (m.nid + 2) (by show m.nid + 2 < m.nid + 3; omega)).trans (upd_hit _ _ _)
    have u5 := f5
    have u6 := f6
    simp only [AV.one] at f5 f6
    have fB : ∀ b ∈ B3, m.nid + 3 ≤ b ∧ b < m1.nid := f2.2
    have r5 := AV.cells_one u5
    have r6 := AV.cells_one u6
    simp only [AV.cells] at r5 r6
    simp (maxSteps := 2000000) +decide (disch := first | decide | omega) only [go_sem, Nat.reduceAdd, Nat.reduceMul, Nat.reduceSub, Nat.reduceLT, Nat.reduceLeDiff, Nat.reduceEqDiff, Nat.add_assoc, Int.reduceAdd, Int.reduceSub, Int.reduceMul, Int.reduceLT, Int.reduceLE, Int.reduceEq, Int.reduceNeg, strOp_add, s2, f5, f6, r5, r6, true_or]
    refine hQ yk yd yp ys yc yi ⟨_, m1.nid⟩ B3 (f1.keep _ fun b hb => ?_) (f2.wide (Nat.le_add_right _ _) (Nat.le_refl _)) (by show m.nid ≤ m1.nid; omega) (fun j hj => ?_) u5 u6
    · have := fB b hb
      show upd _ _ _ _ = _
      simp (disch := omega) only [upd_hit, upd_miss]
    · show upd _ _ _ _ = _
      simp (disch := omega) only [upd_hit, upd_miss]
      exact f4' j hj
  | true =>
    rw [hf] at hfb
    rw [fitP_1, hf, decide_eq_true (by omega), decide_eq_true (by omega)] at hQ
    rw [if_neg (by decide)] at hQ
    by_cases h5 : x5 < 0
    · have h5' : (0 ≤ x5) = False := eq_false (by omega)
      have t0 : putT x5 x6 n.data = n.data := if_pos h5
      unfold putD at hQ
      rw [if_pos rfl, Int.toNat_natCast, t0] at hQ
      have hwb := withBit_eq n.data q2 (xorI v x4) (xor_bit (fits_bit.1 hf) h4) z1 (by omega)
      generalize stoB n.data q2 (xorI v x4) = e2 at *
      generalize q2 / 8 + 1 = q9 at *
      generalize q2 / 8 = q8 at *
      refine fnI_wp (rs := [.cell 6 31, .tmp 7]) Tryd.func17 rfl rfl (Nat.le_of_ble_eq_true rfl) rfl rfl ?_
      simp +decide (disch := first | decide | omega) only [go_sem, Nat.reduceAdd, Nat.reduceMul, Nat.reduceSub, Nat.reduceLT, Nat.reduceLeDiff, Nat.reduceEqDiff, Nat.add_assoc, Int.reduceAdd, Int.reduceSub, Int.reduceMul, Int.reduceLT, Int.reduceLE, Int.reduceEq, Int.reduceNeg, strOp_add, hA, o1, o2, l1, l2, true_or]
      rw [(key _ (fun j hj => fr3 _ _ _ j hj)).1, (key _ (fun j hj => fr3 _ _ _ j hj)).2]
      simp (maxSteps := 2000000) +decide (disch := first | decide | omega) only [go_sem, Nat.reduceAdd, Nat.reduceMul, Nat.reduceSub, Nat.reduceLT, Nat.reduceLeDiff, Nat.reduceEqDiff, Nat.add_assoc, Int.reduceAdd, Int.reduceSub, Int.reduceMul, Int.reduceLT, Int.reduceLE, Int.reduceEq, Int.reduceNeg, strOp_add, hN, k1', hSp, w6, w5, g1, g2, hfb, o1, o2, true_or]
      refine hCW _ B _ (hO0.keep _ fun b hb => fr3 _ _ _ b (hB b hb)) (fun b hb => by show b < m.nid + 3; have := hB b hb; omega) _ fun yk yd yp ys yc yi m1 B3 f1 f2 f3 f4 f5 f6 => ?_
      have f3' : m.nid + 3 ≤ m1.nid := f3
      have f4' : ∀ j, j < m.nid → m1.sto j = m.sto j := fun j hj => (f4 j (by show j < m.nid + 3; omega)).trans (fr3 _ _ _ j hj)
      have s2 := (f4 (m.nid + 2) (by show m.nid + 2 < m.nid + 3; omega)).trans (upd_hit _ _ _)
      have u5 := f5
      have u6 := f6
      simp only [AV.one] at f5 f6
      have fB : ∀ b ∈ B3, m.nid + 3 ≤ b ∧ b < m1.nid := f2.2
      have r5 := AV.cells_one u5
      have r6 := AV.cells_one u6
      simp only [AV.cells] at r5 r6
      obtain ⟨rfl, rfl, rfl, rfl⟩ := f1.std
      have s0 := (f4 m.nid (by show m.nid < m.nid + 3; omega)).trans (hs0 _ _ _)
      simp (maxSteps := 2000000) +decide (disch := first | decide | omega) only [go_sem, Nat.reduceAdd, Nat.reduceMul, Nat.reduceSub, Nat.reduceLT, Nat.reduceLeDiff, Nat.reduceEqDiff, Nat.add_assoc, Int.reduceAdd, Int.reduceSub, Int.reduceMul, Int.reduceLT, Int.reduceLE, Int.reduceEq, Int.reduceNeg, strOp_add, s0, s2, f5, f6, r5, r6, h5', true_or]
      simp (maxSteps := 2000000) +decide (disch := first | decide | omega) only [go_sem, Nat.reduceAdd, Nat.reduceMul, Nat.reduceSub, Nat.reduceLT, Nat.reduceLeDiff, Nat.reduceEqDiff, Nat.add_assoc, Int.reduceAdd, Int.reduceSub, Int.reduceMul, Int.reduceLT, Int.reduceLE, Int.reduceEq, Int.reduceNeg, strOp_add, s0, s2, hwb, f5, f6, r5, r6, true_or]
      refine hQ _ _ yp _ _ yi ⟨_, _⟩ B3 ((f1.setD _).keep _ fun b hb => ?_) (f2.wide (Nat.le_add_right _ _) (by first | exact Nat.le_add_right _ _ | exact Nat.le_refl _)) (by first | exact Nat.le_trans (by omega) (Nat.le_add_right m1.nid _) | omega) (fun j hj => ?_) u5 u6
      · have := fB b hb
        show upd _ _ _ _ = _
        simp (disch := omega) only [upd_hit, upd_miss]
      · show upd _ _ _ _ = _
        simp (disch := omega) only [upd_hit, upd_miss]
        exact f4' j hj
    · have h5' : (0 ≤ x5) = True := eq_true (by omega)
      obtain ⟨q5, rfl⟩ : ∃ q : Nat, x5 = q := ⟨x5.toNat, by omega⟩
      have t0 : putT (q5 : Int) x6 n.data = sto n.data q5 (bytesV x6 2) := by
        unfold putT
        rw [if_neg h5, Int.toNat_natCast]
      have hbo5 := bytesOf_eq x6 2 (by decide)
      rw [show ((2 : Nat) : Int) = 2 from rfl] at hbo5
      have hst5 := stored_eq n.data q5 (bytesV x6 2) (by rw [bytesV_size]; omega) z1
      have hds : (sto n.data q5 (bytesV x6 2)).size = n.data.size := sto_size _ _ _ (by rw [bytesV_size]; omega)
      unfold putD at hQ
      rw [if_pos rfl, Int.toNat_natCast, t0] at hQ
      generalize sto n.data q5 (bytesV x6 2) = d1 at *
      generalize bytesV x6 2 = e1 at *
      have hwb := withBit_eq d1 q2 (xorI v x4) (xor_bit (fits_bit.1 hf) h4) (by omega) (by omega)
      generalize stoB d1 q2 (xorI v x4) = e2 at *
      generalize q2 / 8 + 1 = q9 at *
      generalize q2 / 8 = q8 at *
      refine fnI_wp (rs := [.cell 6 31, .tmp 7]) Tryd.func17 rfl rfl (Nat.le_of_ble_eq_true rfl) rfl rfl ?_
      simp +decide (disch := first | decide | omega) only [go_sem, Nat.reduceAdd, Nat.reduceMul, Nat.reduceSub, Nat.reduceLT, Nat.reduceLeDiff, Nat.reduceEqDiff, Nat.add_assoc, Int.reduceAdd, Int.reduceSub, Int.reduceMul, Int.reduceLT, Int.reduceLE, Int.reduceEq, Int.reduceNeg, strOp_add, hA, o1, o2, l1, l2, true_or]
      rw [(key _ (fun j hj => fr3 _ _ _ j hj)).1, (key _ (fun j hj => fr3 _ _ _ j hj)).2]
      simp (maxSteps := 2000000) +decide (disch := first | decide | omega) only [go_sem, Nat.reduceAdd, Nat.reduceMul, Nat.reduceSub, Nat.reduceLT, Nat.reduceLeDiff, Nat.reduceEqDiff, Nat.add_assoc, Int.reduceAdd, Int.reduceSub, Int.reduceMul, Int.reduceLT, Int.reduceLE, Int.reduceEq, Int.reduceNeg, strOp_add, hN, k1', hSp, w6, w5, g1, g2, hfb, o1, o2, true_or]
      refine hCW _ B _ (hO0.keep _ fun b hb => fr3 _ _ _ b (hB b hb)) (fun b hb => by show b < m.nid + 3; have := hB b hb; omega) _ fun yk yd yp ys yc yi m1 B3 f1 f2 f3 f4 f5 f6 => ?_
      have f3' : m.nid + 3 ≤ m1.nid := f3
      have f4' : ∀ j, j < m.nid → m1.sto j = m.sto j := fun j hj => (f4 j (by show j < m.nid + 3; omega)).trans (fr3 _ _ _ j hj)
      have s2 := (f4 (m.nid + 2) (by show m.nid + 2 < m.nid + 3; omega)).trans (upd_hit _ _ _)
      have u5 := f5
      have u6 := f6
      simp only [AV.one] at f5 f6
      have fB : ∀ b ∈ B3, m.nid + 3 ≤ b ∧ b < m1.nid := f2.2
      have r5 := AV.cells_one u5
      have r6 := AV.cells_one u6
      simp only [AV.cells] at r5 r6
      obtain ⟨rfl, rfl, rfl, rfl⟩ := f1.std
      have s0 := (f4 m.nid (by show m.nid < m.nid + 3; omega)).trans (hs0 _ _ _)
      simp (maxSteps := 2000000) +decide (disch := first | decide | omega) only [go_sem, Nat.reduceAdd, Nat.reduceMul, Nat.reduceSub, Nat.reduceLT, Nat.reduceLeDiff, Nat.reduceEqDiff, Nat.add_assoc, Int.reduceAdd, Int.reduceSub, Int.reduceMul, Int.reduceLT, Int.reduceLE, Int.reduceEq, Int.reduceNeg, strOp_add, s0, s2, f5, f6, r5, r6, h5', true_or]
      refine (d_plan (ord := [0, 1, 2, 3, 4, 5, 6, 7, 8, 9]) (prs := [(1, 3), (1, 5), (3, 5), (1, 6), (3, 6)]) (by kernel_rfl)).2 ?_
      simp (maxSteps := 2000000) +decide (disch := first | decide | omega) only [go_sem, Nat.reduceAdd, Nat.reduceMul, Nat.reduceSub, Nat.reduceLT, Nat.reduceLeDiff, Nat.reduceEqDiff, Nat.add_assoc, Int.reduceAdd, Int.reduceSub, Int.reduceMul, Int.reduceLT, Int.reduceLE, Int.reduceEq, Int.reduceNeg, strOp_add, s0, s2, hbo5, hst5, f5, f6, r5, r6, true_or]
      simp (maxSteps := 2000000) +decide (disch := first | decide | omega) only [go_sem, Nat.reduceAdd, Nat.reduceMul, Nat.reduceSub, Nat.reduceLT, Nat.reduceLeDiff, Nat.reduceEqDiff, Nat.add_assoc, Int.reduceAdd, Int.reduceSub, Int.reduceMul, Int.reduceLT, Int.reduceLE, Int.reduceEq, Int.reduceNeg, strOp_add, s0, s2, hwb, f5, f6, r5, r6, true_or]
      refine hQ _ _ yp _ _ yi ⟨_, _⟩ B3 ((f1.setD _).keep _ fun b hb => ?_) (f2.wide (Nat.le_add_right _ _) (by first | exact Nat.le_add_right _ _ | exact Nat.le_refl _)) (by first | exact Nat.le_trans (by omega) (Nat.le_add_right m1.nid _) | omega) (fun j hj => ?_) u5 u6
      · have := fB b hb
        show upd _ _ _ _ = _
        simp (disch := omega) only [upd_hit, upd_miss]
      · show upd _ _ _ _ = _
        simp (disch := omega) only [upd_hit, upd_miss]
        exact f4' j hj
end Go.Ev.Tryd
