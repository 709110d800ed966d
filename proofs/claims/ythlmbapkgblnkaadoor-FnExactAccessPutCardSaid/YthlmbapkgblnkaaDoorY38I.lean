/- Part of the proof of a statement about the given program: Y38I. No condition of its own. -/
import Derived.Test.YthlmbapkgblnkaaDoorY37I
namespace Go.Ev.Tryd
open Go.Proofs
set_option maxRecDepth 10000
set_option linter.unusedSimpArgs false
set_option linter.unusedVariables false
attribute [local congr] comes_congr bB_congr gK_congr gdK_congr

set_option maxHeartbeats 8000000 in
theorem AccessPutM_3 (x0 : ByteArray) (x1 x2 x3 x4 x5 x6 v : Int) (n : Nod) (hd : n.Sane) (hz : szN n ≤ 1048576) (hdep : ndep n ≤ 2000000) (pv iv : AV) (B : List Nat) (m : Mem) (hO : ONod m n [.int .i64 n.kind, .str n.data, pv, .int .i64 n.size, .int .i64 n.count, iv] B) (hB : ∀ b ∈ B, b < m.nid) (Q : AV × Mem → Prop) (hacc : accOk x0 x1 x2 x3 x4 x5 x6 = true) (hok : nodeOk n = true) (k1 : n.kind = 1) (hx1 : x1 = 3)
    (hQ : ∀ k d pv s c iv m' B', ONod m' (putR x0 x1 x2 x3 x4 x5 x6 n v).2 [.int .i64 k, .str d, pv, .int .i64 s, .int .i64 c, iv] B' → Own m.nid m'.nid B' → m.nid ≤ m'.nid → (∀ j, j < m.nid → m'.sto j = m.sto j) → pv.one = true → iv.one = true → Q (.tup [.agg [.int .i64 k, .str d, pv, .int .i64 s, .int .i64 c, iv], .bool (putR x0 x1 x2 x3 x4 x5 x6 n v).1], m')) :
    Comes (fnI CC PR 17 [accA x0 x1 x2 x3 x4 x5 x6, .agg [.int .i64 n.kind, .str n.data, pv, .int .i64 n.size, .int .i64 n.count, iv], .int .i64 v] m) Q := by
  obtain ⟨o1, o2⟩ := hO.ones
  have hA := accOk_eq x0 x1 x2 x3 x4 x5 x6
  have hN := NodeOk_eq n hd hz
  rw [nav_eta] at hN
  have hO0 := hO
  obtain ⟨Bp, Bi, hp, hi, hBe, -, -, -, -⟩ := hO.parts
  have l1 : pv.loud = false := by rcases hp with ⟨_, rfl, _⟩ | ⟨_, _, _, _, _, _, rfl, _⟩ <;> rfl
  have l2 : iv.loud = false := by rcases hi with ⟨_, rfl, _⟩ | ⟨_, _, _, _, _, _, rfl, _⟩ <;> rfl
  simp only [AV.one] at o1 o2
  simp only [AV.loud] at l1 l2
  have key : ∀ m' : Mem, (∀ j, j < m.nid → m'.sto j = m.sto j) → snapD m' 2097151 pv = some (.slice 6 (n.ptrs.map Nod.av)) ∧ snapD m' 2097151 iv = some (.slice 6 (n.items.map Nod.av)) := fun m' hm =>
    ⟨snap_np (hO.keep _ fun b hb => hm b (hB b hb)) hdep, snap_ni (hO.keep _ fun b hb => hm b (hB b hb)) hdep⟩
  have fr3 : ∀ (x y z : Blk) (j : Nat), j < m.nid → upd (upd (upd m.sto m.nid x) (m.nid + 1) y) (m.nid + 2) z j = m.sto j := fun x y z j hj => by
    simp (disch := omega) only [upd_hit, upd_miss]
  unfold putR at hQ
  rw [hacc] at hA hQ
  rw [if_neg (by decide)] at hQ
  obtain ⟨c1, c2, c3, c4, c5⟩ := accOk_says hacc
  obtain ⟨e1, e2⟩ := accOk_more hacc
  have hSp := span_eq x0 x1 x2 x3 x4 x5 x6 c1 c2
  rw [hok] at hN hQ
  rw [if_neg (by decide)] at hQ
  obtain ⟨-, b2, b3⟩ := nodeOk_says hok
  rw [if_neg (by simp [k1])] at hQ
  have k1' : (n.kind = 1) = True := eq_true k1
  obtain ⟨z1, z2⟩ := b3 (by omega)
  obtain ⟨q2, rfl⟩ : ∃ q : Nat, x2 = q := ⟨x2.toNat, by omega⟩
  have hq2 : q2 ≤ 12799 := by omega
  have hCW := copied_wp n hd hdep
  have w5 : IntKind.wrap .i64 (x5 + 2) = x5 + 2 := wrap_id (by omega) (by omega)
  have hs0 : ∀ x y z : Blk, upd (upd (upd m.sto m.nid x) (m.nid + 1) y) (m.nid + 2) z m.nid = x := fun x y z => by
    simp (disch := omega) only [upd_hit, upd_miss]
  have e9 : x3 = 0 := by
    rcases e2 with ⟨h, -⟩ | ⟨h, -⟩ | ⟨-, h⟩
    · omega
    · omega
    · exact h
  subst hx1
  subst e9
  have hsp : spanA 3 (q2 : Int) 0 = (0, 0) := rfl
  rw [hsp] at hSp
  rw [fitP_3, if_pos rfl] at hQ
  refine fnI_wp (rs := [.cell 6 31, .tmp 7]) Tryd.func17 rfl rfl (Nat.le_of_ble_eq_true rfl) rfl rfl ?_
  simp +decide (disch := first | decide | omega) only [go_sem, Nat.reduceAdd, Nat.reduceMul, Nat.reduceSub, Nat.reduceLT, Nat.reduceLeDiff, Nat.reduceEqDiff, Nat.add_assoc, Int.reduceAdd, Int.reduceSub, Int.reduceMul, Int.reduceLT, Int.reduceLE, Int.reduceEq, Int.reduceNeg, strOp_add, hA, o1, o2, l1, l2, true_or]
  rw [(key _ (fun j hj => fr3 _ _ _ j hj)).1, (key _ (fun j hj => fr3 _ _ _ j hj)).2]
  simp (maxSteps := 2000000) +decide (disch := first | decide | omega) only [go_sem, Nat.reduceAdd, Nat.reduceMul, Nat.reduceSub, Nat.reduceLT, Nat.reduceLeDiff, Nat.reduceEqDiff, Nat.add_assoc, Int.reduceAdd, Int.reduceSub, Int.reduceMul, Int.reduceLT, Int.reduceLE, Int.reduceEq, Int.reduceNeg, strOp_add, hN, k1', hSp, o1, o2, true_or]
  refine hCW _ B _ (hO0.keep _ fun b hb => fr3 _ _ _ b (hB b hb)) (fun b hb => by show b < m.nid + 3; have := hB b hb; omega) _ fun yk yd yp ys yc yi m1 B3 f1 f2 f3 f4 f5 f6 => ?_
  have f3' : m.nid + 3 ≤ m1.nid := f3
  have f4' : ∀ j, j < m.nid → m1.sto j = m.sto j := fun j hj => (f4 j (by show j < m.nid + 3; omega)).trans (fr3 _ _ _ j hj)
  have s2 := (f4 (m.nid + 2) (by show m.nid + 2 < m.nid + 3; omega)).trans (upd_hit _ _ _)
  have u5 := f5
  have u6 := f6
  simp only [AV.one] at f5 f6
  have fB : ∀ b ∈ B3, m.nid + 3 ≤ b ∧ b < m1.nid := f2.2
  have r5 := AV.cells_one u5
  have r6 := AV.cells_one u6
  simp only [AV.cells] at r5 r6
  simp (maxSteps := 2000000) +decide (disch := first | decide | omega) only [go_sem, Nat.reduceAdd, Nat.reduceMul, Nat.reduceSub, Nat.reduceLT, Nat.reduceLeDiff, Nat.reduceEqDiff, Nat.add_assoc, Int.reduceAdd, Int.reduceSub, Int.reduceMul, Int.reduceLT, Int.reduceLE, Int.reduceEq, Int.reduceNeg, strOp_add, s2, f5, f6, r5, r6, true_or]
  refine hQ yk yd yp ys yc yi ⟨_, m1.nid⟩ B3 (f1.keep _ fun b hb => ?_) (f2.wide (Nat.le_add_right _ _) (Nat.le_refl _)) (by show m.nid ≤ m1.nid; omega) (fun j hj => ?_) u5 u6
  · have := fB b hb
    show upd _ _ _ _ = _
    simp (disch := omega) only [upd_hit, upd_miss]
  · show upd _ _ _ _ = _
    simp (disch := omega) only [upd_hit, upd_miss]
    exact f4' j hj
set_option maxHeartbeats 4000000 in
theorem AccessPutM_wp (x0 : ByteArray) (x1 x2 x3 x4 x5 x6 v : Int) (n : Nod) (hd : n.Sane) (hz : szN n ≤ 1048576) (hdep : ndep n ≤ 2000000) (a0 a1 pv a3 a4 iv : AV) (B : List Nat) (m : Mem) (hO : ONod m n [a0, a1, pv, a3, a4, iv] B) (hB : ∀ b ∈ B, b < m.nid) (Q : AV × Mem → Prop)
    (hQ : ∀ k d pv s c iv m' B', ONod m' (putR x0 x1 x2 x3 x4 x5 x6 n v).2 [.int .i64 k, .str d, pv, .int .i64 s, .int .i64 c, iv] B' → Own m.nid m'.nid B' → m.nid ≤ m'.nid → (∀ j, j < m.nid → m'.sto j = m.sto j) → pv.one = true → iv.one = true → Q (.tup [.agg [.int .i64 k, .str d, pv, .int .i64 s, .int .i64 c, iv], .bool (putR x0 x1 x2 x3 x4 x5 x6 n v).1], m')) :
    Comes (fnI CC PR 17 [accA x0 x1 x2 x3 x4 x5 x6, .agg [a0, a1, pv, a3, a4, iv], .int .i64 v] m) Q := by
  obtain ⟨o1, o2⟩ := hO.ones
  have hA := accOk_eq x0 x1 x2 x3 x4 x5 x6
  have hN := NodeOk_eq n hd hz
  rw [nav_eta] at hN
  have hO0 := hO
  obtain ⟨Bp, Bi, hp, hi, hBe, rfl, rfl, rfl, rfl⟩ := hO.parts
  have l1 : pv.loud = false := by rcases hp with ⟨_, rfl, _⟩ | ⟨_, _, _, _, _, _, rfl, _⟩ <;> rfl
  have l2 : iv.loud = false := by rcases hi with ⟨_, rfl, _⟩ | ⟨_, _, _, _, _, _, rfl, _⟩ <;> rfl
  simp only [AV.one] at o1 o2
  simp only [AV.loud] at l1 l2
  have key : ∀ m' : Mem, (∀ j, j < m.nid → m'.sto j = m.sto j) → snapD m' 2097151 pv = some (.slice 6 (n.ptrs.map Nod.av)) ∧ snapD m' 2097151 iv = some (.slice 6 (n.items.map Nod.av)) := fun m' hm =>
    ⟨snap_np (hO.keep _ fun b hb => hm b (hB b hb)) hdep, snap_ni (hO.keep _ fun b hb => hm b (hB b hb)) hdep⟩
  have fr3 : ∀ (x y z : Blk) (j : Nat), j < m.nid → upd (upd (upd m.sto m.nid x) (m.nid + 1) y) (m.nid + 2) z j = m.sto j := fun x y z j hj => by
    simp (disch := omega) only [upd_hit, upd_miss]
  have hQ0 := hQ
  unfold putR at hQ
  cases hacc : accOk x0 x1 x2 x3 x4 x5 x6 with
  | false =>
    rw [hacc] at hA hQ
    rw [if_pos rfl] at hQ
    refine fnI_wp (rs := [.cell 6 31, .tmp 7]) Tryd.func17 rfl rfl (Nat.le_of_ble_eq_true rfl) rfl rfl ?_
    simp +decide (disch := first | decide | omega) only [go_sem, Nat.reduceAdd, Nat.reduceMul, Nat.reduceSub, Nat.reduceLT, Nat.reduceLeDiff, Nat.reduceEqDiff, Nat.add_assoc, Int.reduceAdd, Int.reduceSub, Int.reduceMul, Int.reduceLT, Int.reduceLE, Int.reduceEq, Int.reduceNeg, strOp_add, hA, o1, o2]
    refine hQ _ _ _ _ _ _ _ [] (oNod_zero _) (Own.nil _ _) (Nat.le_add_right _ _) (fun j hj => ?_) rfl rfl
    show upd _ _ _ _ = _
    simp (disch := omega) only [upd_hit, upd_miss]
  | true =>
    rw [hacc] at hA hQ
    rw [if_neg (by decide)] at hQ
    obtain ⟨c1, c2, c3, c4, c5⟩ := accOk_says hacc
    obtain ⟨e1, e2⟩ := accOk_more hacc
    have hSp := span_eq x0 x1 x2 x3 x4 x5 x6 c1 c2
    cases hok : nodeOk n with
    | false =>
      rw [hok] at hN hQ
      rw [if_pos rfl] at hQ
      refine fnI_wp (rs := [.cell 6 31, .tmp 7]) Tryd.func17 rfl rfl (Nat.le_of_ble_eq_true rfl) rfl rfl ?_
      simp +decide (disch := first | decide | omega) only [go_sem, Nat.reduceAdd, Nat.reduceMul, Nat.reduceSub, Nat.reduceLT, Nat.reduceLeDiff, Nat.reduceEqDiff, Nat.add_assoc, Int.reduceAdd, Int.reduceSub, Int.reduceMul, Int.reduceLT, Int.reduceLE, Int.reduceEq, Int.reduceNeg, strOp_add, hA, o1, o2, l1, l2, true_or]
      rw [(key _ (fun j hj => fr3 _ _ _ j hj)).1, (key _ (fun j hj => fr3 _ _ _ j hj)).2]
      simp +decide (disch := first | decide | omega) only [go_sem, Nat.reduceAdd, Nat.reduceMul, Nat.reduceSub, Nat.reduceLT, Nat.reduceLeDiff, Nat.reduceEqDiff, Nat.add_assoc, Int.reduceAdd, Int.reduceSub, Int.reduceMul, Int.reduceLT, Int.reduceLE, Int.reduceEq, Int.reduceNeg, strOp_add, hN, o1, o2, true_or]
      refine hQ _ _ _ _ _ _ _ [] (oNod_zero _) (Own.nil _ _) (Nat.le_add_right _ _) (fun j hj => ?_) rfl rfl
      show upd _ _ _ _ = _
      simp (disch := omega) only [upd_hit, upd_miss]
    | true =>
    rw [hok] at hN hQ
    rw [if_neg (by decide)] at hQ
    obtain ⟨-, b2, b3⟩ := nodeOk_says hok
    by_cases k1 : n.kind = 1
    case neg =>
      rw [if_pos k1] at hQ
      have k1' : (n.kind = 1) = False := eq_false k1
      refine fnI_wp (rs := [.cell 6 31, .tmp 7]) Tryd.func17 rfl rfl (Nat.le_of_ble_eq_true rfl) rfl rfl ?_
      simp +decide (disch := first | decide | omega) only [go_sem, Nat.reduceAdd, Nat.reduceMul, Nat.reduceSub, Nat.reduceLT, Nat.reduceLeDiff, Nat.reduceEqDiff, Nat.add_assoc, Int.reduceAdd, Int.reduceSub, Int.reduceMul, Int.reduceLT, Int.reduceLE, Int.reduceEq, Int.reduceNeg, strOp_add, hA, o1, o2, l1, l2, true_or]
      rw [(key _ (fun j hj => fr3 _ _ _ j hj)).1, (key _ (fun j hj => fr3 _ _ _ j hj)).2]
      simp +decide (disch := first | decide | omega) only [go_sem, Nat.reduceAdd, Nat.reduceMul, Nat.reduceSub, Nat.reduceLT, Nat.reduceLeDiff, Nat.reduceEqDiff, Nat.add_assoc, Int.reduceAdd, Int.reduceSub, Int.reduceMul, Int.reduceLT, Int.reduceLE, Int.reduceEq, Int.reduceNeg, strOp_add, hN, k1', o1, o2, true_or]
      refine hQ _ _ _ _ _ _ _ [] (oNod_zero _) (Own.nil _ _) (Nat.le_add_right _ _) (fun j hj => ?_) rfl rfl
      show upd _ _ _ _ = _
      simp (disch := omega) only [upd_hit, upd_miss]
    rcases e2 with ⟨h, -⟩ | ⟨h, -⟩ | ⟨h, -⟩
    · exact AccessPutM_1 x0 x1 x2 x3 x4 x5 x6 v n hd hz hdep pv iv B m hO0 hB Q hacc hok k1 h hQ0
    · exact AccessPutM_2 x0 x1 x2 x3 x4 x5 x6 v n hd hz hdep pv iv B m hO0 hB Q hacc hok k1 h hQ0
    · exact AccessPutM_3 x0 x1 x2 x3 x4 x5 x6 v n hd hz hdep pv iv B m hO0 hB Q hacc hok k1 h hQ0
end Go.Ev.Tryd
