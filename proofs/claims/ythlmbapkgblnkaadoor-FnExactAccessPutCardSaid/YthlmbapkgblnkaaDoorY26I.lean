/- Part of the proof of a statement about the given program: Y26I. No condition of its own. -/
import Derived.Test.YthlmbapkgblnkaaDoorY25I
import Derived.Test.YthlmbapkgblnkaaDoorY9I
namespace Go.Ev.Tryd
open Go.Proofs
set_option maxRecDepth 10000
set_option linter.unusedSimpArgs false
set_option linter.unusedVariables false
attribute [local congr] comes_congr bB_congr gK_congr gdK_congr

theorem oNod_zero (M : Mem) : ONod M zeroN [.int .i64 0, .str ⟨#[]⟩, .nils 6, .int .i64 0, .int .i64 0, .nils 6] [] := by
  unfold zeroN
  exact oNod_iff.2 ⟨_, _, [], [], rfl, rfl, .inl ⟨rfl, rfl, rfl⟩, .inl ⟨rfl, rfl, rfl⟩⟩
theorem nd_some {n : Nod} : nodeOk n = true → n.kind ≠ 2 → (decide (n.kind = 1) || decide (n.kind = 0)) = true := fun h h2 => by
  obtain ⟨-, b2, -⟩ := nodeOk_says h
  rcases b2 with h | h | h
  · rw [decide_eq_true h, Bool.or_true]
  · rw [decide_eq_true h, Bool.true_or]
  · exact absurd h h2
set_option maxHeartbeats 4000000 in
theorem AccessGetM_wp (x0 : ByteArray) (x1 x2 x3 x4 x5 x6 : Int) (n : Nod) (hd : n.Sane) (hz : szN n ≤ 1048576) (hdep : ndep n ≤ 2000000) (a0 a1 pv a3 a4 iv : AV) (B : List Nat) (m : Mem) (hO : ONod m n [a0, a1, pv, a3, a4, iv] B) (hB : ∀ b ∈ B, b < m.nid) (Q : AV × Mem → Prop)
    (hQ : ∀ k d pv s c iv m' B', ONod m' (getR x0 x1 x2 x3 x4 x5 x6 n).2.2 [.int .i64 k, .str d, pv, .int .i64 s, .int .i64 c, iv] B' → Own m.nid m'.nid B' → m.nid ≤ m'.nid → (∀ j, j < m.nid → m'.sto j = m.sto j) → pv.one = true → iv.one = true → Q (.tup [.agg [.int .i64 (getR x0 x1 x2 x3 x4 x5 x6 n).2.1, .int .i64 k, .str d, pv, .int .i64 s, .int .i64 c, iv], .bool (getR x0 x1 x2 x3 x4 x5 x6 n).1], m')) :
    Comes (fnI CC PR 10 [accA x0 x1 x2 x3 x4 x5 x6, .agg [a0, a1, pv, a3, a4, iv]] m) Q := by
  obtain ⟨o1, o2⟩ := hO.ones
  have hA := accOk_eq x0 x1 x2 x3 x4 x5 x6
  have hN := isRecord_eq n hd hz
  rw [nav_eta] at hN
  obtain ⟨Bp, Bi, hp, hi, hBe, rfl, rfl, rfl, rfl⟩ := hO.parts
  have l1 : pv.loud = false := by rcases hp with ⟨_, rfl, _⟩ | ⟨_, _, _, _, _, _, rfl, _⟩ <;> rfl
  have l2 : iv.loud = false := by rcases hi with ⟨_, rfl, _⟩ | ⟨_, _, _, _, _, _, rfl, _⟩ <;> rfl
  simp only [AV.one] at o1 o2
  simp only [AV.loud] at l1 l2
  have key : ∀ m' : Mem, (∀ j, j < m.nid → m'.sto j = m.sto j) → snapD m' 2097151 pv = some (.slice 6 (n.ptrs.map Nod.av)) ∧ snapD m' 2097151 iv = some (.slice 6 (n.items.map Nod.av)) := fun m' hm =>
    ⟨snap_np (hO.keep _ fun b hb => hm b (hB b hb)) hdep, snap_ni (hO.keep _ fun b hb => hm b (hB b hb)) hdep⟩
  have fr3 : ∀ (x y z : Blk) (j : Nat), j < m.nid → upd (upd (upd m.sto m.nid x) (m.nid + 1) y) (m.nid + 2) z j = m.sto j := fun x y z j hj => by
    simp (disch := omega) only [upd_hit, upd_miss]
  unfold getR at hQ
  cases hacc : accOk x0 x1 x2 x3 x4 x5 x6 with
  | false =>
    rw [hacc] at hA hQ
    rw [if_pos rfl] at hQ
    refine fnI_wp (rs := [.cell 4 33, .tmp 5]) Tryd.func10 rfl rfl (Nat.le_of_ble_eq_true rfl) rfl rfl ?_
    simp +decide (disch := first | decide | omega) only [go_sem, Nat.reduceAdd, Nat.reduceMul, Nat.reduceSub, Nat.reduceLT, Nat.reduceLeDiff, Nat.reduceEqDiff, Nat.add_assoc, Int.reduceAdd, Int.reduceSub, Int.reduceMul, Int.reduceLT, Int.reduceLE, Int.reduceEq, Int.reduceNeg, strOp_add, o1, o2]
    refine (d_plan (ord := [0, 1, 2, 3, 4, 5, 6, 7, 8, 9, 10, 11, 12, 13, 14, 15, 16, 17, 18, 19, 20, 21, 22]) (prs := [(14, 16), (14, 19), (16, 19), (17, 19)]) (by kernel_rfl)).2 ?_
    simp +decide (disch := first | decide | omega) only [go_sem, Nat.reduceAdd, Nat.reduceMul, Nat.reduceSub, Nat.reduceLT, Nat.reduceLeDiff, Nat.reduceEqDiff, Nat.add_assoc, Int.reduceAdd, Int.reduceSub, Int.reduceMul, Int.reduceLT, Int.reduceLE, Int.reduceEq, Int.reduceNeg, strOp_add, hA, o1, o2]
    refine hQ _ _ _ _ _ _ _ [] (oNod_zero _) (Own.nil _ _) (Nat.le_add_right _ _) (fun j hj => ?_) rfl rfl
    show upd _ _ _ _ = _
    simp (disch := omega) only [upd_hit, upd_miss]
  | true =>
    rw [hacc] at hA hQ
    rw [if_neg (by decide)] at hQ
    obtain ⟨c1, c2, c3, c4, c5⟩ := accOk_says hacc
    cases hok : nodeOk n with
    | false =>
      rw [hok] at hN hQ
      rw [if_pos rfl] at hQ
      rw [Bool.false_and] at hN
      refine fnI_wp (rs := [.cell 4 33, .tmp 5]) Tryd.func10 rfl rfl (Nat.le_of_ble_eq_true rfl) rfl rfl ?_
      simp +decide (disch := first | decide | omega) only [go_sem, Nat.reduceAdd, Nat.reduceMul, Nat.reduceSub, Nat.reduceLT, Nat.reduceLeDiff, Nat.reduceEqDiff, Nat.add_assoc, Int.reduceAdd, Int.reduceSub, Int.reduceMul, Int.reduceLT, Int.reduceLE, Int.reduceEq, Int.reduceNeg, strOp_add, o1, o2]
      refine (d_plan (ord := [0, 1, 2, 3, 4, 5, 6, 7, 8, 9, 10, 11, 12, 13, 14, 15, 16, 17, 18, 19, 20, 21, 22]) (prs := [(14, 16), (14, 19), (16, 19), (17, 19)]) (by kernel_rfl)).2 ?_
      simp +decide (disch := first | decide | omega) only [go_sem, Nat.reduceAdd, Nat.reduceMul, Nat.reduceSub, Nat.reduceLT, Nat.reduceLeDiff, Nat.reduceEqDiff, Nat.add_assoc, Int.reduceAdd, Int.reduceSub, Int.reduceMul, Int.reduceLT, Int.reduceLE, Int.reduceEq, Int.reduceNeg, strOp_add, hA, o1, o2, l1, l2, true_or]
      rw [(key _ (fun j hj => fr3 _ _ _ j hj)).1, (key _ (fun j hj => fr3 _ _ _ j hj)).2]
      simp +decide (disch := first | decide | omega) only [go_sem, Nat.reduceAdd, Nat.reduceMul, Nat.reduceSub, Nat.reduceLT, Nat.reduceLeDiff, Nat.reduceEqDiff, Nat.add_assoc, Int.reduceAdd, Int.reduceSub, Int.reduceMul, Int.reduceLT, Int.reduceLE, Int.reduceEq, Int.reduceNeg, strOp_add, hN, o1, o2, true_or]
      refine hQ _ _ _ _ _ _ _ [] (oNod_zero _) (Own.nil _ _) (Nat.le_add_right _ _) (fun j hj => ?_) rfl rfl
      show upd _ _ _ _ = _
      simp (disch := omega) only [upd_hit, upd_miss]
    | true =>
    rw [hok] at hN hQ
    rw [if_neg (by decide)] at hQ
    obtain ⟨-, b2, b3⟩ := nodeOk_says hok
    by_cases k2 : n.kind = 2
    · rw [if_pos k2] at hQ
      have hk : (true && (decide (n.kind = 1) || decide (n.kind = 0))) = false := by rw [k2]; rfl
      rw [hk] at hN
      refine fnI_wp (rs := [.cell 4 33, .tmp 5]) Tryd.func10 rfl rfl (Nat.le_of_ble_eq_true rfl) rfl rfl ?_
      simp +decide (disch := first | decide | omega) only [go_sem, Nat.reduceAdd, Nat.reduceMul, Nat.reduceSub, Nat.reduceLT, Nat.reduceLeDiff, Nat.reduceEqDiff, Nat.add_assoc, Int.reduceAdd, Int.reduceSub, Int.reduceMul, Int.reduceLT, Int.reduceLE, Int.reduceEq, Int.reduceNeg, strOp_add, o1, o2]
      refine (d_plan (ord := [0, 1, 2, 3, 4, 5, 6, 7, 8, 9, 10, 11, 12, 13, 14, 15, 16, 17, 18, 19, 20, 21, 22]) (prs := [(14, 16), (14, 19), (16, 19), (17, 19)]) (by kernel_rfl)).2 ?_
      simp +decide (disch := first | decide | omega) only [go_sem, Nat.reduceAdd, Nat.reduceMul, Nat.reduceSub, Nat.reduceLT, Nat.reduceLeDiff, Nat.reduceEqDiff, Nat.add_assoc, Int.reduceAdd, Int.reduceSub, Int.reduceMul, Int.reduceLT, Int.reduceLE, Int.reduceEq, Int.reduceNeg, strOp_add, hA, o1, o2, l1, l2, true_or]
      rw [(key _ (fun j hj => fr3 _ _ _ j hj)).1, (key _ (fun j hj => fr3 _ _ _ j hj)).2]
      simp +decide (disch := first | decide | omega) only [go_sem, Nat.reduceAdd, Nat.reduceMul, Nat.reduceSub, Nat.reduceLT, Nat.reduceLeDiff, Nat.reduceEqDiff, Nat.add_assoc, Int.reduceAdd, Int.reduceSub, Int.reduceMul, Int.reduceLT, Int.reduceLE, Int.reduceEq, Int.reduceNeg, strOp_add, hN, o1, o2, true_or]
      refine hQ _ _ _ _ _ _ _ [] (oNod_zero _) (Own.nil _ _) (Nat.le_add_right _ _) (fun j hj => ?_) rfl rfl
      show upd _ _ _ _ = _
      simp (disch := omega) only [upd_hit, upd_miss]
    rw [if_neg k2] at hQ
    rw [nd_some hok k2, Bool.true_and] at hN
    obtain ⟨z1, z2⟩ := b3 k2
    obtain ⟨q2, rfl⟩ : ∃ q : Nat, x2 = q := ⟨x2.toNat, by omega⟩
    have hq2 : q2 ≤ 12799 := by omega
    rw [Int.toNat_natCast] at hQ
    have hT : ∀ q5 : Nat, x5 = (q5 : Int) → fnA CC PR 28 [.str n.data, .int .i64 (q5 : Int), .int .i64 2] = some (.int .i64 (feI n.data q5 2)) := fun q5 h5 => fetch_eq n.data q5 2 (by omega) (by omega) (by omega) (by omega)
    have hB' := bitOf_eq n.data q2 (by omega) (by omega)
    have hF : isSize x3 = true → fnA CC PR 28 [.str n.data, .int .i64 (q2 : Int), .int .i64 x3] = some (.int .i64 (feI n.data q2 x3.toNat)) := fun h => by
      rcases isSize_iff.1 h with rfl | rfl | rfl | rfl
      · exact fetch_eq n.data q2 1 (by omega) (by omega) (by omega) (by omega)
      · exact fetch_eq n.data q2 2 (by omega) (by omega) (by omega) (by omega)
      · exact fetch_eq n.data q2 4 (by omega) (by omega) (by omega) (by omega)
      · exact fetch_eq n.data q2 8 (by omega) (by omega) (by omega) (by omega)
    unfold tagOk at hQ
    by_cases h5 : x5 < 0
    · have h5' : (0 ≤ x5) = False := eq_false (by omega)
      rw [decide_eq_true h5, Bool.true_or, if_neg (by decide)] at hQ
      rcases c5 with rfl | ⟨rfl, h3⟩ | rfl
      · rw [if_pos rfl] at hQ
        generalize bitA n.data q2 = bt at *
        refine fnI_wp (rs := [.cell 4 33, .tmp 5]) Tryd.func10 rfl rfl (Nat.le_of_ble_eq_true rfl) rfl rfl ?_
        simp +decide (disch := first | decide | omega) only [go_sem, Nat.reduceAdd, Nat.reduceMul, Nat.reduceSub, Nat.reduceLT, Nat.reduceLeDiff, Nat.reduceEqDiff, Nat.add_assoc, Int.reduceAdd, Int.reduceSub, Int.reduceMul, Int.reduceLT, Int.reduceLE, Int.reduceEq, Int.reduceNeg, strOp_add, o1, o2]
        refine (d_plan (ord := [0, 1, 2, 3, 4, 5, 6, 7, 8, 9, 10, 11, 12, 13, 14, 15, 16, 17, 18, 19, 20, 21, 22]) (prs := [(14, 16), (14, 19), (16, 19), (17, 19)]) (by kernel_rfl)).2 ?_
        simp +decide (disch := first | decide | omega) only [go_sem, Nat.reduceAdd, Nat.reduceMul, Nat.reduceSub, Nat.reduceLT, Nat.reduceLeDiff, Nat.reduceEqDiff, Nat.add_assoc, Int.reduceAdd, Int.reduceSub, Int.reduceMul, Int.reduceLT, Int.reduceLE, Int.reduceEq, Int.reduceNeg, strOp_add, hA, o1, o2, l1, l2, true_or]
        rw [(key _ (fun j hj => fr3 _ _ _ j hj)).1, (key _ (fun j hj => fr3 _ _ _ j hj)).2]
        simp (maxSteps := 2000000) +decide (disch := first | decide | omega) only [go_sem, Nat.reduceAdd, Nat.reduceMul, Nat.reduceSub, Nat.reduceLT, Nat.reduceLeDiff, Nat.reduceEqDiff, Nat.add_assoc, Int.reduceAdd, Int.reduceSub, Int.reduceMul, Int.reduceLT, Int.reduceLE, Int.reduceEq, Int.reduceNeg, strOp_add, hN, o1, o2, true_or, h5']
        refine (d_plan (ord := [0, 1, 2, 3, 4, 5, 6, 7, 8, 9, 10]) (prs := [(1, 3), (1, 6), (3, 6), (4, 6)]) (by kernel_rfl)).2 ?_
        simp +decide (disch := first | decide | omega) only [go_sem, Nat.reduceAdd, Nat.reduceMul, Nat.reduceSub, Nat.reduceLT, Nat.reduceLeDiff, Nat.reduceEqDiff, Nat.add_assoc, Int.reduceAdd, Int.reduceSub, Int.reduceMul, Int.reduceLT, Int.reduceLE, Int.reduceEq, Int.reduceNeg, strOp_add, hB']
        refine hQ _ _ _ _ _ _ _ [] (oNod_zero _) (Own.nil _ _) (Nat.le_add_right _ _) (fun j hj => ?_) rfl rfl
        show upd _ _ _ _ = _
        simp (disch := omega) only [upd_hit, upd_miss]
      · rw [if_neg (by decide), if_pos rfl] at hQ
        have hF := hF h3
        generalize feI n.data q2 x3.toNat = bt at *
        refine fnI_wp (rs := [.cell 4 33, .tmp 5]) Tryd.func10 rfl rfl (Nat.le_of_ble_eq_true rfl) rfl rfl ?_
        simp +decide (disch := first | decide | omega) only [go_sem, Nat.reduceAdd, Nat.reduceMul, Nat.reduceSub, Nat.reduceLT, Nat.reduceLeDiff, Nat.reduceEqDiff, Nat.add_assoc, Int.reduceAdd, Int.reduceSub, Int.reduceMul, Int.reduceLT, Int.reduceLE, Int.reduceEq, Int.reduceNeg, strOp_add, o1, o2]
        refine (d_plan (ord := [0, 1, 2, 3, 4, 5, 6, 7, 8, 9, 10, 11, 12, 13, 14, 15, 16, 17, 18, 19, 20, 21, 22]) (prs := [(14, 16), (14, 19), (16, 19), (17, 19)]) (by kernel_rfl)).2 ?_
        simp +decide (disch := first | decide | omega) only [go_sem, Nat.reduceAdd, Nat.reduceMul, Nat.reduceSub, Nat.reduceLT, Nat.reduceLeDiff, Nat.reduceEqDiff, Nat.add_assoc, Int.reduceAdd, Int.reduceSub, Int.reduceMul, Int.reduceLT, Int.reduceLE, Int.reduceEq, Int.reduceNeg, strOp_add, hA, o1, o2, l1, l2, true_or]
        rw [(key _ (fun j hj => fr3 _ _ _ j hj)).1, (key _ (fun j hj => fr3 _ _ _ j hj)).2]
        simp (maxSteps := 2000000) +decide (disch := first | decide | omega) only [go_sem, Nat.reduceAdd, Nat.reduceMul, Nat.reduceSub, Nat.reduceLT, Nat.reduceLeDiff, Nat.reduceEqDiff, Nat.add_assoc, Int.reduceAdd, Int.reduceSub, Int.reduceMul, Int.reduceLT, Int.reduceLE, Int.reduceEq, Int.reduceNeg, strOp_add, hN, o1, o2, true_or, h5']
        refine (d_plan (ord := [0, 1, 2, 3, 4, 5, 6, 7, 8, 9, 10, 11, 12]) (prs := [(1, 3), (1, 5), (3, 5), (1, 8), (3, 8), (5, 8), (6, 8)]) (by kernel_rfl)).2 ?_
        simp +decide (disch := first | decide | omega) only [go_sem, Nat.reduceAdd, Nat.reduceMul, Nat.reduceSub, Nat.reduceLT, Nat.reduceLeDiff, Nat.reduceEqDiff, Nat.add_assoc, Int.reduceAdd, Int.reduceSub, Int.reduceMul, Int.reduceLT, Int.reduceLE, Int.reduceEq, Int.reduceNeg, strOp_add, hF]
        refine hQ _ _ _ _ _ _ _ [] (oNod_zero _) (Own.nil _ _) (Nat.le_add_right _ _) (fun j hj => ?_) rfl rfl
        show upd _ _ _ _ = _
        simp (disch := omega) only [upd_hit, upd_miss]
      · rw [if_neg (by decide), if_neg (by decide)] at hQ
        by_cases hl : q2 < n.ptrs.length
        · rw [if_pos hl] at hQ
          have l3 : ((n.ptrs.length : Int) ≤ (q2 : Int)) = False := eq_false (by omega)
          have hg : n.ptrs.getD q2 zeroN = n.ptrs[q2] := by rw [List.getD_eq_getElem?_getD, List.getElem?_eq_getElem hl]; rfl
          rw [hg] at hQ
          refine fnI_wp (rs := [.cell 4 33, .tmp 5]) Tryd.func10 rfl rfl (Nat.le_of_ble_eq_true rfl) rfl rfl ?_
          simp +decide (disch := first | decide | omega) only [go_sem, Nat.reduceAdd, Nat.reduceMul, Nat.reduceSub, Nat.reduceLT, Nat.reduceLeDiff, Nat.reduceEqDiff, Nat.add_assoc, Int.reduceAdd, Int.reduceSub, Int.reduceMul, Int.reduceLT, Int.reduceLE, Int.reduceEq, Int.reduceNeg, strOp_add, o1, o2]
          refine (d_plan (ord := [0, 1, 2, 3, 4, 5, 6, 7, 8, 9, 10, 11, 12, 13, 14, 15, 16, 17, 18, 19, 20, 21, 22]) (prs := [(14, 16), (14, 19), (16, 19), (17, 19)]) (by kernel_rfl)).2 ?_
          simp +decide (disch := first | decide | omega) only [go_sem, Nat.reduceAdd, Nat.reduceMul, Nat.reduceSub, Nat.reduceLT, Nat.reduceLeDiff, Nat.reduceEqDiff, Nat.add_assoc, Int.reduceAdd, Int.reduceSub, Int.reduceMul, Int.reduceLT, Int.reduceLE, Int.reduceEq, Int.reduceNeg, strOp_add, hA, o1, o2, l1, l2, true_or]
          rw [(key _ (fun j hj => fr3 _ _ _ j hj)).1, (key _ (fun j hj => fr3 _ _ _ j hj)).2]
          simp (maxSteps := 2000000) +decide (disch := first | decide | omega) only [go_sem, Nat.reduceAdd, Nat.reduceMul, Nat.reduceSub, Nat.reduceLT, Nat.reduceLeDiff, Nat.reduceEqDiff, Nat.add_assoc, Int.reduceAdd, Int.reduceSub, Int.reduceMul, Int.reduceLT, Int.reduceLE, Int.reduceEq, Int.reduceNeg, strOp_add, hN, o1, o2, true_or, h5']
          rcases hp with ⟨h0, -, -⟩ | ⟨id, g, app, ty, cs, B2, rfl, hs, hC, rfl⟩
          · rw [h0] at hl; cases hl
          obtain ⟨xk, xd, xp, xs, xc, xi, r, Bi2, hdr, hxO, hxS⟩ := hC.at hl
          have hx2 : n.ptrs[q2].Sane ∧ ndep n.ptrs[q2] ≤ 2000000 := ⟨hd.ptrs _ (List.getElem_mem hl), by have := ndep_ptrs (List.getElem_mem hl); omega⟩
          have hCW := copied_wp _ hx2.1 hx2.2
          generalize n.ptrs[q2] = y at *
          have hid : id < m.nid := hB id (by rw [hBe]; simp)
          have hBB : ∀ b ∈ Bi2, b < m.nid := fun b hb => hB b (by rw [hBe]; have := hxS.subset hb; simp [this])
          have ll : (6 ≤ r.length + 6) = True := eq_true (by omega)
          obtain ⟨p1, p2⟩ := hxO.ones
          simp only [AV.one] at p1 p2
          simp (maxSteps := 2000000) +decide (disch := first | decide | omega) only [go_sem, Nat.reduceAdd, Nat.reduceMul, Nat.reduceSub, Nat.reduceLT, Nat.reduceLeDiff, Nat.reduceEqDiff, Nat.add_assoc, Int.reduceAdd, Int.reduceSub, Int.reduceMul, Int.reduceLT, Int.reduceLE, Int.reduceEq, Int.reduceNeg, strOp_add, l3, hl, hs, hdr, ll, p1, p2, true_or]
          have fr4 : ∀ (x y z : Blk) (j : Nat), j < m.nid → upd (upd (upd m.sto m.nid x) (m.nid + 1) y) (m.nid + 2) z j = m.sto j := fr3
          refine hCW _ Bi2 _ (hxO.keep _ fun b hb => fr3 _ _ _ b (hBB b hb)) (fun b hb => by show b < m.nid + _; have := hBB b hb; omega) _ fun yk yd yp ys yc yi m1 B3 q1 q2 q3 q4 q5 q6 => ?_
          have q3' : m.nid + 26 ≤ m1.nid := q3
          have q4' : ∀ j, j < m.nid → m1.sto j = m.sto j := fun j hj => (q4 j (by show j < m.nid + _; omega)).trans (fr3 _ _ _ j hj)
          have s2 := (q4 (m.nid + 2) (by show m.nid + 2 < m.nid + 26; omega)).trans (upd_hit _ _ _)
          have w5 := q5
          have w6 := q6
          simp only [AV.one] at q5 q6
          have qB : ∀ b ∈ B3, m.nid + 26 ≤ b ∧ b < m1.nid := q2.2
          have r5 := AV.cells_one w5
          have r6 := AV.cells_one w6
          simp only [AV.cells] at r5 r6
          simp (maxSteps := 2000000) +decide (disch := first | decide | omega) only [go_sem, Nat.reduceAdd, Nat.reduceMul, Nat.reduceSub, Nat.reduceLT, Nat.reduceLeDiff, Nat.reduceEqDiff, Nat.add_assoc, Int.reduceAdd, Int.reduceSub, Int.reduceMul, Int.reduceLT, Int.reduceLE, Int.reduceEq, Int.reduceNeg, strOp_add, s2, q5, q6, r5, r6, true_or]
          refine hQ yk yd yp ys yc yi ⟨_, m1.nid⟩ B3 (q1.keep _ fun b hb => ?_) (q2.wide (Nat.le_add_right _ _) (Nat.le_refl _)) (by show m.nid ≤ m1.nid; omega) (fun j hj => ?_) w5 w6
          · have := qB b hb
            show upd _ _ _ _ = _
            simp (disch := omega) only [upd_hit, upd_miss]
          · show upd _ _ _ _ = _
            simp (disch := omega) only [upd_hit, upd_miss]
            exact q4' j hj
        · rw [if_neg hl] at hQ
          have l3 : ((n.ptrs.length : Int) ≤ (q2 : Int)) = True := eq_true (by omega)
          refine fnI_wp (rs := [.cell 4 33, .tmp 5]) Tryd.func10 rfl rfl (Nat.le_of_ble_eq_true rfl) rfl rfl ?_
          simp +decide (disch := first | decide | omega) only [go_sem, Nat.reduceAdd, Nat.reduceMul, Nat.reduceSub, Nat.reduceLT, Nat.reduceLeDiff, Nat.reduceEqDiff, Nat.add_assoc, Int.reduceAdd, Int.reduceSub, Int.reduceMul, Int.reduceLT, Int.reduceLE, Int.reduceEq, Int.reduceNeg, strOp_add, o1, o2]
          refine (d_plan (ord := [0, 1, 2, 3, 4, 5, 6, 7, 8, 9, 10, 11, 12, 13, 14, 15, 16, 17, 18, 19, 20, 21, 22]) (prs := [(14, 16), (14, 19), (16, 19), (17, 19)]) (by kernel_rfl)).2 ?_
          simp +decide (disch := first | decide | omega) only [go_sem, Nat.reduceAdd, Nat.reduceMul, Nat.reduceSub, Nat.reduceLT, Nat.reduceLeDiff, Nat.reduceEqDiff, Nat.add_assoc, Int.reduceAdd, Int.reduceSub, Int.reduceMul, Int.reduceLT, Int.reduceLE, Int.reduceEq, Int.reduceNeg, strOp_add, hA, o1, o2, l1, l2, true_or]
          rw [(key _ (fun j hj => fr3 _ _ _ j hj)).1, (key _ (fun j hj => fr3 _ _ _ j hj)).2]
          simp (maxSteps := 2000000) +decide (disch := first | decide | omega) only [go_sem, Nat.reduceAdd, Nat.reduceMul, Nat.reduceSub, Nat.reduceLT, Nat.reduceLeDiff, Nat.reduceEqDiff, Nat.add_assoc, Int.reduceAdd, Int.reduceSub, Int.reduceMul, Int.reduceLT, Int.reduceLE, Int.reduceEq, Int.reduceNeg, strOp_add, hN, o1, o2, true_or, h5']
          rcases hp with ⟨h0, rfl, -⟩ | ⟨id, g, app, ty, cs, B2, rfl, hs, hC, rfl⟩
          · have l4 : (0 : Int) ≤ (q2 : Int) := by omega
            simp +decide (disch := first | decide | omega) only [go_sem, Nat.reduceAdd, Nat.reduceMul, Nat.reduceSub, Nat.reduceLT, Nat.reduceLeDiff, Nat.reduceEqDiff, Nat.add_assoc, Int.reduceAdd, Int.reduceSub, Int.reduceMul, Int.reduceLT, Int.reduceLE, Int.reduceEq, Int.reduceNeg, strOp_add, l4]
            refine hQ _ _ _ _ _ _ _ [] (oNod_zero _) (Own.nil _ _) (Nat.le_add_right _ _) (fun j hj => ?_) rfl rfl
            show upd _ _ _ _ = _
            simp (disch := omega) only [upd_hit, upd_miss]
          · simp +decide (disch := first | decide | omega) only [go_sem, Nat.reduceAdd, Nat.reduceMul, Nat.reduceSub, Nat.reduceLT, Nat.reduceLeDiff, Nat.reduceEqDiff, Nat.add_assoc, Int.reduceAdd, Int.reduceSub, Int.reduceMul, Int.reduceLT, Int.reduceLE, Int.reduceEq, Int.reduceNeg, strOp_add, l3]
            refine hQ _ _ _ _ _ _ _ [] (oNod_zero _) (Own.nil _ _) (Nat.le_add_right _ _) (fun j hj => ?_) rfl rfl
            show upd _ _ _ _ = _
            simp (disch := omega) only [upd_hit, upd_miss]
    · have h5' : (0 ≤ x5) = True := eq_true (by omega)
      obtain ⟨q5, rfl⟩ : ∃ q : Nat, x5 = q := ⟨x5.toNat, by omega⟩
      have hT := hT q5 rfl
      rw [decide_eq_false h5, Bool.false_or, Int.toNat_natCast] at hQ
      generalize feI n.data q5 2 = tg at *
      by_cases hte : tg = x6
      case neg =>
        have hte' : (tg = x6) = False := eq_false hte
        rw [decide_eq_false hte, if_pos rfl] at hQ
        refine fnI_wp (rs := [.cell 4 33, .tmp 5]) Tryd.func10 rfl rfl (Nat.le_of_ble_eq_true rfl) rfl rfl ?_
        simp +decide (disch := first | decide | omega) only [go_sem, Nat.reduceAdd, Nat.reduceMul, Nat.reduceSub, Nat.reduceLT, Nat.reduceLeDiff, Nat.reduceEqDiff, Nat.add_assoc, Int.reduceAdd, Int.reduceSub, Int.reduceMul, Int.reduceLT, Int.reduceLE, Int.reduceEq, Int.reduceNeg, strOp_add, o1, o2]
        refine (d_plan (ord := [0, 1, 2, 3, 4, 5, 6, 7, 8, 9, 10, 11, 12, 13, 14, 15, 16, 17, 18, 19, 20, 21, 22]) (prs := [(14, 16), (14, 19), (16, 19), (17, 19)]) (by kernel_rfl)).2 ?_
        simp +decide (disch := first | decide | omega) only [go_sem, Nat.reduceAdd, Nat.reduceMul, Nat.reduceSub, Nat.reduceLT, Nat.reduceLeDiff, Nat.reduceEqDiff, Nat.add_assoc, Int.reduceAdd, Int.reduceSub, Int.reduceMul, Int.reduceLT, Int.reduceLE, Int.reduceEq, Int.reduceNeg, strOp_add, hA, o1, o2, l1, l2, true_or]
        rw [(key _ (fun j hj => fr3 _ _ _ j hj)).1, (key _ (fun j hj => fr3 _ _ _ j hj)).2]
        simp +decide (disch := first | decide | omega) only [go_sem, Nat.reduceAdd, Nat.reduceMul, Nat.reduceSub, Nat.reduceLT, Nat.reduceLeDiff, Nat.reduceEqDiff, Nat.add_assoc, Int.reduceAdd, Int.reduceSub, Int.reduceMul, Int.reduceLT, Int.reduceLE, Int.reduceEq, Int.reduceNeg, strOp_add, hN, o1, o2, true_or, h5', hT, hte']
        refine hQ _ _ _ _ _ _ _ [] (oNod_zero _) (Own.nil _ _) (Nat.le_add_right _ _) (fun j hj => ?_) rfl rfl
        show upd _ _ _ _ = _
        simp (disch := omega) only [upd_hit, upd_miss]
      subst hte
      rw [decide_eq_true rfl, if_neg (by decide)] at hQ
      rcases c5 with rfl | ⟨rfl, h3⟩ | rfl
      · rw [if_pos rfl] at hQ
        generalize bitA n.data q2 = bt at *
        refine fnI_wp (rs := [.cell 4 33, .tmp 5]) Tryd.func10 rfl rfl (Nat.le_of_ble_eq_true rfl) rfl rfl ?_
        simp +decide (disch := first | decide | omega) only [go_sem, Nat.reduceAdd, Nat.reduceMul, Nat.reduceSub, Nat.reduceLT, Nat.reduceLeDiff, Nat.reduceEqDiff, Nat.add_assoc, Int.reduceAdd, Int.reduceSub, Int.reduceMul, Int.reduceLT, Int.reduceLE, Int.reduceEq, Int.reduceNeg, strOp_add, o1, o2]
        refine (d_plan (ord := [0, 1, 2, 3, 4, 5, 6, 7, 8, 9, 10, 11, 12, 13, 14, 15, 16, 17, 18, 19, 20, 21, 22]) (prs := [(14, 16), (14, 19), (16, 19), (17, 19)]) (by kernel_rfl)).2 ?_
        simp +decide (disch := first | decide | omega) only [go_sem, Nat.reduceAdd, Nat.reduceMul, Nat.reduceSub, Nat.reduceLT, Nat.reduceLeDiff, Nat.reduceEqDiff, Nat.add_assoc, Int.reduceAdd, Int.reduceSub, Int.reduceMul, Int.reduceLT, Int.reduceLE, Int.reduceEq, Int.reduceNeg, strOp_add, hA, o1, o2, l1, l2, true_or]
        rw [(key _ (fun j hj => fr3 _ _ _ j hj)).1, (key _ (fun j hj => fr3 _ _ _ j hj)).2]
        simp (maxSteps := 2000000) +decide (disch := first | decide | omega) only [go_sem, Nat.reduceAdd, Nat.reduceMul, Nat.reduceSub, Nat.reduceLT, Nat.reduceLeDiff, Nat.reduceEqDiff, Nat.add_assoc, Int.reduceAdd, Int.reduceSub, Int.reduceMul, Int.reduceLT, Int.reduceLE, Int.reduceEq, Int.reduceNeg, strOp_add, hN, o1, o2, true_or, h5', hT]
        refine (d_plan (ord := [0, 1, 2, 3, 4, 5, 6, 7, 8, 9, 10]) (prs := [(1, 3), (1, 6), (3, 6), (4, 6)]) (by kernel_rfl)).2 ?_
        simp +decide (disch := first | decide | omega) only [go_sem, Nat.reduceAdd, Nat.reduceMul, Nat.reduceSub, Nat.reduceLT, Nat.reduceLeDiff, Nat.reduceEqDiff, Nat.add_assoc, Int.reduceAdd, Int.reduceSub, Int.reduceMul, Int.reduceLT, Int.reduceLE, Int.reduceEq, Int.reduceNeg, strOp_add, hB']
        refine hQ _ _ _ _ _ _ _ [] (oNod_zero _) (Own.nil _ _) (Nat.le_add_right _ _) (fun j hj => ?_) rfl rfl
        show upd _ _ _ _ = _
        simp (disch := omega) only [upd_hit, upd_miss]
      · rw [if_neg (by decide), if_pos rfl] at hQ
        have hF := hF h3
        generalize feI n.data q2 x3.toNat = bt at *
        refine fnI_wp (rs := [.cell 4 33, .tmp 5]) Tryd.func10 rfl rfl (Nat.le_of_ble_eq_true rfl) rfl rfl ?_
        simp +decide (disch := first | decide | omega) only [go_sem, Nat.reduceAdd, Nat.reduceMul, Nat.reduceSub, Nat.reduceLT, Nat.reduceLeDiff, Nat.reduceEqDiff, Nat.add_assoc, Int.reduceAdd, Int.reduceSub, Int.reduceMul, Int.reduceLT, Int.reduceLE, Int.reduceEq, Int.reduceNeg, strOp_add, o1, o2]
        refine (d_plan (ord := [0, 1, 2, 3, 4, 5, 6, 7, 8, 9, 10, 11, 12, 13, 14, 15, 16, 17, 18, 19, 20, 21, 22]) (prs := [(14, 16), (14, 19), (16, 19), (17, 19)]) (by kernel_rfl)).2 ?_
        simp +decide (disch := first | decide | omega) only [go_sem, Nat.reduceAdd, Nat.reduceMul, Nat.reduceSub, Nat.reduceLT, Nat.reduceLeDiff, Nat.reduceEqDiff, Nat.add_assoc, Int.reduceAdd, Int.reduceSub, Int.reduceMul, Int.reduceLT, Int.reduceLE, Int.reduceEq, Int.reduceNeg, strOp_add, hA, o1, o2, l1, l2, true_or]
        rw [(key _ (fun j hj => fr3 _ _ _ j hj)).1, (key _ (fun j hj => fr3 _ _ _ j hj)).2]
        simp (maxSteps := 2000000) +decide (disch := first | decide | omega) only [go_sem, Nat.reduceAdd, Nat.reduceMul, Nat.reduceSub, Nat.reduceLT, Nat.reduceLeDiff, Nat.reduceEqDiff, Nat.add_assoc, Int.reduceAdd, Int.reduceSub, Int.reduceMul, Int.reduceLT, Int.reduceLE, Int.reduceEq, Int.reduceNeg, strOp_add, hN, o1, o2, true_or, h5', hT]
        refine (d_plan (ord := [0, 1, 2, 3, 4, 5, 6, 7, 8, 9, 10, 11, 12]) (prs := [(1, 3), (1, 5), (3, 5), (1, 8), (3, 8), (5, 8), (6, 8)]) (by kernel_rfl)).2 ?_
        simp +decide (disch := first | decide | omega) only [go_sem, Nat.reduceAdd, Nat.reduceMul, Nat.reduceSub, Nat.reduceLT, Nat.reduceLeDiff, Nat.reduceEqDiff, Nat.add_assoc, Int.reduceAdd, Int.reduceSub, Int.reduceMul, Int.reduceLT, Int.reduceLE, Int.reduceEq, Int.reduceNeg, strOp_add, hF]
        refine hQ _ _ _ _ _ _ _ [] (oNod_zero _) (Own.nil _ _) (Nat.le_add_right _ _) (fun j hj => ?_) rfl rfl
        show upd _ _ _ _ = _
        simp (disch := omega) only [upd_hit, upd_miss]
      · rw [if_neg (by decide), if_neg (by decide)] at hQ
        by_cases hl : q2 < n.ptrs.length
        · rw [if_pos hl] at hQ
          have l3 : ((n.ptrs.length : Int) ≤ (q2 : Int)) = False := eq_false (by omega)
          have hg : n.ptrs.getD q2 zeroN = n.ptrs[q2] := by rw [List.getD_eq_getElem?_getD, List.getElem?_eq_getElem hl]; rfl
          rw [hg] at hQ
          refine fnI_wp (rs := [.cell 4 33, .tmp 5]) Tryd.func10 rfl rfl (Nat.le_of_ble_eq_true rfl) rfl rfl ?_
          simp +decide (disch := first | decide | omega) only [go_sem, Nat.reduceAdd, Nat.reduceMul, Nat.reduceSub, Nat.reduceLT, Nat.reduceLeDiff, Nat.reduceEqDiff, Nat.add_assoc, Int.reduceAdd, Int.reduceSub, Int.reduceMul, Int.reduceLT, Int.reduceLE, Int.reduceEq, Int.reduceNeg, strOp_add, o1, o2]
          refine (d_plan (ord := [0, 1, 2, 3, 4, 5, 6, 7, 8, 9, 10, 11, 12, 13, 14, 15, 16, 17, 18, 19, 20, 21, 22]) (prs := [(14, 16), (14, 19), (16, 19), (17, 19)]) (by kernel_rfl)).2 ?_
          simp +decide (disch := first | decide | omega) only [go_sem, Nat.reduceAdd, Nat.reduceMul, Nat.reduceSub, Nat.reduceLT, Nat.reduceLeDiff, Nat.reduceEqDiff, Nat.add_assoc, Int.reduceAdd, Int.reduceSub, Int.reduceMul, Int.reduceLT, Int.reduceLE, Int.reduceEq, Int.reduceNeg, strOp_add, hA, o1, o2, l1, l2, true_or]
          rw [(key _ (fun j hj => fr3 _ _ _ j hj)).1, (key _ (fun j hj => fr3 _ _ _ j hj)).2]
          simp (maxSteps := 2000000) +decide (disch := first | decide | omega) only [go_sem, Nat.reduceAdd, Nat.reduceMul, Nat.reduceSub, Nat.reduceLT, Nat.reduceLeDiff, Nat.reduceEqDiff, Nat.add_assoc, Int.reduceAdd, Int.reduceSub, Int.reduceMul, Int.reduceLT, Int.reduceLE, Int.reduceEq, Int.reduceNeg, strOp_add, hN, o1, o2, true_or, h5', hT]
          rcases hp with ⟨h0, -, -⟩ | ⟨id, g, app, ty, cs, B2, rfl, hs, hC, rfl⟩
          · rw [h0] at hl; cases hl
          obtain ⟨xk, xd, xp, xs, xc, xi, r, Bi2, hdr, hxO, hxS⟩ := hC.at hl
          have hx2 : n.ptrs[q2].Sane ∧ ndep n.ptrs[q2] ≤ 2000000 := ⟨hd.ptrs _ (List.getElem_mem hl), by have := ndep_ptrs (List.getElem_mem hl); omega⟩
          have hCW := copied_wp _ hx2.1 hx2.2
          generalize n.ptrs[q2] = y at *
          have hid : id < m.nid := hB id (by rw [hBe]; simp)
          have hBB : ∀ b ∈ Bi2, b < m.nid := fun b hb => hB b (by rw [hBe]; have := hxS.subset hb; simp [this])
          have ll : (6 ≤ r.length + 6) = True := eq_true (by omega)
          obtain ⟨p1, p2⟩ := hxO.ones
          simp only [AV.one] at p1 p2
          simp (maxSteps := 2000000) +decide (disch := first | decide | omega) only [go_sem, Nat.reduceAdd, Nat.reduceMul, Nat.reduceSub, Nat.reduceLT, Nat.reduceLeDiff, Nat.reduceEqDiff, Nat.add_assoc, Int.reduceAdd, Int.reduceSub, Int.reduceMul, Int.reduceLT, Int.reduceLE, Int.reduceEq, Int.reduceNeg, strOp_add, l3, hl, hs, hdr, ll, p1, p2, true_or]
          have fr4 : ∀ (x y z : Blk) (j : Nat), j < m.nid → upd (upd (upd m.sto m.nid x) (m.nid + 1) y) (m.nid + 2) z j = m.sto j := fr3
          refine hCW _ Bi2 _ (hxO.keep _ fun b hb => fr3 _ _ _ b (hBB b hb)) (fun b hb => by show b < m.nid + _; have := hBB b hb; omega) _ fun yk yd yp ys yc yi m1 B3 q1 q2 q3 q4 q5 q6 => ?_
          have q3' : m.nid + 26 ≤ m1.nid := q3
          have q4' : ∀ j, j < m.nid → m1.sto j = m.sto j := fun j hj => (q4 j (by show j < m.nid + _; omega)).trans (fr3 _ _ _ j hj)
          have s2 := (q4 (m.nid + 2) (by show m.nid + 2 < m.nid + 26; omega)).trans (upd_hit _ _ _)
          have w5 := q5
          have w6 := q6
          simp only [AV.one] at q5 q6
          have qB : ∀ b ∈ B3, m.nid + 26 ≤ b ∧ b < m1.nid := q2.2
          have r5 := AV.cells_one w5
          have r6 := AV.cells_one w6
          simp only [AV.cells] at r5 r6
          simp (maxSteps := 2000000) +decide (disch := first | decide | omega) only [go_sem, Nat.reduceAdd, Nat.reduceMul, Nat.reduceSub, Nat.reduceLT, Nat.reduceLeDiff, Nat.reduceEqDiff, Nat.add_assoc, Int.reduceAdd, Int.reduceSub, Int.reduceMul, Int.reduceLT, Int.reduceLE, Int.reduceEq, Int.reduceNeg, strOp_add, s2, q5, q6, r5, r6, true_or]
          refine hQ yk yd yp ys yc yi ⟨_, m1.nid⟩ B3 (q1.keep _ fun b hb => ?_) (q2.wide (Nat.le_add_right _ _) (Nat.le_refl _)) (by show m.nid ≤ m1.nid; omega) (fun j hj => ?_) w5 w6
          · have := qB b hb
            show upd _ _ _ _ = _
            simp (disch := omega) only [upd_hit, upd_miss]
          · show upd _ _ _ _ = _
            simp (disch := omega) only [upd_hit, upd_miss]
            exact q4' j hj
        · rw [if_neg hl] at hQ
          have l3 : ((n.ptrs.length : Int) ≤ (q2 : Int)) = True := eq_true (by omega)
          refine fnI_wp (rs := [.cell 4 33, .tmp 5]) Tryd.func10 rfl rfl (Nat.le_of_ble_eq_true rfl) rfl rfl ?_
          simp +decide (disch := first | decide | omega) only [go_sem, Nat.reduceAdd, Nat.reduceMul, Nat.reduceSub, Nat.reduceLT, Nat.reduceLeDiff, Nat.reduceEqDiff, Nat.add_assoc, Int.reduceAdd, Int.reduceSub, Int.reduceMul, Int.reduceLT, Int.reduceLE, Int.reduceEq, Int.reduceNeg, strOp_add, o1, o2]
          refine (d_plan (ord := [0, 1, 2, 3, 4, 5, 6, 7, 8, 9, 10, 11, 12, 13, 14, 15, 16, 17, 18, 19, 20, 21, 22]) (prs := [(14, 16), (14, 19), (16, 19), (17, 19)]) (by kernel_rfl)).2 ?_
          simp +decide (disch := first | decide | omega) only [go_sem, Nat.reduceAdd, Nat.reduceMul, Nat.reduceSub, Nat.reduceLT, Nat.reduceLeDiff, Nat.reduceEqDiff, Nat.add_assoc, Int.reduceAdd, Int.reduceSub, Int.reduceMul, Int.reduceLT, Int.reduceLE, Int.reduceEq, Int.reduceNeg, strOp_add, hA, o1, o2, l1, l2, true_or]
          rw [(key _ (fun j hj => fr3 _ _ _ j hj)).1, (key _ (fun j hj => fr3 _ _ _ j hj)).2]
          simp (maxSteps := 2000000) +decide (disch := first | decide | omega) only [go_sem, Nat.reduceAdd, Nat.reduceMul, Nat.reduceSub, Nat.reduceLT, Nat.reduceLeDiff, Nat.reduceEqDiff, Nat.add_assoc, Int.reduceAdd, Int.reduceSub, Int.reduceMul, Int.reduceLT, Int.reduceLE, Int.reduceEq, Int.reduceNeg, strOp_add, hN, o1, o2, true_or, h5', hT]
          rcases hp with ⟨h0, rfl, -⟩ | ⟨id, g, app, ty, cs, B2, rfl, hs, hC, rfl⟩
          · have l4 : (0 : Int) ≤ (q2 : Int) := by omega
            simp +decide (disch := first | decide | omega) only [go_sem, Nat.reduceAdd, Nat.reduceMul, Nat.reduceSub, Nat.reduceLT, Nat.reduceLeDiff, Nat.reduceEqDiff, Nat.add_assoc, Int.reduceAdd, Int.reduceSub, Int.reduceMul, Int.reduceLT, Int.reduceLE, Int.reduceEq, Int.reduceNeg, strOp_add, l4]
            refine hQ _ _ _ _ _ _ _ [] (oNod_zero _) (Own.nil _ _) (Nat.le_add_right _ _) (fun j hj => ?_) rfl rfl
            show upd _ _ _ _ = _
            simp (disch := omega) only [upd_hit, upd_miss]
          · simp +decide (disch := first | decide | omega) only [go_sem, Nat.reduceAdd, Nat.reduceMul, Nat.reduceSub, Nat.reduceLT, Nat.reduceLeDiff, Nat.reduceEqDiff, Nat.add_assoc, Int.reduceAdd, Int.reduceSub, Int.reduceMul, Int.reduceLT, Int.reduceLE, Int.reduceEq, Int.reduceNeg, strOp_add, l3]
            refine hQ _ _ _ _ _ _ _ [] (oNod_zero _) (Own.nil _ _) (Nat.le_add_right _ _) (fun j hj => ?_) rfl rfl
            show upd _ _ _ _ = _
            simp (disch := omega) only [upd_hit, upd_miss]
end Go.Ev.Tryd
