/- Part of the proof of a statement about the given program: Y40I. No condition of its own. -/
import Derived.Test.YthlmbapkgblnkaaDoorY39I
namespace Go.Ev.Tryd
open Go.Proofs
set_option maxRecDepth 10000
set_option linter.unusedSimpArgs false
set_option linter.unusedVariables false
attribute [local congr] comes_congr bB_congr gK_congr gdK_congr

set_option maxHeartbeats 8000000 in
theorem law_FnExactAccessPut (x0 : ByteArray) (x1 x2 x3 x4 x5 x6 : Int) (n : Nod) (v : Int) (hs : x0.size ≤ 9223372036854775807) (h1 : i64 x1) (h2 : i64 x2) (h3 : i64 x3) (h4 : i64 x4) (h5 : i64 x5) (h6 : i64 x6) (hd : n.Wide) (hv : i64 v) : fnA CC PR 4 [accA x0 x1 x2 x3 x4 x5 x6, n.av, .int .i64 v] = some (.bool true) := by
  apply comes_eq.1
  have q1 := szAccess_eq x0 x1 x2 x3 x4 x5 x6 hs
  have qa := toAccess_eq x0 x1 x2 x3 x4 x5 x6
  rw [nav_eta n]
  by_cases g1 : x0.size ≤ 1048576
  case neg =>
    rw [lft_no g1] at q1
    refine fnA_wp (rs := [.tmp 6]) Tryd.func4 rfl rfl (Nat.le_of_ble_eq_true rfl) rfl ?_
    simp +decide (disch := first | decide | omega) only [go_sem, Nat.reduceAdd, Nat.reduceMul, Nat.reduceSub, Nat.reduceLT, Nat.reduceLeDiff, Nat.reduceEqDiff, Nat.add_assoc, Int.reduceAdd, Int.reduceSub, Int.reduceMul, Int.reduceLT, Int.reduceLE, Int.reduceEq, Int.reduceNeg, strOp_add, q1]
  rw [lft_le g1] at q1
  have q2 := szNode_eq n hd (1048576 - x0.size) (by omega)
  rw [nav_eta n] at q2
  by_cases g2 : szN n ≤ 1048576 - x0.size
  case neg =>
    rw [lft_no g2] at q2
    generalize 1048576 - x0.size = z at *
    have z1n : ((z : Int) < 0) = False := eq_false (by omega)
    refine fnA_wp (rs := [.tmp 6]) Tryd.func4 rfl rfl (Nat.le_of_ble_eq_true rfl) rfl ?_
    simp +decide (disch := first | decide | omega) only [go_sem, Nat.reduceAdd, Nat.reduceMul, Nat.reduceSub, Nat.reduceLT, Nat.reduceLeDiff, Nat.reduceEqDiff, Nat.add_assoc, Int.reduceAdd, Int.reduceSub, Int.reduceMul, Int.reduceLT, Int.reduceLE, Int.reduceEq, Int.reduceNeg, strOp_add, q1, q2, z1n]
  rw [lft_le g2] at q2
  have hz : szN n ≤ 1048576 := by omega
  have hsn := hd.sane _ hz
  obtain ⟨-, hdn, hcn⟩ := fine_of hsn hz
  have hspec := specAccessPut_eq x0 x1 x2 x3 x4 x5 x6 v n (by omega) hsn hz
  obtain ⟨hws, hwd, hwc⟩ := putR_fine x0 x1 x2 x3 x4 x5 x6 n v hsn hz
  unfold putA at hspec
  rw [nav_eta n] at hspec
  generalize hr : putR x0 x1 x2 x3 x4 x5 x6 n v = r at *
  obtain ⟨ok, w⟩ := r
  dsimp only at hws hwd hwc hspec
  generalize hb : 1048576 - x0.size - szN n = z2 at *
  generalize hb1 : 1048576 - x0.size = z1 at *
  have z1n : ((z1 : Int) < 0) = False := eq_false (by omega)
  have z2n : ((z2 : Int) < 0) = False := eq_false (by omega)
  have hselfn := eqNode_self _ hsn
  have hselfw := eqNode_self w hws
  rw [nav_eta w] at hselfw
  rw [nav_eta n] at hselfn
  have htN := toNode_wp n hsn
  rw [nav_eta n] at htN
  refine fnA_wp (rs := [.tmp 6]) Tryd.func4 rfl rfl (Nat.le_of_ble_eq_true rfl) rfl ?_
  simp +decide (disch := first | decide | omega) only [go_sem, Nat.reduceAdd, Nat.reduceMul, Nat.reduceSub, Nat.reduceLT, Nat.reduceLeDiff, Nat.reduceEqDiff, Nat.add_assoc, Int.reduceAdd, Int.reduceSub, Int.reduceMul, Int.reduceLT, Int.reduceLE, Int.reduceEq, Int.reduceNeg, strOp_add, q1, q2, z1n, z2n]
  refine (d_plan (ord := [0, 1, 2, 3, 4, 5, 6, 7, 8, 9, 10, 11]) (prs := [(0, 2), (1, 2), (0, 9), (1, 9), (2, 9), (3, 9), (5, 9)]) (by kernel_rfl)).2 ?_
  simp +decide (disch := first | decide | omega) only [go_sem, Nat.reduceAdd, Nat.reduceMul, Nat.reduceSub, Nat.reduceLT, Nat.reduceLeDiff, Nat.reduceEqDiff, Nat.add_assoc, Int.reduceAdd, Int.reduceSub, Int.reduceMul, Int.reduceLT, Int.reduceLE, Int.reduceEq, Int.reduceNeg, strOp_add, qa]
  refine toNode_far n hsn fun pv iv m1 B1 J1 n1 hJ1 j1 y1 y2 y5 y6 => ?_
  replace n1 : 14 ≤ m1.nid := n1
  have w5 := y5
  have w6 := y6
  simp only [AV.one] at w5 w6
  have c0 : J1 0 = ⟨[.str x0, .int .i64 x1, .int .i64 x2, .int .i64 x3, .int .i64 x4, .int .i64 x5, .int .i64 x6], 0, false, none⟩ := (j1 0 (by show 0 < 14; decide)).trans rfl
  have c1 : J1 1 = ⟨[.int .i64 n.kind, .str n.data, .slice 6 (n.ptrs.map Nod.av), .int .i64 n.size, .int .i64 n.count, .slice 6 (n.items.map Nod.av)], 0, false, none⟩ := (j1 1 (by show 1 < 14; decide)).trans rfl
  simp +decide (disch := first | decide | omega) only [go_sem, Nat.reduceAdd, Nat.reduceMul, Nat.reduceSub, Nat.reduceLT, Nat.reduceLeDiff, Nat.reduceEqDiff, Nat.add_assoc, Int.reduceAdd, Int.reduceSub, Int.reduceMul, Int.reduceLT, Int.reduceLE, Int.reduceEq, Int.reduceNeg, strOp_add, ← hJ1, c0, c1, w5, w6, true_or]
  rw [snap_np y1 hdn, snap_ni y1 hdn]
  simp +decide (disch := first | decide | omega) only [go_sem, Nat.reduceAdd, Nat.reduceMul, Nat.reduceSub, Nat.reduceLT, Nat.reduceLeDiff, Nat.reduceEqDiff, Nat.add_assoc, Int.reduceAdd, Int.reduceSub, Int.reduceMul, Int.reduceLT, Int.reduceLE, Int.reduceEq, Int.reduceNeg, strOp_add, hspec, c0, c1, w5, w6, updL_frz_m, updL_frz_t, true_or]
  have hfz := froz_free (reachD_two y1 2097151 2097151) (lo := 14) (hi := m1.nid) y2.2 (j := 11) (.inl (by omega))
  have k0 : (frz J1 (reachD ⟨J1, m1.nid⟩ 2097151 pv ++ reachD ⟨J1, m1.nid⟩ 2097151 iv) 0).cells = [.str x0, .int .i64 x1, .int .i64 x2, .int .i64 x3, .int .i64 x4, .int .i64 x5, .int .i64 x6] := by rw [frz_cells, c0]
  have g0 : (frz J1 (reachD ⟨J1, m1.nid⟩ 2097151 pv ++ reachD ⟨J1, m1.nid⟩ 2097151 iv) 0).gen = 0 := by rw [frz_gen, c0]
  have k1 : (frz J1 (reachD ⟨J1, m1.nid⟩ 2097151 pv ++ reachD ⟨J1, m1.nid⟩ 2097151 iv) 1).cells = [.int .i64 n.kind, .str n.data, .slice 6 (n.ptrs.map Nod.av), .int .i64 n.size, .int .i64 n.count, .slice 6 (n.items.map Nod.av)] := by rw [frz_cells, c1]
  have g1' : (frz J1 (reachD ⟨J1, m1.nid⟩ 2097151 pv ++ reachD ⟨J1, m1.nid⟩ 2097151 iv) 1).gen = 0 := by rw [frz_gen, c1]
  generalize frz J1 (reachD ⟨J1, m1.nid⟩ 2097151 pv ++ reachD ⟨J1, m1.nid⟩ 2097151 iv) = F0 at *
  have frZ : ∀ (u v : Blk) (j : Nat), j < 11 → upd (upd F0 11 u) 11 v j = F0 j := fun u v j hj => by
    simp (disch := omega) only [upd_hit, upd_miss]
  have frZ := frZ ⟨[.int .i64 0, .str ⟨#[]⟩, .nils 6, .int .i64 0, .int .i64 0, .nils 6], 0, false, some (31, true)⟩ ⟨[.int .i64 w.kind, .str w.data, .slice 6 (w.ptrs.map Nod.av), .int .i64 w.size, .int .i64 w.count, .slice 6 (w.items.map Nod.av)], 0, false, some (31, true)⟩
  have k6 : upd (upd F0 11 ⟨[.int .i64 0, .str ⟨#[]⟩, .nils 6, .int .i64 0, .int .i64 0, .nils 6], 0, false, some (31, true)⟩) 11 ⟨[.int .i64 w.kind, .str w.data, .slice 6 (w.ptrs.map Nod.av), .int .i64 w.size, .int .i64 w.count, .slice 6 (w.items.map Nod.av)], 0, false, some (31, true)⟩ 11 = ⟨[.int .i64 w.kind, .str w.data, .slice 6 (w.ptrs.map Nod.av), .int .i64 w.size, .int .i64 w.count, .slice 6 (w.items.map Nod.av)], 0, false, some (31, true)⟩ := upd_hit _ _ _
  generalize upd (upd F0 11 ⟨[.int .i64 0, .str ⟨#[]⟩, .nils 6, .int .i64 0, .int .i64 0, .nils 6], 0, false, some (31, true)⟩) 11 ⟨[.int .i64 w.kind, .str w.data, .slice 6 (w.ptrs.map Nod.av), .int .i64 w.size, .int .i64 w.count, .slice 6 (w.items.map Nod.av)], 0, false, some (31, true)⟩ = F at *
  rw [← frZ 0 (by omega)] at k0 g0
  rw [← frZ 1 (by omega)] at k1 g1'
  clear frZ y1 y2 y5 y6 w5 w6 j1 hJ1 c0 c1 q1 q2 z1n z2n hspec
  generalize m1.nid = n6 at *
  refine ⟨hfz, htN _ _ fun k d pv s c iv m3 B3 y1 y2 y3 y4 y5 y6 => ?_⟩
  clear hfz
  obtain ⟨rfl, rfl, rfl, rfl⟩ := y1.std
  replace y3 : n6 ≤ m3.nid := y3
  replace y4 : ∀ j, j < n6 → m3.sto j = F j := y4
  rw [← y4 0 (by omega)] at k0 g0
  rw [← y4 1 (by omega)] at k1 g1'
  replace k6 := (y4 11 (by omega)).trans k6
  have w5 := y5
  have w6 := y6
  simp only [AV.one] at w5 w6
  simp +decide (disch := first | decide | omega) only [go_sem, Nat.reduceAdd, Nat.reduceMul, Nat.reduceSub, Nat.reduceLT, Nat.reduceLeDiff, Nat.reduceEqDiff, Nat.add_assoc, Int.reduceAdd, Int.reduceSub, Int.reduceMul, Int.reduceLT, Int.reduceLE, Int.reduceEq, Int.reduceNeg, strOp_add, k0, g0, k1, g1', k6, w5, w6, true_or]
  refine (d_plan (ord := [0, 1, 2, 3, 4, 5, 6, 7, 8, 9, 10]) (prs := [(0, 2), (1, 2), (0, 8), (1, 8), (2, 8), (4, 8)]) (by kernel_rfl)).2 ?_
  simp +decide (disch := first | decide | omega) only [go_sem, Nat.reduceAdd, Nat.reduceMul, Nat.reduceSub, Nat.reduceLT, Nat.reduceLeDiff, Nat.reduceEqDiff, Nat.add_assoc, Int.reduceAdd, Int.reduceSub, Int.reduceMul, Int.reduceLT, Int.reduceLE, Int.reduceEq, Int.reduceNeg, strOp_add, k0, g0, k1, g1', k6, qa, w5, w6, true_or]
  have k3 : ∀ b ∈ B3, n6 ≤ b ∧ b < m3.nid := y2.2
  have nB3 := y2.1
  have frA : ∀ (u v : Blk) (j : Nat), j < m3.nid → upd (upd m3.sto m3.nid u) m3.nid v j = m3.sto j := fun u v j hj => by
    simp (disch := omega) only [upd_hit, upd_miss]
  have frA := frA ⟨[.int .i64 0, .str ⟨#[]⟩, .nils 6, .int .i64 0, .int .i64 0, .nils 6], 0, false, some (31, true)⟩ ⟨[.int .i64 n.kind, .str n.data, pv, .int .i64 n.size, .int .i64 n.count, iv], 0, false, some (31, true)⟩
  have k8 : upd (upd m3.sto m3.nid ⟨[.int .i64 0, .str ⟨#[]⟩, .nils 6, .int .i64 0, .int .i64 0, .nils 6], 0, false, some (31, true)⟩) m3.nid ⟨[.int .i64 n.kind, .str n.data, pv, .int .i64 n.size, .int .i64 n.count, iv], 0, false, some (31, true)⟩ m3.nid = ⟨[.int .i64 n.kind, .str n.data, pv, .int .i64 n.size, .int .i64 n.count, iv], 0, false, some (31, true)⟩ := upd_hit _ _ _
  generalize upd (upd m3.sto m3.nid ⟨[.int .i64 0, .str ⟨#[]⟩, .nils 6, .int .i64 0, .int .i64 0, .nils 6], 0, false, some (31, true)⟩) m3.nid ⟨[.int .i64 n.kind, .str n.data, pv, .int .i64 n.size, .int .i64 n.count, iv], 0, false, some (31, true)⟩ = S3 at *
  rw [← frA 0 (by omega)] at k0 g0
  rw [← frA 1 (by omega)] at k1 g1'
  replace k6 := (frA 11 (by omega)).trans k6
  replace y1 : ONod ⟨S3, m3.nid + 12⟩ n [.int .i64 n.kind, .str n.data, pv, .int .i64 n.size, .int .i64 n.count, iv] B3 := y1.keep _ fun b hb => frA b (k3 b hb).2
  clear frA y2 y4 y5 y6
  generalize m3.nid = n8 at *
  have hids : reachL ⟨S3, n8 + 12⟩ 2097152 (accA x0 x1 x2 x3 x4 x5 x6) ++ (reachL ⟨S3, n8 + 12⟩ 2097152 (.agg [.int .i64 n.kind, .str n.data, pv, .int .i64 n.size, .int .i64 n.count, iv]) ++ reachL ⟨S3, n8 + 12⟩ 2097152 (.int .i64 v)) = B3 := by rw [reach_acc, reach_agg hdn y1]; exact List.append_nil _
  have hfz : ¬n8 + 9 = n8 ∧ (!(reachL ⟨S3, n8 + 12⟩ 2097152 (accA x0 x1 x2 x3 x4 x5 x6) ++ (reachL ⟨S3, n8 + 12⟩ 2097152 (.agg [.int .i64 n.kind, .str n.data, pv, .int .i64 n.size, .int .i64 n.count, iv]) ++ reachL ⟨S3, n8 + 12⟩ 2097152 (.int .i64 v))).contains (n8 + 9)) = true := by
    rw [hids]
    exact ⟨by omega, (froz_free (fun x hx => hx) k3 (.inr (by omega))).2⟩
  refine AccessPut_far x0 x1 x2 x3 x4 x5 x6 v n hsn hz hdn w ok hr y1 (fun b hb => by show b < n8 + 12; have := k3 b hb; omega) hids fun qv jv m4 B4 J u5 u6 n4 hJ j4 z1 z2 => ?_
  replace n4 : n8 + 12 ≤ m4.nid := n4
  replace j4 : ∀ j, j < n8 + 12 → J j = S3 j := j4
  have k4 : ∀ b ∈ B4, n8 + 12 ≤ b ∧ b < m4.nid := z2.2
  have nB4 := z2.1
  rw [← j4 0 (by omega)] at k0 g0
  rw [← j4 1 (by omega)] at k1 g1'
  replace k6 := (j4 11 (by omega)).trans k6
  replace k8 := (j4 n8 (by omega)).trans k8
  replace y1 : ONod ⟨J, m4.nid⟩ n [.int .i64 n.kind, .str n.data, pv, .int .i64 n.size, .int .i64 n.count, iv] B3 := y1.keep _ fun b hb => j4 b (by have := k3 b hb; omega)
  have v5 := u5
  have v6 := u6
  simp only [AV.one] at v5 v6
  simp +decide (disch := first | decide | omega) only [go_sem, Nat.reduceAdd, Nat.reduceMul, Nat.reduceSub, Nat.reduceLT, Nat.reduceLeDiff, Nat.reduceEqDiff, Nat.add_assoc, Int.reduceAdd, Int.reduceSub, Int.reduceMul, Int.reduceLT, Int.reduceLE, Int.reduceEq, Int.reduceNeg, strOp_add, ← hJ, k0, g0, k1, g1', k6, k8, w5, w6, v5, v6, true_or]
  refine ⟨hfz, ?_⟩
  have frB : ∀ (u v : Blk) (j : Nat), j ≠ n8 + 9 → upd (upd J (n8 + 9) u) (n8 + 9) v j = J j := fun u v j hj => by
    simp (disch := omega) only [upd_hit, upd_miss]
  have frB := frB ⟨[.int .i64 0, .str ⟨#[]⟩, .nils 6, .int .i64 0, .int .i64 0, .nils 6], 0, false, some (31, true)⟩ ⟨[.int .i64 w.kind, .str w.data, qv, .int .i64 w.size, .int .i64 w.count, jv], 0, false, some (31, true)⟩
  have k9 : upd (upd J (n8 + 9) ⟨[.int .i64 0, .str ⟨#[]⟩, .nils 6, .int .i64 0, .int .i64 0, .nils 6], 0, false, some (31, true)⟩) (n8 + 9) ⟨[.int .i64 w.kind, .str w.data, qv, .int .i64 w.size, .int .i64 w.count, jv], 0, false, some (31, true)⟩ (n8 + 9) = ⟨[.int .i64 w.kind, .str w.data, qv, .int .i64 w.size, .int .i64 w.count, jv], 0, false, some (31, true)⟩ := upd_hit _ _ _
  generalize upd (upd J (n8 + 9) ⟨[.int .i64 0, .str ⟨#[]⟩, .nils 6, .int .i64 0, .int .i64 0, .nils 6], 0, false, some (31, true)⟩) (n8 + 9) ⟨[.int .i64 w.kind, .str w.data, qv, .int .i64 w.size, .int .i64 w.count, jv], 0, false, some (31, true)⟩ = S at *
  rw [← frB 0 (by omega)] at k0 g0
  rw [← frB 1 (by omega)] at k1 g1'
  replace k6 := (frB 11 (by omega)).trans k6
  replace k8 := (frB n8 (by omega)).trans k8
  have Y1 : ∀ M : Mem, (∀ b ∈ B3, M.sto b = S b) → ONod M n [.int .i64 n.kind, .str n.data, pv, .int .i64 n.size, .int .i64 n.count, iv] B3 := fun M hM => y1.keep _ fun b hb => (hM b hb).trans (frB b (by have := k3 b hb; omega))
  have Z1 : ∀ M : Mem, (∀ b ∈ B4, M.sto b = S b) → ONod M w [.int .i64 w.kind, .str w.data, qv, .int .i64 w.size, .int .i64 w.count, jv] B4 := fun M hM => z1.keep _ fun b hb => (hM b hb).trans (frB b (by have := k4 b hb; omega))
  clear y1 z1 z2 u5 u6 frB j4 hJ hfz hids
  generalize m4.nid = n10 at *
  rw [snap_np (Z1 ⟨S, n10⟩ fun b hb => rfl) hwd, snap_ni (Z1 ⟨S, n10⟩ fun b hb => rfl) hwd]
  simp +decide (disch := first | decide | omega) only [go_sem, Nat.reduceAdd, Nat.reduceMul, Nat.reduceSub, Nat.reduceLT, Nat.reduceLeDiff, Nat.reduceEqDiff, Nat.add_assoc, Int.reduceAdd, Int.reduceSub, Int.reduceMul, Int.reduceLT, Int.reduceLE, Int.reduceEq, Int.reduceNeg, strOp_add, hselfw, k0, g0, k1, g1', k6, k8, k9, w5, w6, v5, v6, true_or]
  refine (d_plan (ord := [0, 1, 2, 3, 4]) (prs := [(0, 1), (0, 2)]) (by kernel_rfl)).2 ?_
  simp +decide (disch := first | decide | omega) only [go_sem, Nat.reduceAdd, Nat.reduceMul, Nat.reduceSub, Nat.reduceLT, Nat.reduceLeDiff, Nat.reduceEqDiff, Nat.add_assoc, Int.reduceAdd, Int.reduceSub, Int.reduceMul, Int.reduceLT, Int.reduceLE, Int.reduceEq, Int.reduceNeg, strOp_add, k0, g0, k1, g1', k6, k8, k9, w5, w6, v5, v6, true_or]
  refine toNode_far n hsn fun lw nw m6 B6 J6 n11 hJ j6 a1 a2 a5 a6 => ?_
  replace n11 : n10 + 5 ≤ m6.nid := n11
  replace j6 : ∀ j, j < n10 + 5 → J6 j = S j := j6
  simp only [AV.one] at a5 a6
  simp +decide (disch := first | decide | omega) only [go_sem, Nat.reduceAdd, Nat.reduceMul, Nat.reduceSub, Nat.reduceLT, Nat.reduceLeDiff, Nat.reduceEqDiff, Nat.add_assoc, Int.reduceAdd, Int.reduceSub, Int.reduceMul, Int.reduceLT, Int.reduceLE, Int.reduceEq, Int.reduceNeg, strOp_add, ← hJ, w5, w6, v5, v6, a5, a6, true_or]
  have Y1' := Y1 ⟨J6, m6.nid⟩ fun b hb => j6 b (by have := k3 b hb; omega)
  have Z1' := Z1 ⟨J6, m6.nid⟩ fun b hb => j6 b (by have := k4 b hb; omega)
  rw [← j6 0 (by omega)] at k0 g0
  rw [← j6 1 (by omega)] at k1 g1'
  replace k6 := (j6 11 (by omega)).trans k6
  replace k8 := (j6 n8 (by omega)).trans k8
  replace k9 := (j6 (n8 + 9) (by omega)).trans k9
  rw [snap_np Y1' hdn, snap_ni Y1' hdn, snap_np a1 hdn, snap_ni a1 hdn]
  clear Y1 Z1 a1 a2 a5 a6 j6 hJ
  have hN : n8 + 12 ≤ m6.nid := by omega
  replace k4 : ∀ b ∈ B4, n8 + 12 ≤ b ∧ b < m6.nid := fun b hb => by have := k4 b hb; omega
  generalize m6.nid = n12 at *
  clear n11
  simp +decide (disch := first | decide | omega) only [go_sem, Nat.reduceAdd, Nat.reduceMul, Nat.reduceSub, Nat.reduceLT, Nat.reduceLeDiff, Nat.reduceEqDiff, Nat.add_assoc, Int.reduceAdd, Int.reduceSub, Int.reduceMul, Int.reduceLT, Int.reduceLE, Int.reduceEq, Int.reduceNeg, strOp_add, hselfn, k0, g0, k1, g1', k6, k8, k9, w5, w6, v5, v6, true_or]
  have hcn1 : cntL n.ptrs + cntL n.items ≤ 4194308 := by
    have h8 : cnt n = 4 + cntL n.ptrs + cntL n.items := by cases n; rw [cnt_mk]; rfl
    omega
  refine markNode_wp n hsn 1 (Nat.le_refl _) (by omega) _ _ pv _ _ iv B3 _ Y1' nB3 (fun b hb => by show b < n12; have := k3 b hb; omega) _ fun m7 e1 e2 e3 => ?_
  replace e2 : n12 ≤ m7.nid := e2
  replace e3 : ∀ j, j < n12 → j ∉ B3 → m7.sto j = J6 j := e3
  have D1 : ∀ j, j < n6 ∨ n8 ≤ j → j ∉ B3 := fun j hj h => by have := k3 j h; omega
  rw [← e3 0 (by omega) (D1 _ (by omega))] at k0 g0
  rw [← e3 1 (by omega) (D1 _ (by omega))] at k1 g1'
  replace k6 := (e3 11 (by omega) (D1 _ (by omega))).trans k6
  replace k9 := (e3 (n8 + 9) (by omega) (D1 _ (by omega))).trans k9
  replace Z1' := Z1'.keep (M' := m7) _ fun b hb => e3 b (by have := k4 b hb; omega) (D1 _ (by have := k4 b hb; omega))
  replace hN : n8 + 12 ≤ m7.nid := by omega
  replace k4 : ∀ b ∈ B4, n8 + 12 ≤ b ∧ b < m7.nid := fun b hb => by have := k4 b hb; omega
  clear e1 e2 e3 D1 Y1' k8
  generalize hc1 : 1 + (cntL n.ptrs + cntL n.items) = c1 at *
  have hc1n : ((c1 : Int) < 0) = False := eq_false (by omega)
  simp +decide (disch := first | decide | omega) only [go_sem, Nat.reduceAdd, Nat.reduceMul, Nat.reduceSub, Nat.reduceLT, Nat.reduceLeDiff, Nat.reduceEqDiff, Nat.add_assoc, Int.reduceAdd, Int.reduceSub, Int.reduceMul, Int.reduceLT, Int.reduceLE, Int.reduceEq, Int.reduceNeg, strOp_add, hc1n, k0, g0, k1, g1', k6, k9, v5, v6, true_or]
  rw [snap_np (Z1'.keep (M' := ⟨m7.sto, m7.nid⟩) _ fun b hb => rfl) hwd, snap_ni (Z1'.keep (M' := ⟨m7.sto, m7.nid⟩) _ fun b hb => rfl) hwd]
  simp +decide (disch := first | decide | omega) only [go_sem, Nat.reduceAdd, Nat.reduceMul, Nat.reduceSub, Nat.reduceLT, Nat.reduceLeDiff, Nat.reduceEqDiff, Nat.add_assoc, Int.reduceAdd, Int.reduceSub, Int.reduceMul, Int.reduceLT, Int.reduceLE, Int.reduceEq, Int.reduceNeg, strOp_add, hselfw, hc1n, k0, g0, k1, g1', k6, k9, v5, v6, true_or]
  have hcw1 : cntL w.ptrs + cntL w.items ≤ 4194308 := by
    have h8 : cnt w = 4 + cntL w.ptrs + cntL w.items := by cases w; rw [cnt_mk]; rfl
    omega
  refine markNode_wp w hws 1 (Nat.le_refl _) (by omega) _ _ qv _ _ jv B4 _ (Z1'.keep _ fun b hb => rfl) nB4 (fun b hb => (k4 b hb).2) _ fun m8 e1 e2 e3 => ?_
  replace e2 : m7.nid ≤ m8.nid := e2
  replace e3 : ∀ j, j < m7.nid → j ∉ B4 → m8.sto j = m7.sto j := e3
  have D1 : ∀ j, j < n8 + 12 → j ∉ B4 := fun j hj h => by have := k4 j h; omega
  rw [← e3 0 (by omega) (D1 _ (by omega))] at k0 g0
  rw [← e3 1 (by omega) (D1 _ (by omega))] at k1 g1'
  replace k6 := (e3 11 (by omega) (D1 _ (by omega))).trans k6
  replace k9 := (e3 (n8 + 9) (by omega) (D1 _ (by omega))).trans k9
  have hheld := heldNode_eq w hws 1 (Nat.le_refl _) (by omega)
  rw [nav_eta, mkN_kind, mkN_data, mkN_size, mkN_count, show ((1 : Nat) : Int) = 1 from rfl] at hheld
  have hgd2 : ndep (mkN 1 w) ≤ 2000000 := by rw [ndep_mkN]; exact hwd
  have E1 : ∀ M : Mem, (∀ b ∈ B4, M.sto b = m8.sto b) → snapD M 2097151 qv = some (.slice 6 ((mkN 1 w).ptrs.map Nod.av)) ∧ snapD M 2097151 jv = some (.slice 6 ((mkN 1 w).items.map Nod.av)) := fun M hM =>
    ⟨snap_np (e1.keep _ hM) hgd2, snap_ni (e1.keep _ hM) hgd2⟩
  replace hN : n8 + 12 ≤ m8.nid := by omega
  replace k4 : ∀ b ∈ B4, n8 + 12 ≤ b ∧ b < m8.nid := fun b hb => by have := k4 b hb; omega
  clear e1 e2 e3 Z1' D1
  generalize (mkN 1 w).ptrs.map Nod.av = ml at *
  generalize (mkN 1 w).items.map Nod.av = mn at *
  generalize hc3 : 1 + (cntL w.ptrs + cntL w.items) = c3 at *
  have hc3n : ((c3 : Int) < 0) = False := eq_false (by omega)
  simp +decide (disch := first | decide | omega) only [go_sem, Nat.reduceAdd, Nat.reduceMul, Nat.reduceSub, Nat.reduceLT, Nat.reduceLeDiff, Nat.reduceEqDiff, Nat.add_assoc, Int.reduceAdd, Int.reduceSub, Int.reduceMul, Int.reduceLT, Int.reduceLE, Int.reduceEq, Int.reduceNeg, strOp_add, k0, g0, k1, g1', k6, k9, v5, v6, true_or]
  rw [(E1 ⟨m8.sto, m8.nid⟩ fun b hb => rfl).1, (E1 ⟨m8.sto, m8.nid⟩ fun b hb => rfl).2]
  simp +decide (disch := first | decide | omega) only [go_sem, Nat.reduceAdd, Nat.reduceMul, Nat.reduceSub, Nat.reduceLT, Nat.reduceLeDiff, Nat.reduceEqDiff, Nat.add_assoc, Int.reduceAdd, Int.reduceSub, Int.reduceMul, Int.reduceLT, Int.reduceLE, Int.reduceEq, Int.reduceNeg, strOp_add, hheld, hc3n, k0, g0, k1, g1', k6, k9, v5, v6, true_or]
  refine (d_plan (ord := [0, 1, 2, 3, 4, 5, 6, 7, 8, 9, 10, 11]) (prs := [(0, 2), (1, 2), (0, 9), (1, 9), (2, 9), (3, 9), (5, 9)]) (by kernel_rfl)).2 ?_
  simp +decide (disch := first | decide | omega) only [go_sem, Nat.reduceAdd, Nat.reduceMul, Nat.reduceSub, Nat.reduceLT, Nat.reduceLeDiff, Nat.reduceEqDiff, Nat.add_assoc, Int.reduceAdd, Int.reduceSub, Int.reduceMul, Int.reduceLT, Int.reduceLE, Int.reduceEq, Int.reduceNeg, strOp_add, k0, g0, k1, g1', k6, k9, qa, v5, v6, true_or]
  refine toNode_far n hsn fun lw nw m9 B9 J9 n9 hJ9 j9 a1 a2 a5 a6 => ?_
  replace n9 : m8.nid + 12 ≤ m9.nid := n9
  replace j9 : ∀ j, j < m8.nid + 12 → J9 j = m8.sto j := j9
  have k7 : ∀ b ∈ B9, m8.nid + 12 ≤ b ∧ b < m9.nid := a2.2
  simp only [AV.one] at a5 a6
  replace k6 := (j9 11 (by omega)).trans k6
  replace k9 := (j9 (n8 + 9) (by omega)).trans k9
  simp +decide (disch := first | decide | omega) only [go_sem, Nat.reduceAdd, Nat.reduceMul, Nat.reduceSub, Nat.reduceLT, Nat.reduceLeDiff, Nat.reduceEqDiff, Nat.add_assoc, Int.reduceAdd, Int.reduceSub, Int.reduceMul, Int.reduceLT, Int.reduceLE, Int.reduceEq, Int.reduceNeg, strOp_add, ← hJ9, k6, k9, v5, v6, a5, a6, true_or]
  have hids : reachL ⟨J9, m9.nid⟩ 2097152 (accA x0 x1 x2 x3 x4 x5 x6) ++ (reachL ⟨J9, m9.nid⟩ 2097152 (.agg [.int .i64 n.kind, .str n.data, lw, .int .i64 n.size, .int .i64 n.count, nw]) ++ reachL ⟨J9, m9.nid⟩ 2097152 (.int .i64 v)) = B9 := by rw [reach_acc, reach_agg hdn a1]; exact List.append_nil _
  have hfz : (!(reachL ⟨J9, m9.nid⟩ 2097152 (accA x0 x1 x2 x3 x4 x5 x6) ++ (reachL ⟨J9, m9.nid⟩ 2097152 (.agg [.int .i64 n.kind, .str n.data, lw, .int .i64 n.size, .int .i64 n.count, nw]) ++ reachL ⟨J9, m9.nid⟩ 2097152 (.int .i64 v))).contains (m8.nid + 9)) = true := by
    rw [hids]
    exact (froz_free (fun x hx => hx) k7 (.inl (by omega))).2
  refine AccessPut_far x0 x1 x2 x3 x4 x5 x6 v n hsn hz hdn w ok hr a1 (fun b hb => (k7 b hb).2) hids fun rv sv m10 B10 J10 u5 u6 n10 hJ10 j10 z1 z2 => ?_
  replace n10 : m9.nid ≤ m10.nid := n10
  replace j10 : ∀ j, j < m9.nid → J10 j = J9 j := j10
  have k10 : ∀ b ∈ B10, m9.nid ≤ b ∧ b < m10.nid := z2.2
  have v7 := u5
  have v8 := u6
  simp only [AV.one] at v7 v8
  replace k6 := (j10 11 (by omega)).trans k6
  replace k9 := (j10 (n8 + 9) (by omega)).trans k9
  simp +decide (disch := first | decide | omega) only [go_sem, Nat.reduceAdd, Nat.reduceMul, Nat.reduceSub, Nat.reduceLT, Nat.reduceLeDiff, Nat.reduceEqDiff, Nat.add_assoc, Int.reduceAdd, Int.reduceSub, Int.reduceMul, Int.reduceLT, Int.reduceLE, Int.reduceEq, Int.reduceNeg, strOp_add, ← hJ10, k6, k9, v5, v6, v7, v8, true_or]
  refine ⟨⟨hfz, by omega⟩, ?_⟩
  have frC : ∀ (u v : Blk) (j : Nat), j ≠ m8.nid + 9 → upd (upd J10 (m8.nid + 9) u) (m8.nid + 9) v j = J10 j := fun u v j hj => by
    simp (disch := omega) only [upd_hit, upd_miss]
  have frC := frC ⟨[.int .i64 0, .str ⟨#[]⟩, .nils 6, .int .i64 0, .int .i64 0, .nils 6], 0, false, some (31, true)⟩ ⟨[.int .i64 w.kind, .str w.data, rv, .int .i64 w.size, .int .i64 w.count, sv], 0, false, some (31, true)⟩
  have k14 : upd (upd J10 (m8.nid + 9) ⟨[.int .i64 0, .str ⟨#[]⟩, .nils 6, .int .i64 0, .int .i64 0, .nils 6], 0, false, some (31, true)⟩) (m8.nid + 9) ⟨[.int .i64 w.kind, .str w.data, rv, .int .i64 w.size, .int .i64 w.count, sv], 0, false, some (31, true)⟩ (m8.nid + 9) = ⟨[.int .i64 w.kind, .str w.data, rv, .int .i64 w.size, .int .i64 w.count, sv], 0, false, some (31, true)⟩ := upd_hit _ _ _
  generalize upd (upd J10 (m8.nid + 9) ⟨[.int .i64 0, .str ⟨#[]⟩, .nils 6, .int .i64 0, .int .i64 0, .nils 6], 0, false, some (31, true)⟩) (m8.nid + 9) ⟨[.int .i64 w.kind, .str w.data, rv, .int .i64 w.size, .int .i64 w.count, sv], 0, false, some (31, true)⟩ = S10 at *
  replace k6 := (frC 11 (by omega)).trans k6
  replace k9 := (frC (n8 + 9) (by omega)).trans k9
  have Z2 : ONod ⟨S10, m10.nid⟩ w [.int .i64 w.kind, .str w.data, rv, .int .i64 w.size, .int .i64 w.count, sv] B10 := z1.keep _ fun b hb => frC b (by have := k10 b hb; omega)
  have E2 := E1 ⟨S10, m10.nid⟩ fun b hb => (frC b (by have := k4 b hb; omega)).trans ((j10 b (by have := k4 b hb; omega)).trans (j9 b (by have := k4 b hb; omega)))
  rw [snap_np Z2 hwd, snap_ni Z2 hwd]
  simp +decide (disch := first | decide | omega) only [go_sem, Nat.reduceAdd, Nat.reduceMul, Nat.reduceSub, Nat.reduceLT, Nat.reduceLeDiff, Nat.reduceEqDiff, Nat.add_assoc, Int.reduceAdd, Int.reduceSub, Int.reduceMul, Int.reduceLT, Int.reduceLE, Int.reduceEq, Int.reduceNeg, strOp_add, hselfw, k6, k9, k14, v5, v6, v7, v8, true_or]
  rw [E2.1, E2.2]
  simp +decide (disch := first | decide | omega) only [go_sem, Nat.reduceAdd, Nat.reduceMul, Nat.reduceSub, Nat.reduceLT, Nat.reduceLeDiff, Nat.reduceEqDiff, Nat.add_assoc, Int.reduceAdd, Int.reduceSub, Int.reduceMul, Int.reduceLT, Int.reduceLE, Int.reduceEq, Int.reduceNeg, strOp_add, hheld, hc3n, true_or]
end Go.Ev.Tryd
