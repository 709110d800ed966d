/- Part of the proof of a statement about the given program: V16F. No condition of its own. -/
import Derived.Test.YtjjebjackjeneaaDoorV15F
import Derived.Test.YtjjebjackjeneaaDoorV10F
namespace Go.Ev.Tryd
open Go.Proofs
set_option maxRecDepth 10000
set_option linter.unusedSimpArgs false
set_option linter.unusedVariables false
attribute [local congr] comes_congr bB_congr gK_congr gdK_congr

theorem snap_p {M : Mem} {ps : List (List ByteArray)} {v : AV} {B : List Nat} (h : OPs M ps v B) : snapD M 2097152 v = some (.slice 1 (ps.map strsA)) := snap_ps h 2097149
set_option maxHeartbeats 8000000 in
theorem law_FnExactPathAll (d : Dat) (hd : d.Wide) : fnA CC PR 4 [d.av] = some (.bool true) := by
  apply comes_eq.1
  have q1 := szDatum_eq d hd 1048576 (Nat.le_refl _)
  rw [show (((1048576 : Nat) : Int)) = 1048576 from rfl] at q1
  rw [av_eta] at q1 ⊢
  by_cases h1 : szD d ≤ 1048576
  case neg =>
    rw [lft_no h1] at q1
    refine fnA_wp (rs := [.tmp 2]) Tryd.func4 rfl rfl (Nat.le_of_ble_eq_true rfl) rfl ?_
    simp +decide (disch := first | decide | omega) only [go_sem, Nat.reduceAdd, Nat.reduceMul, Nat.reduceSub, Nat.reduceLT, Nat.reduceLeDiff, Nat.reduceEqDiff, Nat.add_assoc, Int.reduceAdd, Int.reduceSub, Int.reduceMul, Int.reduceLT, Int.reduceLE, Int.reduceEq, Int.reduceNeg, strOp_add, q1]
  rw [lft_le h1] at q1
  have hsane := hd.sane _ h1
  have hdep : dep d ≤ 2000000 := by have := dep_le d; omega
  have hspec := specPathAll_eq d hsane
  generalize hb1 : 1048576 - szD d = z1 at *
  have z1n : ((z1 : Int) < 0) = False := eq_false (by omega)
  obtain ⟨hpl, hpp⟩ := pathAll_fine d
  have hselfd := eqDatum_self _ hsane
  have hselfp := eqPaths_self (pathAll d) (by omega) (fun p hp => by have := hpp p hp; omega)
  have hcp := cntP_few 8 (pathAll d) hpp
  have hheld := heldPaths_eq (pathAll d) (by omega) 1 (Nat.le_refl _) (by omega)
  rw [show ((1 : Nat) : Int) = 1 from rfl] at hheld
  have htD := toDatum_wp d hsane
  have hPA := PathAllM_wp d hsane hdep
  have hmP := markPaths_wp (pathAll d) (by omega) (fun p hp => by have := hpp p hp; omega) 1 (Nat.le_refl _) (by omega)
  rw [av_eta d] at hspec hselfd htD
  generalize hc3 : 1 + cntP (pathAll d) = c3 at *
  have hc3n : ((c3 : Int) < 0) = False := eq_false (by omega)
  clear hpp hpl hcp
  generalize hps : pathAll d = ps at *
  unfold pathsA at hspec hselfp hheld
  refine fnA_wp (rs := [.tmp 2]) Tryd.func4 rfl rfl (Nat.le_of_ble_eq_true rfl) rfl ?_
  simp +decide (disch := first | decide | omega) only [go_sem, Nat.reduceAdd, Nat.reduceMul, Nat.reduceSub, Nat.reduceLT, Nat.reduceLeDiff, Nat.reduceEqDiff, Nat.add_assoc, Int.reduceAdd, Int.reduceSub, Int.reduceMul, Int.reduceLT, Int.reduceLE, Int.reduceEq, Int.reduceNeg, strOp_add, q1, z1n]
  refine htD _ _ fun k n t lv nv m1 B1 y1 y2 y3 y4 y5 y6 => ?_
  obtain ⟨rfl, rfl, rfl⟩ := y1.std
  have w5 := y5
  have w6 := y6
  simp only [AV.one] at w5 w6
  have t0 := y4 0 (by show 0 < 1; decide)
  have y3' : 1 ≤ m1.nid := y3
  simp +decide (disch := first | decide | omega) only [go_sem, Nat.reduceAdd, Nat.reduceMul, Nat.reduceSub, Nat.reduceLT, Nat.reduceLeDiff, Nat.reduceEqDiff, Nat.add_assoc, Int.reduceAdd, Int.reduceSub, Int.reduceMul, Int.reduceLT, Int.reduceLE, Int.reduceEq, Int.reduceNeg, strOp_add, t0, w5, w6, true_or]
  rw [snap_dl y1 hdep, snap_dn y1]
  simp +decide (disch := first | decide | omega) only [go_sem, Nat.reduceAdd, Nat.reduceMul, Nat.reduceSub, Nat.reduceLT, Nat.reduceLeDiff, Nat.reduceEqDiff, Nat.add_assoc, Int.reduceAdd, Int.reduceSub, Int.reduceMul, Int.reduceLT, Int.reduceLE, Int.reduceEq, Int.reduceNeg, strOp_add, hspec, t0, w5, w6, updL_frz_t]
  generalize reachD m1 2097151 lv ++ reachD m1 2097151 nv = ids
  have c0 : (frz m1.sto ids 0).cells = [.int .i64 d.kind, .int .i64 d.num, .str d.text, .slice 5 (d.list.map Dat.av), .slice 1 (d.names.map AV.str)] := by rw [frz_cells, t0]; rfl
  have g0 : (frz m1.sto ids 0).gen = 0 := by rw [frz_gen, t0]; rfl
  generalize hF : frz m1.sto ids = F at *
  generalize hN : m1.nid = n6 at *
  clear w5 w6 y1 y2 y3 y4 y5 y6 t0 q1 z1n hspec hF hN
  refine htD _ _ fun k n t lv nv m3 B3 y1 y2 y3 y4 y5 y6 => ?_
  obtain ⟨rfl, rfl, rfl⟩ := y1.std
  have y3 : n6 ≤ m3.nid := y3
  have c2 : m3.sto 0 = F 0 := y4 0 (by show 0 < n6; omega)
  rw [← c2] at c0 g0
  have w5 := y5
  have w6 := y6
  simp only [AV.one] at w5 w6
  simp +decide (disch := first | decide | omega) only [go_sem, Nat.reduceAdd, Nat.reduceMul, Nat.reduceSub, Nat.reduceLT, Nat.reduceLeDiff, Nat.reduceEqDiff, Nat.add_assoc, Int.reduceAdd, Int.reduceSub, Int.reduceMul, Int.reduceLT, Int.reduceLE, Int.reduceEq, Int.reduceNeg, strOp_add, c0, g0, w5, w6, true_or]
  have k1 : ∀ b ∈ B3, n6 ≤ b ∧ b < m3.nid := y2.2
  have nB3 := y2.1
  have frA : ∀ (u v : Blk) (j : Nat), j < m3.nid → upd (upd m3.sto m3.nid u) m3.nid v j = m3.sto j := fun u v j hj => by
    simp (disch := omega) only [upd_hit, upd_miss]
  refine hPA _ _ _ lv nv B3 _ (y1.keep _ fun b hb => frA _ _ b (k1 b hb).2) (fun b hb => by show b < m3.nid + 1; have := k1 b hb; omega) _ fun pv m4 B4 r1 r2 r3 r4 => ?_
  have r3' : m3.nid + 1 ≤ m4.nid := r3
  have r4' : ∀ j, j < m3.nid → m4.sto j = m3.sto j := fun j hj => (r4 j (by show j < m3.nid + 1; omega)).trans (frA _ _ j hj)
  have c3' := (r4 m3.nid (by show m3.nid < m3.nid + 1; omega)).trans (upd_hit _ _ _)
  have k2 : ∀ b ∈ B4, m3.nid + 1 ≤ b ∧ b < m4.nid := r2.2
  have nB4 := r2.1
  have y1 := y1.keep _ fun b hb => r4' b (k1 b hb).2
  rw [← r4' 0 (by omega)] at c0 g0
  generalize hN : m3.nid = n8 at *
  obtain ⟨x5, x6⟩ := r1.one
  simp only [AV.one] at x5
  simp only [AV.loud] at x6
  clear c2 y2 y4 r2 r3 r4 r4' frA hN
  simp +decide (disch := first | decide | omega) only [go_sem, Nat.reduceAdd, Nat.reduceMul, Nat.reduceSub, Nat.reduceLT, Nat.reduceLeDiff, Nat.reduceEqDiff, Nat.add_assoc, Int.reduceAdd, Int.reduceSub, Int.reduceMul, Int.reduceLT, Int.reduceLE, Int.reduceEq, Int.reduceNeg, strOp_add, c0, g0, c3', w5, w6, x5, x6, true_or]
  rw [snap_p r1]
  simp +decide (disch := first | decide | omega) only [go_sem, Nat.reduceAdd, Nat.reduceMul, Nat.reduceSub, Nat.reduceLT, Nat.reduceLeDiff, Nat.reduceEqDiff, Nat.add_assoc, Int.reduceAdd, Int.reduceSub, Int.reduceMul, Int.reduceLT, Int.reduceLE, Int.reduceEq, Int.reduceNeg, strOp_add, hselfp, c0, g0, c3', w5, w6, x5, x6, true_or]
  refine (d_plan (ord := [0, 1, 2, 3, 4]) (prs := [(0, 1), (0, 2)]) (by kernel_rfl)).2 ?_
  simp +decide (disch := first | decide | omega) only [go_sem, Nat.reduceAdd, Nat.reduceMul, Nat.reduceSub, Nat.reduceLT, Nat.reduceLeDiff, Nat.reduceEqDiff, Nat.add_assoc, Int.reduceAdd, Int.reduceSub, Int.reduceMul, Int.reduceLT, Int.reduceLE, Int.reduceEq, Int.reduceNeg, strOp_add, c0, g0, c3', w5, w6, x5, x6, true_or]
  have hm4 : m4 = ⟨m4.sto, m4.nid⟩ := rfl
  have Y1 : ∀ M : Mem, (∀ b ∈ B3, M.sto b = m4.sto b) → ODat M d [.int .i64 d.kind, .int .i64 d.num, .str d.text, lv, nv] B3 := fun M hM => y1.keep _ hM
  have R1 : ∀ M : Mem, (∀ b ∈ B4, M.sto b = m4.sto b) → OPs M ps pv B4 := fun M hM => r1.keep hM
  clear y1 r1 hm4
  generalize m4.sto = S at *
  generalize m4.nid = n10 at *
  refine plain_far (by simp [still]) (htD _ _ fun k n t lw nw m6 B6 a1 a2 a3 a4 a5 a6 => ?_)
  obtain ⟨rfl, rfl, rfl⟩ := a1.std
  have n1 : (mask [] ⟨S, n10 + 5⟩ : Mem).nid = n10 + 5 := rfl
  rw [n1] at a2 a3 a4
  dsimp only
  have j1 : ∀ j, j < n10 + 5 → (joinM [] (n10 + 5) ⟨S, n10 + 5⟩ m6).sto j = S j := fun j hj => by
    simp only [joinM]
    rw [if_neg (by simp; omega)]
  have j2 : ∀ j, n10 + 5 ≤ j → (joinM [] (n10 + 5) ⟨S, n10 + 5⟩ m6).sto j = m6.sto j := fun j hj => by
    simp only [joinM]
    rw [if_pos (by simp; omega)]
  generalize hJ : (joinM [] (n10 + 5) ⟨S, n10 + 5⟩ m6).sto = J at *
  have u5 := a5
  have u6 := a6
  simp only [AV.one] at u5 u6
  simp +decide (disch := first | decide | omega) only [go_sem, Nat.reduceAdd, Nat.reduceMul, Nat.reduceSub, Nat.reduceLT, Nat.reduceLeDiff, Nat.reduceEqDiff, Nat.add_assoc, Int.reduceAdd, Int.reduceSub, Int.reduceMul, Int.reduceLT, Int.reduceLE, Int.reduceEq, Int.reduceNeg, strOp_add, hJ, w5, w6, x5, x6, u5, u6, true_or]
  have a2' : ∀ b ∈ B6, n10 + 5 ≤ b := fun b hb => (a2.2 b hb).1
  have A1 : ODat ⟨J, m6.nid⟩ d [.int .i64 d.kind, .int .i64 d.num, .str d.text, lw, nw] B6 := a1.keep _ fun b hb => j2 b (a2' b hb)
  have Y1' := Y1 ⟨J, m6.nid⟩ fun b hb => j1 b (by have := k1 b hb; omega)
  have R1' := R1 ⟨J, m6.nid⟩ fun b hb => j1 b (by have := k2 b hb; omega)
  replace c3' := (j1 n8 (by omega)).trans c3'
  rw [← j1 0 (by omega)] at c0 g0
  have hN11 : n10 + 5 ≤ m6.nid := a3
  rw [snap_dl Y1' hdep, snap_dn Y1', snap_dl A1 hdep, snap_dn A1]
  clear Y1 R1 A1 a1 a2 a3 a4 a5 a6 a2' j1 j2 u5 u6 hJ n1
  generalize m6.nid = n11 at *
  simp +decide (disch := first | decide | omega) only [go_sem, Nat.reduceAdd, Nat.reduceMul, Nat.reduceSub, Nat.reduceLT, Nat.reduceLeDiff, Nat.reduceEqDiff, Nat.add_assoc, Int.reduceAdd, Int.reduceSub, Int.reduceMul, Int.reduceLT, Int.reduceLE, Int.reduceEq, Int.reduceNeg, strOp_add, hselfd, c0, g0, c3', w5, w6, x5, x6, true_or]
  have hcd2 : cnt d ≤ 3145731 := by have h9 := cnt_le d; omega
  have hcd : cntL d.list + d.names.length ≤ 3145731 := by
    have h8 : cnt d = 3 + cntL d.list + d.names.length := by cases d; rw [cnt_mk]; rfl
    omega
  refine markDatum_wp d hsane 1 (Nat.le_refl _) (by omega) _ _ _ lv nv B3 _ (Y1'.keep _ fun b hb => rfl) nB3 (fun b hb => by show b < n11; have := k1 b hb; omega) _ fun m8 e1 e2 e3 => ?_
  have e2' : n11 ≤ m8.nid := e2
  have e3' : ∀ j, j < n11 → j ∉ B3 → m8.sto j = J j := e3
  have D1 : ∀ j, j < n6 ∨ n8 ≤ j → j ∉ B3 := fun j hj h => by have := k1 j h; omega
  replace c3' := (e3' n8 (by omega) (D1 _ (by omega))).trans c3'
  rw [← e3' 0 (by omega) (D1 _ (by omega))] at c0 g0
  replace R1' := R1'.keep (M' := m8) fun b hb => e3' b (by have := k2 b hb; omega) (D1 _ (by have := k2 b hb; omega))
  have hN12 : n10 + 5 ≤ m8.nid := by omega
  clear e1 e2 e3 e2' e3' Y1'
  generalize hc1 : 1 + (cntL d.list + d.names.length) = c1 at *
  have hc1n : ((c1 : Int) < 0) = False := eq_false (by omega)
  simp +decide (disch := first | decide | omega) only [go_sem, Nat.reduceAdd, Nat.reduceMul, Nat.reduceSub, Nat.reduceLT, Nat.reduceLeDiff, Nat.reduceEqDiff, Nat.add_assoc, Int.reduceAdd, Int.reduceSub, Int.reduceMul, Int.reduceLT, Int.reduceLE, Int.reduceEq, Int.reduceNeg, strOp_add, hc1n, c0, g0, c3', w5, w6, x5, x6, true_or]
  rw [snap_p (R1'.keep fun b hb => rfl)]
  simp +decide (disch := first | decide | omega) only [go_sem, Nat.reduceAdd, Nat.reduceMul, Nat.reduceSub, Nat.reduceLT, Nat.reduceLeDiff, Nat.reduceEqDiff, Nat.add_assoc, Int.reduceAdd, Int.reduceSub, Int.reduceMul, Int.reduceLT, Int.reduceLE, Int.reduceEq, Int.reduceNeg, strOp_add, hselfp, c0, g0, c3', w5, w6, x5, x6, true_or]
  refine hmP pv B4 _ (R1'.keep fun b hb => rfl) nB4 (fun b hb => by show b < m8.nid; have := k2 b hb; omega) _ fun m9 e1 e2 e3 => ?_
  have e2' : m8.nid ≤ m9.nid := e2
  have e3' : ∀ j, j < m8.nid → j ∉ B4 → m9.sto j = m8.sto j := e3
  have D2 : ∀ j, j < n8 + 1 ∨ n10 ≤ j → j ∉ B4 := fun j hj h => by have := k2 j h; omega
  have hn8 : n6 ≤ n8 := y3
  rw [← e3' 0 (by omega) (D2 _ (by omega))] at c0 g0
  have hN13 : n10 + 5 ≤ m9.nid := by omega
  have E1 : ∀ M : Mem, (∀ b ∈ B4, M.sto b = m9.sto b) → snapD M 2097152 pv = some (.slice 1 ((mkP 1 ps).map strsA)) := fun M hM => snap_p (e1.keep hM)
  clear e1 e2 e3 e2' e3' R1'
  generalize (mkP 1 ps).map strsA = mm at *
  simp +decide (disch := first | decide | omega) only [go_sem, Nat.reduceAdd, Nat.reduceMul, Nat.reduceSub, Nat.reduceLT, Nat.reduceLeDiff, Nat.reduceEqDiff, Nat.add_assoc, Int.reduceAdd, Int.reduceSub, Int.reduceMul, Int.reduceLT, Int.reduceLE, Int.reduceEq, Int.reduceNeg, strOp_add, hc3n, c0, g0, w5, w6, x5, x6, true_or]
  rw [E1 ⟨m9.sto, m9.nid⟩ fun b hb => rfl]
  simp +decide (disch := first | decide | omega) only [go_sem, Nat.reduceAdd, Nat.reduceMul, Nat.reduceSub, Nat.reduceLT, Nat.reduceLeDiff, Nat.reduceEqDiff, Nat.add_assoc, Int.reduceAdd, Int.reduceSub, Int.reduceMul, Int.reduceLT, Int.reduceLE, Int.reduceEq, Int.reduceNeg, strOp_add, hheld, hc3n, c0, g0, w5, w6, x5, x6, true_or]
  -- once more
  refine htD _ _ fun k n t lw nw m11 B11 a1 a2 a3 a4 a5 a6 => ?_
  obtain ⟨rfl, rfl, rfl⟩ := a1.std
  have a3' : m9.nid ≤ m11.nid := a3
  have a4' : ∀ j, j < m9.nid → m11.sto j = m9.sto j := a4
  have k4 : ∀ b ∈ B11, m9.nid ≤ b ∧ b < m11.nid := a2.2
  have u5 := a5
  have u6 := a6
  simp only [AV.one] at u5 u6
  clear a2 a3 a4
  simp +decide (disch := first | decide | omega) only [go_sem, Nat.reduceAdd, Nat.reduceMul, Nat.reduceSub, Nat.reduceLT, Nat.reduceLeDiff, Nat.reduceEqDiff, Nat.add_assoc, Int.reduceAdd, Int.reduceSub, Int.reduceMul, Int.reduceLT, Int.reduceLE, Int.reduceEq, Int.reduceNeg, strOp_add, u5, u6, true_or]
  refine hPA _ _ _ lw nw B11 _ (a1.keep _ fun b hb => rfl) (fun b hb => (k4 b hb).2) _ fun qv m13 B13 z1 z2 z3 z4 => ?_
  have z4' : ∀ j, j < m9.nid → m13.sto j = m9.sto j := fun j hj => (z4 j (by show j < m11.nid; omega)).trans (a4' j hj)
  have E2 := E1 ⟨m13.sto, m13.nid⟩ fun b hb => z4' b (by have := k2 b hb; omega)
  obtain ⟨x7, x8⟩ := z1.one
  simp only [AV.one] at x7
  simp only [AV.loud] at x8
  simp +decide (disch := first | decide | omega) only [go_sem, Nat.reduceAdd, Nat.reduceMul, Nat.reduceSub, Nat.reduceLT, Nat.reduceLeDiff, Nat.reduceEqDiff, Nat.add_assoc, Int.reduceAdd, Int.reduceSub, Int.reduceMul, Int.reduceLT, Int.reduceLE, Int.reduceEq, Int.reduceNeg, strOp_add, x5, x6, x7, x8, true_or]
  rw [snap_p (z1.keep fun b hb => rfl)]
  simp +decide (disch := first | decide | omega) only [go_sem, Nat.reduceAdd, Nat.reduceMul, Nat.reduceSub, Nat.reduceLT, Nat.reduceLeDiff, Nat.reduceEqDiff, Nat.add_assoc, Int.reduceAdd, Int.reduceSub, Int.reduceMul, Int.reduceLT, Int.reduceLE, Int.reduceEq, Int.reduceNeg, strOp_add, hselfp, x5, x6, x7, x8, true_or]
  rw [E2]
  simp +decide (disch := first | decide | omega) only [go_sem, Nat.reduceAdd, Nat.reduceMul, Nat.reduceSub, Nat.reduceLT, Nat.reduceLeDiff, Nat.reduceEqDiff, Nat.add_assoc, Int.reduceAdd, Int.reduceSub, Int.reduceMul, Int.reduceLT, Int.reduceLE, Int.reduceEq, Int.reduceNeg, strOp_add, hheld, hc3n, true_or]
end Go.Ev.Tryd
