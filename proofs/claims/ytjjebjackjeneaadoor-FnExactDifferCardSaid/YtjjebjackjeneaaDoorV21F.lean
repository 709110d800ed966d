/- Part of the proof of a statement about the given program: V21F. No condition of its own. -/
import Derived.Test.YtjjebjackjeneaaDoorV20F
import Derived.Test.YtjjebjackjeneaaDoorV10F
namespace Go.Ev.Tryd
open Go.Proofs
set_option maxRecDepth 10000
set_option linter.unusedSimpArgs false
set_option linter.unusedVariables false
attribute [local congr] comes_congr bB_congr gK_congr gdK_congr

theorem snap_p {M : Mem} {ps : List (List ByteArray)} {v : AV} {B : List Nat} (h : OPs M ps v B) : snapD M 2097152 v = some (.slice 1 (ps.map strsA)) := snap_ps h 2097149
/-- toDatum, in a drawn region. -/
theorem toDatum_far {M : Mem} (d : Dat) (hd : d.Sane) {K : Do → Prop}
    (hK : ∀ lv nv m' B J, M.nid ≤ m'.nid → J = (joinM [] M.nid M m').sto → (∀ j, j < M.nid → J j = M.sto j) → ODat ⟨J, m'.nid⟩ d [.int .i64 d.kind, .int .i64 d.num, .str d.text, lv, nv] B → Own M.nid m'.nid B → lv.one = true → nv.one = true → K (.call [] M.nid (.agg [.int .i64 d.kind, .int .i64 d.num, .str d.text, lv, nv]) m')) :
    closedB M (reachL M 2097152 (.agg [.int .i64 d.kind, .int .i64 d.num, .str d.text, .slice 5 (d.list.map Dat.av), .slice 1 (d.names.map AV.str)])) [.agg [.int .i64 d.kind, .int .i64 d.num, .str d.text, .slice 5 (d.list.map Dat.av), .slice 1 (d.names.map AV.str)]] = true ∧
      Comes (fnI CC PR 8 [.agg [.int .i64 d.kind, .int .i64 d.num, .str d.text, .slice 5 (d.list.map Dat.av), .slice 1 (d.names.map AV.str)]] (mask (reachL M 2097152 (.agg [.int .i64 d.kind, .int .i64 d.num, .str d.text, .slice 5 (d.list.map Dat.av), .slice 1 (d.names.map AV.str)])) M))
        (farK (reachL M 2097152 (.agg [.int .i64 d.kind, .int .i64 d.num, .str d.text, .slice 5 (d.list.map Dat.av), .slice 1 (d.names.map AV.str)])) M K) := by
  have ht := toDatum_wp d hd
  rw [av_eta d] at ht
  refine plain_far (by simp [still]) (ht _ _ fun k n t lv nv m' B a1 a2 a3 a4 a5 a6 => ?_)
  obtain ⟨rfl, rfl, rfl⟩ := a1.std
  refine hK lv nv m' B _ a3 rfl (fun j hj => ?_) (a1.keep _ fun b hb => ?_) a2 a5 a6
  · have hj' : ¬ M.nid ≤ j := by omega
    simp [joinM, hj']
  · have hb' : M.nid ≤ b := (a2.2 b hb).1
    simp [joinM, hb']
set_option maxHeartbeats 8000000 in
theorem law_FnExactDiffer (a b : Dat) (hd : a.Wide) (hd2 : b.Wide) : fnA CC PR 3 [a.av, b.av] = some (.bool true) := by
  apply comes_eq.1
  have q1 := szDatum_eq a hd 1048576 (Nat.le_refl _)
  rw [show (((1048576 : Nat) : Int)) = 1048576 from rfl] at q1
  rw [av_eta a] at q1
  rw [av_eta a, av_eta b]
  by_cases h1 : szD a ≤ 1048576
  case neg =>
    rw [lft_no h1] at q1
    refine fnA_wp (rs := [.tmp 4]) Tryd.func3 rfl rfl (Nat.le_of_ble_eq_true rfl) rfl ?_
    simp +decide (disch := first | decide | omega) only [go_sem, Nat.reduceAdd, Nat.reduceMul, Nat.reduceSub, Nat.reduceLT, Nat.reduceLeDiff, Nat.reduceEqDiff, Nat.add_assoc, Int.reduceAdd, Int.reduceSub, Int.reduceMul, Int.reduceLT, Int.reduceLE, Int.reduceEq, Int.reduceNeg, strOp_add, q1]
  rw [lft_le h1] at q1
  have q2 := szDatum_eq b hd2 (1048576 - szD a) (by omega)
  rw [av_eta b] at q2
  by_cases h2 : szD b ≤ 1048576 - szD a
  case neg =>
    rw [lft_no h2] at q2
    generalize 1048576 - szD a = z at *
    have z1n : ((z : Int) < 0) = False := eq_false (by omega)
    refine fnA_wp (rs := [.tmp 4]) Tryd.func3 rfl rfl (Nat.le_of_ble_eq_true rfl) rfl ?_
    simp +decide (disch := first | decide | omega) only [go_sem, Nat.reduceAdd, Nat.reduceMul, Nat.reduceSub, Nat.reduceLT, Nat.reduceLeDiff, Nat.reduceEqDiff, Nat.add_assoc, Int.reduceAdd, Int.reduceSub, Int.reduceMul, Int.reduceLT, Int.reduceLE, Int.reduceEq, Int.reduceNeg, strOp_add, q1, q2, z1n]
  rw [lft_le h2] at q2
  have hsa := hd.sane _ h1
  have hsb := hd2.sane _ (by omega)
  have hda : dep a ≤ 2000000 := by have := dep_le a; omega
  have hdb : dep b ≤ 2000000 := by have := dep_le b; omega
  have hspec := specDiffer_eq a b hsa hsb
  generalize hb : 1048576 - szD a - szD b = z2 at *
  generalize hb1 : 1048576 - szD a = z1 at *
  have z1n : ((z1 : Int) < 0) = False := eq_false (by omega)
  have z2n : ((z2 : Int) < 0) = False := eq_false (by omega)
  obtain ⟨hpl, hpp⟩ := differs_fine a b
  have hselfa := eqDatum_self _ hsa
  have hselfb := eqDatum_self _ hsb
  have hselfp := eqPaths_self (differs a b) (by omega) (fun p hp => by have := hpp p hp; omega)
  have hcp := cntP_few 8 (differs a b) hpp
  have hheld := heldPaths_eq (differs a b) (by omega) 1 (Nat.le_refl _) (by omega)
  rw [show ((1 : Nat) : Int) = 1 from rfl] at hheld
  have htA := toDatum_wp a hsa
  have htB := toDatum_wp b hsb
  have hPA := DifferM_wp a b hsa hsb hda hdb
  have hPF := @Differ_far
  have hmP := markPaths_wp (differs a b) (by omega) (fun p hp => by have := hpp p hp; omega) 1 (Nat.le_refl _) (by omega)
  rw [av_eta a, av_eta b] at hspec
  rw [av_eta a] at hselfa htA
  rw [av_eta b] at hselfb htB
  generalize hc3 : 1 + cntP (differs a b) = c3 at *
  have hc3n : ((c3 : Int) < 0) = False := eq_false (by omega)
  clear hpp hpl hcp
  unfold pathsA at hspec hselfp hheld
  clear hPF
  refine fnA_wp (rs := [.tmp 4]) Tryd.func3 rfl rfl (Nat.le_of_ble_eq_true rfl) rfl ?_
  simp +decide (disch := first | decide | omega) only [go_sem, Nat.reduceAdd, Nat.reduceMul, Nat.reduceSub, Nat.reduceLT, Nat.reduceLeDiff, Nat.reduceEqDiff, Nat.add_assoc, Int.reduceAdd, Int.reduceSub, Int.reduceMul, Int.reduceLT, Int.reduceLE, Int.reduceEq, Int.reduceNeg, strOp_add, q1, q2, z1n, z2n]
  refine (d_plan (ord := [0, 1, 2, 3, 4, 5]) (prs := [(0, 2), (1, 2)]) (by kernel_rfl)).2 ?_
  simp +decide (disch := first | decide | omega) only [go_sem, Nat.reduceAdd, Nat.reduceMul, Nat.reduceSub, Nat.reduceLT, Nat.reduceLeDiff, Nat.reduceEqDiff, Nat.add_assoc, Int.reduceAdd, Int.reduceSub, Int.reduceMul, Int.reduceLT, Int.reduceLE, Int.reduceEq, Int.reduceNeg, strOp_add]
  refine toDatum_far a hsa fun lv nv m1 B1 J1 n1 hJ1 j1 y1 y2 y5 y6 => ?_
  replace n1 : 8 ≤ m1.nid := n1
  have w5 := y5
  have w6 := y6
  simp only [AV.one] at w5 w6
  have c0 : J1 0 = ⟨[.int .i64 a.kind, .int .i64 a.num, .str a.text, .slice 5 (a.list.map Dat.av), .slice 1 (a.names.map AV.str)], 0, false, none⟩ := (j1 0 (by show 0 < 8; decide)).trans rfl
  have c1 : J1 1 = ⟨[.int .i64 b.kind, .int .i64 b.num, .str b.text, .slice 5 (b.list.map Dat.av), .slice 1 (b.names.map AV.str)], 0, false, none⟩ := (j1 1 (by show 1 < 8; decide)).trans rfl
  simp +decide (disch := first | decide | omega) only [go_sem, Nat.reduceAdd, Nat.reduceMul, Nat.reduceSub, Nat.reduceLT, Nat.reduceLeDiff, Nat.reduceEqDiff, Nat.add_assoc, Int.reduceAdd, Int.reduceSub, Int.reduceMul, Int.reduceLT, Int.reduceLE, Int.reduceEq, Int.reduceNeg, strOp_add, ← hJ1, c0, c1, w5, w6, true_or]
  refine toDatum_far b hsb fun lx nx m2 B2 J2 n2 hJ2 j2 x1 x2 x5 x6 => ?_
  replace n2 : m1.nid ≤ m2.nid := n2
  replace j2 : ∀ j, j < m1.nid → J2 j = J1 j := j2
  have w7 := x5
  have w8 := x6
  simp only [AV.one] at w7 w8
  replace c0 := (j2 0 (by omega)).trans c0
  replace c1 := (j2 1 (by omega)).trans c1
  simp +decide (disch := first | decide | omega) only [go_sem, Nat.reduceAdd, Nat.reduceMul, Nat.reduceSub, Nat.reduceLT, Nat.reduceLeDiff, Nat.reduceEqDiff, Nat.add_assoc, Int.reduceAdd, Int.reduceSub, Int.reduceMul, Int.reduceLT, Int.reduceLE, Int.reduceEq, Int.reduceNeg, strOp_add, ← hJ2, c0, c1, w5, w6, w7, w8, true_or]
  have y1' : ODat ⟨J2, m2.nid⟩ a [.int .i64 a.kind, .int .i64 a.num, .str a.text, lv, nv] B1 := y1.keep _ fun b hb => j2 b (y2.2 b hb).2
  rw [snap_dl y1' hda, snap_dn y1', snap_dl x1 hdb, snap_dn x1]
  simp +decide (disch := first | decide | omega) only [go_sem, Nat.reduceAdd, Nat.reduceMul, Nat.reduceSub, Nat.reduceLT, Nat.reduceLeDiff, Nat.reduceEqDiff, Nat.add_assoc, Int.reduceAdd, Int.reduceSub, Int.reduceMul, Int.reduceLT, Int.reduceLE, Int.reduceEq, Int.reduceNeg, strOp_add, hspec, c0, c1, w5, w6, w7, w8, updL_frz_m, true_or]
  generalize reachD ⟨J2, m2.nid⟩ 2097151 lv ++ reachD ⟨J2, m2.nid⟩ 2097151 nv ++ (reachD ⟨J2, m2.nid⟩ 2097151 lx ++ reachD ⟨J2, m2.nid⟩ 2097151 nx) = ids
  have k0 : (frz J2 ids 0).cells = [.int .i64 a.kind, .int .i64 a.num, .str a.text, .slice 5 (a.list.map Dat.av), .slice 1 (a.names.map AV.str)] := by rw [frz_cells, c0]
  have g0 : (frz J2 ids 0).gen = 0 := by rw [frz_gen, c0]
  have k1 : (frz J2 ids 1).cells = [.int .i64 b.kind, .int .i64 b.num, .str b.text, .slice 5 (b.list.map Dat.av), .slice 1 (b.names.map AV.str)] := by rw [frz_cells, c1]
  have g1 : (frz J2 ids 1).gen = 0 := by rw [frz_gen, c1]
  have hn6 : 8 ≤ m2.nid := by omega
  generalize hF : frz J2 ids = F at *
  generalize hN : m2.nid = n6 at *
  clear w5 w6 w7 w8 x1 x2 x5 x6 y1' y1 y2 y5 y6 j1 j2 hJ1 hJ2 n1 n2 c0 c1 hF hN q1 q2 z1n z2n hspec
  refine htA _ _ fun k n t lv nv m3 B3 y1 y2 y3 y4 y5 y6 => ?_
  obtain ⟨rfl, rfl, rfl⟩ := y1.std
  replace y3 : n6 ≤ m3.nid := y3
  replace y4 : ∀ j, j < n6 → m3.sto j = F j := y4
  rw [← y4 0 (by omega)] at k0 g0
  rw [← y4 1 (by omega)] at k1 g1
  have w5 := y5
  have w6 := y6
  simp only [AV.one] at w5 w6
  simp +decide (disch := first | decide | omega) only [go_sem, Nat.reduceAdd, Nat.reduceMul, Nat.reduceSub, Nat.reduceLT, Nat.reduceLeDiff, Nat.reduceEqDiff, Nat.add_assoc, Int.reduceAdd, Int.reduceSub, Int.reduceMul, Int.reduceLT, Int.reduceLE, Int.reduceEq, Int.reduceNeg, strOp_add, k0, g0, k1, g1, w5, w6, true_or]
  have p1 : ∀ b ∈ B3, n6 ≤ b ∧ b < m3.nid := y2.2
  have nB3 := y2.1
  have frA : ∀ (u v : Blk) (j : Nat), j < m3.nid → upd (upd m3.sto m3.nid u) m3.nid v j = m3.sto j := fun u v j hj => by
    simp (disch := omega) only [upd_hit, upd_miss]
  refine htB _ _ fun k n t lx nx m4 B4 r1 r2 r3 r4 r5 r6 => ?_
  obtain ⟨rfl, rfl, rfl⟩ := r1.std
  replace r3 : m3.nid + 1 ≤ m4.nid := r3
  have r4' : ∀ j, j < m3.nid → m4.sto j = m3.sto j := fun j hj => (r4 j (by show j < m3.nid + 1; omega)).trans (frA _ _ j hj)
  have c7 := (r4 m3.nid (by show m3.nid < m3.nid + 1; omega)).trans (upd_hit _ _ _)
  have p2 : ∀ b ∈ B4, m3.nid + 1 ≤ b ∧ b < m4.nid := r2.2
  have nB4 := r2.1
  replace y1 := y1.keep (M' := m4) _ fun b hb => r4' b (p1 b hb).2
  rw [← r4' 0 (by omega)] at k0 g0
  rw [← r4' 1 (by omega)] at k1 g1
  have w7 := r5
  have w8 := r6
  simp only [AV.one] at w7 w8
  clear y4 r4 r4' frA y2 r2 y5 y6 r5 r6
  generalize m3.nid = n7 at *
  simp +decide (disch := first | decide | omega) only [go_sem, Nat.reduceAdd, Nat.reduceMul, Nat.reduceSub, Nat.reduceLT, Nat.reduceLeDiff, Nat.reduceEqDiff, Nat.add_assoc, Int.reduceAdd, Int.reduceSub, Int.reduceMul, Int.reduceLT, Int.reduceLE, Int.reduceEq, Int.reduceNeg, strOp_add, k0, g0, k1, g1, c7, w5, w6, w7, w8, true_or]
  have frB : ∀ (u v : Blk) (j : Nat), j < m4.nid → upd (upd m4.sto m4.nid u) m4.nid v j = m4.sto j := fun u v j hj => by
    simp (disch := omega) only [upd_hit, upd_miss]
  refine hPA _ _ _ lv nv _ _ _ lx nx B3 B4 _ (y1.keep _ fun b hb => frB _ _ b (by have := p1 b hb; omega)) (fun b hb => by show b < m4.nid + 1; have := p1 b hb; omega) (r1.keep _ fun b hb => frB _ _ b (p2 b hb).2) (fun b hb => by show b < m4.nid + 1; have := p2 b hb; omega) _ fun pv m5 B5 e1 e2 e3 e4 => ?_
  replace e3 : m4.nid + 1 ≤ m5.nid := e3
  have e4' : ∀ j, j < m4.nid → m5.sto j = m4.sto j := fun j hj => (e4 j (by show j < m4.nid + 1; omega)).trans (frB _ _ j hj)
  have c8 := (e4 m4.nid (by show m4.nid < m4.nid + 1; omega)).trans (upd_hit _ _ _)
  have p3 : ∀ b ∈ B5, m4.nid + 1 ≤ b ∧ b < m5.nid := e2.2
  have nB5 := e2.1
  replace y1 := y1.keep (M' := m5) _ fun b hb => e4' b (by have := p1 b hb; omega)
  replace r1 := r1.keep (M' := m5) _ fun b hb => e4' b (p2 b hb).2
  replace c7 := (e4' n7 (by omega)).trans c7
  rw [← e4' 0 (by omega)] at k0 g0
  rw [← e4' 1 (by omega)] at k1 g1
  obtain ⟨x5, x6⟩ := e1.ps.one
  simp only [AV.one] at x5
  simp only [AV.loud] at x6
  clear frB e4 e4' e2
  generalize m4.nid = n8 at *
  simp +decide (disch := first | decide | omega) only [go_sem, Nat.reduceAdd, Nat.reduceMul, Nat.reduceSub, Nat.reduceLT, Nat.reduceLeDiff, Nat.reduceEqDiff, Nat.add_assoc, Int.reduceAdd, Int.reduceSub, Int.reduceMul, Int.reduceLT, Int.reduceLE, Int.reduceEq, Int.reduceNeg, strOp_add, k0, g0, k1, g1, c7, c8, w5, w6, w7, w8, x5, x6, true_or]
  rw [snap_p e1.ps]
  simp +decide (disch := first | decide | omega) only [go_sem, Nat.reduceAdd, Nat.reduceMul, Nat.reduceSub, Nat.reduceLT, Nat.reduceLeDiff, Nat.reduceEqDiff, Nat.add_assoc, Int.reduceAdd, Int.reduceSub, Int.reduceMul, Int.reduceLT, Int.reduceLE, Int.reduceEq, Int.reduceNeg, strOp_add, hselfp, k0, g0, k1, g1, c7, c8, w5, w6, w7, w8, x5, x6, true_or]
  refine (d_plan (ord := [0, 1, 2, 3, 4]) (prs := [(0, 1), (0, 2)]) (by kernel_rfl)).2 ?_
  simp +decide (disch := first | decide | omega) only [go_sem, Nat.reduceAdd, Nat.reduceMul, Nat.reduceSub, Nat.reduceLT, Nat.reduceLeDiff, Nat.reduceEqDiff, Nat.add_assoc, Int.reduceAdd, Int.reduceSub, Int.reduceMul, Int.reduceLT, Int.reduceLE, Int.reduceEq, Int.reduceNeg, strOp_add, k0, g0, k1, g1, c7, c8, w5, w6, w7, w8, x5, x6, true_or]
  refine toDatum_far a hsa fun lw nw m6 B6 J n1 hJ j1 a1 a2 a5 a6 => ?_
  replace n1 : m5.nid + 5 ≤ m6.nid := n1
  replace j1 : ∀ j, j < m5.nid + 5 → J j = m5.sto j := j1
  simp only [AV.one] at a5 a6
  simp +decide (disch := first | decide | omega) only [go_sem, Nat.reduceAdd, Nat.reduceMul, Nat.reduceSub, Nat.reduceLT, Nat.reduceLeDiff, Nat.reduceEqDiff, Nat.add_assoc, Int.reduceAdd, Int.reduceSub, Int.reduceMul, Int.reduceLT, Int.reduceLE, Int.reduceEq, Int.reduceNeg, strOp_add, ← hJ, w5, w6, w7, w8, x5, x6, a5, a6, true_or]
  have hm5 : ∀ b ∈ B5, b < m5.nid := fun b hb => (p3 b hb).2
  have y1' : ODat ⟨J, m6.nid⟩ a [.int .i64 a.kind, .int .i64 a.num, .str a.text, lv, nv] B3 := y1.keep _ fun b hb => j1 b (by have := p1 b hb; omega)
  have r1' : ODat ⟨J, m6.nid⟩ b [.int .i64 b.kind, .int .i64 b.num, .str b.text, lx, nx] B4 := r1.keep _ fun b hb => j1 b (by have := p2 b hb; omega)
  have e1' : GPs ⟨J, m6.nid⟩ (differs a b) pv B5 := e1.keep fun b hb => j1 b (by have := p3 b hb; omega)
  replace c7 := (j1 n7 (by omega)).trans c7
  replace c8 := (j1 n8 (by omega)).trans c8
  rw [← j1 0 (by omega)] at k0 g0
  rw [← j1 1 (by omega)] at k1 g1
  rw [snap_dl y1' hda, snap_dn y1', snap_dl a1 hda, snap_dn a1]
  have hN6 : n8 + 1 ≤ m6.nid := by omega
  replace p3 : ∀ b ∈ B5, n8 + 1 ≤ b ∧ b < m6.nid := fun b hb => by have := p3 b hb; omega
  clear y1 r1 e1 a1 a2 a5 a6 j1 hJ hm5
  generalize m6.nid = n9 at *
  simp +decide (disch := first | decide | omega) only [go_sem, Nat.reduceAdd, Nat.reduceMul, Nat.reduceSub, Nat.reduceLT, Nat.reduceLeDiff, Nat.reduceEqDiff, Nat.add_assoc, Int.reduceAdd, Int.reduceSub, Int.reduceMul, Int.reduceLT, Int.reduceLE, Int.reduceEq, Int.reduceNeg, strOp_add, hselfa, k0, g0, k1, g1, c7, c8, w5, w6, w7, w8, x5, x6, true_or]
  refine (d_plan (ord := [0, 1, 2, 3, 4]) (prs := [(0, 1), (0, 2)]) (by kernel_rfl)).2 ?_
  simp +decide (disch := first | decide | omega) only [go_sem, Nat.reduceAdd, Nat.reduceMul, Nat.reduceSub, Nat.reduceLT, Nat.reduceLeDiff, Nat.reduceEqDiff, Nat.add_assoc, Int.reduceAdd, Int.reduceSub, Int.reduceMul, Int.reduceLT, Int.reduceLE, Int.reduceEq, Int.reduceNeg, strOp_add, k0, g0, k1, g1, c7, c8, w5, w6, w7, w8, x5, x6, true_or]
  refine toDatum_far b hsb fun lw nw m7 B7 J7 n1 hJ j1 a1 a2 a5 a6 => ?_
  replace n1 : n9 + 5 ≤ m7.nid := n1
  replace j1 : ∀ j, j < n9 + 5 → J7 j = J j := j1
  simp only [AV.one] at a5 a6
  simp +decide (disch := first | decide | omega) only [go_sem, Nat.reduceAdd, Nat.reduceMul, Nat.reduceSub, Nat.reduceLT, Nat.reduceLeDiff, Nat.reduceEqDiff, Nat.add_assoc, Int.reduceAdd, Int.reduceSub, Int.reduceMul, Int.reduceLT, Int.reduceLE, Int.reduceEq, Int.reduceNeg, strOp_add, ← hJ, w5, w6, w7, w8, x5, x6, a5, a6, true_or]
  have y1 : ODat ⟨J7, m7.nid⟩ a [.int .i64 a.kind, .int .i64 a.num, .str a.text, lv, nv] B3 := y1'.keep _ fun b hb => j1 b (by have := p1 b hb; omega)
  have r1 : ODat ⟨J7, m7.nid⟩ b [.int .i64 b.kind, .int .i64 b.num, .str b.text, lx, nx] B4 := r1'.keep _ fun b hb => j1 b (by have := p2 b hb; omega)
  have e1 : GPs ⟨J7, m7.nid⟩ (differs a b) pv B5 := e1'.keep fun b hb => j1 b (by have := p3 b hb; omega)
  replace c7 := (j1 n7 (by omega)).trans c7
  replace c8 := (j1 n8 (by omega)).trans c8
  rw [← j1 0 (by omega)] at k0 g0
  rw [← j1 1 (by omega)] at k1 g1
  rw [snap_dl r1 hdb, snap_dn r1, snap_dl a1 hdb, snap_dn a1]
  clear y1' r1' e1' a1 a2 a5 a6 j1 hJ
  simp +decide (disch := first | decide | omega) only [go_sem, Nat.reduceAdd, Nat.reduceMul, Nat.reduceSub, Nat.reduceLT, Nat.reduceLeDiff, Nat.reduceEqDiff, Nat.add_assoc, Int.reduceAdd, Int.reduceSub, Int.reduceMul, Int.reduceLT, Int.reduceLE, Int.reduceEq, Int.reduceNeg, strOp_add, hselfb, k0, g0, k1, g1, c7, c8, w5, w6, w7, w8, x5, x6, true_or]
  have hca2 : cnt a ≤ 3145731 := by have h9 := cnt_le a; omega
  have hca : cntL a.list + a.names.length ≤ 3145731 := by
    have h8 : cnt a = 3 + cntL a.list + a.names.length := by cases a; rw [cnt_mk]; rfl
    omega
  have hcb2 : cnt b ≤ 3145731 := by have h9 := cnt_le b; omega
  have hcb : cntL b.list + b.names.length ≤ 3145731 := by
    have h8 : cnt b = 3 + cntL b.list + b.names.length := by cases b; rw [cnt_mk]; rfl
    omega
  have hN7 : n8 + 1 ≤ m7.nid := by omega
  generalize m7.nid = n10 at *
  replace p3 : ∀ b ∈ B5, n8 + 1 ≤ b ∧ b < n10 := fun b hb => by have := p3 b hb; omega
  refine markDatum_wp a hsa 1 (Nat.le_refl _) (by omega) _ _ _ lv nv B3 _ y1 nB3 (fun b hb => by show b < n10; have := p1 b hb; omega) _ fun m8 q1 q2 q3 => ?_
  replace q2 : n10 ≤ m8.nid := q2
  replace q3 : ∀ j, j < n10 → j ∉ B3 → m8.sto j = J7 j := q3
  have D1 : ∀ j, j < n6 ∨ n7 ≤ j → j ∉ B3 := fun j hj h => by have := p1 j h; omega
  have r1 := r1.keep (M' := m8) _ fun b hb => q3 b (by have := p2 b hb; omega) (D1 _ (by have := p2 b hb; omega))
  have e1 := e1.keep (M' := m8) fun b hb => q3 b (by have := p3 b hb; omega) (D1 _ (by have := p3 b hb; omega))
  replace c8 := (q3 n8 (by omega) (D1 _ (by omega))).trans c8
  rw [← q3 0 (by omega) (D1 _ (by omega))] at k0 g0
  rw [← q3 1 (by omega) (D1 _ (by omega))] at k1 g1
  have hN8 : n8 + 1 ≤ m8.nid := by omega
  replace p3 : ∀ b ∈ B5, n8 + 1 ≤ b ∧ b < m8.nid := fun b hb => by have := p3 b hb; omega
  clear q1 q2 q3 y1 D1
  generalize hc1 : 1 + (cntL a.list + a.names.length) = c1 at *
  simp +decide (disch := first | decide | omega) only [go_sem, Nat.reduceAdd, Nat.reduceMul, Nat.reduceSub, Nat.reduceLT, Nat.reduceLeDiff, Nat.reduceEqDiff, Nat.add_assoc, Int.reduceAdd, Int.reduceSub, Int.reduceMul, Int.reduceLT, Int.reduceLE, Int.reduceEq, Int.reduceNeg, strOp_add, k0, g0, k1, g1, c8, w5, w6, w7, w8, x5, x6, true_or]
  refine markDatum_wp b hsb c1 (by omega) (by omega) _ _ _ lx nx B4 _ (r1.keep _ fun b hb => rfl) nB4 (fun b hb => by show b < m8.nid; have := p2 b hb; omega) _ fun m9 q1 q2 q3 => ?_
  replace q2 : m8.nid ≤ m9.nid := q2
  replace q3 : ∀ j, j < m8.nid → j ∉ B4 → m9.sto j = m8.sto j := q3
  have D1 : ∀ j, j < n7 ∨ n8 ≤ j → j ∉ B4 := fun j hj h => by have := p2 j h; omega
  have e1 := e1.keep (M' := m9) fun b hb => q3 b (by have := p3 b hb; omega) (D1 _ (by have := p3 b hb; omega))
  rw [← q3 0 (by omega) (D1 _ (by omega))] at k0 g0
  rw [← q3 1 (by omega) (D1 _ (by omega))] at k1 g1
  replace p3 : ∀ b ∈ B5, n8 + 1 ≤ b ∧ b < m9.nid := fun b hb => by have := p3 b hb; omega
  have hN9 : n8 + 1 ≤ m9.nid := by omega
  clear q1 q2 q3 r1 D1
  generalize hc2 : c1 + (cntL b.list + b.names.length) = c2 at *
  have hc2n : ((c2 : Int) < 0) = False := eq_false (by omega)
  simp +decide (disch := first | decide | omega) only [go_sem, Nat.reduceAdd, Nat.reduceMul, Nat.reduceSub, Nat.reduceLT, Nat.reduceLeDiff, Nat.reduceEqDiff, Nat.add_assoc, Int.reduceAdd, Int.reduceSub, Int.reduceMul, Int.reduceLT, Int.reduceLE, Int.reduceEq, Int.reduceNeg, strOp_add, hc2n, k0, g0, k1, g1, w5, w6, w7, w8, x5, x6, true_or]
  rw [snap_p (M := ⟨m9.sto, m9.nid⟩) (e1.ps.keep fun b hb => rfl)]
  simp +decide (disch := first | decide | omega) only [go_sem, Nat.reduceAdd, Nat.reduceMul, Nat.reduceSub, Nat.reduceLT, Nat.reduceLeDiff, Nat.reduceEqDiff, Nat.add_assoc, Int.reduceAdd, Int.reduceSub, Int.reduceMul, Int.reduceLT, Int.reduceLE, Int.reduceEq, Int.reduceNeg, strOp_add, hselfp, k0, g0, k1, g1, w5, w6, w7, w8, x5, x6, true_or]
  refine hmP pv B5 _ (e1.ps.keep fun b hb => rfl) nB5 (fun b hb => (p3 b hb).2) _ fun m10 q1 q2 q3 => ?_
  replace q2 : m9.nid ≤ m10.nid := q2
  replace q3 : ∀ j, j < m9.nid → j ∉ B5 → m10.sto j = m9.sto j := q3
  have D1 : ∀ j, j < n8 + 1 → j ∉ B5 := fun j hj h => by have := p3 j h; omega
  rw [← q3 0 (by omega) (D1 _ (by omega))] at k0 g0
  rw [← q3 1 (by omega) (D1 _ (by omega))] at k1 g1
  have E1 : ∀ M : Mem, (∀ b ∈ B5, M.sto b = m10.sto b) → snapD M 2097152 pv = some (.slice 1 ((mkP 1 (differs a b)).map strsA)) := fun M hM => snap_p (q1.keep hM)
  have hN10 : n8 + 1 ≤ m10.nid := by omega
  replace p3 : ∀ b ∈ B5, n8 + 1 ≤ b ∧ b < m10.nid := fun b hb => by have := p3 b hb; omega
  clear q1 q2 q3 e1 D1
  generalize (mkP 1 (differs a b)).map strsA = mm at *
  simp +decide (disch := first | decide | omega) only [go_sem, Nat.reduceAdd, Nat.reduceMul, Nat.reduceSub, Nat.reduceLT, Nat.reduceLeDiff, Nat.reduceEqDiff, Nat.add_assoc, Int.reduceAdd, Int.reduceSub, Int.reduceMul, Int.reduceLT, Int.reduceLE, Int.reduceEq, Int.reduceNeg, strOp_add, hc3n, k0, g0, k1, g1, w5, w6, w7, w8, x5, x6, true_or]
  rw [E1 ⟨m10.sto, m10.nid⟩ fun b hb => rfl]
  simp +decide (disch := first | decide | omega) only [go_sem, Nat.reduceAdd, Nat.reduceMul, Nat.reduceSub, Nat.reduceLT, Nat.reduceLeDiff, Nat.reduceEqDiff, Nat.add_assoc, Int.reduceAdd, Int.reduceSub, Int.reduceMul, Int.reduceLT, Int.reduceLE, Int.reduceEq, Int.reduceNeg, strOp_add, hheld, hc3n, k0, g0, k1, g1, w5, w6, w7, w8, x5, x6, true_or]
  refine (d_plan (ord := [0, 1, 2, 3, 4, 5]) (prs := [(0, 2), (1, 2)]) (by kernel_rfl)).2 ?_
  simp +decide (disch := first | decide | omega) only [go_sem, Nat.reduceAdd, Nat.reduceMul, Nat.reduceSub, Nat.reduceLT, Nat.reduceLeDiff, Nat.reduceEqDiff, Nat.add_assoc, Int.reduceAdd, Int.reduceSub, Int.reduceMul, Int.reduceLT, Int.reduceLE, Int.reduceEq, Int.reduceNeg, strOp_add, k0, g0, k1, g1, w5, w6, w7, w8, x5, x6, true_or]
  refine toDatum_far a hsa fun lw nw m11 B11 J8 n11 hJ8 j8 a1 a2 a5 a6 => ?_
  replace n11 : m10.nid + 6 ≤ m11.nid := n11
  replace j8 : ∀ j, j < m10.nid + 6 → J8 j = m10.sto j := j8
  have a2' : ∀ b ∈ B11, m10.nid + 6 ≤ b ∧ b < m11.nid := a2.2
  rw [← j8 1 (by omega)] at k1 g1
  simp only [AV.one] at a5 a6
  clear w5 w6 w7 w8
  simp +decide (disch := first | decide | omega) only [go_sem, Nat.reduceAdd, Nat.reduceMul, Nat.reduceSub, Nat.reduceLT, Nat.reduceLeDiff, Nat.reduceEqDiff, Nat.add_assoc, Int.reduceAdd, Int.reduceSub, Int.reduceMul, Int.reduceLT, Int.reduceLE, Int.reduceEq, Int.reduceNeg, strOp_add, ← hJ8, k1, g1, x5, x6, a5, a6, true_or]
  refine toDatum_far b hsb fun ly ny m12 B12 J9 n12 hJ9 j9 b1 b2 b5 b6 => ?_
  replace n12 : m11.nid ≤ m12.nid := n12
  replace j9 : ∀ j, j < m11.nid → J9 j = J8 j := j9
  have b2' : ∀ b ∈ B12, m11.nid ≤ b ∧ b < m12.nid := b2.2
  simp only [AV.one] at b5 b6
  have A1 : ODat ⟨J9, m12.nid⟩ a [.int .i64 a.kind, .int .i64 a.num, .str a.text, lw, nw] B11 := a1.keep _ fun b hb => j9 b (a2' b hb).2
  simp +decide (disch := first | decide | omega) only [go_sem, Nat.reduceAdd, Nat.reduceMul, Nat.reduceSub, Nat.reduceLT, Nat.reduceLeDiff, Nat.reduceEqDiff, Nat.add_assoc, Int.reduceAdd, Int.reduceSub, Int.reduceMul, Int.reduceLT, Int.reduceLE, Int.reduceEq, Int.reduceNeg, strOp_add, ← hJ9, x5, x6, a5, a6, b5, b6, true_or]
  refine Differ_far a b hsa hsb hda hdb A1 (fun c hc => by show c < m12.nid; have := a2' c hc; omega) b1 (fun c hc => (b2' c hc).2) (by rw [reach_agg hda A1, reach_agg hdb b1]) fun qv m13 B13 J10 v1 v2 n13 hJ10 j10 z1 z2 => ?_
  replace n13 : m12.nid ≤ m13.nid := n13
  replace j10 : ∀ j, j < m12.nid → J10 j = J9 j := j10
  simp only [AV.one] at v1
  simp only [AV.loud] at v2
  simp +decide (disch := first | decide | omega) only [go_sem, Nat.reduceAdd, Nat.reduceMul, Nat.reduceSub, Nat.reduceLT, Nat.reduceLeDiff, Nat.reduceEqDiff, Nat.add_assoc, Int.reduceAdd, Int.reduceSub, Int.reduceMul, Int.reduceLT, Int.reduceLE, Int.reduceEq, Int.reduceNeg, strOp_add, ← hJ10, x5, x6, v1, v2, true_or]
  rw [snap_p z1.ps]
  have E2 := E1 ⟨J10, m13.nid⟩ fun c hc => (j10 c (by have := p3 c hc; omega)).trans ((j9 c (by have := p3 c hc; omega)).trans (j8 c (by have := p3 c hc; omega)))
  simp +decide (disch := first | decide | omega) only [go_sem, Nat.reduceAdd, Nat.reduceMul, Nat.reduceSub, Nat.reduceLT, Nat.reduceLeDiff, Nat.reduceEqDiff, Nat.add_assoc, Int.reduceAdd, Int.reduceSub, Int.reduceMul, Int.reduceLT, Int.reduceLE, Int.reduceEq, Int.reduceNeg, strOp_add, hselfp, x5, x6, v1, v2, true_or]
  rw [E2]
  simp +decide (disch := first | decide | omega) only [go_sem, Nat.reduceAdd, Nat.reduceMul, Nat.reduceSub, Nat.reduceLT, Nat.reduceLeDiff, Nat.reduceEqDiff, Nat.add_assoc, Int.reduceAdd, Int.reduceSub, Int.reduceMul, Int.reduceLT, Int.reduceLE, Int.reduceEq, Int.reduceNeg, strOp_add, hheld, hc3n, true_or]
end Go.Ev.Tryd
