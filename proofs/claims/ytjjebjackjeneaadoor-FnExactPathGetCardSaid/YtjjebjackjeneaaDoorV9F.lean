/- Part of the proof of a statement about the given program: V9F. No condition of its own. -/
import Derived.Test.YtjjebjackjeneaaDoorV8F
import Derived.Test.YtjjebjackjeneaaDoorV10F
namespace Go.Ev.Tryd
open Go.Proofs
set_option maxRecDepth 10000
set_option linter.unusedSimpArgs false
set_option linter.unusedVariables false
attribute [local congr] comes_congr bB_congr gK_congr gdK_congr

set_option maxHeartbeats 8000000 in
theorem law_FnExactPathGet (d : Dat) (p : List ByteArray) (hd : d.Wide) (hp : p.length ≤ 9223372036854775807) (hps : ∀ s ∈ p, s.size ≤ 9223372036854775807) : fnA CC PR 5 [d.av, .slice 1 (p.map AV.str)] = some (.bool true) := by
  apply comes_eq.1
  have q1 := szDatum_eq d hd 1048576 (Nat.le_refl _)
  rw [show (((1048576 : Nat) : Int)) = 1048576 from rfl] at q1
  rw [av_eta] at q1 ⊢
  by_cases h1 : szD d ≤ 1048576
  case neg =>
    rw [lft_no h1] at q1
    refine fnA_wp (rs := [.tmp 4]) Tryd.func5 rfl rfl (Nat.le_of_ble_eq_true rfl) rfl ?_
    simp +decide (disch := first | decide | omega) only [go_sem, Nat.reduceAdd, Nat.reduceMul, Nat.reduceSub, Nat.reduceLT, Nat.reduceLeDiff, Nat.reduceEqDiff, Nat.add_assoc, Int.reduceAdd, Int.reduceSub, Int.reduceMul, Int.reduceLT, Int.reduceLE, Int.reduceEq, Int.reduceNeg, strOp_add, q1]
  rw [lft_le h1] at q1
  have q2 := szStrings_eq p (1048576 - szD d) (by omega) hp hps
  by_cases h2 : p.length + szS p ≤ 1048576 - szD d
  case neg =>
    rw [lft_no h2] at q2
    generalize 1048576 - szD d = z at *
    have z1n : ((z : Int) < 0) = False := eq_false (by omega)
    refine fnA_wp (rs := [.tmp 4]) Tryd.func5 rfl rfl (Nat.le_of_ble_eq_true rfl) rfl ?_
    simp +decide (disch := first | decide | omega) only [go_sem, Nat.reduceAdd, Nat.reduceMul, Nat.reduceSub, Nat.reduceLT, Nat.reduceLeDiff, Nat.reduceEqDiff, Nat.add_assoc, Int.reduceAdd, Int.reduceSub, Int.reduceMul, Int.reduceLT, Int.reduceLE, Int.reduceEq, Int.reduceNeg, strOp_add, q1, q2, z1n]
  rw [lft_le h2] at q2
  have hsane := hd.sane _ h1
  have hdep : dep d ≤ 2000000 := by have := dep_le d; omega
  have hp40 : p.length ≤ 1099511627776 := by omega
  have hspec := specPathGet_eq p d hp40 hsane
  rw [pathGet_O] at hspec
  obtain ⟨hgs, hgd, hgz⟩ := pathO_fine p d hsane h1
  generalize hb : 1048576 - szD d - (p.length + szS p) = z2 at *
  generalize hb1 : 1048576 - szD d = z1 at *
  have z1n : ((z1 : Int) < 0) = False := eq_false (by omega)
  have z2n : ((z2 : Int) < 0) = False := eq_false (by omega)
  have hselfg := eqDatum_self _ hgs
  have hselfd := eqDatum_self _ hsane
  have hselfs := eqStrings_self p hp40
  have htD := toDatum_wp d hsane
  rw [pairA] at hspec
  rw [av_eta d] at hspec hselfd htD
  rw [av_eta ((pathO d p).getD zeroD)] at hspec hselfg
  unfold strsA at hspec
  have hPG := PathGetM_wp d p hsane hdep hp40
  have hTS := toStrings_wp p hp40
  generalize (pathO d p).getD zeroD = w at *
  generalize (pathO d p).isSome = ok at *
  refine fnA_wp (rs := [.tmp 4]) Tryd.func5 rfl rfl (Nat.le_of_ble_eq_true rfl) rfl ?_
  simp +decide (disch := first | decide | omega) only [go_sem, Nat.reduceAdd, Nat.reduceMul, Nat.reduceSub, Nat.reduceLT, Nat.reduceLeDiff, Nat.reduceEqDiff, Nat.add_assoc, Int.reduceAdd, Int.reduceSub, Int.reduceMul, Int.reduceLT, Int.reduceLE, Int.reduceEq, Int.reduceNeg, strOp_add, q1, q2, z1n, z2n]
  refine htD _ _ fun k n t lv nv m1 B1 y1 y2 y3 y4 y5 y6 => ?_
  obtain ⟨rfl, rfl, rfl⟩ := y1.std
  have w5 := y5
  have w6 := y6
  simp only [AV.one] at w5 w6
  have s0 := y4 0 (by show 0 < 1; decide)
  have y3' : 1 ≤ m1.nid := y3
  simp +decide (disch := first | decide | omega) only [go_sem, Nat.reduceAdd, Nat.reduceMul, Nat.reduceSub, Nat.reduceLT, Nat.reduceLeDiff, Nat.reduceEqDiff, Nat.add_assoc, Int.reduceAdd, Int.reduceSub, Int.reduceMul, Int.reduceLT, Int.reduceLE, Int.reduceEq, Int.reduceNeg, strOp_add, s0, w5, w6, true_or]
  refine hTS _ _ fun pv m2 B2 r1 r2 r3 r4 r5 r6 r7 => ?_
  have r3' : m1.nid ≤ m2.nid := r3
  have t0 := (r4 0 (by show 0 < m1.nid; omega)).trans s0
  have x5 := r5
  have x6 := r6
  simp only [AV.one] at x5
  simp only [AV.loud] at x6
  simp +decide (disch := first | decide | omega) only [go_sem, Nat.reduceAdd, Nat.reduceMul, Nat.reduceSub, Nat.reduceLT, Nat.reduceLeDiff, Nat.reduceEqDiff, Nat.add_assoc, Int.reduceAdd, Int.reduceSub, Int.reduceMul, Int.reduceLT, Int.reduceLE, Int.reduceEq, Int.reduceNeg, strOp_add, t0, w5, w6, x5, x6, true_or]
  have y9 : ODat m2 d [.int .i64 d.kind, .int .i64 d.num, .str d.text, lv, nv] B1 := y1.keep _ fun b hb => r4 b (y2.2 b hb).2
  rw [snap_dl y9 hdep, snap_dn y9, snap_n2 r1]
  simp +decide (disch := first | decide | omega) only [go_sem, Nat.reduceAdd, Nat.reduceMul, Nat.reduceSub, Nat.reduceLT, Nat.reduceLeDiff, Nat.reduceEqDiff, Nat.add_assoc, Int.reduceAdd, Int.reduceSub, Int.reduceMul, Int.reduceLT, Int.reduceLE, Int.reduceEq, Int.reduceNeg, strOp_add, hspec, t0, w5, w6, x5, x6, updL_frz_t]
  generalize reachD m2 2097151 lv ++ reachD m2 2097151 nv ++ reachD m2 2097152 pv = ids
  have c0 : (frz m2.sto ids 0).cells = [.int .i64 d.kind, .int .i64 d.num, .str d.text, .slice 5 (d.list.map Dat.av), .slice 1 (d.names.map AV.str)] := by rw [frz_cells, t0]; rfl
  have g0 : (frz m2.sto ids 0).gen = 0 := by rw [frz_gen, t0]; rfl
  have hn6 : 1 ≤ m2.nid := by omega
  generalize hF : frz m2.sto ids = F at *
  generalize hN : m2.nid = n6 at *
  clear w5 w6 x5 x6 r1 r2 r3 r4 r5 r6 r7 y1 y2 y3 y4 y5 y6 y9 r3' y3' s0 t0 q1 q2 z1n z2n hspec hF hN
  refine htD _ _ fun k n t lv nv m3 B3 y1 y2 y3 y4 y5 y6 => ?_
  obtain ⟨rfl, rfl, rfl⟩ := y1.std
  have y3' : n6 + 1 ≤ m3.nid := y3
  have c1 := (y4 n6 (by show n6 < n6 + 1; omega)).trans (upd_hit _ _ _)
  have c2 : m3.sto 0 = F 0 := (y4 0 (by show 0 < n6 + 1; omega)).trans (by
    show upd _ _ _ _ = _
    simp (disch := omega) only [upd_hit, upd_miss])
  rw [← c2] at c0 g0
  have w5 := y5
  have w6 := y6
  simp only [AV.one] at w5 w6
  simp +decide (disch := first | decide | omega) only [go_sem, Nat.reduceAdd, Nat.reduceMul, Nat.reduceSub, Nat.reduceLT, Nat.reduceLeDiff, Nat.reduceEqDiff, Nat.add_assoc, Int.reduceAdd, Int.reduceSub, Int.reduceMul, Int.reduceLT, Int.reduceLE, Int.reduceEq, Int.reduceNeg, strOp_add, c0, g0, c1, w5, w6, true_or]
  -- the second copy in a box, texts
  have k1 : ∀ b ∈ B3, n6 + 1 ≤ b ∧ b < m3.nid := y2.2
  have frA : ∀ (u v : Blk) (j : Nat), j < m3.nid → upd (upd m3.sto m3.nid u) m3.nid v j = m3.sto j := fun u v j hj => by
    simp (disch := omega) only [upd_hit, upd_miss]
  refine hTS _ _ fun pv m4 B4 r1 r2 r3 r4 r5 r6 r7 => ?_
  have r3' : m3.nid + 1 ≤ m4.nid := r3
  have r4' : ∀ j, j < m3.nid → m4.sto j = m3.sto j := fun j hj => (r4 j (by show j < m3.nid + 1; omega)).trans (frA _ _ j hj)
  have c3 := (r4 m3.nid (by show m3.nid < m3.nid + 1; omega)).trans (upd_hit _ _ _)
  have k2 : ∀ b ∈ B4, m3.nid + 1 ≤ b ∧ b < m4.nid := r2.2
  have nB4 := r2.1
  replace c4 := (r4' n6 (by omega)).trans c1
  replace y1 := y1.keep _ fun b hb => r4' b (k1 b hb).2
  have nB3 := y2.1
  rw [← r4' 0 (by omega)] at c0 g0
  generalize hN : m3.nid = n8 at *
  have x5 := r5
  have x6 := r6
  simp only [AV.one] at x5
  simp only [AV.loud] at x6
  clear c1 c2 y2 y3 y4 r2 r3 r4 r4' frA hN
  simp +decide (disch := first | decide | omega) only [go_sem, Nat.reduceAdd, Nat.reduceMul, Nat.reduceSub, Nat.reduceLT, Nat.reduceLeDiff, Nat.reduceEqDiff, Nat.add_assoc, Int.reduceAdd, Int.reduceSub, Int.reduceMul, Int.reduceLT, Int.reduceLE, Int.reduceEq, Int.reduceNeg, strOp_add, c0, g0, c3, c4, w5, w6, x5, x6, true_or]
  refine hPG _ _ _ lv nv B3 pv B4 _ (y1.keep _ fun b hb => rfl) (fun b hb => by show b < m4.nid; have := k1 b hb; omega) (r1.keep fun b hb => rfl) (fun b hb => (k2 b hb).2) _ fun k n t gl gm m5 B5 z1 z2 z3 z4 z5 z6 => ?_
  obtain ⟨rfl, rfl, rfl⟩ := z1.std
  have z3' : m4.nid ≤ m5.nid := z3
  have z4' : ∀ j, j < m4.nid → m5.sto j = m4.sto j := z4
  have k3 : ∀ b ∈ B5, m4.nid ≤ b ∧ b < m5.nid := z2.2
  have nB5 := z2.1
  replace c3 := (z4' n8 (by omega)).trans c3
  replace c4 := (z4' n6 (by omega)).trans c4
  replace y1 := y1.keep _ fun b hb => z4' b (by have := k1 b hb; omega)
  replace r1 := r1.keep fun b hb => z4' b (k2 b hb).2
  rw [← z4' 0 (by omega)] at c0 g0
  generalize hN : m4.nid = n9 at *
  have v5 := z5
  have v6 := z6
  simp only [AV.one] at v5 v6
  clear z2 z3 z4 z4' hN
  simp +decide (disch := first | decide | omega) only [go_sem, Nat.reduceAdd, Nat.reduceMul, Nat.reduceSub, Nat.reduceLT, Nat.reduceLeDiff, Nat.reduceEqDiff, Nat.add_assoc, Int.reduceAdd, Int.reduceSub, Int.reduceMul, Int.reduceLT, Int.reduceLE, Int.reduceEq, Int.reduceNeg, strOp_add, c0, g0, c3, c4, w5, w6, x5, x6, v5, v6, true_or]
  have sG : ∀ M : Mem, (∀ b ∈ B5, M.sto b = m5.sto b) → snapD M 2097151 gl = some (.slice 5 (w.list.map Dat.av)) ∧ snapD M 2097151 gm = some (.slice 1 (w.names.map AV.str)) := fun M hM =>
    ⟨snap_dl (z1.keep _ hM) hgd, snap_dn (z1.keep _ hM)⟩
  have hlt : m5.nid < m5.nid + 1 := Nat.lt_succ_self _
  have frB : ∀ (u v : Blk) (j : Nat), j < m5.nid → upd (upd m5.sto m5.nid u) m5.nid v j = m5.sto j := fun u v j hj => by
    simp (disch := omega) only [upd_hit, upd_miss]
  have c5 : ∀ (u v : Blk), upd (upd m5.sto m5.nid u) m5.nid v m5.nid = v := fun u v => upd_hit _ _ _
  have c5 := c5 ⟨[.int .i64 0, .int .i64 0, .str ⟨#[]⟩, .nils 5, .nils 1], 0, false, some (31, true)⟩ ⟨[.int .i64 w.kind, .int .i64 w.num, .str w.text, gl, gm], 0, false, some (31, true)⟩
  have frB := frB ⟨[.int .i64 0, .int .i64 0, .str ⟨#[]⟩, .nils 5, .nils 1], 0, false, some (31, true)⟩ ⟨[.int .i64 w.kind, .int .i64 w.num, .str w.text, gl, gm], 0, false, some (31, true)⟩
  generalize upd (upd m5.sto m5.nid ⟨[.int .i64 0, .int .i64 0, .str ⟨#[]⟩, .nils 5, .nils 1], 0, false, some (31, true)⟩) m5.nid ⟨[.int .i64 w.kind, .int .i64 w.num, .str w.text, gl, gm], 0, false, some (31, true)⟩ = S at *
  have z3' : n9 ≤ m5.nid := z3'
  replace c3 := (frB n8 (by omega)).trans c3
  replace c4 := (frB n6 (by omega)).trans c4
  rw [← frB 0 (by omega)] at c0 g0
  have Y1 : ∀ M : Mem, (∀ b ∈ B3, M.sto b = S b) → ODat M d [.int .i64 d.kind, .int .i64 d.num, .str d.text, lv, nv] B3 := fun M hM => y1.keep _ fun b hb => (hM b hb).trans (frB b (by have := k1 b hb; omega))
  have R1 : ∀ M : Mem, (∀ b ∈ B4, M.sto b = S b) → OStr M p pv B4 := fun M hM => r1.keep fun b hb => (hM b hb).trans (frB b (by have := k2 b hb; omega))
  have Z1 : ∀ M : Mem, (∀ b ∈ B5, M.sto b = S b) → ODat M w [.int .i64 w.kind, .int .i64 w.num, .str w.text, gl, gm] B5 := fun M hM => z1.keep _ fun b hb => (hM b hb).trans (frB b (k3 b hb).2)
  clear y1 r1 z1 frB
  generalize m5.nid = n10 at *
  rw [snap_dl (Z1 ⟨S, n10 + 1⟩ fun b hb => rfl) hgd, snap_dn (Z1 ⟨S, n10 + 1⟩ fun b hb => rfl)]
  simp +decide (disch := first | decide | omega) only [go_sem, Nat.reduceAdd, Nat.reduceMul, Nat.reduceSub, Nat.reduceLT, Nat.reduceLeDiff, Nat.reduceEqDiff, Nat.add_assoc, Int.reduceAdd, Int.reduceSub, Int.reduceMul, Int.reduceLT, Int.reduceLE, Int.reduceEq, Int.reduceNeg, strOp_add, hselfg, c0, g0, c3, c4, c5, w5, w6, x5, x6, v5, v6, true_or]
  refine (d_plan (ord := [0, 1, 2, 3, 4]) (prs := [(0, 1), (0, 2)]) (by kernel_rfl)).2 ?_
  simp +decide (disch := first | decide | omega) only [go_sem, Nat.reduceAdd, Nat.reduceMul, Nat.reduceSub, Nat.reduceLT, Nat.reduceLeDiff, Nat.reduceEqDiff, Nat.add_assoc, Int.reduceAdd, Int.reduceSub, Int.reduceMul, Int.reduceLT, Int.reduceLE, Int.reduceEq, Int.reduceNeg, strOp_add, c0, g0, c3, c4, c5, w5, w6, x5, x6, v5, v6, true_or]
  refine plain_far (by simp [still]) (htD _ _ fun k n t lw nw m6 B6 a1 a2 a3 a4 a5 a6 => ?_)
  obtain ⟨rfl, rfl, rfl⟩ := a1.std
  have n1 : (mask [] ⟨S, n10 + 6⟩ : Mem).nid = n10 + 6 := rfl
  rw [n1] at a2 a3 a4
  dsimp only
  have j1 : ∀ j, j < n10 + 6 → (joinM [] (n10 + 6) ⟨S, n10 + 6⟩ m6).sto j = S j := fun j hj => by
    simp only [joinM]
    rw [if_neg (by simp; omega)]
  have j2 : ∀ j, n10 + 6 ≤ j → (joinM [] (n10 + 6) ⟨S, n10 + 6⟩ m6).sto j = m6.sto j := fun j hj => by
    simp only [joinM]
    rw [if_pos (by simp; omega)]
  generalize hJ : (joinM [] (n10 + 6) ⟨S, n10 + 6⟩ m6).sto = J at *
  have u5 := a5
  have u6 := a6
  simp only [AV.one] at u5 u6
  simp +decide (disch := first | decide | omega) only [go_sem, Nat.reduceAdd, Nat.reduceMul, Nat.reduceSub, Nat.reduceLT, Nat.reduceLeDiff, Nat.reduceEqDiff, Nat.add_assoc, Int.reduceAdd, Int.reduceSub, Int.reduceMul, Int.reduceLT, Int.reduceLE, Int.reduceEq, Int.reduceNeg, strOp_add, hJ, w5, w6, x5, x6, v5, v6, u5, u6, true_or]
  have a2' : ∀ b ∈ B6, n10 + 6 ≤ b := fun b hb => (a2.2 b hb).1
  have A1 : ODat ⟨J, m6.nid⟩ d [.int .i64 d.kind, .int .i64 d.num, .str d.text, lw, nw] B6 := a1.keep _ fun b hb => j2 b (a2' b hb)
  have Y1' := Y1 ⟨J, m6.nid⟩ fun b hb => j1 b (by have := k1 b hb; omega)
  have R1' := R1 ⟨J, m6.nid⟩ fun b hb => j1 b (by have := k2 b hb; omega)
  have Z1' := Z1 ⟨J, m6.nid⟩ fun b hb => j1 b (by have := k3 b hb; omega)
  replace c3 := (j1 n8 (by omega)).trans c3
  replace c4 := (j1 n6 (by omega)).trans c4
  replace c5 := (j1 n10 (by omega)).trans c5
  rw [← j1 0 (by omega)] at c0 g0
  have hN11 : n10 + 6 ≤ m6.nid := a3
  rw [snap_dl Y1' hdep, snap_dn Y1', snap_dl A1 hdep, snap_dn A1]
  clear Y1 R1 Z1 A1 a1 a2 a3 a4 a5 a6 a2' j1 j2 u5 u6 hJ n1
  generalize m6.nid = n11 at *
  simp +decide (disch := first | decide | omega) only [go_sem, Nat.reduceAdd, Nat.reduceMul, Nat.reduceSub, Nat.reduceLT, Nat.reduceLeDiff, Nat.reduceEqDiff, Nat.add_assoc, Int.reduceAdd, Int.reduceSub, Int.reduceMul, Int.reduceLT, Int.reduceLE, Int.reduceEq, Int.reduceNeg, strOp_add, hselfd, w5, w6, x5, x6, v5, v6, true_or]
  refine hTS _ _ fun qv m7 B7 e1 e2 e3 e4 e5 e6 e7 => ?_
  have e3' : n11 ≤ m7.nid := e3
  have e4' : ∀ j, j < n11 → m7.sto j = J j := e4
  have u5 := e5
  have u6 := e6
  simp only [AV.one] at u5
  simp only [AV.loud] at u6
  replace c3 := (e4' n8 (by omega)).trans c3
  replace c4 := (e4' n6 (by omega)).trans c4
  replace c5 := (e4' n10 (by omega)).trans c5
  rw [← e4' 0 (by omega)] at c0 g0
  replace Y1' := Y1'.keep (M' := m7) _ fun b hb => e4' b (by have := k1 b hb; omega)
  replace R1' := R1'.keep (M' := m7) fun b hb => e4' b (by have := k2 b hb; omega)
  replace Z1' := Z1'.keep (M' := m7) _ fun b hb => e4' b (by have := k3 b hb; omega)
  simp +decide (disch := first | decide | omega) only [go_sem, Nat.reduceAdd, Nat.reduceMul, Nat.reduceSub, Nat.reduceLT, Nat.reduceLeDiff, Nat.reduceEqDiff, Nat.add_assoc, Int.reduceAdd, Int.reduceSub, Int.reduceMul, Int.reduceLT, Int.reduceLE, Int.reduceEq, Int.reduceNeg, strOp_add, w5, w6, x5, x6, v5, v6, u5, u6, true_or]
  rw [snap_n2 (R1'.keep fun b hb => rfl), snap_n2 (e1.keep fun b hb => rfl)]
  clear e1 e2 e3 e4 e4' e5 e6 e7 u5 u6
  have hN12 : n10 + 6 ≤ m7.nid := by omega
  simp +decide (disch := first | decide | omega) only [go_sem, Nat.reduceAdd, Nat.reduceMul, Nat.reduceSub, Nat.reduceLT, Nat.reduceLeDiff, Nat.reduceEqDiff, Nat.add_assoc, Int.reduceAdd, Int.reduceSub, Int.reduceMul, Int.reduceLT, Int.reduceLE, Int.reduceEq, Int.reduceNeg, strOp_add, hselfs, c0, g0, c3, c4, c5, w5, w6, x5, x6, v5, v6, true_or]
  have hcd : cntL d.list + d.names.length ≤ 3145731 := by
    have h9 := cnt_le d
    have h8 : cnt d = 3 + cntL d.list + d.names.length := by cases d; rw [cnt_mk]; rfl
    omega
  have hcd2 : cnt d ≤ 3145731 := by have h9 := cnt_le d; omega
  refine markDatum_wp d hsane 1 (Nat.le_refl _) (by omega) _ _ _ lv nv B3 _ (Y1'.keep _ fun b hb => rfl) nB3 (fun b hb => by show b < m7.nid; have := k1 b hb; omega) _ fun m8 e1 e2 e3 => ?_
  have e2' : m7.nid ≤ m8.nid := e2
  have e3' : ∀ j, j < m7.nid → j ∉ B3 → m8.sto j = m7.sto j := e3
  have D1 : ∀ j, j < n6 + 1 ∨ n8 ≤ j → j ∉ B3 := fun j hj h => by have := k1 j h; omega
  have hn8 : n6 + 1 ≤ n8 := y3'
  replace c3 := (e3' n8 (by omega) (D1 _ (by omega))).trans c3
  replace c4 := (e3' n6 (by omega) (D1 _ (by omega))).trans c4
  replace c5 := (e3' n10 (by omega) (D1 _ (by omega))).trans c5
  rw [← e3' 0 (by omega) (D1 _ (by omega))] at c0 g0
  replace R1' := R1'.keep (M' := m8) fun b hb => e3' b (by have := k2 b hb; omega) (D1 _ (by have := k2 b hb; omega))
  replace Z1' := Z1'.keep (M' := m8) _ fun b hb => e3' b (by have := k3 b hb; omega) (D1 _ (by have := k3 b hb; omega))
  replace hN12 : n10 + 6 ≤ m8.nid := by omega
  clear e1 e2 e3 e2' e3' Y1'
  generalize hc1 : 1 + (cntL d.list + d.names.length) = c1 at *
  simp +decide (disch := first | decide | omega) only [go_sem, Nat.reduceAdd, Nat.reduceMul, Nat.reduceSub, Nat.reduceLT, Nat.reduceLeDiff, Nat.reduceEqDiff, Nat.add_assoc, Int.reduceAdd, Int.reduceSub, Int.reduceMul, Int.reduceLT, Int.reduceLE, Int.reduceEq, Int.reduceNeg, strOp_add, c0, g0, c3, c4, c5, w5, w6, x5, x6, v5, v6, true_or]
  refine markStrings_wp p hp40 c1 (by omega) (by omega) pv B4 _ (R1'.keep fun b hb => rfl) (fun b hb => by show b < m8.nid; have := k2 b hb; omega) _ fun m9 e1 e2 e3 => ?_
  have e2' : m8.nid ≤ m9.nid := e2
  have e3' : ∀ j, j < m8.nid → j ∉ B4 → m9.sto j = m8.sto j := e3
  have D2 : ∀ j, j < n8 + 1 ∨ n9 ≤ j → j ∉ B4 := fun j hj h => by have := k2 j h; omega
  have hn9 : n8 + 1 ≤ n9 := r3'
  have hn10 : n9 ≤ n10 := z3'
  replace c3 := (e3' n8 (by omega) (D2 _ (by omega))).trans c3
  replace c4 := (e3' n6 (by omega) (D2 _ (by omega))).trans c4
  replace c5 := (e3' n10 (by omega) (D2 _ (by omega))).trans c5
  rw [← e3' 0 (by omega) (D2 _ (by omega))] at c0 g0
  replace Z1' := Z1'.keep (M' := m9) _ fun b hb => e3' b (by have := k3 b hb; omega) (D2 _ (by have := k3 b hb; omega))
  replace hN12 : n10 + 6 ≤ m9.nid := by omega
  clear e1 e2 e3 e2' e3' R1'
  have hp2 : p.length ≤ 1048576 := by omega
  generalize hc2 : c1 + p.length = c2 at *
  have hc2n : ((c2 : Int) < 0) = False := eq_false (by omega)
  simp +decide (disch := first | decide | omega) only [go_sem, Nat.reduceAdd, Nat.reduceMul, Nat.reduceSub, Nat.reduceLT, Nat.reduceLeDiff, Nat.reduceEqDiff, Nat.add_assoc, Int.reduceAdd, Int.reduceSub, Int.reduceMul, Int.reduceLT, Int.reduceLE, Int.reduceEq, Int.reduceNeg, strOp_add, hc2n, c0, g0, c3, c4, c5, w5, w6, x5, x6, v5, v6, true_or]
  rw [snap_dl (Z1'.keep (M' := ⟨m9.sto, m9.nid⟩) _ fun b hb => rfl) hgd, snap_dn (Z1'.keep (M' := ⟨m9.sto, m9.nid⟩) _ fun b hb => rfl)]
  simp +decide (disch := first | decide | omega) only [go_sem, Nat.reduceAdd, Nat.reduceMul, Nat.reduceSub, Nat.reduceLT, Nat.reduceLeDiff, Nat.reduceEqDiff, Nat.add_assoc, Int.reduceAdd, Int.reduceSub, Int.reduceMul, Int.reduceLT, Int.reduceLE, Int.reduceEq, Int.reduceNeg, strOp_add, hselfg, hc2n, c0, g0, c3, c4, c5, w5, w6, x5, x6, v5, v6, true_or]
  have hcw : cntL w.list + w.names.length ≤ 3145731 := by
    have h9 := cnt_le w
    have h8 : cnt w = 3 + cntL w.list + w.names.length := by cases w; rw [cnt_mk]; rfl
    omega
  have hcw2 : cnt w ≤ 3145731 := by have h9 := cnt_le w; omega
  refine markDatum_wp w hgs 1 (Nat.le_refl _) (by omega) _ _ _ gl gm B5 _ (Z1'.keep _ fun b hb => rfl) nB5 (fun b hb => by show b < m9.nid; have := k3 b hb; omega) _ fun m10 e1 e2 e3 => ?_
  have e2' : m9.nid ≤ m10.nid := e2
  have e3' : ∀ j, j < m9.nid → j ∉ B5 → m10.sto j = m9.sto j := e3
  have D3 : ∀ j, j < n9 ∨ n10 ≤ j → j ∉ B5 := fun j hj h => by have := k3 j h; omega
  replace c4 := (e3' n6 (by omega) (D3 _ (by omega))).trans c4
  replace c5 := (e3' n10 (by omega) (D3 _ (by omega))).trans c5
  rw [← e3' 0 (by omega) (D3 _ (by omega))] at c0 g0
  replace hN12 : n10 + 6 ≤ m10.nid := by omega
  have hheld := heldDatum_eq w hgs 1 (Nat.le_refl _) (by omega)
  rw [av_eta, mkD_kind, mkD_num, mkD_text, show ((1 : Nat) : Int) = 1 from rfl] at hheld
  have hgd2 : dep (mkD 1 w) ≤ 2000000 := by rw [dep_mkD]; exact hgd
  have E1 : ∀ M : Mem, (∀ b ∈ B5, M.sto b = m10.sto b) → snapD M 2097151 gl = some (.slice 5 ((mkD 1 w).list.map Dat.av)) ∧ snapD M 2097151 gm = some (.slice 1 ((mkD 1 w).names.map AV.str)) := fun M hM =>
    ⟨snap_dl (e1.keep _ hM) hgd2, snap_dn (e1.keep _ hM)⟩
  clear e1 e2 e3 e2' e3' Z1' c3
  generalize (mkD 1 w).list.map Dat.av = ml at *
  generalize (mkD 1 w).names.map AV.str = mn at *
  generalize hc3 : 1 + (cntL w.list + w.names.length) = c3 at *
  have hc3n : ((c3 : Int) < 0) = False := eq_false (by omega)
  simp +decide (disch := first | decide | omega) only [go_sem, Nat.reduceAdd, Nat.reduceMul, Nat.reduceSub, Nat.reduceLT, Nat.reduceLeDiff, Nat.reduceEqDiff, Nat.add_assoc, Int.reduceAdd, Int.reduceSub, Int.reduceMul, Int.reduceLT, Int.reduceLE, Int.reduceEq, Int.reduceNeg, strOp_add, c0, g0, c4, c5, v5, v6, true_or]
  rw [(E1 ⟨m10.sto, m10.nid⟩ fun b hb => rfl).1, (E1 ⟨m10.sto, m10.nid⟩ fun b hb => rfl).2]
  simp +decide (disch := first | decide | omega) only [go_sem, Nat.reduceAdd, Nat.reduceMul, Nat.reduceSub, Nat.reduceLT, Nat.reduceLeDiff, Nat.reduceEqDiff, Nat.add_assoc, Int.reduceAdd, Int.reduceSub, Int.reduceMul, Int.reduceLT, Int.reduceLE, Int.reduceEq, Int.reduceNeg, strOp_add, hheld, hc3n, c0, g0, c4, c5, v5, v6, true_or]
  -- once more
  refine htD _ _ fun k n t lw nw m11 B11 a1 a2 a3 a4 a5 a6 => ?_
  obtain ⟨rfl, rfl, rfl⟩ := a1.std
  have a3' : m10.nid ≤ m11.nid := a3
  have a4' : ∀ j, j < m10.nid → m11.sto j = m10.sto j := a4
  have k4 : ∀ b ∈ B11, m10.nid ≤ b ∧ b < m11.nid := a2.2
  rw [← a4' 0 (by omega)] at c0 g0
  have u5 := a5
  have u6 := a6
  simp only [AV.one] at u5 u6
  clear a2 a3 a4 
  simp +decide (disch := first | decide | omega) only [go_sem, Nat.reduceAdd, Nat.reduceMul, Nat.reduceSub, Nat.reduceLT, Nat.reduceLeDiff, Nat.reduceEqDiff, Nat.add_assoc, Int.reduceAdd, Int.reduceSub, Int.reduceMul, Int.reduceLT, Int.reduceLE, Int.reduceEq, Int.reduceNeg, strOp_add, c0, g0, u5, u6, true_or]
  refine hTS _ _ fun qv m12 B12 b1 b2 b3 b4 b5 b6 b7 => ?_
  have b3' : m11.nid ≤ m12.nid := b3
  have b4' : ∀ j, j < m11.nid → m12.sto j = m11.sto j := b4
  have k5 : ∀ b ∈ B12, m11.nid ≤ b ∧ b < m12.nid := b2.2
  rw [← b4' 0 (by omega)] at c0 g0
  have u7 := b5
  have u8 := b6
  simp only [AV.one] at u7
  simp only [AV.loud] at u8
  clear b2 b3 b4 
  simp +decide (disch := first | decide | omega) only [go_sem, Nat.reduceAdd, Nat.reduceMul, Nat.reduceSub, Nat.reduceLT, Nat.reduceLeDiff, Nat.reduceEqDiff, Nat.add_assoc, Int.reduceAdd, Int.reduceSub, Int.reduceMul, Int.reduceLT, Int.reduceLE, Int.reduceEq, Int.reduceNeg, strOp_add, c0, g0, u5, u6, u7, u8, true_or]
  refine hPG _ _ _ lw nw B11 qv B12 _ (a1.keep _ fun b hb => b4' b (k4 b hb).2) (fun b hb => by show b < m12.nid; have := k4 b hb; omega) (b1.keep fun b hb => rfl) (fun b hb => (k5 b hb).2) _ fun k n t hl hm m13 B13 z1 z2 z3 z4 z5 z6 => ?_
  obtain ⟨rfl, rfl, rfl⟩ := z1.std
  have z3' : m12.nid ≤ m13.nid := z3
  have z4' : ∀ j, j < m10.nid → m13.sto j = m10.sto j := fun j hj => (z4 j (by show j < m12.nid; omega)).trans ((b4' j (by omega)).trans (a4' j hj))
  have z4'' : ∀ j, j < m12.nid → m13.sto j = m12.sto j := z4
  rw [← z4'' 0 (by omega)] at c0 g0
  replace c4 := (z4' n6 (by omega)).trans c4
  replace c5 := (z4' n10 (by omega)).trans c5
  have k6 : ∀ b ∈ B13, b < m13.nid := fun b hb => (z2.2 b hb).2
  have E2 : ∀ b ∈ B5, m13.sto b = m10.sto b := fun b hb => z4' b (by have := k3 b hb; omega)
  have v7 := z5
  have v8 := z6
  simp only [AV.one] at v7 v8
  clear a1 a4' b1 b4' z2 z3 z4 z4' z4'' 
  simp +decide (disch := first | decide | omega) only [go_sem, Nat.reduceAdd, Nat.reduceMul, Nat.reduceSub, Nat.reduceLT, Nat.reduceLeDiff, Nat.reduceEqDiff, Nat.add_assoc, Int.reduceAdd, Int.reduceSub, Int.reduceMul, Int.reduceLT, Int.reduceLE, Int.reduceEq, Int.reduceNeg, strOp_add, c0, g0, c4, c5, v5, v6, v7, v8, true_or]
  have frC : ∀ (u v : Blk) (j : Nat), j < m13.nid → upd (upd m13.sto m13.nid u) m13.nid v j = m13.sto j := fun u v j hj => by
    simp (disch := omega) only [upd_hit, upd_miss]
  have frC := frC ⟨[.int .i64 0, .int .i64 0, .str ⟨#[]⟩, .nils 5, .nils 1], 0, false, some (31, true)⟩ ⟨[.int .i64 w.kind, .int .i64 w.num, .str w.text, hl, hm], 0, false, some (31, true)⟩
  have c6 : upd (upd m13.sto m13.nid ⟨[.int .i64 0, .int .i64 0, .str ⟨#[]⟩, .nils 5, .nils 1], 0, false, some (31, true)⟩) m13.nid ⟨[.int .i64 w.kind, .int .i64 w.num, .str w.text, hl, hm], 0, false, some (31, true)⟩ m13.nid = ⟨[.int .i64 w.kind, .int .i64 w.num, .str w.text, hl, hm], 0, false, some (31, true)⟩ := upd_hit _ _ _
  generalize upd (upd m13.sto m13.nid ⟨[.int .i64 0, .int .i64 0, .str ⟨#[]⟩, .nils 5, .nils 1], 0, false, some (31, true)⟩) m13.nid ⟨[.int .i64 w.kind, .int .i64 w.num, .str w.text, hl, hm], 0, false, some (31, true)⟩ = S2 at *
  replace c4 := (frC n6 (by omega)).trans c4
  replace c5 := (frC n10 (by omega)).trans c5
  rw [← frC 0 (by omega)] at c0 g0
  have Z1 : ODat ⟨S2, m13.nid + 1⟩ w [.int .i64 w.kind, .int .i64 w.num, .str w.text, hl, hm] B13 := z1.keep _ fun b hb => frC b (k6 b hb)
  have E3 := E1 ⟨S2, m13.nid + 1⟩ fun b hb => (frC b (by have := k3 b hb; omega)).trans (E2 b hb)
  rw [snap_dl Z1 hgd, snap_dn Z1]
  simp +decide (disch := first | decide | omega) only [go_sem, Nat.reduceAdd, Nat.reduceMul, Nat.reduceSub, Nat.reduceLT, Nat.reduceLeDiff, Nat.reduceEqDiff, Nat.add_assoc, Int.reduceAdd, Int.reduceSub, Int.reduceMul, Int.reduceLT, Int.reduceLE, Int.reduceEq, Int.reduceNeg, strOp_add, hselfg, c0, g0, c4, c5, v5, v6, v7, v8, true_or]
  rw [E3.1, E3.2]
  simp +decide (disch := first | decide | omega) only [go_sem, Nat.reduceAdd, Nat.reduceMul, Nat.reduceSub, Nat.reduceLT, Nat.reduceLeDiff, Nat.reduceEqDiff, Nat.add_assoc, Int.reduceAdd, Int.reduceSub, Int.reduceMul, Int.reduceLT, Int.reduceLE, Int.reduceEq, Int.reduceNeg, strOp_add, hheld, hc3n, true_or]
end Go.Ev.Tryd
