/- Part of the proof of a statement about the given program: V20F. No condition of its own. -/
import Derived.Test.YtjjebjackjeneaaDoorV19F
namespace Go.Ev.Tryd
open Go.Proofs
set_option maxRecDepth 10000
set_option linter.unusedSimpArgs false
set_option linter.unusedVariables false
attribute [local congr] comes_congr bB_congr gK_congr gdK_congr

theorem differs_fine (a b : Dat) : (differs a b).length ≤ 25600000000 ∧ ∀ p ∈ differs a b, p.length ≤ 8 := by
  unfold differs
  by_cases h : writ 8 a = true ∧ writ 8 b = true
  · rw [if_pos h]
    exact ⟨Nat.le_trans (df_few 8 a b h.1) (pow20 8 (Nat.le_refl _)), fun p hp => df_short 8 a b p hp⟩
  · rw [if_neg h]
    exact ⟨Nat.zero_le _, fun p hp => by cases hp⟩
set_option maxHeartbeats 4000000 in
theorem DifferM_wp (a b : Dat) (hd : a.Sane) (hd2 : b.Sane) (hdp : dep a ≤ 2000000) (hdp2 : dep b ≤ 2000000) (a0 a1 a2 lw nw b0 b1 b2 lx nx : AV) (B C : List Nat) (M : Mem) (hO : ODat M a [a0, a1, a2, lw, nw] B) (hB : ∀ b ∈ B, b < M.nid) (hO2 : ODat M b [b0, b1, b2, lx, nx] C) (hB2 : ∀ b ∈ C, b < M.nid) (Q : AV × Mem → Prop)
    (hQ : ∀ v M' B', GPs M' (differs a b) v B' → Own M.nid M'.nid B' → M.nid ≤ M'.nid → (∀ j, j < M.nid → M'.sto j = M.sto j) → Q (v, M')) :
    Comes (fnI CC PR 9 [.agg [a0, a1, a2, lw, nw], .agg [b0, b1, b2, lx, nx]] M) Q := by
  obtain ⟨o1, o2⟩ := hO.ones
  obtain ⟨o3, o4⟩ := hO2.ones
  simp only [AV.one] at o1 o2 o3 o4
  obtain ⟨_, _, _, _, _, rfl, rfl, rfl⟩ := hO.parts
  obtain ⟨_, _, _, _, _, rfl, rfl, rfl⟩ := hO2.parts
  have key : ∀ m' : Mem, (∀ j, j < M.nid → m'.sto j = M.sto j) → snapD m' 2097151 lw = some (.slice 5 (a.list.map Dat.av)) ∧ snapD m' 2097151 nw = some (.slice 1 (a.names.map AV.str)) := fun m' hm =>
    ⟨snap_dl (hO.keep _ fun b hb => hm b (hB b hb)) hdp, snap_dn (hO.keep _ fun b hb => hm b (hB b hb))⟩
  have key2 : ∀ m' : Mem, (∀ j, j < M.nid → m'.sto j = M.sto j) → snapD m' 2097151 lx = some (.slice 5 (b.list.map Dat.av)) ∧ snapD m' 2097151 nx = some (.slice 1 (b.names.map AV.str)) := fun m' hm =>
    ⟨snap_dl (hO2.keep _ fun b hb => hm b (hB2 b hb)) hdp2, snap_dn (hO2.keep _ fun b hb => hm b (hB2 b hb))⟩
  have fr1 : ∀ (x y : Blk) (j : Nat), j < M.nid → upd (upd M.sto M.nid x) (M.nid + 1) y j = M.sto j := fun x y j hj => by
    simp (disch := omega) only [upd_hit, upd_miss]
  by_cases hw : writ 8 a = true
  · obtain ⟨s, hok, hs1⟩ := DatumPut_ok a hd hw
    have hne : ¬ s = ⟨#[]⟩ := by
      intro e
      rw [e] at hs1
      exact absurd hs1 (by decide)
    rw [av_eta a] at hok
    by_cases hw2 : writ 8 b = true
    · obtain ⟨s2, hok2, hs2⟩ := DatumPut_ok b hd2 hw2
      have hne2 : ¬ s2 = ⟨#[]⟩ := by
        intro e
        rw [e] at hs2
        exact absurd hs2 (by decide)
      rw [av_eta b] at hok2
      have hq := differ_wp 8 a b (Nat.le_refl _) hd hd2 hw hw2 hdp hdp2
      have e : differs a b = df 8 a b := by
        unfold differs
        rw [if_pos ⟨hw, hw2⟩]
      rw [e] at hQ
      refine fnI_wp (rs := [.tmp 4]) Tryd.func9 rfl rfl (Nat.le_of_ble_eq_true rfl) rfl rfl ?_
      simp +decide (disch := first | decide | omega) only [go_sem, Nat.reduceAdd, Nat.reduceMul, Nat.reduceSub, Nat.reduceLT, Nat.reduceLeDiff, Nat.reduceEqDiff, Nat.add_assoc, Int.reduceAdd, Int.reduceSub, Int.reduceMul, Int.reduceLT, Int.reduceLE, Int.reduceEq, Int.reduceNeg, strOp_add, o1, o2, o3, o4, true_or]
      rw [(key _ (fun j hj => fr1 _ _ j hj)).1, (key _ (fun j hj => fr1 _ _ j hj)).2]
      simp +decide (disch := first | decide | omega) only [go_sem, Nat.reduceAdd, Nat.reduceMul, Nat.reduceSub, Nat.reduceLT, Nat.reduceLeDiff, Nat.reduceEqDiff, Nat.add_assoc, Int.reduceAdd, Int.reduceSub, Int.reduceMul, Int.reduceLT, Int.reduceLE, Int.reduceEq, Int.reduceNeg, strOp_add, hok, hne, o1, o2, o3, o4, true_or]
      rw [(key2 _ (fun j hj => fr1 _ _ j hj)).1, (key2 _ (fun j hj => fr1 _ _ j hj)).2]
      simp +decide (disch := first | decide | omega) only [go_sem, Nat.reduceAdd, Nat.reduceMul, Nat.reduceSub, Nat.reduceLT, Nat.reduceLeDiff, Nat.reduceEqDiff, Nat.add_assoc, Int.reduceAdd, Int.reduceSub, Int.reduceMul, Int.reduceLT, Int.reduceLE, Int.reduceEq, Int.reduceNeg, strOp_add, hok2, hne2, o1, o2, o3, o4, true_or]
      refine hq _ _ _ _ _ _ _ _ _ _ B C _ (hO.keep _ fun b hb => fr1 _ _ b (hB b hb)) (fun b hb => by show b < M.nid + 2; have := hB b hb; omega) (hO2.keep _ fun b hb => fr1 _ _ b (hB2 b hb)) (fun b hb => by show b < M.nid + 2; have := hB2 b hb; omega) _ fun v m1 B1 q1 q2 q3 q4 => ?_
      have q3' : M.nid + 2 ≤ m1.nid := q3
      simp +decide (disch := first | decide | omega) only [go_sem, Nat.reduceAdd, Nat.reduceMul, Nat.reduceSub, Nat.reduceLT, Nat.reduceLeDiff, Nat.reduceEqDiff, Nat.add_assoc, Int.reduceAdd, Int.reduceSub, Int.reduceMul, Int.reduceLT, Int.reduceLE, Int.reduceEq, Int.reduceNeg, strOp_add]
      exact hQ _ _ B1 q1 (q2.wide (by show M.nid ≤ M.nid + 2; omega) (Nat.le_refl _)) (by show M.nid ≤ m1.nid; omega) fun j hj => (q4 j (by show j < M.nid + 2; omega)).trans (fr1 _ _ j hj)
    · have hok2 := DatumPut_no b hd2 (by simpa using hw2)
      rw [av_eta b] at hok2
      have e : differs a b = [] := by
        unfold differs
        rw [if_neg fun h => hw2 h.2]
      rw [e] at hQ
      refine fnI_wp (rs := [.tmp 4]) Tryd.func9 rfl rfl (Nat.le_of_ble_eq_true rfl) rfl rfl ?_
      simp +decide (disch := first | decide | omega) only [go_sem, Nat.reduceAdd, Nat.reduceMul, Nat.reduceSub, Nat.reduceLT, Nat.reduceLeDiff, Nat.reduceEqDiff, Nat.add_assoc, Int.reduceAdd, Int.reduceSub, Int.reduceMul, Int.reduceLT, Int.reduceLE, Int.reduceEq, Int.reduceNeg, strOp_add, o1, o2, o3, o4, true_or]
      rw [(key _ (fun j hj => fr1 _ _ j hj)).1, (key _ (fun j hj => fr1 _ _ j hj)).2]
      simp +decide (disch := first | decide | omega) only [go_sem, Nat.reduceAdd, Nat.reduceMul, Nat.reduceSub, Nat.reduceLT, Nat.reduceLeDiff, Nat.reduceEqDiff, Nat.add_assoc, Int.reduceAdd, Int.reduceSub, Int.reduceMul, Int.reduceLT, Int.reduceLE, Int.reduceEq, Int.reduceNeg, strOp_add, hok, hne, o1, o2, o3, o4, true_or]
      rw [(key2 _ (fun j hj => fr1 _ _ j hj)).1, (key2 _ (fun j hj => fr1 _ _ j hj)).2]
      simp +decide (disch := first | decide | omega) only [go_sem, Nat.reduceAdd, Nat.reduceMul, Nat.reduceSub, Nat.reduceLT, Nat.reduceLeDiff, Nat.reduceEqDiff, Nat.add_assoc, Int.reduceAdd, Int.reduceSub, Int.reduceMul, Int.reduceLT, Int.reduceLE, Int.reduceEq, Int.reduceNeg, strOp_add, hok2, o1, o2, o3, o4, true_or]
      exact hQ _ ⟨_, M.nid + 2⟩ [] (.inl ⟨rfl, rfl, rfl⟩) (Own.nil _ _) (by show M.nid ≤ M.nid + 2; omega) fun j hj => fr1 _ _ j hj
  · have hok := DatumPut_no a hd (by simpa using hw)
    rw [av_eta a] at hok
    have e : differs a b = [] := by
      unfold differs
      rw [if_neg fun h => hw h.1]
    rw [e] at hQ
    refine fnI_wp (rs := [.tmp 4]) Tryd.func9 rfl rfl (Nat.le_of_ble_eq_true rfl) rfl rfl ?_
    simp +decide (disch := first | decide | omega) only [go_sem, Nat.reduceAdd, Nat.reduceMul, Nat.reduceSub, Nat.reduceLT, Nat.reduceLeDiff, Nat.reduceEqDiff, Nat.add_assoc, Int.reduceAdd, Int.reduceSub, Int.reduceMul, Int.reduceLT, Int.reduceLE, Int.reduceEq, Int.reduceNeg, strOp_add, o1, o2, o3, o4, true_or]
    rw [(key _ (fun j hj => fr1 _ _ j hj)).1, (key _ (fun j hj => fr1 _ _ j hj)).2]
    simp +decide (disch := first | decide | omega) only [go_sem, Nat.reduceAdd, Nat.reduceMul, Nat.reduceSub, Nat.reduceLT, Nat.reduceLeDiff, Nat.reduceEqDiff, Nat.add_assoc, Int.reduceAdd, Int.reduceSub, Int.reduceMul, Int.reduceLT, Int.reduceLE, Int.reduceEq, Int.reduceNeg, strOp_add, hok, o1, o2, o3, o4, true_or]
    exact hQ _ ⟨_, M.nid + 2⟩ [] (.inl ⟨rfl, rfl, rfl⟩) (Own.nil _ _) (by show M.nid ≤ M.nid + 2; omega) fun j hj => fr1 _ _ j hj
/-- impl.Differ, in a drawn region. -/
theorem Differ_far {M : Mem} (a b : Dat) (hd : a.Sane) (hd2 : b.Sane) (hdp : dep a ≤ 2000000) (hdp2 : dep b ≤ 2000000) {a0 a1 a2 lw nw b0 b1 b2 lx nx : AV} {B C ids : List Nat} {K : Do → Prop} (hO : ODat M a [a0, a1, a2, lw, nw] B) (hB : ∀ b ∈ B, b < M.nid) (hO2 : ODat M b [b0, b1, b2, lx, nx] C) (hB2 : ∀ b ∈ C, b < M.nid) (hids : ids = B ++ C)
    (hK : ∀ v m' B' J, v.one = true → v.loud = false → M.nid ≤ m'.nid → J = (joinM ids M.nid M m').sto → (∀ j, j < M.nid → J j = M.sto j) → GPs ⟨J, m'.nid⟩ (differs a b) v B' → Own M.nid m'.nid B' → K (.call ids M.nid v m')) :
    closedB M ids [.agg [a0, a1, a2, lw, nw], .agg [b0, b1, b2, lx, nx]] = true ∧ Comes (fnI CC PR 9 [.agg [a0, a1, a2, lw, nw], .agg [b0, b1, b2, lx, nx]] (mask ids M)) (farK ids M K) := by
  refine far_mem (nin_lt hids fun b hb => by
    rcases List.mem_append.1 hb with hb | hb
    · exact hB b hb
    · exact hB2 b hb) (closed2 hO hO2 hids) (fun v m' => ∃ B', GPs m' (differs a b) v B' ∧ Own M.nid m'.nid B') (fun Q hQ => ?_) fun v m' J hp hn hJ j1 j2 => ?_
  · exact DifferM_wp a b hd hd2 hdp hdp2 _ _ _ _ _ _ _ _ _ _ B C _ (hO.keep _ fun b hb => mask_in (by rw [hids]; simp [hb])) hB (hO2.keep _ fun b hb => mask_in (by rw [hids]; simp [hb])) hB2 Q fun v m' B' p1 p2 p3 p4 => hQ v m' ⟨B', p1, p2⟩ p3 p4
  · obtain ⟨B', p1, p2⟩ := hp
    obtain ⟨o1, o2⟩ := p1.ps.one
    exact hK v m' B' J o1 o2 hn hJ j1 (p1.keep fun b hb => j2 b (.inl (p2.2 b hb).1)) p2
end Go.Ev.Tryd
