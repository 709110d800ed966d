/- Part of the proof of a statement about the given program: Y10I. No condition of its own. -/
import Derived.Test.YthlmbapkgblnkaaDoorY1I
namespace Go.Ev.Tryd
open Go.Proofs
set_option maxRecDepth 10000
set_option linter.unusedSimpArgs false
set_option linter.unusedVariables false
attribute [local congr] comes_congr bB_congr gK_congr gdK_congr

theorem snaps_nodC (l : List Nod) (m : Mem) (k : Nat) : (nodC l).mapM (snapD m (k + 1)) = some (nodC l) := snaps_still (still_nodC l) m k
/-- A list of nodes that grows, in a block of the call's own. -/
def NodsAt (m : Mem) (lo : Nat) (v : AV) (l : List Nod) : Prop :=
  (l = [] ∧ v = .nils 6) ∨ ∃ id g, lo ≤ id ∧ id < m.nid ∧ v = .arr id g 0 l.length 6 true ∧ ∃ ty, m.sto id = ⟨nodC l, g, false, ty⟩
theorem snap_nods {m : Mem} {lo : Nat} {v : AV} {l : List Nod} (h : NodsAt m lo v l) (k : Nat) : snapD m (k + 2) v = some (.slice 6 (l.map Nod.av)) := by
  rcases h with ⟨rfl, rfl⟩ | ⟨id, g, _, _, rfl, ty, h1⟩
  · rfl
  · simp only [snapD, h1, List.drop_zero, true_and]
    rw [if_pos (by rw [nodC_len]; exact Nat.le_refl _), ← nodC_len, List.take_length, snaps_nodC]
    simp [elems_nodC]
theorem NodsAt.keep {m m' : Mem} {lo : Nat} {v : AV} {l : List Nod} (h : NodsAt m lo v l) (hn : m.nid ≤ m'.nid) (e : ∀ j, lo ≤ j → j < m.nid → m'.sto j = m.sto j) : NodsAt m' lo v l := by
  rcases h with h | ⟨id, g, h1, h2, h3, ty, h4⟩
  · exact .inl h
  · exact .inr ⟨id, g, h1, by omega, h3, ty, by rw [e id h1 h2]; exact h4⟩
theorem NodsAt.one {m : Mem} {lo : Nat} {v : AV} {l : List Nod} (h : NodsAt m lo v l) : v.one = true := by
  rcases h with ⟨_, rfl⟩ | ⟨_, _, _, _, rfl, _⟩ <;> rfl
theorem nodC_app (a b : List Nod) : nodC (a ++ b) = nodC a ++ nodC b := by simp [nodC]
theorem nodC_one (d : Nod) : nodC [d] = d.av.cells := by simp [nodC]
theorem nodC_succ {l : List Nod} {i : Nat} (hi : i < l.length) : nodC (l.take (i + 1)) = nodC (l.take i) ++ (l[i]).av.cells := by
  rw [List.take_succ_eq_append_getElem hi, nodC_app, nodC_one]
set_option maxHeartbeats 4000000 in
theorem l8Copy_eq : ∀ (n : Nod), n.Sane → fnA CC PR 24 [n.av] = some n.av := by
  intro n
  induction n using Nod.ind with
  | h k d p s c i ih1 ih2 =>
  intro hd
  cases hd with
  | mk _ _ _ _ _ _ hk hs hc hd hp hi h1 h2 =>
  rw [Nod.av_mk]
  apply comes_eq.1
  refine fnA_wp (rs := [.cell 2 31]) Tryd.func24 rfl rfl (Nat.le_of_ble_eq_true rfl) rfl ?_
  simp +decide only [go_sem, Nat.reduceAdd, Nat.reduceMul, Nat.reduceSub, Nat.reduceLT, Nat.reduceLeDiff, Nat.reduceEqDiff, Nat.add_assoc, Int.reduceAdd, Int.reduceSub, Int.reduceMul, Int.reduceLT, Int.reduceLE, Int.reduceEq, Int.reduceNeg, strOp_add, List.length_map]
  refine comes_upto p.length (fun x st => st.env 1 = .ptr 0 0 0 ∧ st.env 2 = .ptr 1 0 0 ∧ st.env 3 = .ptr 2 0 0 ∧ st.env 4 = .int .i64 x ∧ 3 ≤ st.nid ∧ st.sto 0 = ⟨[.int .i64 k, .str d, .slice 6 (p.map Nod.av), .int .i64 s, .int .i64 c, .slice 6 (i.map Nod.av)], 0, false, none⟩ ∧ st.sto 1 = ⟨[.int .i64 0, .str ⟨#[]⟩, .nils 6, .int .i64 0, .int .i64 0, .nils 6], 0, false, some (31, true)⟩ ∧ ∃ v, st.sto 2 = ⟨[.int .i64 k, .str d, v, .int .i64 s, .int .i64 c, .nils 6], 0, false, some (31, true)⟩ ∧ NodsAt st.toMem 3 v (p.take x)) ?_ ?_ _ ?_
  · rintro x st hi ⟨e1, e2, e3, e4, en, s0, s1, v, s2, hD⟩
    have hq := ih1 _ (List.getElem_mem hi) (h1 _ (List.getElem_mem hi))
    have ha := nav_at hi
    have hsu := nodC_succ hi
    have hln : (p.take x).length = x := by rw [List.length_take]; omega
    have hln1 : (p.take (x + 1)).length = x + 1 := by rw [List.length_take]; omega
    rw [nav_eta] at ha hq hsu
    have w1 : IntKind.wrap .i64 ((x : Int) + 1) = ((x + 1 : Nat) : Int) := wrap_succ (by omega)
    have hvo := hD.one
    simp only [AV.one] at hvo
    rcases hD with ⟨hl0, rfl⟩ | ⟨id, g, hlo, hid, rfl, ty, hss⟩
    · have hi0 : x = 0 := by rw [hl0] at hln; exact hln.symm
      simp +decide (disch := first | decide | omega) only [go_sem, Nat.reduceAdd, Nat.reduceMul, Nat.reduceSub, Nat.reduceLT, Nat.reduceLeDiff, Nat.reduceEqDiff, Nat.add_assoc, Int.reduceAdd, Int.reduceSub, Int.reduceMul, Int.reduceLT, Int.reduceLE, Int.reduceEq, Int.reduceNeg, strOp_add, e1, e2, e3, e4, s0, s1, s2, hi, List.length_map, ha, hq, w1]
      refine (d_plan (ord := [0, 1, 2, 3, 4, 5, 6, 7, 8, 9, 10, 11]) (prs := [(1, 3), (1, 6), (1, 7), (1, 8)]) (by kernel_rfl)).2 ?_
      simp +decide (disch := first | decide | omega) only [go_sem, Nat.reduceAdd, Nat.reduceMul, Nat.reduceSub, Nat.reduceLT, Nat.reduceLeDiff, Nat.reduceEqDiff, Nat.add_assoc, Int.reduceAdd, Int.reduceSub, Int.reduceMul, Int.reduceLT, Int.reduceLE, Int.reduceEq, Int.reduceNeg, strOp_add, e1, e2, e3, e4, s0, s1, s2, hi, List.length_map, ha, hq, w1]
      refine ⟨_, rfl, .inr ⟨st.nid + 9, 0, by omega, by show st.nid + 9 < st.nid + 12; omega, ?_, ?_⟩⟩
      · rw [hln1, hi0]
      · rw [hsu, hl0]
        refine ⟨some (31, false), ?_⟩
        simp +decide (disch := first | decide | omega) only [go_sem, Nat.reduceAdd, Nat.reduceMul, Nat.reduceSub, Nat.reduceLT, Nat.reduceLeDiff, Nat.reduceEqDiff, Nat.add_assoc, Int.reduceAdd, Int.reduceSub, Int.reduceMul, Int.reduceLT, Int.reduceLE, Int.reduceEq, Int.reduceNeg, strOp_add]
        rfl
    · have hc1 : x * 6 = (nodC (p.take x)).length := by rw [nodC_len, hln]
      have hc2 : x + 1 ≤ most := by simp only [most]; omega
      rw [hln] at s2
      simp +decide (disch := first | decide | omega) only [go_sem, Nat.reduceAdd, Nat.reduceMul, Nat.reduceSub, Nat.reduceLT, Nat.reduceLeDiff, Nat.reduceEqDiff, Nat.add_assoc, Int.reduceAdd, Int.reduceSub, Int.reduceMul, Int.reduceLT, Int.reduceLE, Int.reduceEq, Int.reduceNeg, strOp_add, e1, e2, e3, e4, s0, s1, s2, hi, List.length_map, ha, hq, w1, hc1, hc2, hss]
      refine (d_plan (ord := [0, 1, 2, 3, 4, 5, 6, 7, 8, 9, 10, 11]) (prs := [(1, 3), (1, 6), (1, 7), (1, 8)]) (by kernel_rfl)).2 ?_
      simp +decide (disch := first | decide | omega) only [go_sem, Nat.reduceAdd, Nat.reduceMul, Nat.reduceSub, Nat.reduceLT, Nat.reduceLeDiff, Nat.reduceEqDiff, Nat.add_assoc, Int.reduceAdd, Int.reduceSub, Int.reduceMul, Int.reduceLT, Int.reduceLE, Int.reduceEq, Int.reduceNeg, strOp_add, e1, e2, e3, e4, s0, s1, s2, hi, List.length_map, ha, hq, w1, hc1, hc2, hss]
      refine ⟨_, rfl, .inr ⟨id, g + 1, hlo, by show id < st.nid + 12; omega, ?_, ?_⟩⟩
      · rw [hln1]
      · rw [hsu]
        refine ⟨grewT 31 ty, ?_⟩
        simp +decide (disch := first | decide | omega) only [go_sem, Nat.reduceAdd, Nat.reduceMul, Nat.reduceSub, Nat.reduceLT, Nat.reduceLeDiff, Nat.reduceEqDiff, Nat.add_assoc, Int.reduceAdd, Int.reduceSub, Int.reduceMul, Int.reduceLT, Int.reduceLE, Int.reduceEq, Int.reduceNeg, strOp_add]
  · rintro st ⟨e1, e2, e3, e4, en, s0, s1, v, s2, hD⟩
    rw [List.take_length] at hD
    have hvo := hD.one
    simp only [AV.one] at hvo
    simp +decide (disch := first | decide | omega) only [go_sem, Nat.reduceAdd, Nat.reduceMul, Nat.reduceSub, Nat.reduceLT, Nat.reduceLeDiff, Nat.reduceEqDiff, Nat.add_assoc, Int.reduceAdd, Int.reduceSub, Int.reduceMul, Int.reduceLT, Int.reduceLE, Int.reduceEq, Int.reduceNeg, strOp_add, e1, e2, e3, e4, s0, s1, s2, hvo, true_or, List.length_map]
    have hK := hD
    refine comes_upto i.length (fun x s2t => s2t.env 1 = .ptr 0 0 0 ∧ s2t.env 2 = .ptr 1 0 0 ∧ s2t.env 3 = .ptr 2 0 0 ∧ s2t.env 5 = .int .i64 x ∧ st.nid ≤ s2t.nid ∧ s2t.sto 0 = ⟨[.int .i64 k, .str d, .slice 6 (p.map Nod.av), .int .i64 s, .int .i64 c, .slice 6 (i.map Nod.av)], 0, false, none⟩ ∧ s2t.sto 1 = ⟨[.int .i64 0, .str ⟨#[]⟩, .nils 6, .int .i64 0, .int .i64 0, .nils 6], 0, false, some (31, true)⟩ ∧ (∀ j, 3 ≤ j → j < st.nid → s2t.sto j = st.sto j) ∧ ∃ u, s2t.sto 2 = ⟨[.int .i64 k, .str d, v, .int .i64 s, .int .i64 c, u], 0, false, some (31, true)⟩ ∧ NodsAt s2t.toMem st.nid u (i.take x)) ?_ ?_ _ ?_
    · rintro x st2 hi ⟨e1, e2, e3, e4, en2, s0, s1, hfr, u, s2, hD⟩
      have hq := ih2 _ (List.getElem_mem hi) (h2 _ (List.getElem_mem hi))
      have ha := nav_at hi
      have hsu := nodC_succ hi
      have hln : (i.take x).length = x := by rw [List.length_take]; omega
      have hln1 : (i.take (x + 1)).length = x + 1 := by rw [List.length_take]; omega
      rw [nav_eta] at ha hq hsu
      have w1 : IntKind.wrap .i64 ((x : Int) + 1) = ((x + 1 : Nat) : Int) := wrap_succ (by omega)
      rcases hD with ⟨hl0, rfl⟩ | ⟨id, g, hlo, hid, rfl, ty, hss⟩
      · have hi0 : x = 0 := by rw [hl0] at hln; exact hln.symm
        simp +decide (disch := first | decide | omega) only [go_sem, Nat.reduceAdd, Nat.reduceMul, Nat.reduceSub, Nat.reduceLT, Nat.reduceLeDiff, Nat.reduceEqDiff, Nat.add_assoc, Int.reduceAdd, Int.reduceSub, Int.reduceMul, Int.reduceLT, Int.reduceLE, Int.reduceEq, Int.reduceNeg, strOp_add, e1, e2, e3, e4, s0, s1, s2, hi, List.length_map, ha, hq, w1, hvo, true_or]
        refine (d_plan (ord := [0, 1, 2, 3, 4, 5, 6, 7, 8, 9, 10, 11]) (prs := [(1, 3), (1, 6), (1, 7), (1, 8)]) (by kernel_rfl)).2 ?_
        simp +decide (disch := first | decide | omega) only [go_sem, Nat.reduceAdd, Nat.reduceMul, Nat.reduceSub, Nat.reduceLT, Nat.reduceLeDiff, Nat.reduceEqDiff, Nat.add_assoc, Int.reduceAdd, Int.reduceSub, Int.reduceMul, Int.reduceLT, Int.reduceLE, Int.reduceEq, Int.reduceNeg, strOp_add, e1, e2, e3, e4, s0, s1, s2, hi, List.length_map, ha, hq, w1, hvo, true_or]
        refine ⟨by omega, fun j c1 c2 => ?_, _, rfl, .inr ⟨st2.nid + 9, 0, by omega, by show st2.nid + 9 < st2.nid + 12; omega, ?_, ?_⟩⟩
        · simp (disch := omega) only [upd_hit, upd_miss]
          exact hfr j c1 c2
        · rw [hln1, hi0]
        · rw [hsu, hl0]
          refine ⟨some (31, false), ?_⟩
          simp +decide (disch := first | decide | omega) only [go_sem, Nat.reduceAdd, Nat.reduceMul, Nat.reduceSub, Nat.reduceLT, Nat.reduceLeDiff, Nat.reduceEqDiff, Nat.add_assoc, Int.reduceAdd, Int.reduceSub, Int.reduceMul, Int.reduceLT, Int.reduceLE, Int.reduceEq, Int.reduceNeg, strOp_add]
          rfl
      · have hc1 : x * 6 = (nodC (i.take x)).length := by rw [nodC_len, hln]
        have hc2 : x + 1 ≤ most := by simp only [most]; omega
        rw [hln] at s2
        simp +decide (disch := first | decide | omega) only [go_sem, Nat.reduceAdd, Nat.reduceMul, Nat.reduceSub, Nat.reduceLT, Nat.reduceLeDiff, Nat.reduceEqDiff, Nat.add_assoc, Int.reduceAdd, Int.reduceSub, Int.reduceMul, Int.reduceLT, Int.reduceLE, Int.reduceEq, Int.reduceNeg, strOp_add, e1, e2, e3, e4, s0, s1, s2, hi, List.length_map, ha, hq, w1, hc1, hc2, hss, hvo, true_or]
        refine (d_plan (ord := [0, 1, 2, 3, 4, 5, 6, 7, 8, 9, 10, 11]) (prs := [(1, 3), (1, 6), (1, 7), (1, 8)]) (by kernel_rfl)).2 ?_
        simp +decide (disch := first | decide | omega) only [go_sem, Nat.reduceAdd, Nat.reduceMul, Nat.reduceSub, Nat.reduceLT, Nat.reduceLeDiff, Nat.reduceEqDiff, Nat.add_assoc, Int.reduceAdd, Int.reduceSub, Int.reduceMul, Int.reduceLT, Int.reduceLE, Int.reduceEq, Int.reduceNeg, strOp_add, e1, e2, e3, e4, s0, s1, s2, hi, List.length_map, ha, hq, w1, hc1, hc2, hss, hvo, true_or]
        refine ⟨by omega, fun j c1 c2 => ?_, _, rfl, .inr ⟨id, g + 1, hlo, by show id < st2.nid + 12; omega, ?_, ?_⟩⟩
        · simp (disch := omega) only [upd_hit, upd_miss]
          exact hfr j c1 c2
        · rw [hln1]
        · rw [hsu]
          refine ⟨grewT 31 ty, ?_⟩
          simp +decide (disch := first | decide | omega) only [go_sem, Nat.reduceAdd, Nat.reduceMul, Nat.reduceSub, Nat.reduceLT, Nat.reduceLeDiff, Nat.reduceEqDiff, Nat.add_assoc, Int.reduceAdd, Int.reduceSub, Int.reduceMul, Int.reduceLT, Int.reduceLE, Int.reduceEq, Int.reduceNeg, strOp_add]
    · rintro st2 ⟨e1, e2, e3, e4, en2, s0, s1, hfr, u, s2, hD⟩
      rw [List.take_length] at hD
      have huo := hD.one
      simp only [AV.one] at huo
      have hK2 : NodsAt st2.toMem 3 v p := hK.keep en2 hfr
      simp +decide (disch := first | decide | omega) only [go_sem, Nat.reduceAdd, Nat.reduceMul, Nat.reduceSub, Nat.reduceLT, Nat.reduceLeDiff, Nat.reduceEqDiff, Nat.add_assoc, Int.reduceAdd, Int.reduceSub, Int.reduceMul, Int.reduceLT, Int.reduceLE, Int.reduceEq, Int.reduceNeg, strOp_add, e1, e2, e3, e4, s0, s1, s2, hvo, huo, true_or, List.length_map]
      have fr2 : ∀ (z : Blk) (j : Nat), 3 ≤ j → upd st2.sto 1 z j = st2.sto j := fun z j hj => by
        simp (disch := omega) only [upd_hit, upd_miss]
      rw [snap_nods (hK2.keep (m' := ⟨upd st2.sto 1 _, st2.nid⟩) (Nat.le_refl _) fun j c1 c2 => fr2 _ j c1) 2097149, snap_nods (hD.keep (m' := ⟨upd st2.sto 1 _, st2.nid⟩) (Nat.le_refl _) fun j c1 c2 => fr2 _ j (by omega)) 2097149]
      simp +decide (disch := first | decide | omega) only [go_sem, Nat.reduceAdd, Nat.reduceMul, Nat.reduceSub, Nat.reduceLT, Nat.reduceLeDiff, Nat.reduceEqDiff, Nat.add_assoc, Int.reduceAdd, Int.reduceSub, Int.reduceMul, Int.reduceLT, Int.reduceLE, Int.reduceEq, Int.reduceNeg, strOp_add]
    · simp +decide (disch := first | decide | omega) only [go_sem, Nat.reduceAdd, Nat.reduceMul, Nat.reduceSub, Nat.reduceLT, Nat.reduceLeDiff, Nat.reduceEqDiff, Nat.add_assoc, Int.reduceAdd, Int.reduceSub, Int.reduceMul, Int.reduceLT, Int.reduceLE, Int.reduceEq, Int.reduceNeg, strOp_add]
      exact ⟨e1, e2, e3, rfl, Nat.le_refl _, s0, s1, fun _ _ _ => trivial, _, s2, .inl ⟨rfl, rfl⟩⟩
  · simp +decide only [go_sem, Nat.reduceAdd, Nat.reduceMul, Nat.reduceSub, Nat.reduceLT, Nat.reduceLeDiff, Nat.reduceEqDiff, Nat.add_assoc, Int.reduceAdd, Int.reduceSub, Int.reduceMul, Int.reduceLT, Int.reduceLE, Int.reduceEq, Int.reduceNeg, strOp_add]
    simp [NodsAt]
end Go.Ev.Tryd
