/- Part of the proof of a statement about the given program: Y9I. No condition of its own. -/
import Derived.Test.YthlmbapkgblnkaaDoorY8I
namespace Go.Ev.Tryd
open Go.Proofs
set_option maxRecDepth 10000
set_option linter.unusedSimpArgs false
set_option linter.unusedVariables false
attribute [local congr] comes_congr bB_congr gK_congr gdK_congr

set_option maxHeartbeats 4000000 in
theorem copied_wp : ∀ (n : Nod), n.Sane → ndep n ≤ 2000000 → ∀ (cs : List AV) (B : List Nat) (m : Mem), ONod m n cs B → (∀ b ∈ B, b < m.nid) → ∀ (Q : AV × Mem → Prop), (∀ k d pv s c iv m' B', ONod m' n [.int .i64 k, .str d, pv, .int .i64 s, .int .i64 c, iv] B' → Own m.nid m'.nid B' → m.nid ≤ m'.nid → (∀ j, j < m.nid → m'.sto j = m.sto j) → pv.one = true → iv.one = true → Q (.agg [.int .i64 k, .str d, pv, .int .i64 s, .int .i64 c, iv], m')) → Comes (fnI CC PR 30 [.agg cs] m) Q := by
  intro n
  induction n using Nod.ind with
  | h k d p s c i ih1 ih2 =>
  intro hd hdep cs B m hO hB Q hQ
  cases hd with
  | mk _ _ _ _ _ _ hk hs hc hd hp hi h1 h2 =>
  obtain ⟨pv, iv, Bp, Bi, rfl, rfl, hpv, hiv⟩ := oNod_iff.1 hO
  have y2 : ∀ b ∈ Bp, b < m.nid := fun b hb => hB b (by simp [hb])
  have y3 : ∀ b ∈ Bi, b < m.nid := fun b hb => hB b (by simp [hb])
  have o1 := hpv.one
  have o2 := hiv.one
  have l1 : pv.loud = false := by rcases hpv with ⟨_, rfl, _⟩ | ⟨_, _, _, _, _, _, rfl, _⟩ <;> rfl
  have l2 : iv.loud = false := by rcases hiv with ⟨_, rfl, _⟩ | ⟨_, _, _, _, _, _, rfl, _⟩ <;> rfl
  simp only [AV.one] at o1 o2
  simp only [AV.loud] at l1 l2
  have hdp : ∀ x ∈ p, ndep x ≤ 2000000 := fun x hx => by have := ndep_p (k := k) (d := d) (s := s) (c := c) (i := i) hx; omega
  have hdi : ∀ x ∈ i, ndep x ≤ 2000000 := fun x hx => by have := ndep_i (k := k) (d := d) (p := p) (s := s) (c := c) hx; omega
  have hcp := copies_wp p hp fun x hx => ih1 x hx (h1 x hx) (hdp x hx)
  have hci := copies_wp i hi fun x hx => ih2 x hx (h2 x hx) (hdi x hx)
  refine fnI_wp (rs := [.cell 2 31]) Tryd.func30 rfl rfl (Nat.le_of_ble_eq_true rfl) rfl rfl ?_
  simp +decide (disch := first | decide | omega) only [go_sem, Nat.reduceAdd, Nat.reduceMul, Nat.reduceSub, Nat.reduceLT, Nat.reduceLeDiff, Nat.reduceEqDiff, Nat.add_assoc, Int.reduceAdd, Int.reduceSub, Int.reduceMul, Int.reduceLT, Int.reduceLE, Int.reduceEq, Int.reduceNeg, strOp_add, o1, o2, l1, l2]
  refine (d_plan (ord := [0, 1, 2, 3, 4, 5, 6, 7, 8, 9, 10, 11]) (prs := [(2, 6), (3, 6)]) (by kernel_rfl)).2 ?_
  simp +decide (disch := first | decide | omega) only [go_sem, Nat.reduceAdd, Nat.reduceMul, Nat.reduceSub, Nat.reduceLT, Nat.reduceLeDiff, Nat.reduceEqDiff, Nat.add_assoc, Int.reduceAdd, Int.reduceSub, Int.reduceMul, Int.reduceLT, Int.reduceLE, Int.reduceEq, Int.reduceNeg, strOp_add, o1, o2, l1, l2, true_or]
  have S0 : upd (upd m.sto m.nid ⟨[.int .i64 k, .str d, pv, .int .i64 s, .int .i64 c, iv], 0, false, none⟩) (m.nid + 1) ⟨[.int .i64 0, .str ⟨#[]⟩, .nils 6, .int .i64 0, .int .i64 0, .nils 6], 0, false, some (31, true)⟩ m.nid = ⟨[.int .i64 k, .str d, pv, .int .i64 s, .int .i64 c, iv], 0, false, none⟩ := by
    simp (disch := omega) only [upd_hit, upd_miss]
  have S1 : upd (upd m.sto m.nid ⟨[.int .i64 k, .str d, pv, .int .i64 s, .int .i64 c, iv], 0, false, none⟩) (m.nid + 1) ⟨[.int .i64 0, .str ⟨#[]⟩, .nils 6, .int .i64 0, .int .i64 0, .nils 6], 0, false, some (31, true)⟩ (m.nid + 1) = ⟨[.int .i64 0, .str ⟨#[]⟩, .nils 6, .int .i64 0, .int .i64 0, .nils 6], 0, false, some (31, true)⟩ := upd_hit _ _ _
  have frS : ∀ j, j < m.nid → upd (upd m.sto m.nid ⟨[.int .i64 k, .str d, pv, .int .i64 s, .int .i64 c, iv], 0, false, none⟩) (m.nid + 1) ⟨[.int .i64 0, .str ⟨#[]⟩, .nils 6, .int .i64 0, .int .i64 0, .nils 6], 0, false, some (31, true)⟩ j = m.sto j := fun j hj => by
    simp (disch := omega) only [upd_hit, upd_miss]
  generalize upd (upd m.sto m.nid ⟨[.int .i64 k, .str d, pv, .int .i64 s, .int .i64 c, iv], 0, false, none⟩) (m.nid + 1) ⟨[.int .i64 0, .str ⟨#[]⟩, .nils 6, .int .i64 0, .int .i64 0, .nils 6], 0, false, some (31, true)⟩ = S at *
  have P1 : OLst ⟨S, m.nid + 14⟩ p pv Bp := hpv.keep fun b hb => frS b (y2 b hb)
  have R1 := reach_olst P1 hdp
  refine far_mem (nin_lt R1 fun b hb => by show b < m.nid + 14; have := y2 b hb; omega) (closedL P1 R1) (fun v m' => ∃ B', OLst m' p v B' ∧ Own (m.nid + 14) m'.nid B') (fun Q' hQ' => ?_) fun v1 m1 J1 hp1 n1 hJ1 j1 j1' => ?_
  · exact hcp pv Bp _ (P1.keep fun b hb => mask_in (R1 ▸ hb)) (fun b hb => by show b < m.nid + 14; have := y2 b hb; omega) Q' fun v m' B' p1 p2 p3 p4 => hQ' v m' ⟨B', p1, p2⟩ p3 p4
  replace n1 : m.nid + 14 ≤ m1.nid := n1
  replace j1 : ∀ j, j < m.nid + 14 → J1 j = S j := j1
  obtain ⟨B1, g1, g2⟩ := hp1
  have k1 : ∀ b ∈ B1, m.nid + 14 ≤ b ∧ b < m1.nid := g2.2
  have G1 : OLst ⟨J1, m1.nid⟩ p v1 B1 := g1.keep fun b hb => j1' b (.inl (k1 b hb).1)
  have v1o := G1.one
  have v1o' := v1o
  simp only [AV.one] at v1o
  have S01 := (j1 m.nid (by omega)).trans S0
  have S11 := (j1 (m.nid + 1) (by omega)).trans S1
  clear g1 j1'
  simp +decide (disch := first | decide | omega) only [go_sem, Nat.reduceAdd, Nat.reduceMul, Nat.reduceSub, Nat.reduceLT, Nat.reduceLeDiff, Nat.reduceEqDiff, Nat.add_assoc, Int.reduceAdd, Int.reduceSub, Int.reduceMul, Int.reduceLT, Int.reduceLE, Int.reduceEq, Int.reduceNeg, strOp_add, ← hJ1, S01, o1, o2, l1, l2, v1o, true_or]
  have P2 : OLst ⟨J1, m1.nid⟩ i iv Bi := hiv.keep fun b hb => (j1 b (by have := y3 b hb; omega)).trans (frS b (y3 b hb))
  have R2 := reach_olst P2 hdi
  refine far_mem (nin_lt R2 fun b hb => by show b < m1.nid; have := y3 b hb; omega) (closedL P2 R2) (fun v m' => ∃ B', OLst m' i v B' ∧ Own m1.nid m'.nid B') (fun Q' hQ' => ?_) fun v2 m2 J2 hp2 n2 hJ2 j2 j2' => ?_
  · exact hci iv Bi _ (P2.keep fun b hb => mask_in (R2 ▸ hb)) (fun b hb => by show b < m1.nid; have := y3 b hb; omega) Q' fun v m' B' p1 p2 p3 p4 => hQ' v m' ⟨B', p1, p2⟩ p3 p4
  replace n2 : m1.nid ≤ m2.nid := n2
  replace j2 : ∀ j, j < m1.nid → J2 j = J1 j := j2
  obtain ⟨B2, g3, g4⟩ := hp2
  have k2 : ∀ b ∈ B2, m1.nid ≤ b ∧ b < m2.nid := g4.2
  have G2 : OLst ⟨J2, m2.nid⟩ i v2 B2 := g3.keep fun b hb => j2' b (.inl (k2 b hb).1)
  have G1' : OLst ⟨J2, m2.nid⟩ p v1 B1 := G1.keep fun b hb => j2 b (k1 b hb).2
  have v2o := G2.one
  have v2o' := v2o
  simp only [AV.one] at v2o
  have S02 := (j2 m.nid (by omega)).trans S01
  have S12 := (j2 (m.nid + 1) (by omega)).trans S11
  clear g3 j2'
  have q1 := AV.cells_one v1o'
  have q2 := AV.cells_one v2o'
  simp only [AV.cells] at q1 q2
  simp +decide (disch := first | decide | omega) only [go_sem, Nat.reduceAdd, Nat.reduceMul, Nat.reduceSub, Nat.reduceLT, Nat.reduceLeDiff, Nat.reduceEqDiff, Nat.add_assoc, Int.reduceAdd, Int.reduceSub, Int.reduceMul, Int.reduceLT, Int.reduceLE, Int.reduceEq, Int.reduceNeg, strOp_add, ← hJ2, S02, S12, o1, o2, v1o, v2o, q1, q2, true_or]
  have hM : ∀ (x y z : Blk) (j : Nat), j ≠ m.nid → j ≠ m.nid + 1 → upd (upd (upd J2 m.nid x) m.nid y) (m.nid + 1) z j = J2 j := fun x y z j c1 c2 => by
    simp (disch := omega) only [upd_hit, upd_miss]
  refine ⟨by
    rw [R1]
    have : m.nid ∉ Bp := fun h => Nat.lt_irrefl _ (y2 _ h)
    simpa using this, ?_⟩
  refine hQ k d v1 s c v2 ⟨_, m2.nid⟩ (B1 ++ B2) (oNod_iff.2 ⟨v1, v2, B1, B2, rfl, rfl, G1'.keep fun b hb => ?_, G2.keep fun b hb => ?_⟩) ?_ (by show m.nid ≤ m2.nid; omega) (fun j hj => ?_) v1o' v2o'
  · have := k1 b hb
    exact hM _ _ _ b (by omega) (by omega)
  · have := k2 b hb
    exact hM _ _ _ b (by omega) (by omega)
  · exact (g2.app g4 n1 n2).wide (by omega) (Nat.le_refl _)
  · exact (hM _ _ _ j (by omega) (by omega)).trans ((j2 j (by omega)).trans ((j1 j (by omega)).trans (frS j hj)))
end Go.Ev.Tryd
