/- Part of the proof of a statement about the given program: Y4I. No condition of its own. -/
import Derived.Test.YthlmbapkgblnkaaDoorY3I
namespace Go.Ev.Tryd
open Go.Proofs
set_option maxRecDepth 10000
set_option linter.unusedSimpArgs false
set_option linter.unusedVariables false
attribute [local congr] comes_congr bB_congr gK_congr gdK_congr

set_option maxHeartbeats 2000000 in
theorem toNodes_wp (l : List Nod) (hl : l.length ≤ 1048576)
    (ih : ∀ x ∈ l, ∀ (m : Mem) (Q : AV × Mem → Prop), (∀ k d pv s c iv m' B, ONod m' x [.int .i64 k, .str d, pv, .int .i64 s, .int .i64 c, iv] B → Own m.nid m'.nid B → m.nid ≤ m'.nid → (∀ j, j < m.nid → m'.sto j = m.sto j) → pv.one = true → iv.one = true → Q (.agg [.int .i64 k, .str d, pv, .int .i64 s, .int .i64 c, iv], m')) → Comes (fnI CC PR 9 [x.av] m) Q)
    (m : Mem) (Q : AV × Mem → Prop)
    (hQ : ∀ v m' B, OLst m' l v B → Own m.nid m'.nid B → m.nid ≤ m'.nid → (∀ j, j < m.nid → m'.sto j = m.sto j) → v.one = true → Q (v, m')) :
    Comes (fnI CC PR 25 [.slice 6 (l.map Nod.av)] m) Q := by
  refine fnI_wp (rs := [.tmp 2]) Tryd.func25 rfl rfl (Nat.le_of_ble_eq_true rfl) rfl rfl ?_
  have h1 : (((l.length : Nat) : Int) ≤ (most : Int)) = True := eq_true (by simp only [most]; omega)
  have h2 : ((0 : Int) ≤ ((l.length : Nat) : Int)) = True := eq_true (by omega)
  simp +decide only [go_sem, Nat.reduceAdd, Nat.reduceMul, Nat.reduceSub, Nat.reduceLT, Nat.reduceLeDiff, Nat.reduceEqDiff, Nat.add_assoc, Int.reduceAdd, Int.reduceSub, Int.reduceMul, Int.reduceLT, Int.reduceLE, Int.reduceEq, Int.reduceNeg, strOp_add, List.length_map, h1, h2]
  refine comes_upto l.length (fun i st => st.env 0 = .slice 6 (l.map Nod.av) ∧ st.env 3 = .arr m.nid 0 0 l.length 6 true ∧ st.env 4 = .int .i64 i ∧ m.nid + 1 ≤ st.nid ∧ (∀ j, j < m.nid → st.sto j = m.sto j) ∧ ∃ a z B, OCel st.toMem (l.take i) a B ∧ Own (m.nid + 1) st.nid B ∧ st.sto m.nid = ⟨a ++ z, 0, false, none⟩ ∧ z.length = (l.length - i) * 6) ?_ ?_ _ ?_
  · rintro i st hi ⟨e0, e3, e4, en, hfr, a, z, B, hO, hB, hs, hz⟩
    have ha := nav_at hi
    have w1 : IntKind.wrap .i64 ((i : Int) + 1) = ((i + 1 : Nat) : Int) := wrap_succ (by omega)
    have hal : a.length = i * 6 := by rw [oCel_len _ hO, List.length_take, Nat.min_eq_left (by omega)]
    have hq := ih _ (List.getElem_mem hi)
    obtain ⟨c0, c1, c2, c3, c4, c5, z, rfl⟩ : ∃ c0 c1 c2 c3 c4 c5 z', z = c0 :: c1 :: c2 :: c3 :: c4 :: c5 :: z' := by
      match z, hz with
      | [], h => simp at h; omega
      | [_], h => simp at h; omega
      | [_, _], h => simp at h; omega
      | [_, _, _], h => simp at h; omega
      | [_, _, _, _], h => simp at h; omega
      | [_, _, _, _, _], h => simp at h; omega
      | _ :: _ :: _ :: _ :: _ :: _ :: z', _ => exact ⟨_, _, _, _, _, _, z', rfl⟩
    have hll : (i * 6 + 6 ≤ (a ++ c0 :: c1 :: c2 :: c3 :: c4 :: c5 :: z).length) = True := eq_true (by simp only [List.length_append, List.length_cons]; omega)
    have hsp := fun x0 x1 x2 x3 x4 x5 => @splice6_at a z c0 c1 c2 c3 c4 c5 x0 x1 x2 x3 x4 x5 (i * 6) hal
    have htk := List.take_succ_eq_append_getElem hi
    generalize l[i] = x at *
    rw [nav_eta] at ha hq
    generalize hcc : a ++ c0 :: c1 :: c2 :: c3 :: c4 :: c5 :: z = cs at *
    simp +decide only [go_sem, Nat.reduceAdd, Nat.reduceMul, Nat.reduceSub, Nat.reduceLT, Nat.reduceLeDiff, Nat.reduceEqDiff, Nat.add_assoc, Int.reduceAdd, Int.reduceSub, Int.reduceMul, Int.reduceLT, Int.reduceLE, Int.reduceEq, Int.reduceNeg, strOp_add, e0, e3, e4, hi, hs, ha, w1, List.length_map]
    refine hq _ _ fun k d pv s c iv m' B' q1 q2 q3 q4 q5 q6 => ?_
    have hs' := (q4 m.nid (by show m.nid < st.nid; omega)).trans hs
    simp only [AV.one] at q5 q6
    simp +decide only [go_sem, Nat.reduceAdd, Nat.reduceMul, Nat.reduceSub, Nat.reduceLT, Nat.reduceLeDiff, Nat.reduceEqDiff, Nat.add_assoc, Int.reduceAdd, Int.reduceSub, Int.reduceMul, Int.reduceLT, Int.reduceLE, Int.reduceEq, Int.reduceNeg, strOp_add, e0, e3, e4, hi, hs', hll, hsp, w1, q5, q6, List.length_map]
    have q3' : st.nid ≤ m'.nid := q3
    refine ⟨by omega, fun j hj => ?_, a ++ [.int .i64 k, .str d, pv, .int .i64 s, .int .i64 c, iv], z, B ++ B', ?_, ?_, by simp only [List.append_assoc, List.cons_append, List.nil_append, hsp], ?_⟩
    · simp (disch := omega) only [upd_hit, upd_miss]
      exact (q4 j (by show j < st.nid; omega)).trans (hfr j hj)
    · rw [htk]
      refine (oCel_app _ _).2 ⟨a, B, _, B', rfl, rfl, hO.keep fun b hb => ?_, oCel_one (q1.keep _ fun b hb => ?_)⟩
      · have := hB.2 b hb
        show upd _ _ _ _ = _
        simp (disch := omega) only [upd_hit, upd_miss]
        exact q4 b (by show b < st.nid; omega)
      · have h5 : st.nid ≤ b := (q2.2 b hb).1
        show upd _ _ _ _ = _
        simp (disch := omega) only [upd_hit, upd_miss]
    · exact hB.app q2 en q3'
    · simp only [List.length_cons] at hz
      omega
  · rintro st ⟨e0, e3, e4, en, hfr, a, z, B, hO, hB, hs, hz⟩
    rw [List.take_length] at hO
    have hz0 : z = [] := List.eq_nil_of_length_eq_zero (by rw [hz, Nat.sub_self, Nat.zero_mul])
    subst hz0
    rw [List.append_nil] at hs
    simp +decide only [go_sem, Nat.reduceAdd, Nat.reduceMul, Nat.reduceSub, Nat.reduceLT, Nat.reduceLeDiff, Nat.reduceEqDiff, Nat.add_assoc, Int.reduceAdd, Int.reduceSub, Int.reduceMul, Int.reduceLT, Int.reduceLE, Int.reduceEq, Int.reduceNeg, strOp_add, e0, e3, e4, List.length_map]
    exact hQ _ _ (m.nid :: B) (.inr ⟨m.nid, 0, true, none, a, B, rfl, hs, hO, rfl⟩) (hB.cons (Nat.le_refl _) en) (by show m.nid ≤ st.nid; omega) hfr rfl
  · simp +decide only [go_sem, Nat.reduceAdd, Nat.reduceMul, Nat.reduceSub, Nat.reduceLT, Nat.reduceLeDiff, Nat.reduceEqDiff, Nat.add_assoc, Int.reduceAdd, Int.reduceSub, Int.reduceMul, Int.reduceLT, Int.reduceLE, Int.reduceEq, Int.reduceNeg, strOp_add]
    exact ⟨rfl, Nat.le_refl _, fun j hj => by simp (disch := omega) only [upd_hit, upd_miss], [], _, [], oCel_nil.2 ⟨rfl, rfl⟩, Own.nil _ _, rfl, by simp⟩
set_option maxHeartbeats 4000000 in
theorem toNode_wp : ∀ (n : Nod), n.Sane → ∀ (m : Mem) (Q : AV × Mem → Prop), (∀ k d pv s c iv m' B, ONod m' n [.int .i64 k, .str d, pv, .int .i64 s, .int .i64 c, iv] B → Own m.nid m'.nid B → m.nid ≤ m'.nid → (∀ j, j < m.nid → m'.sto j = m.sto j) → pv.one = true → iv.one = true → Q (.agg [.int .i64 k, .str d, pv, .int .i64 s, .int .i64 c, iv], m')) → Comes (fnI CC PR 9 [n.av] m) Q := by
  intro n
  induction n using Nod.ind with
  | h k d p s c i ih1 ih2 =>
  intro hd m Q hQ
  cases hd with
  | mk _ _ _ _ _ _ hk hs hc hd hp hi h1 h2 =>
  rw [Nod.av_mk]
  refine fnI_wp (rs := [.cell 2 31]) Tryd.func9 rfl rfl (Nat.le_of_ble_eq_true rfl) rfl rfl ?_
  simp +decide (disch := first | decide | omega) only [go_sem, Nat.reduceAdd, Nat.reduceMul, Nat.reduceSub, Nat.reduceLT, Nat.reduceLeDiff, Nat.reduceEqDiff, Nat.add_assoc, Int.reduceAdd, Int.reduceSub, Int.reduceMul, Int.reduceLT, Int.reduceLE, Int.reduceEq, Int.reduceNeg, strOp_add]
  refine toNodes_wp p hp (fun x hx => ih1 x hx (h1 x hx)) _ _ fun pv m1 B1 q1 q2 q3 q4 q5 => ?_
  have q3' : m.nid + 3 ≤ m1.nid := q3
  have s0 := q4 m.nid (by show m.nid < m.nid + 3; omega)
  have s1 := q4 (m.nid + 1) (by show m.nid + 1 < m.nid + 3; omega)
  have s2 := q4 (m.nid + 2) (by show m.nid + 2 < m.nid + 3; omega)
  simp (disch := omega) only [upd_hit, upd_miss] at s0 s1 s2
  have q8 := AV.cells_one q5
  have q9 := q5
  simp only [AV.cells] at q8
  simp only [AV.one] at q5
  simp +decide (disch := first | decide | omega) only [go_sem, Nat.reduceAdd, Nat.reduceMul, Nat.reduceSub, Nat.reduceLT, Nat.reduceLeDiff, Nat.reduceEqDiff, Nat.add_assoc, Int.reduceAdd, Int.reduceSub, Int.reduceMul, Int.reduceLT, Int.reduceLE, Int.reduceEq, Int.reduceNeg, strOp_add, s0, s1, s2, q5, q8]
  refine toNodes_wp i hi (fun x hx => ih2 x hx (h2 x hx)) _ _ fun iv m2 B2 r1 r2 r3 r4 r5 => ?_
  have r3' : m1.nid ≤ m2.nid := r3
  have t0 := r4 m.nid (by show m.nid < m1.nid; omega)
  have t1 := r4 (m.nid + 1) (by show m.nid + 1 < m1.nid; omega)
  have t2 := r4 (m.nid + 2) (by show m.nid + 2 < m1.nid; omega)
  simp (disch := omega) only [upd_hit, upd_miss, s0, s1, s2] at t0 t1 t2
  have r8 := AV.cells_one r5
  have r9 := r5
  simp only [AV.cells] at r8
  simp only [AV.one] at r5
  simp +decide (disch := first | decide | omega) only [go_sem, Nat.reduceAdd, Nat.reduceMul, Nat.reduceSub, Nat.reduceLT, Nat.reduceLeDiff, Nat.reduceEqDiff, Nat.add_assoc, Int.reduceAdd, Int.reduceSub, Int.reduceMul, Int.reduceLT, Int.reduceLE, Int.reduceEq, Int.reduceNeg, strOp_add, t0, t1, t2, q5, q8, r5, r8]
  have hk1 : ∀ x y : Blk, ∀ b, m.nid + 3 ≤ b → b < m1.nid → upd (upd m2.sto (m.nid + 2) x) (m.nid + 1) y b = m1.sto b := fun x y b c1 c2 => by
    simp (disch := omega) only [upd_hit, upd_miss]
    refine (r4 b c2).trans ?_
    show upd _ _ _ _ = _
    simp (disch := omega) only [upd_hit, upd_miss]
  refine hQ k d pv s c iv ⟨_, m2.nid⟩ (B1 ++ B2) (oNod_iff.2 ⟨pv, iv, B1, B2, rfl, rfl, q1.keep fun b hb => ?_, r1.keep fun b hb => ?_⟩) ?_ ?_ ?_ q9 r9
  · have h5 : m.nid + 3 ≤ b := (q2.2 b hb).1
    exact hk1 _ _ b h5 (q2.2 b hb).2
  · have h5 : m1.nid ≤ b := (r2.2 b hb).1
    show upd _ _ _ _ = _
    simp (disch := omega) only [upd_hit, upd_miss]
  · exact ((q2.wide (lo' := m.nid + 3) (Nat.le_refl _) (Nat.le_refl _)).app r2 (by omega) r3').wide (by omega) (Nat.le_refl _)
  · show m.nid ≤ m2.nid
    omega
  · intro j hj
    show upd _ _ _ _ = _
    simp (disch := omega) only [upd_hit, upd_miss]
    refine (r4 j (by show j < m1.nid; omega)).trans ?_
    show upd _ _ _ _ = _
    simp (disch := omega) only [upd_hit, upd_miss]
    refine (q4 j (by show j < m.nid + 3; omega)).trans ?_
    show upd _ _ _ _ = _
    simp (disch := omega) only [upd_hit, upd_miss]
end Go.Ev.Tryd
