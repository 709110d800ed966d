/- Part of the proof of a statement about the given program: Y8I. No condition of its own. -/
import Derived.Test.YthlmbapkgblnkaaDoorY7I
namespace Go.Ev.Tryd
open Go.Proofs
set_option maxRecDepth 10000
set_option linter.unusedSimpArgs false
set_option linter.unusedVariables false
attribute [local congr] comes_congr bB_congr gK_congr gdK_congr

theorem OCel.at {M : Mem} {l : List Nod} {cs : List AV} {B : List Nat} (h : OCel M l cs B) {i : Nat} (hi : i < l.length) : ∃ k d pv s c iv r Bi, cs.drop (i * 6) = .int .i64 k :: .str d :: pv :: .int .i64 s :: .int .i64 c :: iv :: r ∧ ONod M l[i] [.int .i64 k, .str d, pv, .int .i64 s, .int .i64 c, iv] Bi ∧ Bi.Sublist B := by
  have h2 := h
  rw [← List.take_append_drop i l, List.drop_eq_getElem_cons hi] at h2
  obtain ⟨c1, B1, c2, B2, rfl, rfl, hX, hC2⟩ := (oCel_app _ _).1 h2
  obtain ⟨c3, B3, c4, B4, rfl, rfl, hD, hY⟩ := oCel_cons.1 hC2
  have hal : c1.length = i * 6 := by rw [oCel_len _ hX, List.length_take, Nat.min_eq_left (by omega)]
  generalize l[i] = d at *
  obtain ⟨dk, dd, dp, ds, dc, di⟩ := d
  have hD2 := hD
  obtain ⟨pv, iv, Bp, Bi, rfl, rfl, hp, hi⟩ := oNod_iff.1 hD
  refine ⟨dk, dd, pv, ds, dc, iv, c4, Bp ++ Bi, ?_, hD2, (List.sublist_append_left _ _).trans (List.sublist_append_right _ _)⟩
  rw [← hal, List.drop_left]
  rfl
/-- A list that grows, in a block of its own. -/
def GLst (M : Mem) (l : List Nod) (v : AV) (B : List Nat) : Prop :=
  (l = [] ∧ v = .nils 6 ∧ B = []) ∨ ∃ id g ty cs' B', v = .arr id g 0 l.length 6 true ∧ M.sto id = ⟨cs', g, false, ty⟩ ∧ OCel M l cs' B' ∧ B = id :: B'
theorem GLst.lst {M : Mem} {l : List Nod} {v : AV} {B : List Nat} (h : GLst M l v B) : OLst M l v B := by
  rcases h with h | ⟨id, g, ty, cs', B', h1, h2, h3, h4⟩
  · exact .inl h
  · exact .inr ⟨id, g, true, ty, cs', B', h1, h2, h3, h4⟩
set_option maxHeartbeats 4000000 in
theorem copies_wp (l : List Nod) (hl : l.length ≤ 1048576)
    (ih : ∀ x ∈ l, ∀ (cs : List AV) (B : List Nat) (m : Mem), ONod m x cs B → (∀ b ∈ B, b < m.nid) → ∀ (Q : AV × Mem → Prop), (∀ k d pv s c iv m' B', ONod m' x [.int .i64 k, .str d, pv, .int .i64 s, .int .i64 c, iv] B' → Own m.nid m'.nid B' → m.nid ≤ m'.nid → (∀ j, j < m.nid → m'.sto j = m.sto j) → pv.one = true → iv.one = true → Q (.agg [.int .i64 k, .str d, pv, .int .i64 s, .int .i64 c, iv], m')) → Comes (fnI CC PR 30 [.agg cs] m) Q)
    (v : AV) (B : List Nat) (m : Mem) (hO : OLst m l v B) (hB : ∀ b ∈ B, b < m.nid) (Q : AV × Mem → Prop)
    (hQ : ∀ v' m' B', OLst m' l v' B' → Own m.nid m'.nid B' → m.nid ≤ m'.nid → (∀ j, j < m.nid → m'.sto j = m.sto j) → Q (v', m')) :
    Comes (fnI CC PR 56 [v] m) Q := by
  rcases hO with ⟨rfl, rfl, rfl⟩ | ⟨id, g, app, ty, cs, B, rfl, hs, hC, rfl⟩
  · refine fnI_wp (rs := [.tmp 2]) Tryd.func56 rfl rfl (Nat.le_of_ble_eq_true rfl) rfl rfl ?_
    simp +decide (disch := first | decide | omega) only [go_sem, Nat.reduceAdd, Nat.reduceMul, Nat.reduceSub, Nat.reduceLT, Nat.reduceLeDiff, Nat.reduceEqDiff, Nat.add_assoc, Int.reduceAdd, Int.reduceSub, Int.reduceMul, Int.reduceLT, Int.reduceLE, Int.reduceEq, Int.reduceNeg, strOp_add]
    refine comes_upto 0 (fun i st => st.env 7 = .int .i64 0 ∧ st.env 8 = .int .i64 i ∧ st.env 3 = .nils 6 ∧ st.nid = m.nid ∧ st.sto = m.sto) ?_ ?_ _ ?_
    · rintro i st hi; omega
    · rintro st ⟨e7, e8, e3, en, es⟩
      simp +decide (disch := first | decide | omega) only [go_sem, Nat.reduceAdd, Nat.reduceMul, Nat.reduceSub, Nat.reduceLT, Nat.reduceLeDiff, Nat.reduceEqDiff, Nat.add_assoc, Int.reduceAdd, Int.reduceSub, Int.reduceMul, Int.reduceLT, Int.reduceLE, Int.reduceEq, Int.reduceNeg, strOp_add, e3, e7, e8]
      exact hQ _ _ [] (.inl ⟨rfl, rfl, rfl⟩) (Own.nil _ _) (by show m.nid ≤ st.nid; omega) fun j hj => by show st.sto j = _; rw [es]
    · simp +decide (disch := first | decide | omega) only [go_sem, Nat.reduceAdd, Nat.reduceMul, Nat.reduceSub, Nat.reduceLT, Nat.reduceLeDiff, Nat.reduceEqDiff, Nat.add_assoc, Int.reduceAdd, Int.reduceSub, Int.reduceMul, Int.reduceLT, Int.reduceLE, Int.reduceEq, Int.reduceNeg, strOp_add]
      rfl
  · have hid := hB id (by simp)
    have hBB : ∀ b ∈ B, b < m.nid := fun b hb => hB b (by simp [hb])
    refine fnI_wp (rs := [.tmp 2]) Tryd.func56 rfl rfl (Nat.le_of_ble_eq_true rfl) rfl rfl ?_
    simp +decide (disch := first | decide | omega) only [go_sem, Nat.reduceAdd, Nat.reduceMul, Nat.reduceSub, Nat.reduceLT, Nat.reduceLeDiff, Nat.reduceEqDiff, Nat.add_assoc, Int.reduceAdd, Int.reduceSub, Int.reduceMul, Int.reduceLT, Int.reduceLE, Int.reduceEq, Int.reduceNeg, strOp_add]
    refine comes_upto l.length (fun i st => st.env 6 = .arr id g 0 l.length 6 app ∧ st.env 7 = .int .i64 l.length ∧ st.env 8 = .int .i64 i ∧ m.nid ≤ st.nid ∧ (∀ j, j < m.nid → st.sto j = m.sto j) ∧ ∃ v Bv, st.env 3 = v ∧ GLst st.toMem (l.take i) v Bv ∧ Own m.nid st.nid Bv) ?_ ?_ _ ?_
    · rintro i st hi ⟨e6, e7, e8, en, hfr, v, Bv, e3, hG, hV⟩
      obtain ⟨xk, xd, xp, xs, xc, xi, r, Bi, hdr, hxO, hxS⟩ := hC.at hi
      have hxB : ∀ b ∈ Bi, b < m.nid := fun b hb => hBB b (hxS.subset hb)
      have w1 : IntKind.wrap .i64 ((i : Int) + 1) = ((i + 1 : Nat) : Int) := wrap_succ (by omega)
      have hIH := ih _ (List.getElem_mem hi)
      have hln : (l.take i).length = i := by rw [List.length_take]; omega
      have htk : l.take (i + 1) = l.take i ++ [l[i]] := List.take_succ_eq_append_getElem hi
      rw [htk]
      generalize l[i] = x at *
      have sid := (hfr id hid).trans hs
      have n1 : ¬ id = st.nid := by omega
      have ll : (6 ≤ r.length + 6) = True := eq_true (by omega)
      obtain ⟨x1, x2⟩ := hxO.ones
      simp only [AV.one] at x1 x2
      simp +decide (disch := first | decide | omega) only [go_sem, Nat.reduceAdd, Nat.reduceMul, Nat.reduceSub, Nat.reduceLT, Nat.reduceLeDiff, Nat.reduceEqDiff, Nat.add_assoc, Int.reduceAdd, Int.reduceSub, Int.reduceMul, Int.reduceLT, Int.reduceLE, Int.reduceEq, Int.reduceNeg, strOp_add, e3, e6, e7, e8, sid, n1, hi, hdr, ll, x1, x2, w1, true_or]
      have fr0 : ∀ (y z : Blk) (j : Nat), j < st.nid → upd (upd st.sto st.nid y) st.nid z j = st.sto j := fun y z j hj => by
        simp (disch := omega) only [upd_hit, upd_miss]
      refine hIH _ Bi _ (hxO.keep _ fun b hb => ?_) (fun b hb => ?_) _ fun yk yd yp ys yc yi m1 B2 q1 q2 q3 q4 q5 q6 => ?_
      · have := hxB b hb
        exact (fr0 _ _ b (by omega)).trans (hfr b this)
      · show b < st.nid + 1
        have := hxB b hb
        omega
      have q3' : st.nid + 1 ≤ m1.nid := q3
      have q7 : ∀ j, j < st.nid → m1.sto j = st.sto j := fun j hj => (q4 j (by show j < st.nid + 1; omega)).trans (fr0 _ _ j hj)
      simp only [AV.one] at q5 q6
      have hfr2 : ∀ j, j < m.nid → m1.sto j = m.sto j := fun j hj => (q7 j (by omega)).trans (hfr j hj)
      have q2' : ∀ b ∈ B2, st.nid + 1 ≤ b ∧ b < m1.nid := q2.2
      rcases hG with ⟨hl0, rfl, rfl⟩ | ⟨gid, gg, gty, gcs, gB, rfl, gs, gC, rfl⟩
      · have hi0 : i = 0 := by rw [hl0] at hln; exact hln.symm
        simp +decide (disch := first | decide | omega) only [go_sem, Nat.reduceAdd, Nat.reduceMul, Nat.reduceSub, Nat.reduceLT, Nat.reduceLeDiff, Nat.reduceEqDiff, Nat.add_assoc, Int.reduceAdd, Int.reduceSub, Int.reduceMul, Int.reduceLT, Int.reduceLE, Int.reduceEq, Int.reduceNeg, strOp_add, e3, e6, e7, e8, q5, q6, w1]
        refine ⟨by omega, fun j hj => ?_, _, (m1.nid + 1) :: B2, rfl, .inr ⟨m1.nid + 1, 0, some (31, false), [.int .i64 yk, .str yd, yp, .int .i64 ys, .int .i64 yc, yi], B2, ?_, upd_hit _ _ _, ?_, rfl⟩, ⟨List.nodup_cons.2 ⟨fun hx => ?_, q2.1⟩, fun b hb => ?_⟩⟩
        · simp (disch := omega) only [upd_hit, upd_miss]
          exact hfr2 j hj
        · rw [hl0]; rfl
        · rw [hl0]
          refine oCel_one (q1.keep _ fun b hb => ?_)
          have := q2' b hb
          show upd _ _ _ _ = _
          simp (disch := omega) only [upd_hit, upd_miss]
        · have := q2' _ hx; omega
        · show _ ∧ b < m1.nid + 2
          rcases List.mem_cons.1 hb with rfl | hb
          · omega
          · have h1 := q2' b hb
            omega
      · have gi := hV.2 gid (by simp)
        obtain ⟨gn1, gn2⟩ := List.nodup_cons.1 hV.1
        have gs2 := (q7 gid gi.2).trans gs
        have gB2 : ∀ b ∈ gB, m.nid ≤ b ∧ b < st.nid := fun b hb => hV.2 b (by simp [hb])
        have hc1 : (l.take i).length * 6 = gcs.length := (oCel_len _ gC).symm
        have hc2 : (l.take i).length + 1 ≤ most := by rw [hln]; simp only [most]; omega
        have hc3 : ¬ gid = m1.nid := by omega
        simp +decide (disch := first | decide | omega) only [go_sem, Nat.reduceAdd, Nat.reduceMul, Nat.reduceSub, Nat.reduceLT, Nat.reduceLeDiff, Nat.reduceEqDiff, Nat.add_assoc, Int.reduceAdd, Int.reduceSub, Int.reduceMul, Int.reduceLT, Int.reduceLE, Int.reduceEq, Int.reduceNeg, strOp_add, e3, e6, e7, e8, gs2, q5, q6, w1, hc1, hc2, hc3]
        have hM : ∀ x y : Blk, ∀ j, j ≠ gid → j ≠ m1.nid → upd (upd m1.sto m1.nid x) gid y j = m1.sto j := fun x y j c1 c2 => by
          simp (disch := omega) only [upd_hit, upd_miss]
        refine ⟨by omega, fun j hj => ?_, _, gid :: (gB ++ B2), rfl, .inr ⟨gid, gg + 1, grewT 31 gty, gcs ++ [.int .i64 yk, .str yd, yp, .int .i64 ys, .int .i64 yc, yi], gB ++ B2, ?_, upd_hit _ _ _, ?_, rfl⟩, ⟨List.nodup_cons.2 ⟨fun hx => ?_, List.nodup_append.2 ⟨gn2, q2.1, fun a ha b hb e => ?_⟩⟩, fun b hb => ?_⟩⟩
        · rw [hM _ _ j (by omega) (by omega)]
          exact hfr2 j hj
        · rw [List.length_append]; rfl
        · refine (oCel_app _ _).2 ⟨gcs, gB, _, B2, rfl, rfl, gC.keep fun b hb => ?_, oCel_one (q1.keep _ fun b hb => ?_)⟩
          · have h1 := gB2 b hb
            exact (hM _ _ b (fun e => gn1 (e ▸ hb)) (by omega)).trans (q7 b h1.2)
          · have h1 := q2' b hb
            exact hM _ _ b (by omega) (by omega)
        · rcases List.mem_append.1 hx with hx | hx
          · exact gn1 hx
          · have h2 := q2' _ hx
            omega
        · have h1 := gB2 a ha
          have h2 := q2' _ hb
          omega
        · show _ ∧ b < m1.nid + 1
          rcases List.mem_cons.1 hb with rfl | hb
          · omega
          rcases List.mem_append.1 hb with hb | hb
          · have h1 := gB2 b hb
            omega
          · have h1 := q2' b hb
            omega
    · rintro st ⟨e6, e7, e8, en, hfr, v, Bv, e3, hG, hV⟩
      rw [List.take_length] at hG
      simp +decide (disch := first | decide | omega) only [go_sem, Nat.reduceAdd, Nat.reduceMul, Nat.reduceSub, Nat.reduceLT, Nat.reduceLeDiff, Nat.reduceEqDiff, Nat.add_assoc, Int.reduceAdd, Int.reduceSub, Int.reduceMul, Int.reduceLT, Int.reduceLE, Int.reduceEq, Int.reduceNeg, strOp_add, e3, e7, e8]
      exact hQ _ _ Bv hG.lst hV en hfr
    · simp +decide (disch := first | decide | omega) only [go_sem, Nat.reduceAdd, Nat.reduceMul, Nat.reduceSub, Nat.reduceLT, Nat.reduceLeDiff, Nat.reduceEqDiff, Nat.add_assoc, Int.reduceAdd, Int.reduceSub, Int.reduceMul, Int.reduceLT, Int.reduceLE, Int.reduceEq, Int.reduceNeg, strOp_add]
      exact ⟨rfl, Nat.le_refl _, fun _ _ => trivial, _, [], rfl, .inl ⟨rfl, rfl, rfl⟩, Own.nil _ _⟩
end Go.Ev.Tryd
