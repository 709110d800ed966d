/- Part of the proof of a statement about the given program: V12F. No condition of its own. -/
import Derived.Test.YtjjebjackjeneaaDoorV11F
namespace Go.Ev.Tryd
open Go.Proofs
set_option maxRecDepth 10000
set_option linter.unusedSimpArgs false
set_option linter.unusedVariables false
attribute [local congr] comes_congr bB_congr gK_congr gdK_congr

/-- Paths that grow, in a block of their own. -/
def GPs (M : Mem) (ps : List (List ByteArray)) (v : AV) (B : List Nat) : Prop :=
  (ps = [] ∧ v = .nils 1 ∧ B = []) ∨ ∃ id g ty cs B', v = .arr id g 0 ps.length 1 true ∧ M.sto id = ⟨cs, g, false, ty⟩ ∧ OPc M ps cs B' ∧ B = id :: B'
theorem GPs.ps {M : Mem} {ps : List (List ByteArray)} {v : AV} {B : List Nat} (h : GPs M ps v B) : OPs M ps v B := by
  rcases h with h | ⟨id, g, ty, cs', B', h1, h2, h3, h4⟩
  · exact .inl h
  · exact .inr ⟨id, g, true, ty, cs', B', h1, h2, h3, h4⟩
theorem GPs.keep {M M' : Mem} {ps : List (List ByteArray)} {v : AV} {B : List Nat} (h : GPs M ps v B) (e : ∀ b ∈ B, M'.sto b = M.sto b) : GPs M' ps v B := by
  rcases h with h2 | ⟨id, g, ty, cs', B', q1, q2, q3, rfl⟩
  · exact .inl h2
  · exact .inr ⟨id, g, ty, cs', B', q1, by rw [e id (by simp)]; exact q2, q3.keep _ fun b hb => e b (by simp [hb]), rfl⟩

set_option maxHeartbeats 4000000 in
theorem ahead_wp (q : ByteArray) (ps : List (List ByteArray)) (hn : ps.length ≤ 1099511627776) (hp : ∀ p ∈ ps, p.length ≤ 1000000) (v : AV) (B : List Nat) (m : Mem) (hO : OPs m ps v B) (hB : ∀ b ∈ B, b < m.nid) (Q : AV × Mem → Prop)
    (hQ : ∀ v' m' B', GPs m' (ps.map (q :: ·)) v' B' → Own m.nid m'.nid B' → m.nid ≤ m'.nid → (∀ j, j < m.nid → m'.sto j = m.sto j) → Q (v', m')) :
    Comes (fnI CC PR 52 [.str q, v] m) Q := by
  rcases hO with ⟨rfl, rfl, rfl⟩ | ⟨id, g, app, ty, cs, B, rfl, hs, hC, rfl⟩
  · refine fnI_wp (rs := [.tmp 4]) Tryd.func52 rfl rfl (Nat.le_of_ble_eq_true rfl) rfl rfl ?_
    simp +decide only [go_sem, Nat.reduceAdd, Nat.reduceMul, Nat.reduceSub, Nat.reduceLT, Nat.reduceLeDiff, Nat.reduceEqDiff, Nat.add_assoc, Int.reduceAdd, Int.reduceSub, Int.reduceMul, Int.reduceLT, Int.reduceLE, Int.reduceEq, Int.reduceNeg, strOp_add]
    refine comes_upto 0 (fun i st => st.env 9 = .int .i64 0 ∧ st.env 10 = .int .i64 i ∧ st.env 5 = .nils 1 ∧ st.nid = m.nid ∧ st.sto = m.sto) ?_ ?_ _ ?_
    · rintro i st hi; omega
    · rintro st ⟨e9, e10, e5, en, es⟩
      simp +decide only [go_sem, Nat.reduceAdd, Nat.reduceMul, Nat.reduceSub, Nat.reduceLT, Nat.reduceLeDiff, Nat.reduceEqDiff, Nat.add_assoc, Int.reduceAdd, Int.reduceSub, Int.reduceMul, Int.reduceLT, Int.reduceLE, Int.reduceEq, Int.reduceNeg, strOp_add, e5, e9, e10]
      exact hQ _ _ [] (.inl ⟨rfl, rfl, rfl⟩) (Own.nil _ _) (by show m.nid ≤ st.nid; omega) fun j hj => by show st.sto j = _; rw [es]
    · simp +decide only [go_sem, Nat.reduceAdd, Nat.reduceMul, Nat.reduceSub, Nat.reduceLT, Nat.reduceLeDiff, Nat.reduceEqDiff, Nat.add_assoc, Int.reduceAdd, Int.reduceSub, Int.reduceMul, Int.reduceLT, Int.reduceLE, Int.reduceEq, Int.reduceNeg, strOp_add]
      rfl
  · have hid := hB id (by simp)
    have hBB : ∀ b ∈ B, b < m.nid := fun b hb => hB b (by simp [hb])
    refine fnI_wp (rs := [.tmp 4]) Tryd.func52 rfl rfl (Nat.le_of_ble_eq_true rfl) rfl rfl ?_
    simp +decide only [go_sem, Nat.reduceAdd, Nat.reduceMul, Nat.reduceSub, Nat.reduceLT, Nat.reduceLeDiff, Nat.reduceEqDiff, Nat.add_assoc, Int.reduceAdd, Int.reduceSub, Int.reduceMul, Int.reduceLT, Int.reduceLE, Int.reduceEq, Int.reduceNeg, strOp_add]
    refine comes_upto ps.length (fun i st => st.env 0 = .str q ∧ st.env 8 = .arr id g 0 ps.length 1 app ∧ st.env 9 = .int .i64 ps.length ∧ st.env 10 = .int .i64 i ∧ m.nid ≤ st.nid ∧ (∀ j, j < m.nid → st.sto j = m.sto j) ∧ ∃ u Bu, st.env 5 = u ∧ GPs st.toMem ((ps.take i).map (q :: ·)) u Bu ∧ Own m.nid st.nid Bu) ?_ ?_ _ ?_
    · rintro i st hi ⟨e0, e8, e9, e10, en, hfr, u, Bu, e5, hG, hV⟩
      obtain ⟨xv, r, Bi, hdr, hx, hxS⟩ := hC.at hi
      have hxB : ∀ b ∈ Bi, b < m.nid := fun b hb => hBB b (hxS.subset hb)
      have w1 : IntKind.wrap .i64 ((i : Int) + 1) = ((i + 1 : Nat) : Int) := wrap_succ (by omega)
      have hln : ((ps.take i).map (q :: ·)).length = i := by simp; omega
      have htk : (ps.take (i + 1)).map (q :: ·) = (ps.take i).map (q :: ·) ++ [q :: ps[i]] := by
        rw [List.take_succ_eq_append_getElem hi, List.map_append]
        rfl
      have hpi := hp _ (List.getElem_mem hi)
      rw [htk]
      generalize (ps.take i).map (q :: ·) = A at *
      generalize ps[i] = x at *
      have hx2 := hx
      obtain ⟨xi, xg, xapp, xty, rfl, xs, rfl⟩ := hx
      have sid := (hfr id hid).trans hs
      have n1 : ¬ id = st.nid := by omega
      simp +decide (disch := first | decide | omega) only [go_sem, Nat.reduceAdd, Nat.reduceMul, Nat.reduceSub, Nat.reduceLT, Nat.reduceLeDiff, Nat.reduceEqDiff, Nat.add_assoc, Int.reduceAdd, Int.reduceSub, Int.reduceMul, Int.reduceLT, Int.reduceLE, Int.reduceEq, Int.reduceNeg, strOp_add, e0, e5, e8, e9, e10, hi, sid, hdr, n1, w1]
      have fr0 : ∀ (y z : Blk) (j : Nat), j < st.nid → upd (upd st.sto st.nid y) (st.nid + 1) z j = st.sto j := fun y z j hj => by
        simp (disch := omega) only [upd_hit, upd_miss]
      refine Concat_wp q x hpi _ _ [st.nid] [xi] (st.nid + 1) 0 _ none _ (upd_hit _ _ _) (by show st.nid + 1 < st.nid + 2; omega) ⟨st.nid, 0, _, none, rfl, ?_, rfl⟩ (hx2.keep fun b hb => ?_) (fun b hb => ?_) (fun b hb => ?_) _ fun v' m1 B1 q1 q2 q3 q4 q5 => ?_
      · show upd _ _ _ _ = _
        simp (disch := omega) only [upd_hit, upd_miss]
        rfl
      · have := hxB b hb
        exact (fr0 _ _ b (by omega)).trans (hfr b this)
      · have := List.mem_singleton.1 hb
        show b < st.nid + 2
        omega
      · have := hxB b hb
        show b < st.nid + 2
        omega
      have q3' : st.nid + 2 ≤ m1.nid := q3
      have q7 : ∀ j, j < st.nid → m1.sto j = st.sto j := fun j hj => (q4 j (by show j < st.nid + 2; omega)).trans (fr0 _ _ j hj)
      have q5' := q5
      simp only [AV.one] at q5
      have hfr2 : ∀ j, j < m.nid → m1.sto j = m.sto j := fun j hj => (q7 j (by omega)).trans (hfr j hj)
      have q2' : ∀ b ∈ B1, st.nid + 2 ≤ b ∧ b < m1.nid := q2.2
      have q8 := AV.cells_one q5'
      simp only [AV.cells] at q8
      rcases hG with ⟨hl0, rfl, rfl⟩ | ⟨gid, gg, gty, gcs, gB, rfl, gs, gC, rfl⟩
      · have hi0 : i = 0 := by rw [hl0] at hln; exact hln.symm
        simp +decide (disch := first | decide | omega) only [go_sem, Nat.reduceAdd, Nat.reduceMul, Nat.reduceSub, Nat.reduceLT, Nat.reduceLeDiff, Nat.reduceEqDiff, Nat.add_assoc, Int.reduceAdd, Int.reduceSub, Int.reduceMul, Int.reduceLT, Int.reduceLE, Int.reduceEq, Int.reduceNeg, strOp_add, e0, e5, e8, e9, e10, q5, q8, w1]
        refine ⟨by omega, fun j hj => ?_, _, (m1.nid + 1) :: B1, rfl, .inr ⟨m1.nid + 1, 0, some (23, false), [v'], B1, ?_, upd_hit _ _ _, ?_, rfl⟩, ⟨List.nodup_cons.2 ⟨fun hx => ?_, q2.1⟩, fun b hb => ?_⟩⟩
        · simp (disch := omega) only [upd_hit, upd_miss]
          exact hfr2 j hj
        · rw [hl0]; rfl
        · rw [hl0]
          refine opc_one (q1.keep fun b hb => ?_)
          have := q2' b hb
          show upd _ _ _ _ = _
          simp (disch := omega) only [upd_hit, upd_miss]
        · have := q2' _ hx; omega
        · show _ ∧ b < m1.nid + 2
          rcases List.mem_cons.1 hb with rfl | hb
          · omega
          · have h1 := q2' b hb
            omega
      · have gi := hV.2 gid (by simp)
        obtain ⟨gn1, gn2⟩ := List.nodup_cons.1 hV.1
        have gs2 := (q7 gid gi.2).trans gs
        have gB2 : ∀ b ∈ gB, m.nid ≤ b ∧ b < st.nid := fun b hb => hV.2 b (by simp [hb])
        have hc1 : A.length = gcs.length := (opc_len _ gC).symm
        have hc2 : gcs.length + 1 ≤ most := by rw [← hc1, hln]; simp only [most]; omega
        have hc3 : ¬ gid = m1.nid := by omega
        simp +decide (disch := first | decide | omega) only [go_sem, Nat.reduceAdd, Nat.reduceMul, Nat.reduceSub, Nat.reduceLT, Nat.reduceLeDiff, Nat.reduceEqDiff, Nat.add_assoc, Int.reduceAdd, Int.reduceSub, Int.reduceMul, Int.reduceLT, Int.reduceLE, Int.reduceEq, Int.reduceNeg, strOp_add, e0, e5, e8, e9, e10, gs2, q5, q8, w1, hc1, hc2, hc3]
        have hM : ∀ x y : Blk, ∀ j, j ≠ gid → j ≠ m1.nid → upd (upd m1.sto m1.nid x) gid y j = m1.sto j := fun x y j c1 c2 => by
          simp (disch := omega) only [upd_hit, upd_miss]
        refine ⟨by omega, fun j hj => ?_, _, gid :: (gB ++ B1), rfl, .inr ⟨gid, gg + 1, grewT 23 gty, gcs ++ [v'], gB ++ B1, ?_, upd_hit _ _ _, ?_, rfl⟩, ⟨List.nodup_cons.2 ⟨fun hx => ?_, List.nodup_append.2 ⟨gn2, q2.1, fun a ha b hb e => ?_⟩⟩, fun b hb => ?_⟩⟩
        · rw [hM _ _ j (by omega) (by omega)]
          exact hfr2 j hj
        · rw [List.length_append, hc1]; rfl
        · refine (opc_app _ _).2 ⟨gcs, gB, _, B1, rfl, rfl, gC.keep _ fun b hb => ?_, opc_one (q1.keep fun b hb => ?_)⟩
          · have h1 := gB2 b hb
            exact (hM _ _ b (fun e => gn1 (e ▸ hb)) (by omega)).trans (q7 b h1.2)
          · have h1 := q2' b hb
            exact hM _ _ b (by omega) (by omega)
        · rcases List.mem_append.1 hx with hx | hx
          · exact gn1 hx
          · have h2 := q2' _ hx
            omega
        · have h1 := gB2 a ha
          have h2 := q2' _ hb
          omega
        · show _ ∧ b < m1.nid + 1
          rcases List.mem_cons.1 hb with rfl | hb
          · omega
          rcases List.mem_append.1 hb with hb | hb
          · have h1 := gB2 b hb
            omega
          · have h1 := q2' b hb
            omega
    · rintro st ⟨e0, e8, e9, e10, en, hfr, u, Bu, e5, hG, hV⟩
      rw [List.take_length] at hG
      simp +decide only [go_sem, Nat.reduceAdd, Nat.reduceMul, Nat.reduceSub, Nat.reduceLT, Nat.reduceLeDiff, Nat.reduceEqDiff, Nat.add_assoc, Int.reduceAdd, Int.reduceSub, Int.reduceMul, Int.reduceLT, Int.reduceLE, Int.reduceEq, Int.reduceNeg, strOp_add, e5, e8, e9, e10]
      exact hQ _ _ Bu hG hV en hfr
    · simp +decide only [go_sem, Nat.reduceAdd, Nat.reduceMul, Nat.reduceSub, Nat.reduceLT, Nat.reduceLeDiff, Nat.reduceEqDiff, Nat.add_assoc, Int.reduceAdd, Int.reduceSub, Int.reduceMul, Int.reduceLT, Int.reduceLE, Int.reduceEq, Int.reduceNeg, strOp_add]
      exact ⟨rfl, Nat.le_refl _, fun _ _ => trivial, _, [], rfl, .inl ⟨rfl, rfl, rfl⟩, Own.nil _ _⟩
end Go.Ev.Tryd
