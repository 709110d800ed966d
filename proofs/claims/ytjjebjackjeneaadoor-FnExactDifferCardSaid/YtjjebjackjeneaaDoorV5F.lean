/- Part of the proof of a statement about the given program: V5F. No condition of its own. -/
import Derived.Test.YtjjebjackjeneaaDoorV4F
namespace Go.Ev.Tryd
open Go.Proofs
set_option maxRecDepth 10000
set_option linter.unusedSimpArgs false
set_option linter.unusedVariables false
attribute [local congr] comes_congr bB_congr gK_congr gdK_congr

theorem OCel.at {M : Mem} {l : List Dat} {cs : List AV} {B : List Nat} (h : OCel M l cs B) {i : Nat} (hi : i < l.length) : ∃ k n t lv nv r Bi, cs.drop (i * 5) = .int .i64 k :: .int .i64 n :: .str t :: lv :: nv :: r ∧ ODat M l[i] [.int .i64 k, .int .i64 n, .str t, lv, nv] Bi ∧ Bi.Sublist B := by
  have h2 := h
  rw [← List.take_append_drop i l, List.drop_eq_getElem_cons hi] at h2
  obtain ⟨c1, B1, c2, B2, rfl, rfl, hX, hC2⟩ := (oCel_app _ _).1 h2
  obtain ⟨c3, B3, c4, B4, rfl, rfl, hD, hY⟩ := oCel_cons.1 hC2
  have hal : c1.length = i * 5 := by rw [oCel_len _ hX, List.length_take, Nat.min_eq_left (by omega)]
  generalize l[i] = d at *
  obtain ⟨dk, dn, dt, dl, dns⟩ := d
  have hD2 := hD
  obtain ⟨lv, nv, Bl, Bn, rfl, rfl, hnv, hlv⟩ := oDat_iff.1 hD
  refine ⟨dk, dn, dt, lv, nv, c4, Bl ++ Bn, ?_, hD2, (List.sublist_append_left _ _).trans (List.sublist_append_right _ _)⟩
  rw [← hal, List.drop_left]
  rfl

theorem Clone_wp (ns : List ByteArray) (hn : ns.length ≤ 1099511627776) (v : AV) (B : List Nat) (m : Mem) (hO : OStr m ns v B) (hB : ∀ b ∈ B, b < m.nid) (Q : AV × Mem → Prop)
    (hQ : ∀ v' m' B', OStr m' ns v' B' → Own m.nid m'.nid B' → m.nid ≤ m'.nid → (∀ j, j < m.nid → m'.sto j = m.sto j) → Q (v', m')) :
    Comes (fnI CC PR 55 [v] m) Q := by
  refine fnI_wp (rs := [.tmp 2]) Tryd.func55 rfl rfl (Nat.le_of_ble_eq_true rfl) rfl rfl ?_
  rcases hO with ⟨rfl, rfl, rfl⟩ | ⟨id, g, app, ty, rfl, hs, rfl⟩
  · simp +decide only [go_sem, Nat.reduceAdd, Nat.reduceMul, Nat.reduceSub, Nat.reduceLT, Nat.reduceLeDiff, Nat.reduceEqDiff, Nat.add_assoc, Int.reduceAdd, Int.reduceSub, Int.reduceMul, Int.reduceLT, Int.reduceLE, Int.reduceEq, Int.reduceNeg, strOp_add]
    exact hQ _ _ [] (.inl ⟨rfl, rfl, rfl⟩) (Own.nil _ _) (Nat.le_refl _) fun j hj => rfl
  · have hid := hB id (by simp)
    have hnm : (ns.length ≤ most) = True := eq_true (by simp only [most]; omega)
    have htk : List.take ns.length (ns.map AV.str) = ns.map AV.str := List.take_of_length_le (by simp)
    have hne : ¬ id = m.nid := by omega
    simp +decide (disch := first | decide | omega) only [go_sem, Nat.reduceAdd, Nat.reduceMul, Nat.reduceSub, Nat.reduceLT, Nat.reduceLeDiff, Nat.reduceEqDiff, Nat.add_assoc, Int.reduceAdd, Int.reduceSub, Int.reduceMul, Int.reduceLT, Int.reduceLE, Int.reduceEq, Int.reduceNeg, strOp_add, hs, hnm, htk, List.length_map, Nat.le_refl]
    refine hQ _ ⟨_, m.nid + 1⟩ [m.nid] (.inr ⟨m.nid, 1, true, none, rfl, upd_hit _ _ _, rfl⟩) ⟨by simp, by simp⟩ (Nat.le_succ _) fun j hj => ?_
    show upd _ _ _ _ = _
    simp (disch := omega) only [upd_hit, upd_miss]
/-- A list that grows, in a block of its own. -/
def GLst (M : Mem) (l : List Dat) (v : AV) (B : List Nat) : Prop :=
  (l = [] ∧ v = .nils 5 ∧ B = []) ∨ ∃ id g ty cs' B', v = .arr id g 0 l.length 5 true ∧ M.sto id = ⟨cs', g, false, ty⟩ ∧ OCel M l cs' B' ∧ B = id :: B'
theorem GLst.lst {M : Mem} {l : List Dat} {v : AV} {B : List Nat} (h : GLst M l v B) : OLst M l v B := by
  rcases h with h | ⟨id, g, ty, cs', B', h1, h2, h3, h4⟩
  · exact .inl h
  · exact .inr ⟨id, g, true, ty, cs', B', h1, h2, h3, h4⟩
theorem GLst.keep {M M' : Mem} {l : List Dat} {v : AV} {B : List Nat} (h : GLst M l v B) (e : ∀ b ∈ B, M'.sto b = M.sto b) : GLst M' l v B := by
  rcases h with h2 | ⟨id, g, ty, cs', B', q1, q2, q3, rfl⟩
  · exact .inl h2
  · exact .inr ⟨id, g, ty, cs', B', q1, by rw [e id (by simp)]; exact q2, q3.keep fun b hb => e b (by simp [hb]), rfl⟩

set_option maxHeartbeats 4000000 in
theorem copied_wp : ∀ (d : Dat), d.Sane → ∀ (cs : List AV) (B : List Nat) (m : Mem), ODat m d cs B → (∀ b ∈ B, b < m.nid) → ∀ (Q : AV × Mem → Prop), (∀ k n t lv nv m' B', ODat m' d [.int .i64 k, .int .i64 n, .str t, lv, nv] B' → Own m.nid m'.nid B' → m.nid ≤ m'.nid → (∀ j, j < m.nid → m'.sto j = m.sto j) → lv.one = true → nv.one = true → Q (.agg [.int .i64 k, .int .i64 n, .str t, lv, nv], m')) → Comes (fnI CC PR 36 [.agg cs] m) Q := by
  intro d
  induction d using Dat.ind with
  | h k n t l ns ih =>
  intro hd cs B m hO hB Q hQ
  cases hd with
  | mk k n t l ns hk hn ht hl hns hss h =>
  obtain ⟨lv, nv, Bl, Bn, rfl, rfl, hnv, hlv⟩ := oDat_iff.1 hO
  have y2 : ∀ b ∈ Bl, b < m.nid := fun b hb => hB b (by simp [hb])
  have y3 : ∀ b ∈ Bn, b < m.nid := fun b hb => hB b (by simp [hb])
  have o1 := lstR_one hlv.lst
  have o2 := strR_one hnv.str
  simp only [AV.one] at o1 o2
  refine fnI_wp (rs := [.cell 2 31]) Tryd.func36 rfl rfl (Nat.le_of_ble_eq_true rfl) rfl rfl ?_
  rcases hlv with ⟨rfl, rfl, rfl⟩ | ⟨id, g, app, ty, cs, B, rfl, hs, hC, rfl⟩
  · simp +decide (disch := first | decide | omega) only [go_sem, Nat.reduceAdd, Nat.reduceMul, Nat.reduceSub, Nat.reduceLT, Nat.reduceLeDiff, Nat.reduceEqDiff, Nat.add_assoc, Int.reduceAdd, Int.reduceSub, Int.reduceMul, Int.reduceLT, Int.reduceLE, Int.reduceEq, Int.reduceNeg, strOp_add, o1, o2]
    refine comes_upto 0 (fun i st => st.env 1 = .ptr m.nid 0 0 ∧ st.env 2 = .ptr (m.nid + 1) 0 0 ∧ st.env 7 = .nils 5 ∧ st.env 8 = .int .i64 0 ∧ st.env 9 = .int .i64 0 ∧ m.nid + 2 ≤ st.nid ∧ st.sto m.nid = ⟨[.int .i64 k, .int .i64 n, .str t, .nils 5, nv], 0, false, none⟩ ∧ st.sto (m.nid + 1) = ⟨[.int .i64 0, .int .i64 0, .str ⟨#[]⟩, .nils 5, .nils 1], 0, false, some (31, true)⟩ ∧ (∀ j, j < m.nid → st.sto j = m.sto j) ∧ ∃ v Bv, st.env 3 = v ∧ GLst st.toMem [] v Bv ∧ Own (m.nid + 2) st.nid Bv) ?_ ?_ _ ?_
    · rintro i st hi; omega
    · rintro st ⟨e1, e2, e7, e8, e9, en, s0, s1, hfr, v, Bv, e3, hG, hV⟩
      have q8 := AV.cells_one (lstR_one hG.lst.lst)
      have q9 := lstR_one hG.lst.lst
      have q5 := q9
      simp only [AV.cells] at q8
      simp only [AV.one] at q5
      simp +decide (disch := first | decide | omega) only [go_sem, Nat.reduceAdd, Nat.reduceMul, Nat.reduceSub, Nat.reduceLT, Nat.reduceLeDiff, Nat.reduceEqDiff, Nat.add_assoc, Int.reduceAdd, Int.reduceSub, Int.reduceMul, Int.reduceLT, Int.reduceLE, Int.reduceEq, Int.reduceNeg, strOp_add, e1, e2, e3, e7, e8, e9, s0, s1, o1, o2, q5, q8, true_or]
      refine Clone_wp ns hns nv Bn _ ?_ ?_ _ fun nv' m2 B2 r1 r2 r3 r4 => ?_
      · refine hnv.keep fun b hb => ?_
        exact hfr b (y3 b hb)
      · exact fun b hb => by show b < st.nid; have := y3 b hb; omega
      have r3' : st.nid ≤ m2.nid := r3
      have t0 := (r4 m.nid (by show m.nid < st.nid; omega)).trans s0
      have t1 := (r4 (m.nid + 1) (by show m.nid + 1 < st.nid; omega)).trans s1
      have r9 := strR_one r1.str
      have r8 := AV.cells_one r9
      have r5 := r9
      simp only [AV.cells] at r8
      simp only [AV.one] at r5
      simp +decide (disch := first | decide | omega) only [go_sem, Nat.reduceAdd, Nat.reduceMul, Nat.reduceSub, Nat.reduceLT, Nat.reduceLeDiff, Nat.reduceEqDiff, Nat.add_assoc, Int.reduceAdd, Int.reduceSub, Int.reduceMul, Int.reduceLT, Int.reduceLE, Int.reduceEq, Int.reduceNeg, strOp_add, e1, e2, t0, t1, q5, q8, r5, r8]
      have hk2 : ∀ x y z : Blk, ∀ b, m.nid + 2 ≤ b → upd (upd (upd m2.sto m.nid x) m.nid y) (m.nid + 1) z b = m2.sto b := fun x y z b c1 => by
        simp (disch := omega) only [upd_hit, upd_miss]
      refine hQ k n t v nv' ⟨_, m2.nid⟩ (Bv ++ B2) (oDat_iff.2 ⟨v, nv', Bv, B2, rfl, rfl, r1.keep fun b hb => ?_, hG.lst.keep fun b hb => ?_⟩) ?_ ?_ ?_ q9 r9
      · have h5 : st.nid ≤ b := (r2.2 b hb).1
        exact hk2 _ _ _ b (by omega)
      · exact (hk2 _ _ _ b (hV.2 b hb).1).trans (r4 b (hV.2 b hb).2)
      · exact (hV.app r2 en r3').wide (by omega) (Nat.le_refl _)
      · show m.nid ≤ m2.nid
        omega
      · intro j hj
        show upd _ _ _ _ = _
        simp (disch := omega) only [upd_hit, upd_miss]
        exact (r4 j (by show j < st.nid; omega)).trans (hfr j hj)
    · simp +decide (disch := first | decide | omega) only [go_sem, Nat.reduceAdd, Nat.reduceMul, Nat.reduceSub, Nat.reduceLT, Nat.reduceLeDiff, Nat.reduceEqDiff, Nat.add_assoc, Int.reduceAdd, Int.reduceSub, Int.reduceMul, Int.reduceLT, Int.reduceLE, Int.reduceEq, Int.reduceNeg, strOp_add, o2]
      refine ⟨Nat.le_refl _, fun j hj => ?_, _, [], rfl, .inl ⟨rfl, rfl, rfl⟩, Own.nil _ _⟩
      simp (disch := omega) only [upd_hit, upd_miss]
  · have hid := y2 id (by simp)
    have hBB : ∀ b ∈ B, b < m.nid := fun b hb => y2 b (by simp [hb])
    simp +decide (disch := first | decide | omega) only [go_sem, Nat.reduceAdd, Nat.reduceMul, Nat.reduceSub, Nat.reduceLT, Nat.reduceLeDiff, Nat.reduceEqDiff, Nat.add_assoc, Int.reduceAdd, Int.reduceSub, Int.reduceMul, Int.reduceLT, Int.reduceLE, Int.reduceEq, Int.reduceNeg, strOp_add, o1, o2]
    refine comes_upto l.length (fun i st => st.env 1 = .ptr m.nid 0 0 ∧ st.env 2 = .ptr (m.nid + 1) 0 0 ∧ st.env 7 = .arr id g 0 l.length 5 app ∧ st.env 8 = .int .i64 l.length ∧ st.env 9 = .int .i64 i ∧ m.nid + 2 ≤ st.nid ∧ st.sto m.nid = ⟨[.int .i64 k, .int .i64 n, .str t, .arr id g 0 l.length 5 app, nv], 0, false, none⟩ ∧ st.sto (m.nid + 1) = ⟨[.int .i64 0, .int .i64 0, .str ⟨#[]⟩, .nils 5, .nils 1], 0, false, some (31, true)⟩ ∧ (∀ j, j < m.nid → st.sto j = m.sto j) ∧ ∃ v Bv, st.env 3 = v ∧ GLst st.toMem (l.take i) v Bv ∧ Own (m.nid + 2) st.nid Bv) ?_ ?_ _ ?_
    · rintro i st hi ⟨e1, e2, e7, e8, e9, en, s0, s1, hfr, v, Bv, e3, hG, hV⟩
      obtain ⟨xk, xn, xt, xl, xm, r, Bi, hdr, hxO, hxS⟩ := hC.at hi
      have hxB : ∀ b ∈ Bi, b ∈ B := fun b hb => hxS.subset hb
      have w1 : IntKind.wrap .i64 ((i : Int) + 1) = ((i + 1 : Nat) : Int) := wrap_succ (by omega)
      have hIH := ih _ (List.getElem_mem hi) (h _ (List.getElem_mem hi))
      have hln : (l.take i).length = i := by rw [List.length_take]; omega
      have htk : l.take (i + 1) = l.take i ++ [l[i]] := List.take_succ_eq_append_getElem hi
      rw [htk]
      generalize l[i] = x at *
      have sid := (hfr id hid).trans hs
      have n1 : ¬ id = st.nid := by omega
      have ll : (5 ≤ r.length + 5) = True := eq_true (by omega)
      have x1 : xl.one = true ∧ xm.one = true := by
        obtain ⟨a0, a1, a2, a3, a4⟩ := x
        obtain ⟨lv, nv, Bl, Bn, he, _, h1, h2⟩ := oDat_iff.1 hxO
        simp only [List.cons.injEq, and_true] at he
        obtain ⟨-, -, -, rfl, rfl⟩ := he
        exact ⟨lstR_one h2.lst, strR_one h1.str⟩
      obtain ⟨x1, x2⟩ := x1
      simp only [AV.one] at x1 x2
      simp +decide (disch := first | decide | omega) only [go_sem, Nat.reduceAdd, Nat.reduceMul, Nat.reduceSub, Nat.reduceLT, Nat.reduceLeDiff, Nat.reduceEqDiff, Nat.add_assoc, Int.reduceAdd, Int.reduceSub, Int.reduceMul, Int.reduceLT, Int.reduceLE, Int.reduceEq, Int.reduceNeg, strOp_add, e1, e2, e3, e7, e8, e9, s0, s1, sid, n1, hi, hdr, ll, x1, x2, w1, true_or]
      refine hIH _ Bi _ ?_ ?_ _ fun yk yn yt yl ym m1 B2 q1 q2 q3 q4 q5 q6 => ?_
      · refine hxO.keep _ fun b hb => ?_
        have := hBB b (hxB b hb)
        show upd _ _ _ _ = _
        simp (disch := omega) only [upd_hit, upd_miss]
        exact hfr b this
      · exact fun b hb => by show b < st.nid + 1; have := hBB b (hxB b hb); omega
      have q3' : st.nid + 1 ≤ m1.nid := q3
      have q7 : ∀ j, j < st.nid → m1.sto j = st.sto j := fun j hj => (q4 j (by show j < st.nid + 1; omega)).trans (by
        show upd _ _ _ _ = _
        simp (disch := omega) only [upd_hit, upd_miss])
      have t0 := (q7 m.nid (by omega)).trans s0
      have t1 := (q7 (m.nid + 1) (by omega)).trans s1
      simp only [AV.one] at q5 q6
      have hfr2 : ∀ j, j < m.nid → m1.sto j = m.sto j := fun j hj => (q7 j (by omega)).trans (hfr j hj)
      rcases hG with ⟨hl0, rfl, rfl⟩ | ⟨gid, gg, gty, gcs, gB, rfl, gs, gC, rfl⟩
      · have hi0 : i = 0 := by rw [hl0] at hln; exact hln.symm
        simp +decide (disch := first | decide | omega) only [go_sem, Nat.reduceAdd, Nat.reduceMul, Nat.reduceSub, Nat.reduceLT, Nat.reduceLeDiff, Nat.reduceEqDiff, Nat.add_assoc, Int.reduceAdd, Int.reduceSub, Int.reduceMul, Int.reduceLT, Int.reduceLE, Int.reduceEq, Int.reduceNeg, strOp_add, e1, e2, e3, e7, e8, e9, t0, t1, q5, q6, w1]
        refine ⟨by omega, fun j hj => ?_, _, (m1.nid + 1) :: B2, rfl, .inr ⟨m1.nid + 1, 0, some (31, false), [.int .i64 yk, .int .i64 yn, .str yt, yl, ym], B2, ?_, upd_hit _ _ _, ?_, rfl⟩, ⟨List.nodup_cons.2 ⟨fun hx => ?_, q2.1⟩, fun b hb => ?_⟩⟩
        · simp (disch := omega) only [upd_hit, upd_miss]
          exact hfr2 j hj
        · rw [hl0]; rfl
        · rw [hl0]
          refine oCel_one (q1.keep _ fun b hb => ?_)
          have := (q2.2 b hb).2
          show upd _ _ _ _ = _
          simp (disch := omega) only [upd_hit, upd_miss]
        · have := (q2.2 _ hx).2; omega
        · show _ ∧ b < m1.nid + 2
          rcases List.mem_cons.1 hb with rfl | hb
          · omega
          · have h1 := q2.2 b hb
            have h2 : st.nid + 1 ≤ b := h1.1
            omega
      · have gi := hV.2 gid (by simp)
        obtain ⟨gn1, gn2⟩ := List.nodup_cons.1 hV.1
        have gs2 := (q7 gid gi.2).trans gs
        have gB2 : ∀ b ∈ gB, m.nid + 2 ≤ b ∧ b < st.nid := fun b hb => hV.2 b (by simp [hb])
        have hc1 : (l.take i).length * 5 = gcs.length := (oCel_len _ gC).symm
        have hc2 : (l.take i).length + 1 ≤ most := by rw [hln]; simp only [most]; omega
        have hc3 : ¬ gid = m1.nid := by omega
        simp +decide (disch := first | decide | omega) only [go_sem, Nat.reduceAdd, Nat.reduceMul, Nat.reduceSub, Nat.reduceLT, Nat.reduceLeDiff, Nat.reduceEqDiff, Nat.add_assoc, Int.reduceAdd, Int.reduceSub, Int.reduceMul, Int.reduceLT, Int.reduceLE, Int.reduceEq, Int.reduceNeg, strOp_add, e1, e2, e3, e7, e8, e9, t0, t1, gs2, q5, q6, w1, hc1, hc2, hc3]
        have hM : ∀ x y : Blk, ∀ j, j ≠ gid → j ≠ m1.nid → upd (upd m1.sto m1.nid x) gid y j = m1.sto j := fun x y j c1 c2 => by
          simp (disch := omega) only [upd_hit, upd_miss]
        refine ⟨by omega, fun j hj => ?_, _, gid :: (gB ++ B2), rfl, .inr ⟨gid, gg + 1, grewT 31 gty, gcs ++ [.int .i64 yk, .int .i64 yn, .str yt, yl, ym], gB ++ B2, ?_, upd_hit _ _ _, ?_, rfl⟩, ⟨List.nodup_cons.2 ⟨fun hx => ?_, List.nodup_append.2 ⟨gn2, q2.1, fun a ha b hb e => ?_⟩⟩, fun b hb => ?_⟩⟩
        · rw [hM _ _ j (by omega) (by omega)]
          exact hfr2 j hj
        · rw [List.length_append]; rfl
        · refine (oCel_app _ _).2 ⟨gcs, gB, _, B2, rfl, rfl, gC.keep fun b hb => ?_, oCel_one (q1.keep _ fun b hb => ?_)⟩
          · have h1 := gB2 b hb
            exact (hM _ _ b (fun e => gn1 (e ▸ hb)) (by omega)).trans (q7 b h1.2)
          · have h1 := q2.2 b hb
            have h2 : st.nid + 1 ≤ b := h1.1
            exact hM _ _ b (by omega) (by omega)
        · rcases List.mem_append.1 hx with hx | hx
          · exact gn1 hx
          · have h2 : st.nid + 1 ≤ gid := (q2.2 _ hx).1
            omega
        · have h1 := gB2 a ha
          have h2 : st.nid + 1 ≤ b := (q2.2 _ hb).1
          omega
        · show _ ∧ b < m1.nid + 1
          rcases List.mem_cons.1 hb with rfl | hb
          · omega
          rcases List.mem_append.1 hb with hb | hb
          · have h1 := gB2 b hb
            omega
          · have h1 := q2.2 b hb
            have h2 : st.nid + 1 ≤ b := h1.1
            omega
    · rintro st ⟨e1, e2, e7, e8, e9, en, s0, s1, hfr, v, Bv, e3, hG, hV⟩
      rw [List.take_length] at hG
      have q8 := AV.cells_one (lstR_one hG.lst.lst)
      have q9 := lstR_one hG.lst.lst
      have q5 := q9
      simp only [AV.cells] at q8
      simp only [AV.one] at q5
      simp +decide (disch := first | decide | omega) only [go_sem, Nat.reduceAdd, Nat.reduceMul, Nat.reduceSub, Nat.reduceLT, Nat.reduceLeDiff, Nat.reduceEqDiff, Nat.add_assoc, Int.reduceAdd, Int.reduceSub, Int.reduceMul, Int.reduceLT, Int.reduceLE, Int.reduceEq, Int.reduceNeg, strOp_add, e1, e2, e3, e7, e8, e9, s0, s1, o1, o2, q5, q8, true_or]
      refine Clone_wp ns hns nv Bn _ ?_ ?_ _ fun nv' m2 B2 r1 r2 r3 r4 => ?_
      · refine hnv.keep fun b hb => ?_
        exact hfr b (y3 b hb)
      · exact fun b hb => by show b < st.nid; have := y3 b hb; omega
      have r3' : st.nid ≤ m2.nid := r3
      have t0 := (r4 m.nid (by show m.nid < st.nid; omega)).trans s0
      have t1 := (r4 (m.nid + 1) (by show m.nid + 1 < st.nid; omega)).trans s1
      have r9 := strR_one r1.str
      have r8 := AV.cells_one r9
      have r5 := r9
      simp only [AV.cells] at r8
      simp only [AV.one] at r5
      simp +decide (disch := first | decide | omega) only [go_sem, Nat.reduceAdd, Nat.reduceMul, Nat.reduceSub, Nat.reduceLT, Nat.reduceLeDiff, Nat.reduceEqDiff, Nat.add_assoc, Int.reduceAdd, Int.reduceSub, Int.reduceMul, Int.reduceLT, Int.reduceLE, Int.reduceEq, Int.reduceNeg, strOp_add, e1, e2, t0, t1, q5, q8, r5, r8]
      have hk2 : ∀ x y z : Blk, ∀ b, m.nid + 2 ≤ b → upd (upd (upd m2.sto m.nid x) m.nid y) (m.nid + 1) z b = m2.sto b := fun x y z b c1 => by
        simp (disch := omega) only [upd_hit, upd_miss]
      refine hQ k n t v nv' ⟨_, m2.nid⟩ (Bv ++ B2) (oDat_iff.2 ⟨v, nv', Bv, B2, rfl, rfl, r1.keep fun b hb => ?_, hG.lst.keep fun b hb => ?_⟩) ?_ ?_ ?_ q9 r9
      · have h5 : st.nid ≤ b := (r2.2 b hb).1
        exact hk2 _ _ _ b (by omega)
      · exact (hk2 _ _ _ b (hV.2 b hb).1).trans (r4 b (hV.2 b hb).2)
      · exact (hV.app r2 en r3').wide (by omega) (Nat.le_refl _)
      · show m.nid ≤ m2.nid
        omega
      · intro j hj
        show upd _ _ _ _ = _
        simp (disch := omega) only [upd_hit, upd_miss]
        exact (r4 j (by show j < st.nid; omega)).trans (hfr j hj)
    · simp +decide (disch := first | decide | omega) only [go_sem, Nat.reduceAdd, Nat.reduceMul, Nat.reduceSub, Nat.reduceLT, Nat.reduceLeDiff, Nat.reduceEqDiff, Nat.add_assoc, Int.reduceAdd, Int.reduceSub, Int.reduceMul, Int.reduceLT, Int.reduceLE, Int.reduceEq, Int.reduceNeg, strOp_add, o2]
      refine ⟨rfl, Nat.le_refl _, fun j hj => ?_, _, [], rfl, .inl ⟨rfl, rfl, rfl⟩, Own.nil _ _⟩
      simp (disch := omega) only [upd_hit, upd_miss]
end Go.Ev.Tryd
