/- Part of the proof of a statement about the given program: V13F. No condition of its own. -/
import Derived.Test.YtjjebjackjeneaaDoorV12F
namespace Go.Ev.Tryd
open Go.Proofs
set_option maxRecDepth 10000
set_option linter.unusedSimpArgs false
set_option linter.unusedVariables false
attribute [local congr] comes_congr bB_congr gK_congr gdK_congr


set_option maxHeartbeats 8000000 in
theorem leaves_wp : ∀ (n : Nat) (d : Dat), n ≤ 8 → d.Sane → writ n d = true → dep d ≤ 2000000 → ∀ (a0 a1 a2 lw nw : AV) (B : List Nat) (M : Mem), ODat M d [a0, a1, a2, lw, nw] B → (∀ b ∈ B, b < M.nid) → ∀ (Q : AV × Mem → Prop), (∀ v M' B', GPs M' (lv n d) v B' → Own M.nid M'.nid B' → M.nid ≤ M'.nid → (∀ j, j < M.nid → M'.sto j = M.sto j) → Q (v, M')) →
    Comes (fnI CC PR 34 [.agg [a0, a1, a2, lw, nw]] M) Q
  | 0, d, _, _, h, _, _, _, _, _, _, _, _, _, _, _, _ => by cases h
  | n + 1, d, hn, hd, hw, hdep, a0, a1, a2, lw, nw, B, M, hO, hB, Q, hQ => by
    have hsl : d.kind = 3 ∨ d.kind = 4 → d.steps.length = d.list.length := by
      obtain ⟨k, m, t, l, ns⟩ := d
      intro hk
      simp only [writ, Bool.and_eq_true] at hw
      have := shaped_kind hw.1
      by_cases h4 : k = 4
      · subst h4
        have h5 : l.length = ns.length := by
          rcases this with ⟨h, _⟩ | ⟨h, _⟩ | ⟨h, _⟩ | ⟨h, _⟩ | ⟨_, _, h⟩
          all_goals omega
        simp [Dat.steps, Dat.kind, Dat.names, Dat.list, h5]
      · simp [Dat.steps, Dat.kind, Dat.list, h4, nums_len]
    have hfew := lv_few (n + 1) d hw
    have hp20 := pow20 (n + 1) hn
    have hch := fun x (hx : x ∈ d.list) => leaves_wp n x (by omega) (hd.elem hx) (writ_elem0 n hw hx) (by have := dep_list hx; omega)
    obtain ⟨o1, o2⟩ := hO.ones
    have p1 := o1
    have p2 := o2
    simp only [AV.one] at o1 o2
    obtain ⟨Bl, Bn, hOl, hOn, rfl, rfl, rfl, rfl⟩ := hO.parts
    have key : ∀ m' : Mem, (∀ j, j < M.nid → m'.sto j = M.sto j) → snapD m' 2097151 lw = some (.slice 5 (d.list.map Dat.av)) ∧ snapD m' 2097151 nw = some (.slice 1 (d.names.map AV.str)) := fun m' hm =>
      ⟨snap_dl (hO.keep _ fun b hb => hm b (hB b hb)) hdep, snap_dn (hO.keep _ fun b hb => hm b (hB b hb))⟩
    have fr1 : ∀ (x : Blk) (j : Nat), j < M.nid → upd M.sto M.nid x j = M.sto j := fun x j hj => by
      simp (disch := omega) only [upd_hit, upd_miss]
    by_cases hk : d.kind = 3 ∨ d.kind = 4
    · have hb := branches_eq d.kind d.num d.text (d.list.map Dat.av) (d.names.map AV.str) true (by simp [hk])
      have hlv : lv (n + 1) d = ((d.steps.zip d.list).map (lvF n)).flatten := by
        unfold lv
        rw [if_pos hk]
        rfl
      rw [hlv] at hfew hQ
      have hLl := hsl hk
      have hl9 : d.list.length ≤ 1099511627776 := by cases hd; assumption
      have hst := steps_wp d hd [.int .i64 d.kind, .int .i64 d.num, .str d.text, lw, nw] (Bl ++ Bn)
      generalize d.steps = L at *
      refine fnI_wp (rs := [.tmp 2]) Tryd.func34 rfl rfl (Nat.le_of_ble_eq_true rfl) rfl rfl ?_
      simp +decide (disch := first | decide | omega) only [go_sem, Nat.reduceAdd, Nat.reduceMul, Nat.reduceSub, Nat.reduceLT, Nat.reduceLeDiff, Nat.reduceEqDiff, Nat.add_assoc, Int.reduceAdd, Int.reduceSub, Int.reduceMul, Int.reduceLT, Int.reduceLE, Int.reduceEq, Int.reduceNeg, strOp_add, o1, o2, true_or]
      rw [(key _ (fun j hj => fr1 _ j hj)).1, (key _ (fun j hj => fr1 _ j hj)).2]
      simp +decide (disch := first | decide | omega) only [go_sem, Nat.reduceAdd, Nat.reduceMul, Nat.reduceSub, Nat.reduceLT, Nat.reduceLeDiff, Nat.reduceEqDiff, Nat.add_assoc, Int.reduceAdd, Int.reduceSub, Int.reduceMul, Int.reduceLT, Int.reduceLE, Int.reduceEq, Int.reduceNeg, strOp_add, hb, o1, o2, true_or]
      refine hst _ (hO.keep _ fun b hb => fr1 _ b (hB b hb)) (fun b hb => Nat.lt_succ_of_lt (hB b hb)) _ fun sv m1 q1 q2 q3 => ?_
      have q2' : M.nid + 1 ≤ m1.nid := q2
      have q3' : ∀ j, j < M.nid → m1.sto j = M.sto j := fun j hj => (q3 j (by show j < M.nid + 1; omega)).trans (fr1 _ j hj)
      have s0 := (q3 M.nid (Nat.lt_succ_self _)).trans (upd_hit _ _ _)
      rcases q1 with ⟨hL0, rfl⟩ | ⟨sid, sg, sapp, sty, hsid, rfl, hss⟩
      · subst hL0
        simp +decide (disch := first | decide | omega) only [go_sem, Nat.reduceAdd, Nat.reduceMul, Nat.reduceSub, Nat.reduceLT, Nat.reduceLeDiff, Nat.reduceEqDiff, Nat.add_assoc, Int.reduceAdd, Int.reduceSub, Int.reduceMul, Int.reduceLT, Int.reduceLE, Int.reduceEq, Int.reduceNeg, strOp_add, s0]
        have hl0 : d.list = [] := List.eq_nil_of_length_eq_zero (by simpa using hLl.symm)
        rw [hl0] at hQ
        refine comes_upto 0 (fun i st => st.env 13 = .int .i64 0 ∧ st.env 14 = .int .i64 i ∧ st.env 3 = .nils 1 ∧ m1.nid ≤ st.nid ∧ ∀ j, j < m1.nid → st.sto j = m1.sto j) ?_ ?_ _ ?_
        · rintro i st hi; omega
        · rintro st ⟨e13, e14, e3, en, hfr⟩
          simp +decide (disch := first | decide | omega) only [go_sem, Nat.reduceAdd, Nat.reduceMul, Nat.reduceSub, Nat.reduceLT, Nat.reduceLeDiff, Nat.reduceEqDiff, Nat.add_assoc, Int.reduceAdd, Int.reduceSub, Int.reduceMul, Int.reduceLT, Int.reduceLE, Int.reduceEq, Int.reduceNeg, strOp_add, e3, e13, e14]
          exact hQ _ _ [] (.inl ⟨rfl, rfl, rfl⟩) (Own.nil _ _) (by show M.nid ≤ st.nid; omega) fun j hj => (hfr j (by omega)).trans (q3' j hj)
        · simp +decide (disch := first | decide | omega) only [go_sem, Nat.reduceAdd, Nat.reduceMul, Nat.reduceSub, Nat.reduceLT, Nat.reduceLeDiff, Nat.reduceEqDiff, Nat.add_assoc, Int.reduceAdd, Int.reduceSub, Int.reduceMul, Int.reduceLT, Int.reduceLE, Int.reduceEq, Int.reduceNeg, strOp_add]
          exact ⟨rfl, Nat.le_refl _, fun _ _ => trivial⟩
      · simp +decide (disch := first | decide | omega) only [go_sem, Nat.reduceAdd, Nat.reduceMul, Nat.reduceSub, Nat.reduceLT, Nat.reduceLeDiff, Nat.reduceEqDiff, Nat.add_assoc, Int.reduceAdd, Int.reduceSub, Int.reduceMul, Int.reduceLT, Int.reduceLE, Int.reduceEq, Int.reduceNeg, strOp_add, s0]
        refine comes_upto L.length (fun i st => st.env 1 = .ptr M.nid 0 0 ∧ st.env 12 = .arr sid sg 0 L.length 1 sapp ∧ st.env 13 = .int .i64 L.length ∧ st.env 14 = .int .i64 i ∧ m1.nid ≤ st.nid ∧ (∀ j, j < m1.nid → st.sto j = m1.sto j) ∧ ∃ u Bu, st.env 3 = u ∧ GPs st.toMem (((L.zip d.list).take i).map (lvF n)).flatten u Bu ∧ Own m1.nid st.nid Bu) ?_ ?_ _ ?_
        · rintro i st hi ⟨e1, e12, e13, e14, en, hfr, u, Bu, e3, hG, hV⟩
          have hil : i < d.list.length := by omega
          have hiz : i < (L.zip d.list).length := by simp; omega
          have hle := lv_few n d.list[i] (writ_elem0 n hw (List.getElem_mem hil))
          have hp20' := pow20 n (by omega)
          obtain ⟨lid, lg, lapp, lty, lcs, lB, rfl, ls, lC, lsub⟩ := hO.arr hil
          obtain ⟨xk, xn, xt, xl, xm, r, Bi, hdr, hxO, hxS⟩ := lC.at hil
          have hxB : ∀ b ∈ Bi, b < M.nid := fun b hb => hB b (((hxS.trans (List.sublist_cons_self _ _)).trans lsub).subset hb)
          have hlid := hB lid (lsub.subset (by simp))
          have hq1 := hch d.list[i] (List.getElem_mem hil)
          have hq2 := ahead_wp L[i] (lv n d.list[i]) (by omega) (fun p hp => by have := lv_short n _ p hp; omega)
          have hsum : (((L.zip d.list).take (i + 1)).map (lvF n)).flatten = (((L.zip d.list).take i).map (lvF n)).flatten ++ (lv n d.list[i]).map (L[i] :: ·) := by
            rw [List.take_succ_eq_append_getElem hiz]
            simp only [List.map_append, List.map_cons, List.map_nil, List.flatten_append, List.flatten_cons, List.flatten_nil, List.append_nil, List.getElem_zip]
            rfl
          have htot : (((L.zip d.list).take (i + 1)).map (lvF n)).flatten.length ≤ 25600000000 := by
            refine Nat.le_trans (Nat.le_trans ?_ hfew) hp20
            conv => rhs; rw [← List.take_append_drop (i + 1) (L.zip d.list)]
            simp only [List.map_append, List.flatten_append, List.length_append]
            omega
          have w1 : IntKind.wrap .i64 ((i : Int) + 1) = ((i + 1 : Nat) : Int) := wrap_succ (by omega)
          have hpd : (L.map AV.str).drop i = .str L[i] :: (L.map AV.str).drop (i + 1) := by
            rw [← List.map_drop, List.drop_eq_getElem_cons hi, List.map_cons, List.map_drop]
          rw [hsum] at htot
          rw [hsum]
          generalize (((L.zip d.list).take i).map (lvF n)).flatten = A at *
          generalize d.list[i] = x at *
          generalize L[i] = q at *
          rw [List.length_append] at htot
          have s0' := (hfr M.nid (by omega)).trans s0
          have ss' := (hfr sid hsid).trans hss
          have ls' := (hfr lid (by omega)).trans ((q3' lid hlid).trans ls)
          have n1 : ¬ lid = M.nid := by omega
          have hM0 : ∀ j, j < M.nid → st.sto j = M.sto j := fun j hj => (hfr j (by omega)).trans (q3' j hj)
          have ll : (5 ≤ r.length + 5) = True := eq_true (by omega)
          obtain ⟨x1, x2⟩ := hxO.ones
          simp only [AV.one] at x1 x2
          generalize hLs : L.map AV.str = Ls at *
          simp +decide (disch := first | decide | omega) only [go_sem, Nat.reduceAdd, Nat.reduceMul, Nat.reduceSub, Nat.reduceLT, Nat.reduceLeDiff, Nat.reduceEqDiff, Nat.add_assoc, Int.reduceAdd, Int.reduceSub, Int.reduceMul, Int.reduceLT, Int.reduceLE, Int.reduceEq, Int.reduceNeg, strOp_add, e1, e3, e12, e13, e14, s0', hi, hil, ss', hpd, ls', hdr, ll, x1, x2, n1, w1, true_or]
          refine hq1 _ _ _ _ _ Bi _ (hxO.keep _ fun b hb => hM0 b (hxB b hb)) (fun b hb => by show b < st.nid; have := hxB b hb; omega) _ fun v2 m2 B2 b1 b2 b3 b4 => ?_
          have b3' : st.nid ≤ m2.nid := b3
          have v2o := b1.ps.one
          obtain ⟨v2a, v2b⟩ := v2o
          simp only [AV.one] at v2a
          simp only [AV.loud] at v2b
          simp +decide (disch := first | decide | omega) only [go_sem, Nat.reduceAdd, Nat.reduceMul, Nat.reduceSub, Nat.reduceLT, Nat.reduceLeDiff, Nat.reduceEqDiff, Nat.add_assoc, Int.reduceAdd, Int.reduceSub, Int.reduceMul, Int.reduceLT, Int.reduceLE, Int.reduceEq, Int.reduceNeg, strOp_add, v2a, v2b]
          refine hq2 v2 B2 _ (b1.ps.keep fun b hb => rfl) (fun b hb => (b2.2 b hb).2) _ fun v3 m3 B3 d1 d2 d3 d4 => ?_
          have d3' : m2.nid ≤ m3.nid := d3
          have d2' : ∀ b ∈ B3, m2.nid ≤ b ∧ b < m3.nid := d2.2
          have q7 : ∀ j, j < st.nid → m3.sto j = st.sto j := fun j hj => (d4 j (by show j < m2.nid; omega)).trans (b4 j hj)
          have hC2 : ((lv n x).map (q :: ·)).length ≤ 25600000000 := by omega
          generalize (lv n x).map (q :: ·) = C at *
          have hm : A.length + C.length ≤ most := by simp only [most]; omega
          have hmC : C.length ≤ most := by simp only [most]; omega
          rcases hG with ⟨rfl, rfl, rfl⟩ | ⟨gid, gg, gty, gcs, gB, rfl, gs, gC, rfl⟩
          · rcases d1 with ⟨rfl, rfl, rfl⟩ | ⟨cid, cg, cty, ccs, cB, rfl, c1, c2, rfl⟩
            · simp +decide (disch := first | decide | omega) only [go_sem, Nat.reduceAdd, Nat.reduceMul, Nat.reduceSub, Nat.reduceLT, Nat.reduceLeDiff, Nat.reduceEqDiff, Nat.add_assoc, Int.reduceAdd, Int.reduceSub, Int.reduceMul, Int.reduceLT, Int.reduceLE, Int.reduceEq, Int.reduceNeg, strOp_add, e1, e3, e12, e13, e14, w1]
              refine ⟨by omega, fun j hj => (q7 j (by omega)).trans (hfr j hj), _, [], rfl, .inl ⟨rfl, rfl, rfl⟩, Own.nil _ _⟩
            · have hcl := opc_len _ c2
              have htk : ccs.take C.length = ccs := List.take_of_length_le (by omega)
              have hcid := d2' cid (by simp)
              have hll : (C.length ≤ ccs.length) = True := eq_true (by omega)
              by_cases hC0 : C = []
              · subst hC0
                simp +decide (disch := first | decide | omega) only [go_sem, Nat.reduceAdd, Nat.reduceMul, Nat.reduceSub, Nat.reduceLT, Nat.reduceLeDiff, Nat.reduceEqDiff, Nat.add_assoc, Int.reduceAdd, Int.reduceSub, Int.reduceMul, Int.reduceLT, Int.reduceLE, Int.reduceEq, Int.reduceNeg, strOp_add, e1, e3, e12, e13, e14, c1, w1, htk, hmC, hll, Nat.zero_le]
                exact ⟨by omega, fun j hj => (q7 j (by omega)).trans (hfr j hj), _, [], rfl, .inl ⟨rfl, rfl, rfl⟩, Own.nil _ _⟩
              have hC1 : (C.length = 0) = False := eq_false fun h => hC0 (List.length_eq_zero_iff.1 h)
              simp +decide (disch := first | decide | omega) only [go_sem, Nat.reduceAdd, Nat.reduceMul, Nat.reduceSub, Nat.reduceLT, Nat.reduceLeDiff, Nat.reduceEqDiff, Nat.add_assoc, Int.reduceAdd, Int.reduceSub, Int.reduceMul, Int.reduceLT, Int.reduceLE, Int.reduceEq, Int.reduceNeg, strOp_add, e1, e3, e12, e13, e14, c1, w1, htk, hmC, hll, hC1]
              refine ⟨by omega, fun j hj => ?_, _, m3.nid :: cB, rfl, .inr ⟨m3.nid, 0, some (23, false), ccs, cB, rfl, upd_hit _ _ _, c2.keep _ fun b hb => ?_, rfl⟩, ⟨List.nodup_cons.2 ⟨fun hx => ?_, (List.nodup_cons.1 d2.1).2⟩, fun b hb => ?_⟩⟩
              · simp (disch := omega) only [upd_hit, upd_miss]
                exact (q7 j (by omega)).trans (hfr j hj)
              · have := d2' b (by simp [hb])
                show upd _ _ _ _ = _
                simp (disch := omega) only [upd_hit, upd_miss]
              · have := d2' m3.nid (by simp [hx])
                omega
              · show _ ∧ b < m3.nid + 1
                rcases List.mem_cons.1 hb with rfl | hb
                · omega
                · have := d2' b (by simp [hb])
                  omega
          · have gi := hV.2 gid (by simp)
            obtain ⟨gn1, gn2⟩ := List.nodup_cons.1 hV.1
            have gs2 := (q7 gid gi.2).trans gs
            have hgl := opc_len _ gC
            rcases d1 with ⟨rfl, rfl, rfl⟩ | ⟨cid, cg, cty, ccs, cB, rfl, c1, c2, rfl⟩
            · have hgt : (A.length = gcs.length) = True := eq_true hgl.symm
              have hmA : (A.length ≤ most) = True := eq_true (by simp only [most]; omega)
              simp +decide (disch := first | decide | omega) only [go_sem, Nat.reduceAdd, Nat.reduceMul, Nat.reduceSub, Nat.reduceLT, Nat.reduceLeDiff, Nat.reduceEqDiff, Nat.add_assoc, Int.reduceAdd, Int.reduceSub, Int.reduceMul, Int.reduceLT, Int.reduceLE, Int.reduceEq, Int.reduceNeg, strOp_add, e1, e3, e12, e13, e14, gs2, w1, hgt, hmA]
              have hM : ∀ y : Blk, ∀ j, j ≠ gid → upd m3.sto gid y j = m3.sto j := fun y j c1 => by
                simp (disch := omega) only [upd_hit, upd_miss]
              refine ⟨by omega, fun j hj => ?_, _, gid :: gB, rfl, .inr ⟨gid, gg + 1, grewT 23 gty, gcs, gB, rfl, upd_hit _ _ _, ?_, rfl⟩, hV.wide (Nat.le_refl _) (by show st.nid ≤ m3.nid; omega)⟩
              · rw [hM _ j (by omega)]
                exact (q7 j (by omega)).trans (hfr j hj)
              · exact gC.keep _ fun b hb => (hM _ b fun e => gn1 (e ▸ hb)).trans (q7 b (hV.2 b (by simp [hb])).2)
            · have hcl := opc_len _ c2
              have htk : ccs.take C.length = ccs := List.take_of_length_le (by omega)
              have hcid := d2' cid (by simp)
              have n3 : ¬ gid = cid := by omega
              have hll : (C.length ≤ ccs.length) = True := eq_true (by omega)
              have hgt : (A.length = gcs.length) = True := eq_true hgl.symm
              simp +decide (disch := first | decide | omega) only [go_sem, Nat.reduceAdd, Nat.reduceMul, Nat.reduceSub, Nat.reduceLT, Nat.reduceLeDiff, Nat.reduceEqDiff, Nat.add_assoc, Int.reduceAdd, Int.reduceSub, Int.reduceMul, Int.reduceLT, Int.reduceLE, Int.reduceEq, Int.reduceNeg, strOp_add, e1, e3, e12, e13, e14, gs2, c1, w1, htk, hm, n3, hll, hgt]
              have hM : ∀ y : Blk, ∀ j, j ≠ gid → upd m3.sto gid y j = m3.sto j := fun y j c1 => by
                simp (disch := omega) only [upd_hit, upd_miss]
              have gB2 : ∀ b ∈ gB, m1.nid ≤ b ∧ b < st.nid := fun b hb => hV.2 b (by simp [hb])
              have cB2 : ∀ b ∈ cB, m2.nid ≤ b ∧ b < m3.nid := fun b hb => d2' b (by simp [hb])
              refine ⟨by omega, fun j hj => ?_, _, gid :: (gB ++ cB), rfl, .inr ⟨gid, gg + 1, grewT 23 gty, gcs ++ ccs, gB ++ cB, by rw [List.length_append], upd_hit _ _ _, ?_, rfl⟩, ⟨List.nodup_cons.2 ⟨fun hx => ?_, List.nodup_append.2 ⟨gn2, (List.nodup_cons.1 d2.1).2, fun a ha b hb e => ?_⟩⟩, fun b hb => ?_⟩⟩
              · rw [hM _ j (by omega)]
                exact (q7 j (by omega)).trans (hfr j hj)
              · refine (opc_app _ _).2 ⟨gcs, gB, ccs, cB, rfl, rfl, gC.keep _ fun b hb => ?_, c2.keep _ fun b hb => ?_⟩
                · exact (hM _ b fun e => gn1 (e ▸ hb)).trans (q7 b (gB2 b hb).2)
                · have := cB2 b hb
                  exact hM _ b (by omega)
              · rcases List.mem_append.1 hx with hx | hx
                · exact gn1 hx
                · have := cB2 _ hx
                  omega
              · have h1 := gB2 a ha
                have h2 := cB2 _ hb
                omega
              · show _ ∧ b < m3.nid
                rcases List.mem_cons.1 hb with rfl | hb
                · omega
                rcases List.mem_append.1 hb with hb | hb
                · have h1 := gB2 b hb
                  omega
                · have h1 := cB2 b hb
                  omega
        · rintro st ⟨e1, e12, e13, e14, en, hfr, u, Bu, e3, hG, hV⟩
          rw [List.take_of_length_le (by simp; omega)] at hG
          simp +decide (disch := first | decide | omega) only [go_sem, Nat.reduceAdd, Nat.reduceMul, Nat.reduceSub, Nat.reduceLT, Nat.reduceLeDiff, Nat.reduceEqDiff, Nat.add_assoc, Int.reduceAdd, Int.reduceSub, Int.reduceMul, Int.reduceLT, Int.reduceLE, Int.reduceEq, Int.reduceNeg, strOp_add, e3, e12, e13, e14]
          exact hQ _ _ Bu hG (hV.wide (by omega) (Nat.le_refl _)) (by show M.nid ≤ st.nid; omega) fun j hj => (hfr j (by omega)).trans (q3' j hj)
        · simp +decide (disch := first | decide | omega) only [go_sem, Nat.reduceAdd, Nat.reduceMul, Nat.reduceSub, Nat.reduceLT, Nat.reduceLeDiff, Nat.reduceEqDiff, Nat.add_assoc, Int.reduceAdd, Int.reduceSub, Int.reduceMul, Int.reduceLT, Int.reduceLE, Int.reduceEq, Int.reduceNeg, strOp_add]
          exact ⟨rfl, Nat.le_refl _, fun _ _ => trivial, _, [], rfl, .inl ⟨rfl, rfl, rfl⟩, Own.nil _ _⟩
    · have hb := branches_eq d.kind d.num d.text (d.list.map Dat.av) (d.names.map AV.str) false (by simp [hk])
      have hlv : lv (n + 1) d = [[]] := by
        unfold lv
        rw [if_neg hk]
      rw [hlv] at hQ
      refine fnI_wp (rs := [.tmp 2]) Tryd.func34 rfl rfl (Nat.le_of_ble_eq_true rfl) rfl rfl ?_
      simp +decide (disch := first | decide | omega) only [go_sem, Nat.reduceAdd, Nat.reduceMul, Nat.reduceSub, Nat.reduceLT, Nat.reduceLeDiff, Nat.reduceEqDiff, Nat.add_assoc, Int.reduceAdd, Int.reduceSub, Int.reduceMul, Int.reduceLT, Int.reduceLE, Int.reduceEq, Int.reduceNeg, strOp_add, o1, o2, true_or]
      rw [(key _ (fun j hj => fr1 _ j hj)).1, (key _ (fun j hj => fr1 _ j hj)).2]
      simp +decide (disch := first | decide | omega) only [go_sem, Nat.reduceAdd, Nat.reduceMul, Nat.reduceSub, Nat.reduceLT, Nat.reduceLeDiff, Nat.reduceEqDiff, Nat.add_assoc, Int.reduceAdd, Int.reduceSub, Int.reduceMul, Int.reduceLT, Int.reduceLE, Int.reduceEq, Int.reduceNeg, strOp_add, hb, o1, o2, true_or]
      refine hQ _ _ [M.nid + 2, M.nid + 1] (.inr ⟨M.nid + 2, 0, none, [.arr (M.nid + 1) 0 0 0 1 true], [M.nid + 1], rfl, upd_hit _ _ _, opc_one ⟨M.nid + 1, 0, true, none, rfl, ?_, rfl⟩, rfl⟩) ⟨by simp, by simp⟩ (by show M.nid ≤ M.nid + 3; omega) fun j hj => ?_
      · show upd _ _ _ _ = _
        simp (disch := omega) only [upd_hit, upd_miss]
        rfl
      · show upd _ _ _ _ = _
        simp (disch := omega) only [upd_hit, upd_miss]
end Go.Ev.Tryd
