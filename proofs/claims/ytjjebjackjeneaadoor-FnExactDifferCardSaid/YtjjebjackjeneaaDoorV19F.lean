/- Part of the proof of a statement about the given program: V19F. No condition of its own. -/
import Derived.Test.YtjjebjackjeneaaDoorV18F
namespace Go.Ev.Tryd
open Go.Proofs
set_option maxRecDepth 10000
set_option linter.unusedSimpArgs false
set_option linter.unusedVariables false
attribute [local congr] comes_congr bB_congr gK_congr gdK_congr

set_option maxHeartbeats 8000000 in
theorem differ_wp : ∀ (n : Nat) (a b : Dat), n ≤ 8 → a.Sane → b.Sane → writ n a = true → writ n b = true → dep a ≤ 2000000 → dep b ≤ 2000000 → ∀ (a0 a1 a2 lw nw b0 b1 b2 lx nx : AV) (B C : List Nat) (M : Mem), ODat M a [a0, a1, a2, lw, nw] B → (∀ b ∈ B, b < M.nid) → ODat M b [b0, b1, b2, lx, nx] C → (∀ b ∈ C, b < M.nid) → ∀ (Q : AV × Mem → Prop), (∀ v M' B', GPs M' (df n a b) v B' → Own M.nid M'.nid B' → M.nid ≤ M'.nid → (∀ j, j < M.nid → M'.sto j = M.sto j) → Q (v, M')) →
    Comes (fnI CC PR 29 [.agg [a0, a1, a2, lw, nw], .agg [b0, b1, b2, lx, nx]] M) Q
  | 0, a, b, _, _, _, h, _, _, _, _, _, _, _, _, _, _, _, _, _, _, _, _, _, _, _, _, _, _ => by cases h
  | n + 1, a, b, hn, hd, hd2, hw, hw2, hdp, hdp2, a0, a1, a2, lw, nw, b0, b1, b2, lx, nx, B, C, M, hO, hB, hO2, hB2, Q, hQ => by
    have hsame := DatumSame_eq a b hd
    have hfew := df_few (n + 1) a b hw
    have hp20 := pow20 (n + 1) hn
    have hsl := steps_list hw
    have hsl2 := steps_list hw2
    have hch := fun x (hx : x ∈ a.list) y (hy : y ∈ b.list) => differ_wp n x y (by omega) (hd.elem hx) (hd2.elem hy) (writ_elem0 n hw hx) (writ_elem0 n hw2 hy) (by have := dep_list hx; omega) (by have := dep_list hy; omega)
    have hLs : a.steps.length ≤ 1099511627776 := by
      by_cases hk : a.kind = 3 ∨ a.kind = 4
      · rw [hsl hk]
        have := list_few hw
        omega
      · obtain ⟨k, m, t, l, ns⟩ := a
        have h4 : ¬ k = 4 := fun h => hk (.inr h)
        have := list_few hw
        simp only [Dat.list] at this
        simp [Dat.steps, Dat.kind, Dat.list, h4, nums_len]
        omega
    have heq := Equal_eq a.steps b.steps hLs
    obtain ⟨o1, o2⟩ := hO.ones
    obtain ⟨o3, o4⟩ := hO2.ones
    simp only [AV.one] at o1 o2 o3 o4
    obtain ⟨_, _, _, _, _, rfl, rfl, rfl⟩ := hO.parts
    obtain ⟨_, _, _, _, _, rfl, rfl, rfl⟩ := hO2.parts
    have key : ∀ m' : Mem, (∀ j, j < M.nid → m'.sto j = M.sto j) → snapD m' 2097151 lw = some (.slice 5 (a.list.map Dat.av)) ∧ snapD m' 2097151 nw = some (.slice 1 (a.names.map AV.str)) := fun m' hm =>
      ⟨snap_dl (hO.keep _ fun b hb => hm b (hB b hb)) hdp, snap_dn (hO.keep _ fun b hb => hm b (hB b hb))⟩
    have key2 : ∀ m' : Mem, (∀ j, j < M.nid → m'.sto j = M.sto j) → snapD m' 2097151 lx = some (.slice 5 (b.list.map Dat.av)) ∧ snapD m' 2097151 nx = some (.slice 1 (b.names.map AV.str)) := fun m' hm =>
      ⟨snap_dl (hO2.keep _ fun b hb => hm b (hB2 b hb)) hdp2, snap_dn (hO2.keep _ fun b hb => hm b (hB2 b hb))⟩
    have fr1 : ∀ (x y : Blk) (j : Nat), j < M.nid → upd (upd M.sto M.nid x) (M.nid + 1) y j = M.sto j := fun x y j hj => by
      simp (disch := omega) only [upd_hit, upd_miss]
    rw [av_eta a, av_eta b] at hsame
    by_cases hab : a = b
    · subst hab
      rw [sm_iff.2 rfl] at hsame
      rw [df_same] at hQ
      refine fnI_wp (rs := [.tmp 4]) Tryd.func29 rfl rfl (Nat.le_of_ble_eq_true rfl) rfl rfl ?_
      simp +decide (disch := first | decide | omega) only [go_sem, Nat.reduceAdd, Nat.reduceMul, Nat.reduceSub, Nat.reduceLT, Nat.reduceLeDiff, Nat.reduceEqDiff, Nat.add_assoc, Int.reduceAdd, Int.reduceSub, Int.reduceMul, Int.reduceLT, Int.reduceLE, Int.reduceEq, Int.reduceNeg, strOp_add, o1, o2, o3, o4, true_or]
      rw [(key _ (fun j hj => fr1 _ _ j hj)).1, (key _ (fun j hj => fr1 _ _ j hj)).2, (key2 _ (fun j hj => fr1 _ _ j hj)).1, (key2 _ (fun j hj => fr1 _ _ j hj)).2]
      simp +decide (disch := first | decide | omega) only [go_sem, Nat.reduceAdd, Nat.reduceMul, Nat.reduceSub, Nat.reduceLT, Nat.reduceLeDiff, Nat.reduceEqDiff, Nat.add_assoc, Int.reduceAdd, Int.reduceSub, Int.reduceMul, Int.reduceLT, Int.reduceLE, Int.reduceEq, Int.reduceNeg, strOp_add, hsame, o1, o2, o3, o4, true_or]
      exact hQ _ ⟨_, M.nid + 2⟩ [] (.inl ⟨rfl, rfl, rfl⟩) (Own.nil _ _) (by show M.nid ≤ M.nid + 2; omega) fun j hj => fr1 _ _ j hj
    · have hsf : sm a b = false := by
        cases h : sm a b with
        | false => rfl
        | true => exact absurd (sm_iff.1 h) hab
      rw [hsf] at hsame
      have hyes : a.kind = b.kind ∧ (a.kind = 3 ∨ a.kind = 4) ∧ a.steps = b.steps → df (n + 1) a b = ((a.steps.zip (a.list.zip b.list)).map (dfF n)).flatten := fun h => by
        conv => lhs; unfold df
        rw [if_neg hab, if_pos h]
        rfl
      have hno : ¬ (a.kind = b.kind ∧ (a.kind = 3 ∨ a.kind = 4) ∧ a.steps = b.steps) → df (n + 1) a b = [[]] := fun h => by
        conv => lhs; unfold df
        rw [if_neg hab, if_neg h]
      generalize df (n + 1) a b = D at hfew hyes hno hQ
      unfold strsA at heq
      by_cases hk : a.kind = b.kind
      · by_cases hbr : a.kind = 3 ∨ a.kind = 4
        · have hb := branches_eq a.kind a.num a.text (a.list.map Dat.av) (a.names.map AV.str) true (by simp [hbr])
          refine fnI_wp (rs := [.tmp 4]) Tryd.func29 rfl rfl (Nat.le_of_ble_eq_true rfl) rfl rfl ?_
          simp +decide (disch := first | decide | omega) only [go_sem, Nat.reduceAdd, Nat.reduceMul, Nat.reduceSub, Nat.reduceLT, Nat.reduceLeDiff, Nat.reduceEqDiff, Nat.add_assoc, Int.reduceAdd, Int.reduceSub, Int.reduceMul, Int.reduceLT, Int.reduceLE, Int.reduceEq, Int.reduceNeg, strOp_add, o1, o2, o3, o4, true_or]
          rw [(key _ (fun j hj => fr1 _ _ j hj)).1, (key _ (fun j hj => fr1 _ _ j hj)).2, (key2 _ (fun j hj => fr1 _ _ j hj)).1, (key2 _ (fun j hj => fr1 _ _ j hj)).2]
          simp +decide (disch := first | decide | omega) only [go_sem, Nat.reduceAdd, Nat.reduceMul, Nat.reduceSub, Nat.reduceLT, Nat.reduceLeDiff, Nat.reduceEqDiff, Nat.add_assoc, Int.reduceAdd, Int.reduceSub, Int.reduceMul, Int.reduceLT, Int.reduceLE, Int.reduceEq, Int.reduceNeg, strOp_add, hsame, o1, o2, o3, o4, true_or]
          refine (d_plan (ord := [0, 1, 2, 3, 4, 5, 6, 7, 8, 9, 10, 11, 12, 13, 14, 15, 16, 17]) (prs := [(1, 3), (11, 13), (12, 13)]) (by kernel_rfl)).2 ?_
          have hkk : (a.kind = b.kind) = True := eq_true hk
          simp +decide (disch := first | decide | omega) only [go_sem, Nat.reduceAdd, Nat.reduceMul, Nat.reduceSub, Nat.reduceLT, Nat.reduceLeDiff, Nat.reduceEqDiff, Nat.add_assoc, Int.reduceAdd, Int.reduceSub, Int.reduceMul, Int.reduceLT, Int.reduceLE, Int.reduceEq, Int.reduceNeg, strOp_add, hkk, o1, o2, o3, o4, true_or]
          rw [(key _ (fun j hj => fr1 _ _ j hj)).1, (key _ (fun j hj => fr1 _ _ j hj)).2]
          simp +decide (disch := first | decide | omega) only [go_sem, Nat.reduceAdd, Nat.reduceMul, Nat.reduceSub, Nat.reduceLT, Nat.reduceLeDiff, Nat.reduceEqDiff, Nat.add_assoc, Int.reduceAdd, Int.reduceSub, Int.reduceMul, Int.reduceLT, Int.reduceLE, Int.reduceEq, Int.reduceNeg, strOp_add, hb, o1, o2, o3, o4, true_or]
          have S0 : upd (upd M.sto M.nid ⟨[.int .i64 a.kind, .int .i64 a.num, .str a.text, lw, nw], 0, false, none⟩) (M.nid + 1) ⟨[.int .i64 b.kind, .int .i64 b.num, .str b.text, lx, nx], 0, false, none⟩ M.nid = ⟨[.int .i64 a.kind, .int .i64 a.num, .str a.text, lw, nw], 0, false, none⟩ := by
            simp (disch := omega) only [upd_hit, upd_miss]
          have S1 : upd (upd M.sto M.nid ⟨[.int .i64 a.kind, .int .i64 a.num, .str a.text, lw, nw], 0, false, none⟩) (M.nid + 1) ⟨[.int .i64 b.kind, .int .i64 b.num, .str b.text, lx, nx], 0, false, none⟩ (M.nid + 1) = ⟨[.int .i64 b.kind, .int .i64 b.num, .str b.text, lx, nx], 0, false, none⟩ := upd_hit _ _ _
          have frS := fr1 ⟨[.int .i64 a.kind, .int .i64 a.num, .str a.text, lw, nw], 0, false, none⟩ ⟨[.int .i64 b.kind, .int .i64 b.num, .str b.text, lx, nx], 0, false, none⟩
          generalize upd (upd M.sto M.nid ⟨[.int .i64 a.kind, .int .i64 a.num, .str a.text, lw, nw], 0, false, none⟩) (M.nid + 1) ⟨[.int .i64 b.kind, .int .i64 b.num, .str b.text, lx, nx], 0, false, none⟩ = S at *
          have hOs : ∀ (J : Nat → Blk) (k : Nat), (∀ j, j < M.nid → J j = S j) → ODat ⟨J, k⟩ a [.int .i64 a.kind, .int .i64 a.num, .str a.text, lw, nw] B := fun J k hJ => hO.keep _ fun b hb => (hJ b (hB b hb)).trans (frS b (hB b hb))
          have hOs2 : ∀ (J : Nat → Blk) (k : Nat), (∀ j, j < M.nid → J j = S j) → ODat ⟨J, k⟩ b [.int .i64 b.kind, .int .i64 b.num, .str b.text, lx, nx] C := fun J k hJ => hO2.keep _ fun b hb => (hJ b (hB2 b hb)).trans (frS b (hB2 b hb))
          refine steps_far hd (hOs _ _ fun j hj => rfl) (reach_agg hdp (hOs _ _ fun j hj => rfl)) (fun b hb => by show b < M.nid + 20; have := hB b hb; omega) fun v1 m1 J1 v1o v1l n1 hJ1 j1 hv1 => ?_
          replace n1 : M.nid + 20 ≤ m1.nid := n1
          replace j1 : ∀ j, j < M.nid + 20 → J1 j = S j := j1
          simp only [AV.one] at v1o
          simp only [AV.loud] at v1l
          have S01 := (j1 M.nid (by omega)).trans S0
          have S11 := (j1 (M.nid + 1) (by omega)).trans S1
          simp +decide (disch := first | decide | omega) only [go_sem, Nat.reduceAdd, Nat.reduceMul, Nat.reduceSub, Nat.reduceLT, Nat.reduceLeDiff, Nat.reduceEqDiff, Nat.add_assoc, Int.reduceAdd, Int.reduceSub, Int.reduceMul, Int.reduceLT, Int.reduceLE, Int.reduceEq, Int.reduceNeg, strOp_add, ← hJ1, S01, S11, hkk, o1, o2, o3, o4, v1o, v1l, true_or]
          have jm1 : ∀ j, j < M.nid → J1 j = S j := fun j hj => j1 j (by omega)
          refine steps_far hd2 (hOs2 J1 _ jm1) (reach_agg hdp2 (hOs2 J1 _ jm1)) (fun b hb => by show b < m1.nid; have := hB2 b hb; omega) fun v2 m2 J2 v2o v2l n2 hJ2 j2 hv2 => ?_
          replace n2 : m1.nid ≤ m2.nid := n2
          replace j2 : ∀ j, j < m1.nid → J2 j = J1 j := j2
          simp only [AV.one] at v2o
          simp only [AV.loud] at v2l
          obtain ⟨C1, hv1, hC1⟩ := hv1
          obtain ⟨C2, hv2, hC2⟩ := hv2
          replace hv1 : OStr ⟨J2, m2.nid⟩ a.steps v1 C1 := hv1.keep fun b hb => j2 b (hC1 b hb)
          have S02 := (j2 M.nid (by omega)).trans S01
          have S12 := (j2 (M.nid + 1) (by omega)).trans S11
          have jm2 : ∀ j, j < M.nid → J2 j = S j := fun j hj => (j2 j (by omega)).trans (jm1 j hj)
          simp +decide (disch := first | decide | omega) only [go_sem, Nat.reduceAdd, Nat.reduceMul, Nat.reduceSub, Nat.reduceLT, Nat.reduceLeDiff, Nat.reduceEqDiff, Nat.add_assoc, Int.reduceAdd, Int.reduceSub, Int.reduceMul, Int.reduceLT, Int.reduceLE, Int.reduceEq, Int.reduceNeg, strOp_add, ← hJ2, S02, S12, hkk, o1, o2, o3, o4, v1o, v1l, v2o, v2l, true_or]
          rw [snap_n2 hv1, snap_n2 hv2]
          clear hv1 hv2 hC1 hC2 hJ1 hJ2 j1 j2 jm1 S01 S11 S0 S1
          have hN2 : M.nid + 20 ≤ m2.nid := by omega
          generalize m2.nid = N2 at *
          by_cases hLL : a.steps = b.steps
          · rw [decide_eq_true hLL] at heq
            simp +decide (disch := first | decide | omega) only [go_sem, Nat.reduceAdd, Nat.reduceMul, Nat.reduceSub, Nat.reduceLT, Nat.reduceLeDiff, Nat.reduceEqDiff, Nat.add_assoc, Int.reduceAdd, Int.reduceSub, Int.reduceMul, Int.reduceLT, Int.reduceLE, Int.reduceEq, Int.reduceNeg, strOp_add, heq, S02, S12, o1, o2, o3, o4, v1o, v1l, v2o, v2l, true_or]
            refine ⟨by
              rw [reach_agg hdp (hOs S _ fun j hj => rfl)]
              have : M.nid + 1 ∉ B := fun h => by have := hB _ h; omega
              simpa using this, ?_⟩
            refine steps_wp a hd _ B _ (hOs J2 _ jm2) (fun b hb => by show b < N2; have := hB b hb; omega) _ fun sv m3 q1 q2 q3 => ?_
            replace q2 : N2 ≤ m3.nid := q2
            replace q3 : ∀ j, j < N2 → m3.sto j = J2 j := q3
            have jm3 : ∀ j, j < M.nid → m3.sto j = M.sto j := fun j hj => (q3 j (by omega)).trans ((jm2 j hj).trans (frS j hj))
            have s0 := (q3 M.nid (by omega)).trans S02
            have s1 := (q3 (M.nid + 1) (by omega)).trans S12
            rw [hyes ⟨hk, hbr, hLL⟩] at hfew hQ
            have hLl := hsl hbr
            have hLl2 := hsl2 (hk ▸ hbr)
            rw [← hLL] at hLl2
            clear hno hyes jm2 S02 S12 hOs hOs2 hsl hsl2 q3
            generalize a.steps = L at *
            rcases q1 with ⟨hL0, rfl⟩ | ⟨sid, sg, sapp, sty, hsid, rfl, hss⟩
            · subst hL0
              simp +decide (disch := first | decide | omega) only [go_sem, Nat.reduceAdd, Nat.reduceMul, Nat.reduceSub, Nat.reduceLT, Nat.reduceLeDiff, Nat.reduceEqDiff, Nat.add_assoc, Int.reduceAdd, Int.reduceSub, Int.reduceMul, Int.reduceLT, Int.reduceLE, Int.reduceEq, Int.reduceNeg, strOp_add, s0, s1]
              have hl0 : a.list = [] := List.eq_nil_of_length_eq_zero (by simpa using hLl.symm)
              rw [hl0] at hQ
              refine comes_upto 0 (fun i st => st.env 33 = .int .i64 0 ∧ st.env 34 = .int .i64 i ∧ st.env 5 = .nils 1 ∧ m3.nid ≤ st.nid ∧ ∀ j, j < m3.nid → st.sto j = m3.sto j) ?_ ?_ _ ?_
              · rintro i st hi; omega
              · rintro st ⟨e33, e34, e5, en, hfr⟩
                simp +decide (disch := first | decide | omega) only [go_sem, Nat.reduceAdd, Nat.reduceMul, Nat.reduceSub, Nat.reduceLT, Nat.reduceLeDiff, Nat.reduceEqDiff, Nat.add_assoc, Int.reduceAdd, Int.reduceSub, Int.reduceMul, Int.reduceLT, Int.reduceLE, Int.reduceEq, Int.reduceNeg, strOp_add, e5, e33, e34]
                exact hQ _ _ [] (.inl ⟨rfl, rfl, rfl⟩) (Own.nil _ _) (by show M.nid ≤ st.nid; omega) fun j hj => (hfr j (by omega)).trans (jm3 j hj)
              · simp +decide (disch := first | decide | omega) only [go_sem, Nat.reduceAdd, Nat.reduceMul, Nat.reduceSub, Nat.reduceLT, Nat.reduceLeDiff, Nat.reduceEqDiff, Nat.add_assoc, Int.reduceAdd, Int.reduceSub, Int.reduceMul, Int.reduceLT, Int.reduceLE, Int.reduceEq, Int.reduceNeg, strOp_add]
                exact ⟨rfl, Nat.le_refl _, fun _ _ => trivial⟩
            · simp +decide (disch := first | decide | omega) only [go_sem, Nat.reduceAdd, Nat.reduceMul, Nat.reduceSub, Nat.reduceLT, Nat.reduceLeDiff, Nat.reduceEqDiff, Nat.add_assoc, Int.reduceAdd, Int.reduceSub, Int.reduceMul, Int.reduceLT, Int.reduceLE, Int.reduceEq, Int.reduceNeg, strOp_add, s0, s1]
              refine comes_upto L.length (fun i st => st.env 2 = .ptr M.nid 0 0 ∧ st.env 3 = .ptr (M.nid + 1) 0 0 ∧ st.env 32 = .arr sid sg 0 L.length 1 sapp ∧ st.env 33 = .int .i64 L.length ∧ st.env 34 = .int .i64 i ∧ m3.nid ≤ st.nid ∧ (∀ j, j < m3.nid → st.sto j = m3.sto j) ∧ ∃ u Bu, st.env 5 = u ∧ GPs st.toMem (((L.zip (a.list.zip b.list)).take i).map (dfF n)).flatten u Bu ∧ Own m3.nid st.nid Bu) ?_ ?_ _ ?_
              · rintro i st hi ⟨e2, e3, e32, e33, e34, en, hfr, u, Bu, e5, hG, hV⟩
                have hil : i < a.list.length := by omega
                have hil2 : i < b.list.length := by omega
                have hiz : i < (L.zip (a.list.zip b.list)).length := by simp; omega
                have hle := df_few n a.list[i] b.list[i] (writ_elem0 n hw (List.getElem_mem hil))
                have hp20' := pow20 n (by omega)
                obtain ⟨lid, lg, lapp, lty, lcs, lB, rfl, ls, lC, lsub⟩ := hO.arr hil
                obtain ⟨lid2, lg2, lapp2, lty2, lcs2, lB2, rfl, ls2, lC2, lsub2⟩ := hO2.arr hil2
                obtain ⟨xk, xn, xt, xl, xm, r, Bi, hdr, hxO, hxS⟩ := lC.at hil
                obtain ⟨yk, yn, yt, yl, ym, r2, Bi2, hdr2, hyO, hyS⟩ := lC2.at hil2
                have hxB : ∀ b ∈ Bi, b < M.nid := fun b hb => hB b (((hxS.trans (List.sublist_cons_self _ _)).trans lsub).subset hb)
                have hyB : ∀ b ∈ Bi2, b < M.nid := fun b hb => hB2 b (((hyS.trans (List.sublist_cons_self _ _)).trans lsub2).subset hb)
                have hlid := hB lid (lsub.subset (by simp))
                have hlid2 := hB2 lid2 (lsub2.subset (by simp))
                have hq1 := hch a.list[i] (List.getElem_mem hil) b.list[i] (List.getElem_mem hil2)
                have hdx : dep a.list[i] ≤ 2000000 := by have := dep_list (List.getElem_mem hil); omega
                have hdy : dep b.list[i] ≤ 2000000 := by have := dep_list (List.getElem_mem hil2); omega
                have hsh := df_short n a.list[i] b.list[i]
                have hsum : (((L.zip (a.list.zip b.list)).take (i + 1)).map (dfF n)).flatten = (((L.zip (a.list.zip b.list)).take i).map (dfF n)).flatten ++ (df n a.list[i] b.list[i]).map (L[i] :: ·) := by
                  rw [List.take_succ_eq_append_getElem hiz]
                  simp only [List.map_append, List.map_cons, List.map_nil, List.flatten_append, List.flatten_cons, List.flatten_nil, List.append_nil, List.getElem_zip]
                  rfl
                have htot : (((L.zip (a.list.zip b.list)).take (i + 1)).map (dfF n)).flatten.length ≤ 25600000000 := by
                  refine Nat.le_trans (Nat.le_trans ?_ hfew) hp20
                  conv => rhs; rw [← List.take_append_drop (i + 1) (L.zip (a.list.zip b.list))]
                  simp only [List.map_append, List.flatten_append, List.length_append]
                  omega
                have w1 : IntKind.wrap .i64 ((i : Int) + 1) = ((i + 1 : Nat) : Int) := wrap_succ (by omega)
                have hpd : (L.map AV.str).drop i = .str L[i] :: (L.map AV.str).drop (i + 1) := by
                  rw [← List.map_drop, List.drop_eq_getElem_cons hi, List.map_cons, List.map_drop]
                rw [hsum] at htot
                rw [hsum]
                generalize (((L.zip (a.list.zip b.list)).take i).map (dfF n)).flatten = A at *
                generalize a.list[i] = x at *
                generalize b.list[i] = y at *
                generalize L[i] = q at *
                rw [List.length_append] at htot
                have s0' := (hfr M.nid (by omega)).trans s0
                have s1' := (hfr (M.nid + 1) (by omega)).trans s1
                have ss' := (hfr sid hsid).trans hss
                have hM0 : ∀ j, j < M.nid → st.sto j = M.sto j := fun j hj => (hfr j (by omega)).trans (jm3 j hj)
                have ls' := (hM0 lid hlid).trans ls
                have ls2' := (hM0 lid2 hlid2).trans ls2
                have ll : (5 ≤ r.length + 5) = True := eq_true (by omega)
                have ll2 : (5 ≤ r2.length + 5) = True := eq_true (by omega)
                obtain ⟨x1, x2⟩ := hxO.ones
                obtain ⟨y1, y2⟩ := hyO.ones
                simp only [AV.one] at x1 x2 y1 y2
                generalize hLs : L.map AV.str = Ls at *
                simp +decide (disch := first | decide | omega) only [go_sem, Nat.reduceAdd, Nat.reduceMul, Nat.reduceSub, Nat.reduceLT, Nat.reduceLeDiff, Nat.reduceEqDiff, Nat.add_assoc, Int.reduceAdd, Int.reduceSub, Int.reduceMul, Int.reduceLT, Int.reduceLE, Int.reduceEq, Int.reduceNeg, strOp_add, e2, e3, e5, e32, e33, e34, s0', s1', hi, ss', hpd, true_or]
                refine (d_plan (ord := [0, 1, 2, 3, 4, 5, 6, 7, 8, 9, 10, 11, 12, 13, 14, 15]) (prs := [(3, 8), (6, 8), (3, 11), (6, 11)]) (by kernel_rfl)).2 ?_
                simp +decide (disch := first | decide | omega) only [go_sem, Nat.reduceAdd, Nat.reduceMul, Nat.reduceSub, Nat.reduceLT, Nat.reduceLeDiff, Nat.reduceEqDiff, Nat.add_assoc, Int.reduceAdd, Int.reduceSub, Int.reduceMul, Int.reduceLT, Int.reduceLE, Int.reduceEq, Int.reduceNeg, strOp_add, e2, e3, e5, e32, e33, e34, s0', s1', hil, hil2, ls', ls2', hdr, hdr2, ll, ll2, x1, x2, y1, y2, true_or]
                have XO : ∀ k, ODat ⟨st.sto, k⟩ x [.int .i64 xk, .int .i64 xn, .str xt, xl, xm] Bi := fun k => hxO.keep _ fun b hb => hM0 b (hxB b hb)
                have YO : ∀ k, ODat ⟨st.sto, k⟩ y [.int .i64 yk, .int .i64 yn, .str yt, yl, ym] Bi2 := fun k => hyO.keep _ fun b hb => hM0 b (hyB b hb)
                have hids : reachL ⟨st.sto, st.nid + 16⟩ 2097152 (.agg [.int .i64 xk, .int .i64 xn, .str xt, xl, xm]) ++ reachL ⟨st.sto, st.nid + 16⟩ 2097152 (.agg [.int .i64 yk, .int .i64 yn, .str yt, yl, ym]) = Bi ++ Bi2 := by
                  rw [reach_agg hdx (XO _), reach_agg hdy (YO _)]
                refine far_mem (nin_lt hids fun b hb => by
                  show b < st.nid + 16
                  rcases List.mem_append.1 hb with hb | hb
                  · have := hxB b hb; omega
                  · have := hyB b hb; omega) (closed2 (XO _) (YO _) hids) (fun v m' => ∃ B', GPs m' (df n x y) v B' ∧ Own (st.nid + 16) m'.nid B') (fun Q' hQ' => ?_) fun v2 m4 J4 hp n4 hJ4 j4 j4' => ?_
                · refine hq1 _ _ _ _ _ _ _ _ _ _ Bi Bi2 _ (hxO.keep _ fun b hb => ?_) (fun b hb => ?_) (hyO.keep _ fun b hb => ?_) (fun b hb => ?_) Q' fun v m' B' p1 p2 p3 p4 => hQ' v m' ⟨B', p1, p2⟩ p3 p4
                  · exact (mask_in (by rw [hids]; simp [hb])).trans (hM0 b (hxB b hb))
                  · show b < st.nid + 16
                    have := hxB b hb; omega
                  · exact (mask_in (by rw [hids]; simp [hb])).trans (hM0 b (hyB b hb))
                  · show b < st.nid + 16
                    have := hyB b hb; omega
                replace n4 : st.nid + 16 ≤ m4.nid := n4
                replace j4 : ∀ j, j < st.nid + 16 → J4 j = st.sto j := j4
                obtain ⟨B4, hp1, hp2⟩ := hp
                have hg4 : GPs ⟨J4, m4.nid⟩ (df n x y) v2 B4 := hp1.keep fun b hb => j4' b (.inl (hp2.2 b hb).1)
                have hB4 : ∀ b ∈ B4, st.nid + 16 ≤ b ∧ b < m4.nid := hp2.2
                obtain ⟨v2o, v2l⟩ := hg4.ps.one
                simp only [AV.one] at v2o
                simp only [AV.loud] at v2l
                clear hp1 hp2 j4' hids XO YO
                simp +decide (disch := first | decide | omega) only [go_sem, Nat.reduceAdd, Nat.reduceMul, Nat.reduceSub, Nat.reduceLT, Nat.reduceLeDiff, Nat.reduceEqDiff, Nat.add_assoc, Int.reduceAdd, Int.reduceSub, Int.reduceMul, Int.reduceLT, Int.reduceLE, Int.reduceEq, Int.reduceNeg, strOp_add, ← hJ4, v2o, v2l, true_or]
                have hids2 : reachL ⟨J4, m4.nid⟩ 2097152 (.str q) ++ reachL ⟨J4, m4.nid⟩ 2097152 v2 = B4 := by
                  rw [reach_ops hg4.ps 2097150]
                  rfl
                refine ahead_far q (df n x y) (by omega) (fun p hp => by have := hsh p hp; omega) hg4.ps hids2 (fun b hb => (hB4 b hb).2) fun v3 m5 B5 J5 v3o v3l n5 hJ5 j5 d1 d2 => ?_
                replace n5 : m4.nid ≤ m5.nid := n5
                replace j5 : ∀ j, j < m4.nid → J5 j = J4 j := j5
                have d2' : ∀ b ∈ B5, m4.nid ≤ b ∧ b < m5.nid := d2.2
                have nB5 := d2.1
                have q7 : ∀ j, j < st.nid → J5 j = st.sto j := fun j hj => (j5 j (by omega)).trans (j4 j (by omega))
                have hC2 : ((df n x y).map (q :: ·)).length ≤ 25600000000 := by omega
                clear hg4 hB4 hids2 hJ4 j4 j5
                generalize (df n x y).map (q :: ·) = E at *
                have hm : A.length + E.length ≤ most := by simp only [most]; omega
                have hmC : E.length ≤ most := by simp only [most]; omega
                simp only [AV.one] at v3o
                simp only [AV.loud] at v3l
                rcases hG with ⟨rfl, rfl, rfl⟩ | ⟨gid, gg, gty, gcs, gB, rfl, gs, gC, rfl⟩
                · rcases d1 with ⟨rfl, rfl, rfl⟩ | ⟨cid, cg, cty, ccs, cB, rfl, c1, c2, rfl⟩
                  · simp +decide (disch := first | decide | omega) only [go_sem, Nat.reduceAdd, Nat.reduceMul, Nat.reduceSub, Nat.reduceLT, Nat.reduceLeDiff, Nat.reduceEqDiff, Nat.add_assoc, Int.reduceAdd, Int.reduceSub, Int.reduceMul, Int.reduceLT, Int.reduceLE, Int.reduceEq, Int.reduceNeg, strOp_add, ← hJ5, e2, e3, e32, e33, e34, w1, true_or]
                    exact ⟨by omega, fun j hj => (q7 j (by omega)).trans (hfr j hj), _, [], rfl, .inl ⟨rfl, rfl, rfl⟩, Own.nil _ _⟩
                  · replace c1 : J5 cid = ⟨ccs, cg, false, cty⟩ := c1
                    have hcl := opc_len _ c2
                    have htk : ccs.take E.length = ccs := List.take_of_length_le (by omega)
                    have hcid := d2' cid (by simp)
                    have hll : (E.length ≤ ccs.length) = True := eq_true (by omega)
                    by_cases hC0 : E = []
                    · subst hC0
                      simp +decide (disch := first | decide | omega) only [go_sem, Nat.reduceAdd, Nat.reduceMul, Nat.reduceSub, Nat.reduceLT, Nat.reduceLeDiff, Nat.reduceEqDiff, Nat.add_assoc, Int.reduceAdd, Int.reduceSub, Int.reduceMul, Int.reduceLT, Int.reduceLE, Int.reduceEq, Int.reduceNeg, strOp_add, ← hJ5, e2, e3, e32, e33, e34, c1, w1, htk, hmC, hll, Nat.zero_le, true_or]
                      exact ⟨by omega, fun j hj => (q7 j (by omega)).trans (hfr j hj), _, [], rfl, .inl ⟨rfl, rfl, rfl⟩, Own.nil _ _⟩
                    have hC1 : (E.length = 0) = False := eq_false fun h => hC0 (List.length_eq_zero_iff.1 h)
                    simp +decide (disch := first | decide | omega) only [go_sem, Nat.reduceAdd, Nat.reduceMul, Nat.reduceSub, Nat.reduceLT, Nat.reduceLeDiff, Nat.reduceEqDiff, Nat.add_assoc, Int.reduceAdd, Int.reduceSub, Int.reduceMul, Int.reduceLT, Int.reduceLE, Int.reduceEq, Int.reduceNeg, strOp_add, ← hJ5, e2, e3, e32, e33, e34, c1, w1, htk, hmC, hll, hC1, true_or]
                    have hM : ∀ y : Blk, ∀ j, j ≠ st.nid + 14 → upd J5 (st.nid + 14) y j = J5 j := fun y j c1 => by
                      simp (disch := omega) only [upd_hit, upd_miss]
                    refine ⟨by omega, fun j hj => ?_, _, (st.nid + 14) :: cB, rfl, .inr ⟨st.nid + 14, 0, some (23, false), ccs, cB, rfl, upd_hit _ _ _, c2.keep _ fun b hb => ?_, rfl⟩, ⟨List.nodup_cons.2 ⟨fun hx => ?_, (List.nodup_cons.1 nB5).2⟩, fun b hb => ?_⟩⟩
                    · rw [hM _ j (by omega)]
                      exact (q7 j (by omega)).trans (hfr j hj)
                    · have := d2' b (by simp [hb])
                      exact hM _ b (by omega)
                    · have := d2' _ (List.mem_cons_of_mem _ hx)
                      omega
                    · show _ ∧ b < m5.nid
                      rcases List.mem_cons.1 hb with rfl | hb
                      · omega
                      · have := d2' b (by simp [hb])
                        omega
                · have gi := hV.2 gid (by simp)
                  obtain ⟨gn1, gn2⟩ := List.nodup_cons.1 hV.1
                  have gs2 := (q7 gid gi.2).trans gs
                  have hgl := opc_len _ gC
                  have hgt : (A.length = gcs.length) = True := eq_true hgl.symm
                  rcases d1 with ⟨rfl, rfl, rfl⟩ | ⟨cid, cg, cty, ccs, cB, rfl, c1, c2, rfl⟩
                  · have hmA : (A.length ≤ most) = True := eq_true (by simp only [most]; omega)
                    simp +decide (disch := first | decide | omega) only [go_sem, Nat.reduceAdd, Nat.reduceMul, Nat.reduceSub, Nat.reduceLT, Nat.reduceLeDiff, Nat.reduceEqDiff, Nat.add_assoc, Int.reduceAdd, Int.reduceSub, Int.reduceMul, Int.reduceLT, Int.reduceLE, Int.reduceEq, Int.reduceNeg, strOp_add, ← hJ5, e2, e3, e32, e33, e34, gs2, w1, hgt, hmA, true_or]
                    have hM : ∀ y : Blk, ∀ j, j ≠ gid → upd J5 gid y j = J5 j := fun y j c1 => by
                      simp (disch := omega) only [upd_hit, upd_miss]
                    refine ⟨by omega, fun j hj => ?_, _, gid :: gB, rfl, .inr ⟨gid, gg + 1, grewT 23 gty, gcs, gB, rfl, upd_hit _ _ _, ?_, rfl⟩, hV.wide (Nat.le_refl _) (by show st.nid ≤ m5.nid; omega)⟩
                    · rw [hM _ j (by omega)]
                      exact (q7 j (by omega)).trans (hfr j hj)
                    · exact gC.keep _ fun b hb => (hM _ b fun e => gn1 (e ▸ hb)).trans (q7 b (hV.2 b (by simp [hb])).2)
                  · replace c1 : J5 cid = ⟨ccs, cg, false, cty⟩ := c1
                    have hcl := opc_len _ c2
                    have htk : ccs.take E.length = ccs := List.take_of_length_le (by omega)
                    have hcid := d2' cid (by simp)
                    have n3 : ¬ gid = cid := by omega
                    have hll : (E.length ≤ ccs.length) = True := eq_true (by omega)
                    simp +decide (disch := first | decide | omega) only [go_sem, Nat.reduceAdd, Nat.reduceMul, Nat.reduceSub, Nat.reduceLT, Nat.reduceLeDiff, Nat.reduceEqDiff, Nat.add_assoc, Int.reduceAdd, Int.reduceSub, Int.reduceMul, Int.reduceLT, Int.reduceLE, Int.reduceEq, Int.reduceNeg, strOp_add, ← hJ5, e2, e3, e32, e33, e34, gs2, c1, w1, htk, hm, n3, hll, hgt, true_or]
                    have hM : ∀ y : Blk, ∀ j, j ≠ gid → upd J5 gid y j = J5 j := fun y j c1 => by
                      simp (disch := omega) only [upd_hit, upd_miss]
                    have gB2 : ∀ b ∈ gB, m3.nid ≤ b ∧ b < st.nid := fun b hb => hV.2 b (by simp [hb])
                    have cB2 : ∀ b ∈ cB, m4.nid ≤ b ∧ b < m5.nid := fun b hb => d2' b (by simp [hb])
                    refine ⟨by omega, fun j hj => ?_, _, gid :: (gB ++ cB), rfl, .inr ⟨gid, gg + 1, grewT 23 gty, gcs ++ ccs, gB ++ cB, by rw [List.length_append], upd_hit _ _ _, ?_, rfl⟩, ⟨List.nodup_cons.2 ⟨fun hx => ?_, List.nodup_append.2 ⟨gn2, (List.nodup_cons.1 nB5).2, fun a ha b hb e => ?_⟩⟩, fun b hb => ?_⟩⟩
                    · rw [hM _ j (by omega)]
                      exact (q7 j (by omega)).trans (hfr j hj)
                    · refine (opc_app _ _).2 ⟨gcs, gB, ccs, cB, rfl, rfl, gC.keep _ fun b hb => ?_, c2.keep _ fun b hb => ?_⟩
                      · exact (hM _ b fun e => gn1 (e ▸ hb)).trans (q7 b (gB2 b hb).2)
                      · have := cB2 b hb
                        exact hM _ b (by omega)
                    · rcases List.mem_append.1 hx with hx | hx
                      · exact gn1 hx
                      · have := cB2 _ hx
                        omega
                    · have h1 := gB2 a ha
                      have h2 := cB2 _ hb
                      omega
                    · show _ ∧ b < m5.nid
                      rcases List.mem_cons.1 hb with rfl | hb
                      · omega
                      rcases List.mem_append.1 hb with hb | hb
                      · have h1 := gB2 b hb
                        omega
                      · have h1 := cB2 b hb
                        omega
              · rintro st ⟨e2, e3, e32, e33, e34, en, hfr, u, Bu, e5, hG, hV⟩
                rw [List.take_of_length_le (by simp; omega)] at hG
                simp +decide (disch := first | decide | omega) only [go_sem, Nat.reduceAdd, Nat.reduceMul, Nat.reduceSub, Nat.reduceLT, Nat.reduceLeDiff, Nat.reduceEqDiff, Nat.add_assoc, Int.reduceAdd, Int.reduceSub, Int.reduceMul, Int.reduceLT, Int.reduceLE, Int.reduceEq, Int.reduceNeg, strOp_add, e5, e32, e33, e34]
                exact hQ _ _ Bu hG (hV.wide (by omega) (Nat.le_refl _)) (by show M.nid ≤ st.nid; omega) fun j hj => (hfr j (by omega)).trans (jm3 j hj)
              · simp +decide (disch := first | decide | omega) only [go_sem, Nat.reduceAdd, Nat.reduceMul, Nat.reduceSub, Nat.reduceLT, Nat.reduceLeDiff, Nat.reduceEqDiff, Nat.add_assoc, Int.reduceAdd, Int.reduceSub, Int.reduceMul, Int.reduceLT, Int.reduceLE, Int.reduceEq, Int.reduceNeg, strOp_add]
                exact ⟨rfl, Nat.le_refl _, fun _ _ => trivial, _, [], rfl, .inl ⟨rfl, rfl, rfl⟩, Own.nil _ _⟩
          · rw [decide_eq_false hLL] at heq
            rw [hno (fun h => hLL h.2.2)] at hQ
            simp +decide (disch := first | decide | omega) only [go_sem, Nat.reduceAdd, Nat.reduceMul, Nat.reduceSub, Nat.reduceLT, Nat.reduceLeDiff, Nat.reduceEqDiff, Nat.add_assoc, Int.reduceAdd, Int.reduceSub, Int.reduceMul, Int.reduceLT, Int.reduceLE, Int.reduceEq, Int.reduceNeg, strOp_add, heq, S02, S12, o1, o2, o3, o4, v1o, v1l, v2o, v2l, true_or]
            refine ⟨by
              rw [reach_agg hdp (hOs S _ fun j hj => rfl)]
              have : M.nid + 1 ∉ B := fun h => by have := hB _ h; omega
              simpa using this, ?_⟩
            refine hQ _ _ [N2 + 1, N2] (.inr ⟨N2 + 1, 0, none, [.arr N2 0 0 0 1 true], [N2], rfl, upd_hit _ _ _, opc_one ⟨N2, 0, true, none, rfl, ?_, rfl⟩, rfl⟩) ⟨by simp, by simp; omega⟩ (by show M.nid ≤ N2 + 2; omega) fun j hj => ?_
            · show upd _ _ _ _ = _
              simp (disch := omega) only [upd_hit, upd_miss]
              rfl
            · show upd _ _ _ _ = _
              simp (disch := omega) only [upd_hit, upd_miss]
              exact (jm2 j hj).trans (frS j hj)
        · have hb := branches_eq a.kind a.num a.text (a.list.map Dat.av) (a.names.map AV.str) false (by simp [hbr])
          rw [hno (fun h => hbr h.2.1)] at hQ
          refine fnI_wp (rs := [.tmp 4]) Tryd.func29 rfl rfl (Nat.le_of_ble_eq_true rfl) rfl rfl ?_
          simp +decide (disch := first | decide | omega) only [go_sem, Nat.reduceAdd, Nat.reduceMul, Nat.reduceSub, Nat.reduceLT, Nat.reduceLeDiff, Nat.reduceEqDiff, Nat.add_assoc, Int.reduceAdd, Int.reduceSub, Int.reduceMul, Int.reduceLT, Int.reduceLE, Int.reduceEq, Int.reduceNeg, strOp_add, o1, o2, o3, o4, true_or]
          rw [(key _ (fun j hj => fr1 _ _ j hj)).1, (key _ (fun j hj => fr1 _ _ j hj)).2, (key2 _ (fun j hj => fr1 _ _ j hj)).1, (key2 _ (fun j hj => fr1 _ _ j hj)).2]
          simp +decide (disch := first | decide | omega) only [go_sem, Nat.reduceAdd, Nat.reduceMul, Nat.reduceSub, Nat.reduceLT, Nat.reduceLeDiff, Nat.reduceEqDiff, Nat.add_assoc, Int.reduceAdd, Int.reduceSub, Int.reduceMul, Int.reduceLT, Int.reduceLE, Int.reduceEq, Int.reduceNeg, strOp_add, hsame, o1, o2, o3, o4, true_or]
          refine (d_plan (ord := [0, 1, 2, 3, 4, 5, 6, 7, 8, 9, 10, 11, 12, 13, 14, 15, 16, 17]) (prs := [(1, 3), (11, 13), (12, 13)]) (by kernel_rfl)).2 ?_
          have hkk : (a.kind = b.kind) = True := eq_true hk
          simp +decide (disch := first | decide | omega) only [go_sem, Nat.reduceAdd, Nat.reduceMul, Nat.reduceSub, Nat.reduceLT, Nat.reduceLeDiff, Nat.reduceEqDiff, Nat.add_assoc, Int.reduceAdd, Int.reduceSub, Int.reduceMul, Int.reduceLT, Int.reduceLE, Int.reduceEq, Int.reduceNeg, strOp_add, hkk, o1, o2, o3, o4, true_or]
          rw [(key _ (fun j hj => fr1 _ _ j hj)).1, (key _ (fun j hj => fr1 _ _ j hj)).2]
          simp +decide (disch := first | decide | omega) only [go_sem, Nat.reduceAdd, Nat.reduceMul, Nat.reduceSub, Nat.reduceLT, Nat.reduceLeDiff, Nat.reduceEqDiff, Nat.add_assoc, Int.reduceAdd, Int.reduceSub, Int.reduceMul, Int.reduceLT, Int.reduceLE, Int.reduceEq, Int.reduceNeg, strOp_add, hb, o1, o2, o3, o4, true_or]
          refine hQ _ _ [M.nid + 21, M.nid + 20] (.inr ⟨M.nid + 21, 0, none, [.arr (M.nid + 20) 0 0 0 1 true], [M.nid + 20], rfl, upd_hit _ _ _, opc_one ⟨M.nid + 20, 0, true, none, rfl, ?_, rfl⟩, rfl⟩) ⟨by simp, by simp⟩ (by show M.nid ≤ M.nid + 22; omega) fun j hj => ?_
          · show upd _ _ _ _ = _
            simp (disch := omega) only [upd_hit, upd_miss]
            rfl
          · show upd _ _ _ _ = _
            simp (disch := omega) only [upd_hit, upd_miss]
      · rw [hno (fun h => hk h.1)] at hQ
        refine fnI_wp (rs := [.tmp 4]) Tryd.func29 rfl rfl (Nat.le_of_ble_eq_true rfl) rfl rfl ?_
        simp +decide (disch := first | decide | omega) only [go_sem, Nat.reduceAdd, Nat.reduceMul, Nat.reduceSub, Nat.reduceLT, Nat.reduceLeDiff, Nat.reduceEqDiff, Nat.add_assoc, Int.reduceAdd, Int.reduceSub, Int.reduceMul, Int.reduceLT, Int.reduceLE, Int.reduceEq, Int.reduceNeg, strOp_add, o1, o2, o3, o4, true_or]
        rw [(key _ (fun j hj => fr1 _ _ j hj)).1, (key _ (fun j hj => fr1 _ _ j hj)).2, (key2 _ (fun j hj => fr1 _ _ j hj)).1, (key2 _ (fun j hj => fr1 _ _ j hj)).2]
        simp +decide (disch := first | decide | omega) only [go_sem, Nat.reduceAdd, Nat.reduceMul, Nat.reduceSub, Nat.reduceLT, Nat.reduceLeDiff, Nat.reduceEqDiff, Nat.add_assoc, Int.reduceAdd, Int.reduceSub, Int.reduceMul, Int.reduceLT, Int.reduceLE, Int.reduceEq, Int.reduceNeg, strOp_add, hsame, o1, o2, o3, o4, true_or]
        refine (d_plan (ord := [0, 1, 2, 3, 4, 5, 6, 7, 8, 9, 10, 11, 12, 13, 14, 15, 16, 17]) (prs := [(1, 3), (11, 13), (12, 13)]) (by kernel_rfl)).2 ?_
        simp +decide (disch := first | decide | omega) only [go_sem, Nat.reduceAdd, Nat.reduceMul, Nat.reduceSub, Nat.reduceLT, Nat.reduceLeDiff, Nat.reduceEqDiff, Nat.add_assoc, Int.reduceAdd, Int.reduceSub, Int.reduceMul, Int.reduceLT, Int.reduceLE, Int.reduceEq, Int.reduceNeg, strOp_add, hk]
        refine hQ _ _ [M.nid + 21, M.nid + 20] (.inr ⟨M.nid + 21, 0, none, [.arr (M.nid + 20) 0 0 0 1 true], [M.nid + 20], rfl, upd_hit _ _ _, opc_one ⟨M.nid + 20, 0, true, none, rfl, ?_, rfl⟩, rfl⟩) ⟨by simp, by simp⟩ (by show M.nid ≤ M.nid + 22; omega) fun j hj => ?_
        · show upd _ _ _ _ = _
          simp (disch := omega) only [upd_hit, upd_miss]
          rfl
        · show upd _ _ _ _ = _
          simp (disch := omega) only [upd_hit, upd_miss]
end Go.Ev.Tryd
