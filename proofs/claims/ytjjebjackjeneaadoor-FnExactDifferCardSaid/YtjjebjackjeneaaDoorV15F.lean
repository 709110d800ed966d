/- Part of the proof of a statement about the given program: V15F. No condition of its own. -/
import Derived.Test.YtjjebjackjeneaaDoorV14F
namespace Go.Ev.Tryd
open Go.Proofs
set_option maxRecDepth 10000
set_option linter.unusedSimpArgs false
set_option linter.unusedVariables false
attribute [local congr] comes_congr bB_congr gK_congr gdK_congr


theorem eqPaths_self (ps : List (List ByteArray)) (h : ps.length ≤ 1099511627776) (hp : ∀ p ∈ ps, p.length ≤ 1099511627776) : fnA CC PR 10 [pathsA ps, pathsA ps] = some (.bool true) := by
  unfold pathsA
  apply comes_eq.1
  refine fnA_wp (rs := [.tmp 4]) Tryd.func10 rfl rfl (Nat.le_of_ble_eq_true rfl) rfl ?_
  simp +decide only [go_sem, Nat.reduceAdd, Nat.reduceMul, Nat.reduceSub, Nat.reduceLT, Nat.reduceLeDiff, Nat.reduceEqDiff, Nat.add_assoc, Int.reduceAdd, Int.reduceSub, Int.reduceMul, Int.reduceLT, Int.reduceLE, Int.reduceEq, Int.reduceNeg, strOp_add, List.length_map]
  refine comes_upto ps.length (fun i st => st.env 0 = .slice 1 (ps.map strsA) ∧ st.env 1 = .slice 1 (ps.map strsA) ∧ st.env 5 = .int .i64 i) ?_ ?_ _ ?_
  · rintro i st hi ⟨e0, e1, e5⟩
    have ha : (ps.map strsA)[i]? = some (strsA ps[i]) := by simp [hi]
    have hq := eqStrings_self ps[i] (hp _ (List.getElem_mem hi))
    have w1 : IntKind.wrap .i64 ((i : Int) + 1) = ((i + 1 : Nat) : Int) := wrap_succ (by omega)
    unfold strsA at ha
    generalize (ps[i]).map AV.str = z at *
    simp +decide only [go_sem, Nat.reduceAdd, Nat.reduceMul, Nat.reduceSub, Nat.reduceLT, Nat.reduceLeDiff, Nat.reduceEqDiff, Nat.add_assoc, Int.reduceAdd, Int.reduceSub, Int.reduceMul, Int.reduceLT, Int.reduceLE, Int.reduceEq, Int.reduceNeg, strOp_add, e0, e1, e5, hi, List.length_map, ha, hq, w1]
    refine (d_plan (ord := [0, 1, 2, 3, 4, 5, 6, 7, 8, 9]) (prs := [(3, 7)]) (by kernel_rfl)).2 ?_
    simp +decide only [go_sem, Nat.reduceAdd, Nat.reduceMul, Nat.reduceSub, Nat.reduceLT, Nat.reduceLeDiff, Nat.reduceEqDiff, Nat.add_assoc, Int.reduceAdd, Int.reduceSub, Int.reduceMul, Int.reduceLT, Int.reduceLE, Int.reduceEq, Int.reduceNeg, strOp_add, e0, e1, e5, hi, List.length_map, ha, hq, w1]
  · rintro st ⟨e0, e1, e5⟩
    simp +decide only [go_sem, Nat.reduceAdd, Nat.reduceMul, Nat.reduceSub, Nat.reduceLT, Nat.reduceLeDiff, Nat.reduceEqDiff, Nat.add_assoc, Int.reduceAdd, Int.reduceSub, Int.reduceMul, Int.reduceLT, Int.reduceLE, Int.reduceEq, Int.reduceNeg, strOp_add, e0, e1, e5, List.length_map]
  · simp +decide only [go_sem, Nat.reduceAdd, Nat.reduceMul, Nat.reduceSub, Nat.reduceLT, Nat.reduceLeDiff, Nat.reduceEqDiff, Nat.add_assoc, Int.reduceAdd, Int.reduceSub, Int.reduceMul, Int.reduceLT, Int.reduceLE, Int.reduceEq, Int.reduceNeg, strOp_add]
    rfl

set_option maxHeartbeats 4000000 in
/-- Paths of one's own are marked: no other block is written. -/
theorem markPaths_wp (l : List (List ByteArray)) (hl : l.length ≤ 1099511627776) (hL : ∀ p ∈ l, p.length ≤ 1099511627776) (k : Nat) (h1 : 1 ≤ k) (hk : k + cntP l ≤ 4611686018427387904) (v : AV) (B : List Nat) (m : Mem) (hO : OPs m l v B) (hN : B.Nodup) (hB : ∀ b ∈ B, b < m.nid) (Q : AV × Mem → Prop)
    (hQ : ∀ m', OPs m' (mkP k l) v B → m.nid ≤ m'.nid → (∀ j, j < m.nid → j ∉ B → m'.sto j = m.sto j) → Q (.int .i64 ((k + cntP l : Nat) : Int), m')) :
    Comes (fnI CC PR 13 [v, .int .i64 k] m) Q := by
  refine fnI_wp (rs := [.tmp 4]) Tryd.func13 rfl rfl (Nat.le_of_ble_eq_true rfl) rfl rfl ?_
  rcases hO with ⟨rfl, rfl, rfl⟩ | ⟨id, g, app, ty, cs, B, rfl, hs, hC, rfl⟩
  · simp +decide only [go_sem, Nat.reduceAdd, Nat.reduceMul, Nat.reduceSub, Nat.reduceLT, Nat.reduceLeDiff, Nat.reduceEqDiff, Nat.add_assoc, Int.reduceAdd, Int.reduceSub, Int.reduceMul, Int.reduceLT, Int.reduceLE, Int.reduceEq, Int.reduceNeg, strOp_add]
    refine comes_upto 0 (fun i st => st.env 0 = .nils 1 ∧ st.env 1 = .int .i64 k ∧ st.env 5 = .int .i64 0 ∧ st.nid = m.nid ∧ st.sto = m.sto) ?_ ?_ _ ?_
    · rintro i st hi; omega
    · rintro st ⟨e0, e1, e5, en, es⟩
      rw [cntP, Nat.add_zero] at hQ
      simp +decide only [go_sem, Nat.reduceAdd, Nat.reduceMul, Nat.reduceSub, Nat.reduceLT, Nat.reduceLeDiff, Nat.reduceEqDiff, Nat.add_assoc, Int.reduceAdd, Int.reduceSub, Int.reduceMul, Int.reduceLT, Int.reduceLE, Int.reduceEq, Int.reduceNeg, strOp_add, e0, e1, e5]
      exact hQ _ (.inl ⟨by rw [mkP], rfl, rfl⟩) (by show m.nid ≤ st.nid; omega) fun j hj _ => by show st.sto j = _; rw [es]
    · simp +decide only [go_sem, Nat.reduceAdd, Nat.reduceMul, Nat.reduceSub, Nat.reduceLT, Nat.reduceLeDiff, Nat.reduceEqDiff, Nat.add_assoc, Int.reduceAdd, Int.reduceSub, Int.reduceMul, Int.reduceLT, Int.reduceLE, Int.reduceEq, Int.reduceNeg, strOp_add]
  · simp +decide only [go_sem, Nat.reduceAdd, Nat.reduceMul, Nat.reduceSub, Nat.reduceLT, Nat.reduceLeDiff, Nat.reduceEqDiff, Nat.add_assoc, Int.reduceAdd, Int.reduceSub, Int.reduceMul, Int.reduceLT, Int.reduceLE, Int.reduceEq, Int.reduceNeg, strOp_add]
    have hid := hB id (by simp)
    have hlen := mkP_len k l
    obtain ⟨hN1, hN2⟩ := List.nodup_cons.1 hN
    have hBB : ∀ b ∈ B, b < m.nid := fun b hb => hB b (by simp [hb])
    refine comes_upto l.length (fun i st => st.env 0 = .arr id g 0 l.length 1 app ∧ st.env 1 = .int .i64 ((k + cntP (l.take i) : Nat) : Int) ∧ st.env 5 = .int .i64 i ∧ m.nid ≤ st.nid ∧ st.sto id = ⟨cs, g, false, ty⟩ ∧ (∀ j, j < m.nid → j ∉ B → st.sto j = m.sto j) ∧ OPc st.toMem (mkP k (l.take i) ++ l.drop i) cs B) ?_ ?_ _ ?_
    · rintro i st hi ⟨e0, e1, e5, en, hs, hfr, hC⟩
      have w1 : IntKind.wrap .i64 ((i : Int) + 1) = ((i + 1 : Nat) : Int) := wrap_succ (by omega)
      have hz := cntP_take hi
      have hz2 := cntP_le l (i + 1)
      have hmk := mkP_take hi k
      have hln : (mkP k (l.take i)).length = i := by rw [mkP_len, List.length_take, Nat.min_eq_left (by omega)]
      have hpl := hL _ (List.getElem_mem hi)
      rw [List.drop_eq_getElem_cons hi] at hC
      rw [hz] at hz2
      rw [hz, hmk]
      generalize cntP (l.take i) = c at *
      generalize mkP k (l.take i) = X at *
      generalize l.drop (i + 1) = Y at *
      generalize l[i] = p at *
      obtain ⟨c1, B1, c2, B2, rfl, rfl, hX, hC2⟩ := (opc_app _ _).1 hC
      obtain ⟨pv, B3, c4, B4, rfl, rfl, hD, hY⟩ := opc_cons.1 hC2
      have hal : c1.length = i := by rw [opc_len _ hX, hln]
      have hdr : (c1 ++ pv :: c4).drop i = pv :: c4 := by rw [← hal, List.drop_left]
      rw [← Nat.add_assoc]
      have hk3 : k + c + p.length ≤ 4611686018427387904 := by omega
      have hk4 : 1 ≤ k + c := by omega
      generalize k + c = k0 at *
      have hmw := markStrings_wp p hpl k0 hk4 (by omega) pv B3
      obtain ⟨pi, pg, papp, pty, hpv, hps, hpB⟩ := hD
      subst hpv
      generalize hcs : c1 ++ .arr pi pg 0 p.length 1 papp :: c4 = cs at *
      simp +decide only [go_sem, Nat.reduceAdd, Nat.reduceMul, Nat.reduceSub, Nat.reduceLT, Nat.reduceLeDiff, Nat.reduceEqDiff, Nat.add_assoc, Int.reduceAdd, Int.reduceSub, Int.reduceMul, Int.reduceLT, Int.reduceLE, Int.reduceEq, Int.reduceNeg, strOp_add, e0, e1, e5, hi, hs, hdr, w1]
      have hNd : (B1 ++ (B3 ++ B4)).Nodup := hN2
      rw [List.nodup_append] at hNd
      obtain ⟨hNB1, hNd, hx1⟩ := hNd
      rw [List.nodup_append] at hNd
      obtain ⟨hNB3, hNB4, hx2⟩ := hNd
      have i3 : ∀ b ∈ B3, b ≠ id := fun b hb e => hN1 (by simp [← e, hb])
      have y1 : ∀ b ∈ B1, b < m.nid := fun b hb => hBB b (by simp [hb])
      have y3 : ∀ b ∈ B3, b < m.nid := fun b hb => hBB b (by simp [hb])
      have y4 : ∀ b ∈ B4, b < m.nid := fun b hb => hBB b (by simp [hb])
      refine hmw _ (.inr ⟨pi, pg, papp, pty, rfl, hps, hpB⟩) (fun b hb => Nat.lt_of_lt_of_le (y3 b hb) en) _ fun m1 q1 q2 q3 => ?_
      have q2' : st.nid ≤ m1.nid := q2
      have s1 := (q3 id (by show id < st.nid; omega) fun h => i3 id h rfl).trans hs
      simp +decide only [go_sem, Nat.reduceAdd, Nat.reduceMul, Nat.reduceSub, Nat.reduceLT, Nat.reduceLeDiff, Nat.reduceEqDiff, Nat.add_assoc, Int.reduceAdd, Int.reduceSub, Int.reduceMul, Int.reduceLT, Int.reduceLE, Int.reduceEq, Int.reduceNeg, strOp_add, e0, e1, e5, s1, w1]
      have q1' : OArr m1 (mkS k0 p) (.arr pi pg 0 p.length 1 papp) B3 := by
        rcases q1 with ⟨_, h, _⟩ | h
        · cases h
        · exact h
      have q4 : ∀ b, b < st.nid → b ∉ B3 → m1.sto b = st.sto b := q3
      refine ⟨by omega, fun j hj hn2 => ?_, ?_⟩
      · have a2 : j ∉ B3 := fun h => hn2 (by simp [h])
        exact (q4 j (by omega) a2).trans (hfr j hj hn2)
      · rw [List.append_assoc, ← hcs]
        refine (opc_app _ _).2 ⟨c1, B1, _, _, rfl, rfl, hX.keep _ fun b hb => ?_, opc_cons.2 ⟨_, B3, c4, B4, rfl, rfl, q1', hY.keep _ fun b hb => ?_⟩⟩
        · exact q4 b (by have := y1 b hb; omega) fun h => hx1 b hb b (by simp [h]) rfl
        · exact q4 b (by have := y4 b hb; omega) fun h => hx2 b h b hb rfl
    · rintro st ⟨e0, e1, e5, en, hs, hfr, hC⟩
      rw [List.take_length] at hC e1
      rw [List.drop_length, List.append_nil] at hC
      simp +decide only [go_sem, Nat.reduceAdd, Nat.reduceMul, Nat.reduceSub, Nat.reduceLT, Nat.reduceLeDiff, Nat.reduceEqDiff, Nat.add_assoc, Int.reduceAdd, Int.reduceSub, Int.reduceMul, Int.reduceLT, Int.reduceLE, Int.reduceEq, Int.reduceNeg, strOp_add, e0, e1, e5]
      exact hQ _ (.inr ⟨id, g, app, ty, cs, B, by rw [hlen], hs, hC, rfl⟩) en fun j hj hn => hfr j hj fun e => hn (by simp [e])
    · simp +decide only [go_sem, Nat.reduceAdd, Nat.reduceMul, Nat.reduceSub, Nat.reduceLT, Nat.reduceLeDiff, Nat.reduceEqDiff, Nat.add_assoc, Int.reduceAdd, Int.reduceSub, Int.reduceMul, Int.reduceLT, Int.reduceLE, Int.reduceEq, Int.reduceNeg, strOp_add]
      exact ⟨by rw [cntP]; rfl, rfl, Nat.le_refl _, hs, fun _ _ _ => trivial, by rw [mkP]; exact hC⟩
end Go.Ev.Tryd
