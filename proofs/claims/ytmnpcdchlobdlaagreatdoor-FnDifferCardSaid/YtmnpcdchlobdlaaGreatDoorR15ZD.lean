/- Part of the proof of a statement about the given program: R15ZD. No condition of its own. -/
import Derived.Test.YtmnpcdchlobdlaaGreatDoorR14ZD
namespace Go.Ev.Tryz
open Go.Proofs
set_option maxRecDepth 10000
set_option linter.unusedSimpArgs false
set_option linter.unusedVariables false
attribute [local congr] comes_congr bB_congr gK_congr gdK_congr

theorem Name_ok (d : Dat) (k : Nat) (hk : k ≤ 1099511627776) (h4 : d.kind = 4 → k < d.names.length) : ∃ s, fnA CC PR 33 [d.av, .int .i64 k] = some (.str s) := by
  obtain ⟨q, n, t, l, ns⟩ := d
  have h4' : q = 4 → k < ns.length := h4
  by_cases hq : q = 4
  · have hk' := h4' hq
    refine ⟨ns[k], ?_⟩
    rw [Dat.av_mk]
    apply comes_eq.1
    refine fnA_wp (rs := [.tmp 4]) Tryz.func33 rfl rfl (Nat.le_of_ble_eq_true rfl) rfl ?_
    simp +decide only [go_sem, Nat.reduceAdd, Nat.reduceMul, Nat.reduceSub, Nat.reduceLT, Nat.reduceLeDiff, Nat.reduceEqDiff, Nat.add_assoc, Int.reduceAdd, Int.reduceSub, Int.reduceMul, Int.reduceLT, Int.reduceLE, Int.reduceEq, Int.reduceNeg, strOp_add, hq, List.length_map, hk', strs_at hk']
  · refine ⟨dec k, ?_⟩
    rw [Dat.av_mk]
    apply comes_eq.1
    refine fnA_wp (rs := [.tmp 4]) Tryz.func33 rfl rfl (Nat.le_of_ble_eq_true rfl) rfl ?_
    simp +decide only [go_sem, Nat.reduceAdd, Nat.reduceMul, Nat.reduceSub, Nat.reduceLT, Nat.reduceLeDiff, Nat.reduceEqDiff, Nat.add_assoc, Int.reduceAdd, Int.reduceSub, Int.reduceMul, Int.reduceLT, Int.reduceLE, Int.reduceEq, Int.reduceNeg, strOp_add, hq, l1Dec_nat k (by omega)]
def CurAt (M : Mem) (b : Nat) (cur : Dat) : Prop := M.sto b = ⟨cur.av.cells, 0, false, none⟩
set_option maxHeartbeats 4000000 in
theorem Path_wp (d : Dat) (hd : d.Sane) (hh : hgt d ≤ 1000) (m : Mem) (id : Nat) (bs : List Int) (P : Nat) (h : RdAt m id bs P) (hb : Bytes bs) (hP : P ≤ 600000000000) (Q : AV × Mem → Prop)
    (hQ : ∀ p m', p.length ≤ 1001 → RdAt m' id bs (P + 4000) → Fr m m' id → Q (strsA p, m')) :
    Comes (fnI CC PR 16 [.ptr id 0 0, d.av] m) Q := by
  have hid := h.1
  obtain ⟨q1, q2, q3, q4, q5, hcs⟩ := cells_of d
  have fin : ∀ (M : Mem) (g : Nat) (ty : Option (TypeId × Bool)) (p : List ByteArray), M.sto (m.nid + 1) = ⟨p.map AV.str, g, false, ty⟩ → p.length ≤ 1001 → RdAt M id bs (P + 4000) → Fr m M id → Q (strsA p, frozM M ((m.nid + 1) :: (List.map (reachD M 2097151) (p.map AV.str)).flatten)) := by
    intro M g ty p h1 h2 h3 h4
    rw [reachesD_still (still_strs p)]
    exact hQ p _ h2 (h3.froz (by simp; omega)) (h4.froz (by simp))
  rw [hcs]
  refine fnI_wp (rs := [.tmp 4]) Tryz.func16 rfl rfl (Nat.le_of_ble_eq_true rfl) rfl (entry_plain ?_) ?_
  · intro a ha
    simp only [List.mem_cons, List.mem_nil_iff, or_false] at ha
    rcases ha with rfl | rfl
    · exact .inl rfl
    · exact .inr ⟨rfl, rfl⟩
  simp +decide only [go_sem, Nat.reduceAdd, Nat.reduceMul, Nat.reduceSub, Nat.reduceLT, Nat.reduceLeDiff, Nat.reduceEqDiff, Nat.add_assoc, Int.reduceAdd, Int.reduceSub, Int.reduceMul, Int.reduceLT, Int.reduceLE, Int.reduceEq, Int.reduceNeg, strOp_add]
  refine comes_while (fun k s => s.env 0 = .ptr id 0 0 ∧ s.env 3 = .ptr m.nid 0 0 ∧ ∃ (cur : Dat) (p : List ByteArray) (g : Nat) (ty : Option (TypeId × Bool)), k = hgt cur ∧ cur.Sane ∧ p.length + hgt cur ≤ 1000 ∧ s.env 5 = .arr (m.nid + 1) g 0 p.length 1 true ∧ CurAt s.toMem m.nid cur ∧ s.sto (m.nid + 1) = ⟨p.map AV.str, g, false, ty⟩ ∧ m.nid + 2 ≤ s.nid ∧ RdAt s.toMem id bs (P + 2 * p.length) ∧ Fr m s.toMem id) ?_ (hgt d) _ ?_
  · rintro k s ⟨e0, e3, cur, p, g, ty, rfl, hcur, hpl, e5, s0, s1, sn, hR, hF⟩
    obtain ⟨kk, nn, tt, ll, nss⟩ := cur
    unfold CurAt at s0
    rw [Dat.av_mk] at s0
    have hll := hcur
    have hg1 : 1 ≤ hgt (.mk kk nn tt ll nss) := by rw [hgt]; omega
    have idn : id < s.nid := hR.1
    cases hll with
    | mk _ _ _ _ _ hk1 hk2 hk3 hk4 hk5 hk6 hk7 =>
    by_cases hl0 : 0 < ll.length
    · have hpos : ((0 : Int) < (ll.length : Int)) = True := eq_true (by omega)
      simp +decide only [go_sem, Nat.reduceAdd, Nat.reduceMul, Nat.reduceSub, Nat.reduceLT, Nat.reduceLeDiff, Nat.reduceEqDiff, Nat.add_assoc, Int.reduceAdd, Int.reduceSub, Int.reduceMul, Int.reduceLT, Int.reduceLE, Int.reduceEq, Int.reduceNeg, strOp_add, e0, e3, e5, s0, List.length_map, hpos, AV.cells]
      refine pick_wp 4 _ id bs _ hR hb (by omega) (by omega) (by omega) _ fun y m4 hy u1 u2 => ?_
      have n4 : s.nid ≤ m4.nid := u2.1
      have s0' := u2.at (show m.nid < s.nid by omega) (by omega) s0
      have s1' := u2.at (show m.nid + 1 < s.nid by omega) (by omega) s1
      have hF4 := hF.trans u2
      simp +decide only [go_sem, Nat.reduceAdd, Nat.reduceMul, Nat.reduceSub, Nat.reduceLT, Nat.reduceLeDiff, Nat.reduceEqDiff, Nat.add_assoc, Int.reduceAdd, Int.reduceSub, Int.reduceMul, Int.reduceLT, Int.reduceLE, Int.reduceEq, Int.reduceNeg, strOp_add, e0, e3, e5, s0', s1']
      refine bB_split (fun hB => ?_) (fun hB => ?_)
      · simp +decide only [go_sem, Nat.reduceAdd, Nat.reduceMul, Nat.reduceSub, Nat.reduceLT, Nat.reduceLeDiff, Nat.reduceEqDiff, Nat.add_assoc, Int.reduceAdd, Int.reduceSub, Int.reduceMul, Int.reduceLT, Int.reduceLE, Int.reduceEq, Int.reduceNeg, strOp_add, e0, e3, e5, s0', List.length_map]
        refine pick_wp ll.length _ id bs _ u1 hb (by omega) (by omega) (by omega) _ fun j m5 hj u3 u4 => ?_
        have n5 : m4.nid ≤ m5.nid := u4.1
        have s0'' := u4.at (show m.nid < m4.nid by omega) (by omega) s0'
        have s1'' := u4.at (show m.nid + 1 < m4.nid by omega) (by omega) s1'
        have hF5 := hF4.trans u4
        by_cases hk4 : kk = 4
        · subst hk4
          by_cases hln : nss.length = ll.length
          · have hln' : ((nss.length : Int) = (ll.length : Int)) = True := eq_true (by omega)
            have hjs : j ≤ 1099511627776 := by omega
            obtain ⟨nm, hnm⟩ := Name_ok (.mk 4 nn tt ll nss) j hjs (fun _ => by show j < nss.length; omega)
            obtain ⟨r1, r2, r3, r4, r5, hcj⟩ := cells_of ll[j]
            have haj := av_at hj
            rw [hcj] at haj
            rw [Dat.av_mk] at hnm
            have hc2 : p.length + 1 ≤ most := by simp only [most]; omega
            have hlt := hgt_lt (k := 4) (n := nn) (t := tt) (ns := nss) (List.getElem_mem hj)
            simp (maxSteps := 2000000) +decide (disch := first | decide | omega) only [go_sem, Nat.reduceAdd, Nat.reduceMul, Nat.reduceSub, Nat.reduceLT, Nat.reduceLeDiff, Nat.reduceEqDiff, Nat.add_assoc, Int.reduceAdd, Int.reduceSub, Int.reduceMul, Int.reduceLT, Int.reduceLE, Int.reduceEq, Int.reduceNeg, strOp_add, e0, e3, e5, s0'', s1'', List.length_map, hln', hnm, haj, hj, hc2]
            refine ⟨hgt ll[j], hlt, ll[j], p ++ [nm], g + 1, grewT 9 ty, rfl, hk7 _ (List.getElem_mem hj), by simp; omega, by simp, ?_, ?_, by omega, ?_, ?_⟩
            · show CurAt ⟨upd (upd (upd m5.sto m5.nid _) (m.nid + 1) _) m.nid _, m5.nid + 1⟩ m.nid ll[j]
              unfold CurAt
              dsimp only
              rw [upd_hit, hcj]
              rfl
            · rw [List.map_append]
              rfl
            · refine (u3.mono ?_).fr (by show m5.nid ≤ m5.nid + 1; omega) (by have := u3.1; simp (disch := omega) only [upd_hit, upd_miss])
              simp
              omega
            · exact ⟨by show m.nid ≤ m5.nid + 1; have := hF5.1; omega, fun q c1 c2 => by
                dsimp only
                have := hF5.1
                simp (disch := omega) only [upd_hit, upd_miss]
                exact hF5.2 q c1 c2⟩
          · have hln' : ((nss.length : Int) = (ll.length : Int)) = False := eq_false (by omega)
            simp +decide only [go_sem, Nat.reduceAdd, Nat.reduceMul, Nat.reduceSub, Nat.reduceLT, Nat.reduceLeDiff, Nat.reduceEqDiff, Nat.add_assoc, Int.reduceAdd, Int.reduceSub, Int.reduceMul, Int.reduceLT, Int.reduceLE, Int.reduceEq, Int.reduceNeg, strOp_add, e0, e3, e5, s0'', s1'', List.length_map, hln', Nat.le_refl]
            rw [List.take_of_length_le (by simp), snaps_strs]
            refine comes_some.2 ?_
            rw [elems_strs]
            exact fin _ g ty p s1'' (by omega) (u3.mono (by omega)) hF5
        · by_cases hk3 : kk = 3
          · subst hk3
            have hjs : j ≤ 1099511627776 := by omega
            obtain ⟨nm, hnm⟩ := Name_ok (.mk 3 nn tt ll nss) j hjs (fun h => absurd h (by show ¬ (3 : Int) = 4; decide))
            obtain ⟨r1, r2, r3, r4, r5, hcj⟩ := cells_of ll[j]
            have haj := av_at hj
            rw [hcj] at haj
            rw [Dat.av_mk] at hnm
            have hc2 : p.length + 1 ≤ most := by simp only [most]; omega
            have hlt := hgt_lt (k := 3) (n := nn) (t := tt) (ns := nss) (List.getElem_mem hj)
            simp (maxSteps := 2000000) +decide (disch := first | decide | omega) only [go_sem, Nat.reduceAdd, Nat.reduceMul, Nat.reduceSub, Nat.reduceLT, Nat.reduceLeDiff, Nat.reduceEqDiff, Nat.add_assoc, Int.reduceAdd, Int.reduceSub, Int.reduceMul, Int.reduceLT, Int.reduceLE, Int.reduceEq, Int.reduceNeg, strOp_add, e0, e3, e5, s0'', s1'', List.length_map, hnm, haj, hj, hc2]
            refine ⟨hgt ll[j], hlt, ll[j], p ++ [nm], g + 1, grewT 9 ty, rfl, hk7 _ (List.getElem_mem hj), by simp; omega, by simp, ?_, ?_, by omega, ?_, ?_⟩
            · show CurAt ⟨upd (upd (upd m5.sto m5.nid _) (m.nid + 1) _) m.nid _, m5.nid + 1⟩ m.nid ll[j]
              unfold CurAt
              dsimp only
              rw [upd_hit, hcj]
              rfl
            · rw [List.map_append]
              rfl
            · refine (u3.mono ?_).fr (by show m5.nid ≤ m5.nid + 1; omega) (by have := u3.1; simp (disch := omega) only [upd_hit, upd_miss])
              simp
              omega
            · exact ⟨by show m.nid ≤ m5.nid + 1; have := hF5.1; omega, fun q c1 c2 => by
                dsimp only
                have := hF5.1
                simp (disch := omega) only [upd_hit, upd_miss]
                exact hF5.2 q c1 c2⟩
          · simp +decide only [go_sem, Nat.reduceAdd, Nat.reduceMul, Nat.reduceSub, Nat.reduceLT, Nat.reduceLeDiff, Nat.reduceEqDiff, Nat.add_assoc, Int.reduceAdd, Int.reduceSub, Int.reduceMul, Int.reduceLT, Int.reduceLE, Int.reduceEq, Int.reduceNeg, strOp_add, e0, e3, e5, s0'', s1'', List.length_map, hk4, hk3, Nat.le_refl]
            rw [List.take_of_length_le (by simp), snaps_strs]
            refine comes_some.2 ?_
            rw [elems_strs]
            exact fin _ g ty p s1'' (by omega) (u3.mono (by omega)) hF5
      · simp +decide only [go_sem, Nat.reduceAdd, Nat.reduceMul, Nat.reduceSub, Nat.reduceLT, Nat.reduceLeDiff, Nat.reduceEqDiff, Nat.add_assoc, Int.reduceAdd, Int.reduceSub, Int.reduceMul, Int.reduceLT, Int.reduceLE, Int.reduceEq, Int.reduceNeg, strOp_add, e0, e3, e5, s1']
        refine pick_wp 10 _ id bs _ u1 hb (by omega) (by omega) (by omega) _ fun z m10 hz w1 w2 => ?_
        have t0 := s1'
        have v1 := w2.at (show m.nid + 1 < m4.nid by omega) (by omega) s1'
        have hFz := hF4.trans w2
        have nz : m4.nid ≤ m10.nid := w2.1
        simp +decide only [go_sem, Nat.reduceAdd, Nat.reduceMul, Nat.reduceSub, Nat.reduceLT, Nat.reduceLeDiff, Nat.reduceEqDiff, Nat.add_assoc, Int.reduceAdd, Int.reduceSub, Int.reduceMul, Int.reduceLT, Int.reduceLE, Int.reduceEq, Int.reduceNeg, strOp_add, e0, e5, v1]
        refine bB_split (fun hB => ?_) (fun hB => ?_)
        · simp +decide only [go_sem, Nat.reduceAdd, Nat.reduceMul, Nat.reduceSub, Nat.reduceLT, Nat.reduceLeDiff, Nat.reduceEqDiff, Nat.add_assoc, Int.reduceAdd, Int.reduceSub, Int.reduceMul, Int.reduceLT, Int.reduceLE, Int.reduceEq, Int.reduceNeg, strOp_add, e0, e5, v1]
          refine ofA_wp [⟨#[110, 111, 110, 101]⟩, ⟨#[48]⟩, ⟨#[57]⟩, ⟨#[]⟩] _ id bs _ m10.nid 0 true false none (upd_hit _ _ _) (Nat.lt_succ_self _) (by omega) (w1.put (by omega) (Nat.le_succ _)) hb (by omega) (by simp) (by simp) _ fun x m9 hx w3 w4 => ?_
          have n9 : m10.nid + 1 ≤ m9.nid := w4.1
          have v2 := w4.at (show m.nid + 1 < m10.nid + 1 by omega) (by omega) ((upd_miss _ _ _ _ (by omega)).trans v1)
          have hF9 := (hFz.put (E := m10.nid) (n := m10.nid + 1) (by omega) (Nat.le_succ _)).trans w4
          have hc2 : p.length + 1 ≤ most := by simp only [most]; omega
          have hsp := snaps_strs (p ++ [x])
          simp +decide (disch := first | decide | omega) only [go_sem, Nat.reduceAdd, Nat.reduceMul, Nat.reduceSub, Nat.reduceLT, Nat.reduceLeDiff, Nat.reduceEqDiff, Nat.add_assoc, Int.reduceAdd, Int.reduceSub, Int.reduceMul, Int.reduceLT, Int.reduceLE, Int.reduceEq, Int.reduceNeg, strOp_add, e0, e5, v2, hc2, List.length_map]
          have e9 : List.map AV.str p ++ [AV.str x] = (p ++ [x]).map AV.str := by simp
          have e8 := elems_strs (p ++ [x])
          rw [List.length_append, List.length_cons, List.length_nil, Nat.zero_add] at e8
          rw [e9, if_pos (by simp), List.take_of_length_le (by simp), snaps_strs]
          show Comes (some (AV.slice 1 (elems 1 (p.length + 1) _))) _
          rw [e8]
          exact comes_some.2 (fin _ (g + 1) _ (p ++ [x]) (upd_hit _ _ _) (by simp; omega) ((w3.mono (by omega)).fr (by show m9.nid ≤ m9.nid + 1; omega) (by have := w3.1; simp (disch := omega) only [upd_hit, upd_miss])) ⟨by show m.nid ≤ m9.nid + 1; have := hF9.1; omega, fun j c1 c2 => by
            dsimp only
            have := hF9.1
            simp (disch := omega) only [upd_hit, upd_miss]
            exact hF9.2 j c1 c2⟩)
        · simp +decide only [go_sem, Nat.reduceAdd, Nat.reduceMul, Nat.reduceSub, Nat.reduceLT, Nat.reduceLeDiff, Nat.reduceEqDiff, Nat.add_assoc, Int.reduceAdd, Int.reduceSub, Int.reduceMul, Int.reduceLT, Int.reduceLE, Int.reduceEq, Int.reduceNeg, strOp_add, e0, e5, v1, List.length_map, List.take_length, Nat.le_refl]
          rw [List.take_of_length_le (by simp), snaps_strs]
          refine comes_some.2 ?_
          rw [elems_strs]
          exact fin _ g ty p v1 (by omega) (w1.mono (by omega)) hFz
    · have hpos : ((0 : Int) < (ll.length : Int)) = False := eq_false (by omega)
      simp +decide only [go_sem, Nat.reduceAdd, Nat.reduceMul, Nat.reduceSub, Nat.reduceLT, Nat.reduceLeDiff, Nat.reduceEqDiff, Nat.add_assoc, Int.reduceAdd, Int.reduceSub, Int.reduceMul, Int.reduceLT, Int.reduceLE, Int.reduceEq, Int.reduceNeg, strOp_add, e0, e3, e5, s0, List.length_map, hpos, AV.cells]
      refine pick_wp 10 _ id bs _ hR hb (by omega) (by omega) (by omega) _ fun z m10 hz w1 w2 => ?_
      have t0 := s1
      have v1 := w2.at (show m.nid + 1 < s.nid by omega) (by omega) s1
      have hFz := hF.trans w2
      have nz : s.nid ≤ m10.nid := w2.1
      simp +decide only [go_sem, Nat.reduceAdd, Nat.reduceMul, Nat.reduceSub, Nat.reduceLT, Nat.reduceLeDiff, Nat.reduceEqDiff, Nat.add_assoc, Int.reduceAdd, Int.reduceSub, Int.reduceMul, Int.reduceLT, Int.reduceLE, Int.reduceEq, Int.reduceNeg, strOp_add, e0, e5, v1]
      refine bB_split (fun hB => ?_) (fun hB => ?_)
      · simp +decide only [go_sem, Nat.reduceAdd, Nat.reduceMul, Nat.reduceSub, Nat.reduceLT, Nat.reduceLeDiff, Nat.reduceEqDiff, Nat.add_assoc, Int.reduceAdd, Int.reduceSub, Int.reduceMul, Int.reduceLT, Int.reduceLE, Int.reduceEq, Int.reduceNeg, strOp_add, e0, e5, v1]
        refine ofA_wp [⟨#[110, 111, 110, 101]⟩, ⟨#[48]⟩, ⟨#[57]⟩, ⟨#[]⟩] _ id bs _ m10.nid 0 true false none (upd_hit _ _ _) (Nat.lt_succ_self _) (by omega) (w1.put (by omega) (Nat.le_succ _)) hb (by omega) (by simp) (by simp) _ fun x m9 hx w3 w4 => ?_
        have n9 : m10.nid + 1 ≤ m9.nid := w4.1
        have v2 := w4.at (show m.nid + 1 < m10.nid + 1 by omega) (by omega) ((upd_miss _ _ _ _ (by omega)).trans v1)
        have hF9 := (hFz.put (E := m10.nid) (n := m10.nid + 1) (by omega) (Nat.le_succ _)).trans w4
        have hc2 : p.length + 1 ≤ most := by simp only [most]; omega
        have hsp := snaps_strs (p ++ [x])
        simp +decide (disch := first | decide | omega) only [go_sem, Nat.reduceAdd, Nat.reduceMul, Nat.reduceSub, Nat.reduceLT, Nat.reduceLeDiff, Nat.reduceEqDiff, Nat.add_assoc, Int.reduceAdd, Int.reduceSub, Int.reduceMul, Int.reduceLT, Int.reduceLE, Int.reduceEq, Int.reduceNeg, strOp_add, e0, e5, v2, hc2, List.length_map]
        have e9 : List.map AV.str p ++ [AV.str x] = (p ++ [x]).map AV.str := by simp
        have e8 := elems_strs (p ++ [x])
        rw [List.length_append, List.length_cons, List.length_nil, Nat.zero_add] at e8
        rw [e9, if_pos (by simp), List.take_of_length_le (by simp), snaps_strs]
        show Comes (some (AV.slice 1 (elems 1 (p.length + 1) _))) _
        rw [e8]
        exact comes_some.2 (fin _ (g + 1) _ (p ++ [x]) (upd_hit _ _ _) (by simp; omega) ((w3.mono (by omega)).fr (by show m9.nid ≤ m9.nid + 1; omega) (by have := w3.1; simp (disch := omega) only [upd_hit, upd_miss])) ⟨by show m.nid ≤ m9.nid + 1; have := hF9.1; omega, fun j c1 c2 => by
          dsimp only
          have := hF9.1
          simp (disch := omega) only [upd_hit, upd_miss]
          exact hF9.2 j c1 c2⟩)
      · simp +decide only [go_sem, Nat.reduceAdd, Nat.reduceMul, Nat.reduceSub, Nat.reduceLT, Nat.reduceLeDiff, Nat.reduceEqDiff, Nat.add_assoc, Int.reduceAdd, Int.reduceSub, Int.reduceMul, Int.reduceLT, Int.reduceLE, Int.reduceEq, Int.reduceNeg, strOp_add, e0, e5, v1, List.length_map, List.take_length, Nat.le_refl]
        rw [List.take_of_length_le (by simp), snaps_strs]
        refine comes_some.2 ?_
        rw [elems_strs]
        exact fin _ g ty p v1 (by omega) (w1.mono (by omega)) hFz
  · simp +decide only [go_sem, Nat.reduceAdd, Nat.reduceMul, Nat.reduceSub, Nat.reduceLT, Nat.reduceLeDiff, Nat.reduceEqDiff, Nat.add_assoc, Int.reduceAdd, Int.reduceSub, Int.reduceMul, Int.reduceLT, Int.reduceLE, Int.reduceEq, Int.reduceNeg, strOp_add]
    refine ⟨d, [], 0, none, rfl, hd, by simpa using hh, rfl, ?_, rfl, by omega, ?_, ?_⟩
    · unfold CurAt
      rw [hcs]
      dsimp only
      simp (disch := omega) only [upd_hit, upd_miss]
      rfl
    · exact h.mono (by omega) |>.fr (by show m.nid ≤ m.nid + 2; omega) (by simp (disch := omega) only [upd_hit, upd_miss])
    · exact ⟨by show m.nid ≤ m.nid + 2; omega, fun j c1 c2 => by
        dsimp only
        simp (disch := omega) only [upd_hit, upd_miss]⟩
end Go.Ev.Tryz
