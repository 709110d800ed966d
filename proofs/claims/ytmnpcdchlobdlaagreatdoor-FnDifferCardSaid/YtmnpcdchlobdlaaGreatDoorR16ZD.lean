/- Part of the proof of a statement about the given program: R16ZD R17ZD. No condition of its own. -/
import Derived.Test.YtmnpcdchlobdlaaGreatDoorR15ZD
section
namespace Go.Ev.Tryz
open Go.Proofs
set_option maxRecDepth 10000
set_option linter.unusedSimpArgs false
set_option linter.unusedVariables false

/-- l13Path at data in memory: it gets a plain value. -/
theorem PathM_wp (d : Dat) {cs : List AV} {B : List Nat} (m : Mem) (id : Nat) (bs : List Int) (P : Nat) (hD : DatR m d cs B) (hB : id ∉ B) (hd : d.Sane) (hh : hgt d ≤ 1000) (h : RdAt m id bs P) (hb : Bytes bs) (hP : P ≤ 600000000000) (Q : AV × Mem → Prop)
    (hQ : ∀ p m' ids, p.length ≤ 1001 → (∀ x ∈ ids, x ∈ B) → RdAt m' id bs (P + 4000) → Fr (frozM m ids) m' id → Q (strsA p, m')) :
    Comes (fnI CC PR 16 [.ptr id 0 0, .agg cs] m) Q := by
  have e1 : snapD m 2097152 (.agg cs) = some d.av := by
    have h1 := snap_datR d 2097151 (by omega) hD
    obtain ⟨k, n, t, l, ns⟩ := d
    rw [snapD, h1, Dat.av_mk]
    rfl
  have hr : ∀ x ∈ reachD m 2097152 (.agg cs), x ∈ B := fun x hx => by
    rw [reachD] at hx
    exact reachD_datR d _ hD x hx
  have hcs : (AV.agg cs).loud = false := by
    obtain ⟨k, n, t, l, ns⟩ := d
    obtain ⟨lv, nv, Bl, Bn, rfl, rfl, h1, h2⟩ := datR_iff.1 hD
    rfl
  have hen : entryI CC 16 [.ptr id 0 0, .agg cs] m = some ([.ptr id 0 0, d.av], frozM m (reachD m 2097152 (.agg cs))) := by
    have hp : (AV.ptr id 0 0).loud = true := rfl
    unfold entryI
    rw [if_pos (show CC.snapA.contains 16 = true from rfl)]
    simp only [List.mapM_cons, List.mapM_nil, hp, hcs, if_true, Bool.false_eq_true, if_false, e1, List.map_cons, List.map_nil, List.flatten_cons, List.flatten_nil, List.nil_append, List.append_nil]
    rfl
  refine fnI_snap Tryz.func16 rfl (Nat.le_of_ble_eq_true rfl) (Nat.le_of_ble_eq_true rfl) rfl rfl hen (entry_plain ?_) ?_
  · intro a ha
    simp only [List.mem_cons, List.mem_nil_iff, or_false] at ha
    rcases ha with rfl | rfl
    · exact .inl rfl
    · obtain ⟨k, n, t, l, ns⟩ := d
      rw [Dat.av_mk]
      exact .inr ⟨rfl, rfl⟩
  · exact Path_wp d hd hh _ id bs P (h.froz fun hx => hB (hr id hx)) hb hP _ fun p m' h1 h2 h3 => hQ p m' _ h1 hr h2 h3
end Go.Ev.Tryz
end
section
namespace Go.Ev.Tryz
open Go.Proofs
set_option maxRecDepth 10000
set_option linter.unusedSimpArgs false
set_option linter.unusedVariables false
attribute [local congr] comes_congr bB_congr gK_congr gdK_congr

set_option maxHeartbeats 4000000 in
theorem Both2_wp (m : Mem) (id : Nat) (bs : List Int) (P : Nat) (h : RdAt m id bs P) (hb : Bytes bs) (hP : P ≤ 700000000000) (Q : AV × Mem → Prop)
    (hQ : ∀ sv ev tone part main Ld N lv nv lo m', SchAt false ⟨m'.sto, lo⟩ (m.nid + 2) (.agg [sv, ev]) tone part main → m.nid + 2 ≤ lo → lo ≤ m'.nid → OutL m' lo Ld N lv nv → OkL 3 5 Ld N → RdAt m' id bs (P + 3000) → Fr m m' id → Q (.tup [.agg [sv, ev], .agg [.int .i64 4, .int .i64 0, .str ⟨#[]⟩, lv, nv]], m')) :
    Comes (fnI CC PR 12 [.ptr id 0 0] m) Q := by
  have hid := h.1
  refine fnI_wp (rs := [.cell 2 42, .cell 3 26]) Tryz.func12 rfl rfl (Nat.le_of_ble_eq_true rfl) rfl rfl ?_
  simp +decide only [go_sem, Nat.reduceAdd, Nat.reduceMul, Nat.reduceSub, Nat.reduceLT, Nat.reduceLeDiff, Nat.reduceEqDiff, Nat.add_assoc, Int.reduceAdd, Int.reduceSub, Int.reduceMul, Int.reduceLT, Int.reduceLE, Int.reduceEq, Int.reduceNeg, strOp_add]
  refine Schema_wp _ id bs P ((h.put (n := m.nid + 2) (by omega) (by omega)).put (by omega) (Nat.le_refl _)) hb (by omega) _ fun v m1 tone part main hS h1 h2 => ?_
  obtain ⟨B, hBr, hB⟩ := sch_shut hS 2097148
  have hS0 := hS
  obtain ⟨sv, ev, rfl, hSt, hEn, hp, hm⟩ := hS0
  obtain ⟨L, hL, hLP, hLw⟩ := sts_of hSt
  obtain ⟨En, hE, hEP⟩ := ens_of hEn
  have hsane := plain_sane hp hm
  rw [← hLP, ← hEP] at hsane
  have fr1 : Fr m m1 id := (((Fr.refl m id).put (n := m.nid + 2) (Nat.le_refl _) (by omega)).put (by omega) (Nat.le_refl _)).trans h2
  have f0 := h2.at (show m.nid < m.nid + 2 by omega) (by omega) ((upd_miss _ _ _ _ (by omega)).trans (upd_hit _ _ _))
  have f1 := h2.at (show m.nid + 1 < m.nid + 2 by omega) (by omega) (upd_hit _ _ _)
  have n1 : m.nid + 2 ≤ m1.nid := h2.1
  have idm : id < m1.nid := h1.1
  have hLc := hL
  have o1 := hL.one
  have o2 := hE.one
  simp only [AV.one] at o1 o2
  obtain ⟨s, g, s1, s2, rfl, ⟨s4, s5, s6⟩, s7⟩ := hL
  have hLp : 1 ≤ L.length ∧ L.length ≤ 2 := by
    have h1 : (stP L).length = L.length := List.length_map _
    rw [hLP] at h1
    cases part <;> simp [plainS] at h1 <;> omega
  obtain ⟨y1, y2⟩ := stC_at L (L.length - 1) (by omega)
  obtain ⟨d, gd, d1, d2, d3, d4, d5, d6⟩ := s7 L[L.length - 1] (List.getElem_mem (by omega))
  have hLast : L[L.length - 1].1 = nMain ∧ L[L.length - 1].2.2 = main := by
    have h1 : (stP L)[L.length - 1]? = some (nMain, main) := by
      rw [hLP]
      have h1 : (stP L).length = L.length := List.length_map _
      rw [hLP] at h1
      rw [← h1]
      cases part <;> simp [plainS]
    have h2 : (stP L)[L.length - 1]? = some (L[L.length - 1].1, L[L.length - 1].2.2) := by
      unfold stP
      rw [List.getElem?_map, List.getElem?_eq_getElem (by omega)]
      rfl
    rw [h2] at h1
    simpa using h1
  rw [d3, hLast.1, hLast.2] at y1
  have c1 : ((L.length : Nat) : Int) - 1 = ((L.length - 1 : Nat) : Int) := by omega
  have w1 : IntKind.wrap .i64 (((L.length : Nat) : Int) - 1) = ((L.length - 1 : Nat) : Int) := by rw [c1, wrap_nat (by omega)]
  have hlt : L.length - 1 < L.length := by omega
  simp +decide (disch := first | decide | omega) only [go_sem, Nat.reduceAdd, Nat.reduceMul, Nat.reduceSub, Nat.reduceLT, Nat.reduceLeDiff, Nat.reduceEqDiff, Nat.add_assoc, Int.reduceAdd, Int.reduceSub, Int.reduceMul, Int.reduceLT, Int.reduceLE, Int.reduceEq, Int.reduceNeg, strOp_add, f0, f1, o1, o2]
  refine (d_plan (ord := [0, 1, 2, 3, 4, 5, 6, 7, 8, 9, 10, 11, 12, 13]) (prs := [(0, 2), (0, 4), (2, 4), (0, 6), (2, 6), (4, 6), (0, 10), (2, 10), (0, 11)]) (by kernel_rfl)).2 ?_
  have y3 : 2 ≤ (List.drop ((L.length - 1) * 2) (stC L)).length := by rw [List.length_drop]; omega
  simp +decide (disch := first | decide | omega) only [go_sem, Nat.reduceAdd, Nat.reduceMul, Nat.reduceSub, Nat.reduceLT, Nat.reduceLeDiff, Nat.reduceEqDiff, Nat.add_assoc, Int.reduceAdd, Int.reduceSub, Int.reduceMul, Int.reduceLT, Int.reduceLE, Int.reduceEq, Int.reduceNeg, strOp_add, f0, f1, o1, o2, w1, hlt, s4, s5, y1, y3]
  obtain ⟨M, hM⟩ : ∃ M : Mem, M = ⟨upd (upd m1.sto m1.nid ⟨[.nils 2, .nils 2], 0, false, some (42, true)⟩) m1.nid ⟨[.arr s g 0 L.length 2 true, ev], 0, false, some (42, true)⟩, m1.nid + 15⟩ := ⟨_, rfl⟩
  have hMn : M.nid = m1.nid + 15 := by rw [hM]
  have hMs : ∀ j, j < m1.nid → M.sto j = m1.sto j := fun j hj => by
    rw [hM]
    show upd (upd _ _ _) _ _ _ = _
    simp (disch := omega) only [upd_hit, upd_miss]
  have hMR : RdAt M id bs (P + 100) := h1.fr (by omega) (hMs id idm)
  have hMB : ∀ b ∈ B, (M.sto b).cells = (m1.sto b).cells ∧ (M.sto b).gen = (m1.sto b).gen := fun b hb => by rw [hMs b (hBr b hb).2]; exact ⟨rfl, rfl⟩
  obtain ⟨⟨r1, r2⟩, r3⟩ := hB M hMB
  rw [hLast.2] at d4
  have dst : ∀ c ∈ (M.sto d).cells, still c = true := by rw [hMs d d2, d4]; exact still_dclC main
  have hdg : (M.sto d).gen = gd := by rw [hMs d d2]; exact d5
  have dr1 : reachL M 2097152 (.agg [.str nMain, .arr d gd 0 main.length 6 true]) = [d] := by
    simp only [reachL, List.map_cons, List.map_nil, List.flatten_cons, List.flatten_nil]
    rw [reaches_still dst]
    rfl
  have dr2 : reachD M 2097152 (.agg [.str nMain, .arr d gd 0 main.length 6 true]) = [d] := by
    simp only [reachD, List.map_cons, List.map_nil, List.flatten_cons, List.flatten_nil]
    rw [reachesD_still dst]
    rfl
  rw [← hM, reach_rd hMR, r1, dr1, (quiet_still rfl).1]
  obtain ⟨ids, hids⟩ : ∃ ids, ids = [id] ++ (B ++ ([d] ++ [])) := ⟨_, rfl⟩
  rw [← hids]
  have hmem : ∀ x, x ∈ ids ↔ x = id ∨ x ∈ B ∨ x = d := by intro x; rw [hids]; simp
  have hcont : ∀ x, ids.contains x = true ↔ x ∈ ids := fun x => by simp
  obtain ⟨q1, q2⟩ := r3 ids fun b hb => (hcont b).2 ((hmem b).2 (.inr (.inl hb)))
  refine ⟨?_, ?_⟩
  · simp only [closedB, Bool.and_eq_true, List.all_eq_true, List.mem_cons, List.mem_nil_iff, or_false]
    refine ⟨?_, ?_⟩
    · rintro a (rfl | rfl | rfl | rfl)
      · simp only [leadsB, (hcont id).2 ((hmem id).2 (.inl rfl)), rd_gen hMR, Bool.true_and, beq_self_eq_true]
      · exact q1 2097151
      · simp only [leadsB, List.all_cons, List.all_nil, (hcont d).2 ((hmem d).2 (.inr (.inr rfl))), hdg, Bool.true_and, Bool.and_true, beq_self_eq_true]
      · rfl
    · intro x hx c hc
      rcases (hmem x).1 hx with rfl | hx | rfl
      · exact leads_still (rd_still hMR c hc) _ _ _
      · exact q2 x hx c hc
      · exact leads_still (dst c hc) _ _ _
  · have mk : ∀ x ∈ ids, M.sto x = (mask ids M).sto x := fun x hx => by simp only [mask]; rw [if_pos ((hcont x).2 hx)]
    have e1 : snapD (mask ids M) 2097152 (.agg [.arr s g 0 L.length 2 true, ev]) = some (.agg [.slice 2 ((plainS part main).map strA), .slice 2 ((plainE tone).map enA)]) := by
      rw [snap_local (m := M) 2097152 _ fun x hx => mk x (by rw [r2] at hx; exact (hmem x).2 (.inr (.inl hx)))]
      have k1 := snap_st (hSt.same (M' := M) (by omega) fun j c1 c2 => by rw [hMs j c2]; exact ⟨rfl, rfl⟩) 2097147
      have k2 := snap_en (hEn.same (M' := M) (by omega) fun j c1 c2 => by rw [hMs j c2]; exact ⟨rfl, rfl⟩) 2097147
      rw [snapD]
      simp only [List.mapM_cons, List.mapM_nil, k1, k2]
      rfl
    have e2 : snapD (mask ids M) 2097152 (.agg [.str nMain, .arr d gd 0 main.length 6 true]) = some (.agg [.str nMain, .slice 6 (main.map Dcl.av)]) := by
      rw [snap_local (m := M) 2097152 _ fun x hx => mk x (by rw [dr2] at hx; exact (hmem x).2 (.inr (.inr (List.mem_singleton.1 hx))))]
      have k1 := snap_dec (u := false) (M := M) (lo := 0) (v := .arr d gd 0 main.length 6 true) (l := main) ⟨d, gd, Nat.zero_le _, by omega, rfl, by rw [hMs d d2]; exact d4, hdg, fun h => by cases h⟩ 2097149
      rw [snapD]
      simp only [List.mapM_cons, List.mapM_nil, k1]
      rfl
    have e3 : reachD (mask ids M) 2097152 (.agg [.arr s g 0 L.length 2 true, ev]) = B := by
      rw [reach_local (m := M) 2097152 _ fun x hx => mk x (by rw [r2] at hx; exact (hmem x).2 (.inr (.inl hx)))]
      exact r2
    have e4 : reachD (mask ids M) 2097152 (.agg [.str nMain, .arr d gd 0 main.length 6 true]) = [d] := by
      rw [reach_local (m := M) 2097152 _ fun x hx => mk x (by rw [dr2] at hx; exact (hmem x).2 (.inr (.inr (List.mem_singleton.1 hx))))]
      exact dr2
    have hen : entryI CC 14 [.ptr id 0 0, .agg [.arr s g 0 L.length 2 true, ev], .agg [.str nMain, .arr d gd 0 main.length 6 true], .int .i64 4] (mask ids M) = some ([.ptr id 0 0, .agg [.slice 2 ((plainS part main).map strA), .slice 2 ((plainE tone).map enA)], .agg [.str nMain, .slice 6 (main.map Dcl.av)], .int .i64 4], frozM (mask ids M) (B ++ [d])) := by
      unfold entryI
      rw [if_pos (show CC.snapA.contains 14 = true from rfl)]
      have e5 : snapD (mask ids M) 2097152 (.int .i64 4) = some (.int .i64 4) := rfl
      have e6 : reachD (mask ids M) 2097152 (.int .i64 4) = [] := rfl
      simp only [List.mapM_cons, List.mapM_nil, AV.loud, if_true, Bool.false_eq_true, if_false, e1, e2, e3, e4, e5, e6, List.map_cons, List.map_nil, List.flatten_cons, List.flatten_nil, List.nil_append, List.append_nil]
      rfl
    have hidB : id ∉ B ++ [d] := by
      intro hx
      rcases List.mem_append.1 hx with hx | hx
      · have := (hBr id hx).1; have : m.nid + 2 ≤ id := this; omega
      · rw [List.mem_singleton.1 hx] at hid
        have : m.nid + 2 ≤ d := d1
        omega
    obtain ⟨g1, g2, g3, g4⟩ := hm
    refine fnI_snap Tryz.func14 rfl (Nat.le_of_ble_eq_true rfl) (Nat.le_of_ble_eq_true rfl) rfl rfl hen (entry_plain ?_) ?_
    · intro a ha
      simp only [List.mem_cons, List.mem_nil_iff, or_false] at ha
      rcases ha with rfl | rfl | rfl | rfl
      · exact .inl rfl
      · exact .inr ⟨rfl, rfl⟩
      · exact .inr ⟨rfl, rfl⟩
      · exact .inr ⟨rfl, rfl⟩
    refine Tree_wp (plainS part main) (plainE tone) (by cases part <;> simp [plainS]) (by cases tone <;> simp [plainE]) (basesM tone part) 120 3 900000000000 (by omega) (by omega) (by omega) (Datum1_wp tone part main hp) nMain main g2 g3 g4 4 _ id bs _ ((rd_mask hMR ((hcont id).2 ((hmem id).2 (.inl rfl)))).froz hidB) hb (by omega) _ fun lv nv Ld N m' hO hOk k1 k2 => ?_
    have nm : M.nid ≤ m'.nid := k2.1
    have hfz : ∀ j, Same ((frozM (mask ids M) (B ++ [d])).sto j) ((mask ids M).sto j) := fun j => by
      show Same (if j ∈ B ++ [d] then _ else _) _
      split <;> exact ⟨rfl, rfl⟩
    have hJ1 : ∀ j, j < M.nid → j ≠ id → Same ((joinM ids M.nid M m').sto j) (M.sto j) := fun j c1 c2 => by
      simp only [joinM]
      split
      · rename_i hc
        have hj' : ¬ M.nid ≤ j := by omega
        simp only [hj', decide_false, Bool.or_false] at hc
        rw [k2.2 j c1 c2]
        have := hfz j
        simp only [mask, hc, if_true] at this
        exact this
      · exact ⟨rfl, rfl⟩
    have hJ2 : ∀ j, j < M.nid → j ∉ ids → (joinM ids M.nid M m').sto j = M.sto j := fun j c1 c2 => by
      simp only [joinM]
      have hj' : ¬ M.nid ≤ j := by omega
      have hc : ids.contains j = false := by
        rw [Bool.eq_false_iff]
        exact fun h => c2 ((hcont j).1 h)
      simp only [hj', decide_false, hc, Bool.or_false, Bool.false_eq_true, if_false]
    have hJ3 : ∀ j, M.nid ≤ j → (joinM ids M.nid M m').sto j = m'.sto j := fun j c1 => by
      simp only [joinM, c1, decide_true, Bool.or_true, if_true]
    have hJR : RdAt ⟨(joinM ids M.nid M m').sto, m'.nid⟩ id bs (P + 100 + 100 + 20 * 120) := k1.fr (Nat.le_refl _) (by
      simp only [joinM, (hcont id).2 ((hmem id).2 (.inl rfl)), Bool.true_or, if_true])
    have hni : ∀ j, m.nid ≤ j → j < m.nid + 2 → j ∉ ids := fun j c1 c2 hx => by
      rcases (hmem j).1 hx with rfl | hx | rfl
      · omega
      · have : m.nid + 2 ≤ j := (hBr j hx).1; omega
      · have : m.nid + 2 ≤ j := d1; omega
    have hmn : m1.nid ∉ ids := fun hx => by
      rcases (hmem _).1 hx with hx | hx | hx
      · omega
      · have := (hBr _ hx).2; omega
      · omega
    have f0J := (hJ2 m.nid (by omega) (hni _ (Nat.le_refl _) (by omega))).trans ((hMs m.nid (by omega)).trans f0)
    have f1J := (hJ2 (m.nid + 1) (by omega) (hni _ (by omega) (by omega))).trans ((hMs (m.nid + 1) (by omega)).trans f1)
    have hfr : ∀ j, j < m.nid → j ≠ id → (joinM ids M.nid M m').sto j = m.sto j := fun j c1 c2 => by
      rw [hJ2 j (by omega) fun hx => by
        rcases (hmem j).1 hx with hx | hx | rfl
        · exact c2 hx
        · have : m.nid + 2 ≤ j := (hBr j hx).1; omega
        · have : m.nid + 2 ≤ j := d1; omega, hMs j (by omega)]
      exact fr1.2 j c1 c2
    refine ⟨fun i hi => ?_, ?_⟩
    · by_cases hii : i = id
      · rw [hii, rd_gen hMR]; exact Nat.zero_le _
      · have hilt : i < M.nid := by
          rcases (hmem i).1 hi with rfl | hx | rfl
          · omega
          · have := (hBr i hx).2; omega
          · omega
        have h3 : ((frozM (mask ids M) (B ++ [d])).sto i).gen = (M.sto i).gen := by
          rw [(hfz i).2]
          simp only [mask, (hcont i).2 hi, if_true]
        show (M.sto i).gen ≤ (m'.sto i).gen
        rw [k2.2 i hilt hii, h3]
        exact Nat.le_refl _
    · have hO1 : OutL ⟨(joinM ids M.nid M m').sto, m'.nid⟩ M.nid Ld N lv nv := hO.keep (M' := ⟨(joinM ids M.nid M m').sto, m'.nid⟩) (Nat.le_refl _) fun j c1 c2 => hJ3 j c1
      obtain ⟨o3, o4⟩ := hO.ones
      simp only [AV.one] at o3 o4
      clear hJ2 hJ3 k1 k2 hO hfz e1 e2 e3 e4 hen
      have hcm : ids.contains m1.nid = false := by
        rw [Bool.eq_false_iff]
        exact fun h => hmn ((hcont _).1 h)
      have hc0 : ids.contains m.nid = false := by
        rw [Bool.eq_false_iff]
        exact fun h => hni _ (Nat.le_refl _) (by omega) ((hcont _).1 h)
      have hc1 : ids.contains (m.nid + 1) = false := by
        rw [Bool.eq_false_iff]
        exact fun h => hni _ (by omega) (by omega) ((hcont _).1 h)
      generalize hJ : (joinM ids M.nid M m').sto = J at *
      simp +decide (disch := first | decide | omega) only [go_sem, Nat.reduceAdd, Nat.reduceMul, Nat.reduceSub, Nat.reduceLT, Nat.reduceLeDiff, Nat.reduceEqDiff, Nat.add_assoc, Int.reduceAdd, Int.reduceSub, Int.reduceMul, Int.reduceLT, Int.reduceLE, Int.reduceEq, Int.reduceNeg, strOp_add, hJ, f0J, f1J, o1, o2, o3, o4, hcm, hc0, hc1]
      have hsame : ∀ (x y : Blk) j, m.nid + 2 ≤ j → j < m1.nid → Same (upd (upd J m.nid x) (m.nid + 1) y j) (m1.sto j) := fun x y j c1 c2 => by
        rw [upd_miss _ _ _ _ (by omega), upd_miss _ _ _ _ (by omega)]
        have := hJ1 j (by omega) (by omega)
        rw [hMs j c2] at this
        exact this
      refine ⟨by omega, hQ _ _ tone part main Ld N lv nv M.nid _ (hS.same (M' := ⟨_, M.nid⟩) (by show m1.nid ≤ M.nid; omega) fun j c1 c2 => hsame _ _ j c1 c2) (by omega) nm (hO1.keep (M' := ⟨_, m'.nid⟩) (Nat.le_refl _) fun j c1 c2 => ?_) hOk (((hJR.mono (by omega)).put (by omega) (Nat.le_refl _)).put (by omega) (Nat.le_refl _)) ⟨by show m.nid ≤ m'.nid; omega, fun j c1 c2 => ?_⟩⟩
      · dsimp only
        rw [upd_miss _ _ _ _ (by omega), upd_miss _ _ _ _ (by omega)]
      · dsimp only
        rw [upd_miss _ _ _ _ (by omega), upd_miss _ _ _ _ (by omega)]
        exact hfr j c1 c2
end Go.Ev.Tryz
end
