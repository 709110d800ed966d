/- Part of the proof of a statement about the given program: R14ZD. No condition of its own. -/
import Derived.Test.YtmnpcdchlobdlaaGreatDoorR13ZD
namespace Go.Ev.Tryz
open Go.Proofs
set_option maxRecDepth 10000
set_option linter.unusedSimpArgs false
set_option linter.unusedVariables false
attribute [local congr] comes_congr bB_congr gK_congr gdK_congr

/-- A schema in memory or plain. -/
def SchW (M : Mem) (lo hi : Nat) (sv ev : AV) (ss : List (ByteArray × List Dcl)) (es : List (ByteArray × List ByteArray)) : Prop :=
  (sv = .slice 2 (ss.map strA) ∧ ev = .slice 2 (es.map enA)) ∨ ∃ Ls Es, StsR false ⟨M.sto, hi⟩ lo sv Ls ∧ EnsR ⟨M.sto, hi⟩ lo ev Es ∧ ss = stP Ls ∧ es = enP Es
theorem SchW.same {M M' : Mem} {lo hi : Nat} {sv ev : AV} {ss : List (ByteArray × List Dcl)} {es : List (ByteArray × List ByteArray)} (h : SchW M lo hi sv ev ss es) (e : ∀ j, lo ≤ j → j < hi → Same (M'.sto j) (M.sto j)) : SchW M' lo hi sv ev ss es := by
  rcases h with h | ⟨Ls, Es, h1, h2, h3, h4⟩
  · exact .inl h
  · exact .inr ⟨Ls, Es, h1.same (M' := ⟨M'.sto, hi⟩) (Nat.le_refl _) e, h2.same (M' := ⟨M'.sto, hi⟩) (Nat.le_refl _) e, h3, h4⟩
theorem SchW.snap {M : Mem} {lo hi : Nat} {sv ev : AV} {ss : List (ByteArray × List Dcl)} {es : List (ByteArray × List ByteArray)} (h : SchW M lo hi sv ev ss es) (q : Nat) :
    snapD M (q + 3) sv = some (.slice 2 (ss.map strA)) ∧ snapD M (q + 3) ev = some (.slice 2 (es.map enA)) ∧ sv.one = true ∧ ev.one = true ∧ ∀ x ∈ reachD M (q + 3) sv ++ reachD M (q + 3) ev, lo ≤ x := by
  rcases h with ⟨rfl, rfl⟩ | ⟨Ls, Es, h1, h2, rfl, rfl⟩
  · exact ⟨rfl, rfl, rfl, rfl, fun x hx => by cases hx⟩
  · have e1 := snap_sts h1 q
    have e2 := snap_ens h2 q
    have l1 := snap_local (m := ⟨M.sto, hi⟩) (m' := M) (q + 3) sv fun _ _ => rfl
    have l2 := snap_local (m := ⟨M.sto, hi⟩) (m' := M) (q + 3) ev fun _ _ => rfl
    have r1 := reach_local (m := ⟨M.sto, hi⟩) (m' := M) (q + 3) sv fun _ _ => rfl
    have r2 := reach_local (m := ⟨M.sto, hi⟩) (m' := M) (q + 3) ev fun _ _ => rfl
    refine ⟨l1.trans e1, l2.trans e2, h1.one, h2.one, fun x hx => ?_⟩
    rw [r1, r2] at hx
    rcases List.mem_append.1 hx with hx | hx
    · exact reachD_sts h1 _ x hx
    · exact reachD_ens h2 _ x hx
theorem out_snap2 {M : Mem} {lo : Nat} {L : List Dat} {N : List ByteArray} {lv nv : AV} (h : OutL M lo L N lv nv) (hh : ∀ d ∈ L, hgt d ≤ 1000) : snapD M 2097150 lv = some (.slice 5 (L.map Dat.av)) ∧ snapD M 2097150 nv = some (.slice 1 (N.map AV.str)) ∧ ∀ x ∈ reachD M 2097150 lv ++ reachD M 2097150 nv, lo ≤ x := by
  obtain ⟨B, hD, hB⟩ := out_dat h 0 0 ⟨#[]⟩
  have hr := reachD_datR _ 2097150 hD
  obtain ⟨lv', nv', Bl, Bn, he, rfl, h1, h2⟩ := datR_iff.1 hD
  simp only [List.cons.injEq, and_true, true_and] at he
  obtain ⟨rfl, rfl⟩ := he
  refine ⟨snap_lstR h2 2097148 fun x hx => by have := hh x hx; omega, snap_strR h1 2097148, fun x hx => (hB x (hr x ?_)).1⟩
  simp only [List.map_cons, List.map_nil, List.flatten_cons, List.flatten_nil, List.append_nil]
  exact List.mem_append_right _ (List.mem_append_right _ (List.mem_append_right _ hx))
theorem OutL.hi {M : Mem} {lo : Nat} {L : List Dat} {N : List ByteArray} {lv nv : AV} (h : OutL M lo L N lv nv) : L.length = N.length := by
  rcases h with ⟨rfl, rfl, _⟩ | ⟨a, g, b, q, ty, ty', cs, B, _, _, _, _, h, _⟩
  · rfl
  · exact h.symm
theorem datR_bare (M : Mem) (k n : Int) : DatR M (.mk k n ⟨#[]⟩ [] []) [.int .i64 k, .int .i64 n, .str ⟨#[]⟩, .nils 5, .nils 1] [] :=
  datR_iff.2 ⟨.nils 5, .nils 1, [], [], rfl, rfl, .inr (.inl ⟨rfl, rfl, rfl⟩), .inr (.inl ⟨rfl, rfl, rfl⟩)⟩
theorem sane_bare {k n : Int} (hk : i64 k) (hn : i64 n) : Dat.Sane (.mk k n ⟨#[]⟩ [] []) ∧ hgt (.mk k n ⟨#[]⟩ [] []) ≤ 1 :=
  ⟨.mk _ _ _ _ _ hk hn (by decide) (by decide) (by decide) (by simp) (by simp), hgt_le (by simp) (by simp)⟩
set_option maxHeartbeats 8000000 in
theorem AnyBoth_wp (m : Mem) (id : Nat) (bs : List Int) (P : Nat) (h : RdAt m id bs P) (hb : Bytes bs) (hP : P ≤ 600000000000) (Q : AV × Mem → Prop)
    (hQ : ∀ ss es d m', SaneS ss es → Dat.Sane d → hgt d ≤ 100 → RdAt m' id bs (P + 4000) → Fr m m' id → Q (.tup [.agg [.slice 2 (ss.map strA), .slice 2 (es.map enA)], d.av], m')) :
    Comes (fnI CC PR 17 [.ptr id 0 0] m) Q := by
  have hid := h.1
  refine fnI_wp (rs := [.cell 2 42, .cell 3 26]) Tryz.func17 rfl rfl (Nat.le_of_ble_eq_true rfl) rfl rfl ?_
  simp +decide only [go_sem, Nat.reduceAdd, Nat.reduceMul, Nat.reduceSub, Nat.reduceLT, Nat.reduceLeDiff, Nat.reduceEqDiff, Nat.add_assoc, Int.reduceAdd, Int.reduceSub, Int.reduceMul, Int.reduceLT, Int.reduceLE, Int.reduceEq, Int.reduceNeg, strOp_add]
  refine Both_wp _ id bs P ((h.put (n := m.nid + 2) (by omega) (by omega)).put (by omega) (Nat.le_refl _)) hb (by omega) _ fun sv ev Ls Es Ld N lv nv lo m1 hS hE hsane hlo hlo2 hO hOk h1 h2 => ?_
  have fr1 : Fr m m1 id := (((Fr.refl m id).put (n := m.nid + 2) (Nat.le_refl _) (by omega)).put (by omega) (Nat.le_refl _)).trans h2
  have f0 := h2.at (show m.nid < m.nid + 2 by omega) (by omega) ((upd_miss _ _ _ _ (by omega)).trans (upd_hit _ _ _))
  have f1 := h2.at (show m.nid + 1 < m.nid + 2 by omega) (by omega) (upd_hit _ _ _)
  have n1 : m.nid + 2 ≤ m1.nid := h2.1
  have idm : id < m1.nid := h1.1
  have hlo1 : m.nid + 2 ≤ lo := hlo
  have o1 := hS.one
  have o2 := hE.one
  obtain ⟨o3, o4⟩ := hO.ones
  have hW : SchW m1 (m.nid + 2) lo sv ev (stP Ls) (enP Es) := .inr ⟨Ls, Es, hS, hE, rfl, rfl⟩
  simp only [AV.one] at o1 o2 o3 o4
  clear h2 hS hE hlo
  simp +decide (disch := first | decide | omega) only [go_sem, Nat.reduceAdd, Nat.reduceMul, Nat.reduceSub, Nat.reduceLT, Nat.reduceLeDiff, Nat.reduceEqDiff, Nat.add_assoc, Int.reduceAdd, Int.reduceSub, Int.reduceMul, Int.reduceLT, Int.reduceLE, Int.reduceEq, Int.reduceNeg, strOp_add, f0, f1, o1, o2, o3, o4]
  have put4 : ∀ {x y z w : Blk}, RdAt ⟨upd (upd (upd (upd m1.sto m1.nid x) (m1.nid + 1) y) m1.nid z) (m1.nid + 1) w, m1.nid + 2⟩ id bs (P + 3000) := fun {x y z w} => ((((h1.put (n := m1.nid + 2) (by omega) (by omega)).put (by omega) (Nat.le_refl _)).put (by omega) (Nat.le_refl _)).put (by omega) (Nat.le_refl _))
  have fput4 : ∀ {x y z w : Blk}, Fr m ⟨upd (upd (upd (upd m1.sto m1.nid x) (m1.nid + 1) y) m1.nid z) (m1.nid + 1) w, m1.nid + 2⟩ id := fun {x y z w} => ((((fr1.put (n := m1.nid + 2) (by omega) (by omega)).put (by omega) (Nat.le_refl _)).put (by omega) (Nat.le_refl _)).put (by omega) (Nat.le_refl _))
  refine pick_wp 16 _ id bs _ put4 hb (by omega) (by omega) (by omega) _ fun q m2 hq h3 h4 => ?_
  have n2 : m1.nid + 2 ≤ m2.nid := h4.1
  have fr2 := fput4.trans h4
  have same2 : ∀ j, j < m1.nid → j ≠ id → m2.sto j = m1.sto j := fun j c1 c2 => (h4.2 j (by show j < m1.nid + 2; omega) c2).trans (by simp (disch := omega) only [upd_hit, upd_miss])
  have f0' := (same2 m.nid (by omega) (by omega)).trans f0
  have f1' := (same2 (m.nid + 1) (by omega) (by omega)).trans f1
  have g0 := h4.at (show m1.nid < m1.nid + 2 by omega) (by omega) ((upd_miss _ _ _ _ (by omega)).trans (upd_hit _ _ _))
  have g1 := h4.at (show m1.nid + 1 < m1.nid + 2 by omega) (by omega) (upd_hit _ _ _)
  have hW2 := hW.same (M' := m2) fun j c1 c2 => by rw [same2 j (by omega) (by omega)]; exact ⟨rfl, rfl⟩
  have hO2 := hO.keep (M' := ⟨m2.sto, m1.nid⟩) (Nat.le_refl _) fun j c1 c2 => same2 j c2 (by omega)
  clear h4 same2 f0 f1 hW hO h1 fr1 put4 fput4
  simp +decide only [go_sem, Nat.reduceAdd, Nat.reduceMul, Nat.reduceSub, Nat.reduceLT, Nat.reduceLeDiff, Nat.reduceEqDiff, Nat.add_assoc, Int.reduceAdd, Int.reduceSub, Int.reduceMul, Int.reduceLT, Int.reduceLE, Int.reduceEq, Int.reduceNeg, strOp_add]
  refine abs_st (F := fun st => bB _ (Comes (evc CC (fnI CC PR) (fnA CC PR) lpL _ st) _) (Comes (evc CC (fnI CC PR) (fnA CC PR) lpL _ st) _)) (fun st => st.toMem = m2 ∧ st.env 0 = .ptr id 0 0 ∧ st.env 2 = .ptr m.nid 0 0 ∧ st.env 3 = .ptr (m.nid + 1) 0 0 ∧ st.env 4 = .ptr m1.nid 0 0 ∧ st.env 5 = .ptr (m1.nid + 1) 0 0 ∧ st.env 12 = .int .i64 q) ?_ ?_
  · simp +decide only [go_sem, Nat.reduceAdd, Nat.reduceMul, Nat.reduceSub, Nat.reduceLT, Nat.reduceLeDiff, Nat.reduceEqDiff, Nat.add_assoc, Int.reduceAdd, Int.reduceSub, Int.reduceMul, Int.reduceLT, Int.reduceLE, Int.reduceEq, Int.reduceNeg, strOp_add]
  rintro st ⟨rfl, e0, e2, e3, e4, e5, e12⟩
  refine bB_merge (fun r => ∃ s', r = (Ex.normal, s') ∧ s'.env 2 = .ptr m.nid 0 0 ∧ s'.env 3 = .ptr (m.nid + 1) 0 0 ∧ s'.env 4 = .ptr m1.nid 0 0 ∧ s'.env 5 = .ptr (m1.nid + 1) 0 0 ∧ RdAt s'.toMem id bs (P + 3500) ∧ Fr m s'.toMem id ∧ m1.nid + 2 ≤ s'.nid ∧ s'.sto m.nid = ⟨[.nils 2, .nils 2], 0, false, some (42, true)⟩ ∧ s'.sto (m.nid + 1) = ⟨[.int .i64 0, .int .i64 0, .str ⟨#[]⟩, .nils 5, .nils 1], 0, false, some (26, true)⟩ ∧ ∃ sv ev ss es k L N lv nv, s'.sto m1.nid = ⟨[sv, ev], 0, false, some (42, true)⟩ ∧ SchW s'.toMem (m.nid + 2) lo sv ev ss es ∧ SaneS ss es ∧ s'.sto (m1.nid + 1) = ⟨[.int .i64 k, .int .i64 0, .str ⟨#[]⟩, lv, nv], 0, false, some (26, true)⟩ ∧ smallI k ∧ OutL s'.toMem lo L N lv nv ∧ OkL 3 6 L N) (fun hB => ?_) (fun hB => ?_) ?_
  · simp +decide only [go_sem, Nat.reduceAdd, Nat.reduceMul, Nat.reduceSub, Nat.reduceLT, Nat.reduceLeDiff, Nat.reduceEqDiff, Nat.add_assoc, Int.reduceAdd, Int.reduceSub, Int.reduceMul, Int.reduceLT, Int.reduceLE, Int.reduceEq, Int.reduceNeg, strOp_add, e0, e2, e3, e4, e5]
    refine AnySchema_wp _ id bs _ h3 hb (by omega) _ fun ss es m3 hs k1 k2 => ?_
    have n3 : st.nid ≤ m3.nid := k2.1
    have f0 := (k2.2 m.nid (by omega) (by omega)).trans f0'
    have f1 := (k2.2 (m.nid + 1) (by omega) (by omega)).trans f1'
    have g0' := (k2.2 m1.nid (by omega) (by omega)).trans g0
    have g1' := (k2.2 (m1.nid + 1) (by omega) (by omega)).trans g1
    simp +decide (disch := first | decide | omega) only [go_sem, Nat.reduceAdd, Nat.reduceMul, Nat.reduceSub, Nat.reduceLT, Nat.reduceLeDiff, Nat.reduceEqDiff, Nat.add_assoc, Int.reduceAdd, Int.reduceSub, Int.reduceMul, Int.reduceLT, Int.reduceLE, Int.reduceEq, Int.reduceNeg, strOp_add, e0, e2, e3, e4, e5, g0']
    refine ⟨_, rfl, ?_⟩
    simp +decide only [go_sem, Nat.reduceAdd, Nat.reduceMul, Nat.reduceSub, Nat.reduceLT, Nat.reduceLeDiff, Nat.reduceEqDiff, Nat.add_assoc, Int.reduceAdd, Int.reduceSub, Int.reduceMul, Int.reduceLT, Int.reduceLE, Int.reduceEq, Int.reduceNeg, strOp_add, e2, e3, e4, e5]
    refine ⟨(k1.mono (by omega)).put (by omega) (Nat.le_refl _), (fr2.trans k2).put (by omega) (Nat.le_refl _), by omega, ?_, ?_, _, _, ss, es, 4, Ld, N, lv, nv, rfl, .inl ⟨rfl, rfl⟩, hs, ?_, by unfold smallI; omega, ?_, hOk.mono (by omega)⟩
    · simp (disch := omega) only [upd_hit, upd_miss]
      exact f0
    · simp (disch := omega) only [upd_hit, upd_miss]
      exact f1
    · simp (disch := omega) only [upd_hit, upd_miss]
      exact g1'
    · refine hO2.keep (M' := ⟨_, m3.nid⟩) (by show m1.nid ≤ m3.nid; omega) fun j c1 c2 => ?_
      have c2' : j < m1.nid := c2
      dsimp only
      simp (disch := omega) only [upd_hit, upd_miss]
      exact k2.2 j (by omega) (by omega)
  · simp +decide only [go_sem, Nat.reduceAdd, Nat.reduceMul, Nat.reduceSub, Nat.reduceLT, Nat.reduceLeDiff, Nat.reduceEqDiff, Nat.add_assoc, Int.reduceAdd, Int.reduceSub, Int.reduceMul, Int.reduceLT, Int.reduceLE, Int.reduceEq, Int.reduceNeg, strOp_add, e0, e2, e3, e4, e5, e12, hB]
    refine bB_split (fun hB1 => ?_) (fun hB1 => ?_)
    · simp +decide only [go_sem, Nat.reduceAdd, Nat.reduceMul, Nat.reduceSub, Nat.reduceLT, Nat.reduceLeDiff, Nat.reduceEqDiff, Nat.add_assoc, Int.reduceAdd, Int.reduceSub, Int.reduceMul, Int.reduceLT, Int.reduceLE, Int.reduceEq, Int.reduceNeg, strOp_add, e0, e2, e3, e4, e5]
      refine pick_wp 6 _ id bs _ h3 hb (by omega) (by omega) (by omega) _ fun kk m3 hkk k1 k2 => ?_
      have n3 : st.nid ≤ m3.nid := k2.1
      have f0 := (k2.2 m.nid (by omega) (by omega)).trans f0'
      have f1 := (k2.2 (m.nid + 1) (by omega) (by omega)).trans f1'
      have g0' := (k2.2 m1.nid (by omega) (by omega)).trans g0
      have g1' := (k2.2 (m1.nid + 1) (by omega) (by omega)).trans g1
      simp +decide (disch := first | decide | omega) only [go_sem, Nat.reduceAdd, Nat.reduceMul, Nat.reduceSub, Nat.reduceLT, Nat.reduceLeDiff, Nat.reduceEqDiff, Nat.add_assoc, Int.reduceAdd, Int.reduceSub, Int.reduceMul, Int.reduceLT, Int.reduceLE, Int.reduceEq, Int.reduceNeg, strOp_add, e0, e2, e3, e4, e5, g1']
      refine ⟨_, rfl, ?_⟩
      simp +decide only [go_sem, Nat.reduceAdd, Nat.reduceMul, Nat.reduceSub, Nat.reduceLT, Nat.reduceLeDiff, Nat.reduceEqDiff, Nat.add_assoc, Int.reduceAdd, Int.reduceSub, Int.reduceMul, Int.reduceLT, Int.reduceLE, Int.reduceEq, Int.reduceNeg, strOp_add, e2, e3, e4, e5]
      refine ⟨(k1.mono (by omega)).put (by omega) (Nat.le_refl _), (fr2.trans k2).put (by omega) (Nat.le_refl _), by omega, ?_, ?_, _, _, _, _, kk, Ld, N, lv, nv, (upd_miss _ _ _ _ (by omega)).trans g0', hW2.same fun j c1 c2 => ?_, hsane, rfl, by unfold smallI; omega, ?_, hOk.mono (by omega)⟩
      · simp (disch := omega) only [upd_hit, upd_miss]
        exact f0
      · simp (disch := omega) only [upd_hit, upd_miss]
        exact f1
      · show Same (upd _ _ _ _) _
        simp (disch := omega) only [upd_hit, upd_miss]
        rw [k2.2 j (by omega) (by omega)]
        exact ⟨rfl, rfl⟩
      · refine hO2.keep (M' := ⟨_, m3.nid⟩) (by show m1.nid ≤ m3.nid; omega) fun j c1 c2 => ?_
        have c2' : j < m1.nid := c2
        dsimp only
        simp (disch := omega) only [upd_hit, upd_miss]
        exact k2.2 j (by omega) (by omega)
    · simp +decide only [go_sem, Nat.reduceAdd, Nat.reduceMul, Nat.reduceSub, Nat.reduceLT, Nat.reduceLeDiff, Nat.reduceEqDiff, Nat.add_assoc, Int.reduceAdd, Int.reduceSub, Int.reduceMul, Int.reduceLT, Int.reduceLE, Int.reduceEq, Int.reduceNeg, strOp_add, e0, e2, e3, e4, e5, e12, hB]
      refine bB_split (fun hB2 => ?_) (fun hB2 => ?_)
      · have hO3 := hO2
        rcases hO3 with ⟨rfl, rfl, rfl, rfl⟩ | ⟨a, g, b, qq, ty, ty', cs0, B0, rfl, rfl, ha, hbq, hNl, hcel, haB, hbB, hab, ha1, ha2, hb1, hb2, hB0⟩
        · simp (maxSteps := 2000000) +decide (disch := first | decide | omega) only [go_sem, Nat.reduceAdd, Nat.reduceMul, Nat.reduceSub, Nat.reduceLT, Nat.reduceLeDiff, Nat.reduceEqDiff, Nat.add_assoc, Int.reduceAdd, Int.reduceSub, Int.reduceMul, Int.reduceLT, Int.reduceLE, Int.reduceEq, Int.reduceNeg, strOp_add, e0, e2, e3, e4, e5, g1]
          have hS1 := sane_bare (k := 1) (n := 0) (by unfold i64; omega) (by unfold i64; omega)
          refine ⟨_, rfl, ?_⟩
          simp +decide only [go_sem, Nat.reduceAdd, Nat.reduceMul, Nat.reduceSub, Nat.reduceLT, Nat.reduceLeDiff, Nat.reduceEqDiff, Nat.add_assoc, Int.reduceAdd, Int.reduceSub, Int.reduceMul, Int.reduceLT, Int.reduceLE, Int.reduceEq, Int.reduceNeg, strOp_add, e2, e3, e4, e5]
          refine ⟨(h3.mono (by omega)).fr (by show st.nid ≤ st.nid + 4; omega) (by have := h3.1; simp (disch := omega) only [upd_hit, upd_miss]), ⟨by show m.nid ≤ st.nid + 4; omega, fun j c1 c2 => by have c1' : j < m.nid := c1; simp (disch := omega) only [upd_hit, upd_miss]; exact fr2.2 j c1 c2⟩, by omega, ?_, ?_, _, _, _, _, 4, [.mk 1 0 ⟨#[]⟩ [] []], [⟨#[110, 111, 110, 101]⟩], _, _, ?_, hW2.same fun j c1 c2 => ?_, hsane, rfl, by unfold smallI; omega, .inr ⟨st.nid + 3, 0, st.nid + 1, 0, some (26, false), some (9, false), _, [], rfl, rfl, by simp (disch := omega) only [upd_hit, upd_miss], by simp (disch := omega) only [upd_hit, upd_miss]; rfl, rfl, celR_cons.2 ⟨_, [], [], [], (List.append_nil _).symm, rfl, datR_bare _ _ _, celR_nil.2 ⟨rfl, rfl⟩⟩, by simp, by simp, by omega, by omega, by show st.nid + 3 < st.nid + 4; omega, by omega, by show st.nid + 1 < st.nid + 4; omega, by simp⟩, by simp, by simp, ?_, ?_⟩
          · simp (disch := omega) only [upd_hit, upd_miss]
            exact f0'
          · simp (disch := omega) only [upd_hit, upd_miss]
            exact f1'
          · simp (disch := omega) only [upd_hit, upd_miss]
            exact g0
          · show Same (upd _ _ _ _) _
            simp (disch := omega) only [upd_hit, upd_miss]
            exact ⟨rfl, rfl⟩
          · intro y hy
            rw [List.mem_singleton.1 hy]
            exact ⟨hS1.1, by omega⟩
          · refine ⟨fun y hy => ?_, rfl⟩
            rw [List.mem_singleton.1 hy]
            decide
        · have hc1 : N.length * 5 = cs0.length := by rw [hNl]; exact (celR_len Ld hcel).symm
          have hc2 : N.length + 1 ≤ most := by have := hOk.2.1; simp only [most]; omega
          have hc3 : Ld.length = N.length := hNl.symm
          dsimp only at ha hbq ha2 hb2
          simp (maxSteps := 2000000) +decide (disch := first | decide | omega) only [go_sem, Nat.reduceAdd, Nat.reduceMul, Nat.reduceSub, Nat.reduceLT, Nat.reduceLeDiff, Nat.reduceEqDiff, Nat.add_assoc, Int.reduceAdd, Int.reduceSub, Int.reduceMul, Int.reduceLT, Int.reduceLE, Int.reduceEq, Int.reduceNeg, strOp_add, e0, e2, e3, e4, e5, g1, ha, hbq, hc1, hc2, hc3, List.length_map]
          have hS1 := sane_bare (k := 1) (n := 0) (by unfold i64; omega) (by unfold i64; omega)
          refine ⟨_, rfl, ?_⟩
          simp +decide only [go_sem, Nat.reduceAdd, Nat.reduceMul, Nat.reduceSub, Nat.reduceLT, Nat.reduceLeDiff, Nat.reduceEqDiff, Nat.add_assoc, Int.reduceAdd, Int.reduceSub, Int.reduceMul, Int.reduceLT, Int.reduceLE, Int.reduceEq, Int.reduceNeg, strOp_add, e2, e3, e4, e5]
          have hoth : ∀ (x1 x2 x3 x4 x5 x6 : Blk) (j : Nat), j < m1.nid → j ≠ a → j ≠ b → upd (upd (upd (upd (upd (upd st.sto st.nid x1) b x2) (m1.nid + 1) x3) (st.nid + 1) x4) a x5) (m1.nid + 1) x6 j = st.sto j := fun x1 x2 x3 x4 x5 x6 j c1 c2 c3 => by simp (disch := omega) only [upd_hit, upd_miss]
          refine ⟨(h3.mono (by omega)).fr (by show st.nid ≤ st.nid + 2; omega) (by have := h3.1; simp (disch := omega) only [upd_hit, upd_miss]), ⟨by show m.nid ≤ st.nid + 2; omega, fun j c1 c2 => (hoth _ _ _ _ _ _ j (by omega) (by omega) (by omega)).trans (fr2.2 j c1 c2)⟩, by omega, (hoth _ _ _ _ _ _ m.nid (by omega) (by omega) (by omega)).trans f0', (hoth _ _ _ _ _ _ (m.nid + 1) (by omega) (by omega) (by omega)).trans f1', _, _, _, _, 4, Ld ++ [.mk 1 0 ⟨#[]⟩ [] []], N ++ [⟨#[110, 111, 110, 101]⟩], _, _, ?_, hW2.same fun j c1 c2 => ?_, hsane, rfl, by unfold smallI; omega, .inr ⟨a, g + 1, b, qq + 1, grewT 26 ty, grewT 9 ty', _, B0 ++ [], by simp [hNl], by simp [hNl], by simp (disch := omega) only [upd_hit, upd_miss]; rfl, by simp (disch := omega) only [upd_hit, upd_miss]; rw [List.map_append]; rfl, by simp [hNl], celR_snoc Ld (CelR.same hcel fun x hx => ?_) (datR_bare _ _ _), by simpa using haB, by simpa using hbB, hab, ha1, by show a < st.nid + 2; omega, hb1, by show b < st.nid + 2; omega, fun x hx => ?_⟩, ?_, ?_, ?_, ?_⟩
          · simp (disch := omega) only [upd_hit, upd_miss]
            exact g0
          · show Same (upd _ _ _ _) _
            rw [hoth _ _ _ _ _ _ j (by omega) (by omega) (by omega)]
            exact ⟨rfl, rfl⟩
          · have c1 : x ≠ a := fun e => haB (e ▸ hx)
            have c2 : x ≠ b := fun e => hbB (e ▸ hx)
            have c3 := hB0 x hx
            have c4 : x < m1.nid := c3.2
            show Same (upd _ _ _ _) _
            rw [hoth _ _ _ _ _ _ x c4 c1 c2]
            exact ⟨rfl, rfl⟩
          · rw [List.append_nil] at hx
            have c3 := hB0 x hx
            have c4 : x < m1.nid := c3.2
            exact ⟨c3.1, by show x < st.nid + 2; omega⟩
          · have := hOk.1
            simp only [List.length_append, List.length_cons, List.length_nil]
            omega
          · have := hOk.2.1
            simp only [List.length_append, List.length_cons, List.length_nil]
            omega
          · intro y hy
            rcases List.mem_append.1 hy with hy | hy
            · exact hOk.2.2.1 y hy
            · rw [List.mem_singleton.1 hy]
              exact ⟨hS1.1, by omega⟩
          · refine ⟨fun y hy => ?_, by have := hOk.2.2.2.2; simp only [List.length_append, List.length_cons, List.length_nil]; omega⟩
            rcases List.mem_append.1 hy with hy | hy
            · exact hOk.2.2.2.1 y hy
            · rw [List.mem_singleton.1 hy]
              decide
      · simp +decide only [go_sem, Nat.reduceAdd, Nat.reduceMul, Nat.reduceSub, Nat.reduceLT, Nat.reduceLeDiff, Nat.reduceEqDiff, Nat.add_assoc, Int.reduceAdd, Int.reduceSub, Int.reduceMul, Int.reduceLT, Int.reduceLE, Int.reduceEq, Int.reduceNeg, strOp_add, e0, e2, e3, e4, e5, e12, hB]
        refine bB_split (fun hB3 => ?_) (fun hB3 => ?_)
        · have hO3 := hO2
          rcases hO3 with ⟨rfl, rfl, rfl, rfl⟩ | ⟨a, g, b, qq, ty, ty', cs0, B0, rfl, rfl, ha, hbq, hNl, hcel, haB, hbB, hab, ha1, ha2, hb1, hb2, hB0⟩
          · simp +decide only [go_sem, Nat.reduceAdd, Nat.reduceMul, Nat.reduceSub, Nat.reduceLT, Nat.reduceLeDiff, Nat.reduceEqDiff, Nat.add_assoc, Int.reduceAdd, Int.reduceSub, Int.reduceMul, Int.reduceLT, Int.reduceLE, Int.reduceEq, Int.reduceNeg, strOp_add, e0, e2, e3, e4, e5, g1]
            refine ⟨_, rfl, ?_⟩
            simp +decide only [go_sem, Nat.reduceAdd, Nat.reduceMul, Nat.reduceSub, Nat.reduceLT, Nat.reduceLeDiff, Nat.reduceEqDiff, Nat.add_assoc, Int.reduceAdd, Int.reduceSub, Int.reduceMul, Int.reduceLT, Int.reduceLE, Int.reduceEq, Int.reduceNeg, strOp_add, e2, e3, e4, e5]
            exact ⟨h3.mono (by omega), fr2, by omega, f0', f1', _, _, _, _, 4, _, _, _, _, g0, hW2, hsane, g1, by unfold smallI; omega, hO2.keep (M' := st.toMem) (by show m1.nid ≤ st.nid; omega) fun j c1 c2 => rfl, hOk.mono (by omega)⟩
          · by_cases hLd0 : 0 < Ld.length
            · have hpos : ((0 : Int) < ((Ld.length : Nat) : Int)) = True := eq_true (by omega)
              dsimp only at ha hbq ha2 hb2
              simp +decide (disch := first | decide | omega) only [go_sem, Nat.reduceAdd, Nat.reduceMul, Nat.reduceSub, Nat.reduceLT, Nat.reduceLeDiff, Nat.reduceEqDiff, Nat.add_assoc, Int.reduceAdd, Int.reduceSub, Int.reduceMul, Int.reduceLT, Int.reduceLE, Int.reduceEq, Int.reduceNeg, strOp_add, e0, e2, e3, e4, e5, g1, hpos]
              refine (d_plan (ord := [0, 1, 2, 3, 4, 5, 6, 7, 8, 9]) (prs := [(1, 3), (1, 5), (3, 5), (1, 6)]) (by kernel_rfl)).2 ?_
              simp +decide (disch := first | decide | omega) only [go_sem, Nat.reduceAdd, Nat.reduceMul, Nat.reduceSub, Nat.reduceLT, Nat.reduceLeDiff, Nat.reduceEqDiff, Nat.add_assoc, Int.reduceAdd, Int.reduceSub, Int.reduceMul, Int.reduceLT, Int.reduceLE, Int.reduceEq, Int.reduceNeg, strOp_add, e0, e2, e3, e4, e5, g1, hpos]
              have id3 := h3.1
              refine rd_far (P' := P + 3000 + 1 + 1) (h3.more (Nat.le_add_right _ _)) (by rw [reach_rd (h3.more (Nat.le_add_right _ _)), (quiet_still rfl).1]; rfl) (by intro x hx; rw [List.mem_singleton.1 hx]; exact quiet_still rfl) (fun v m' => ∃ k : Nat, k < 5 ∧ v = .int .i64 k) (fun Q hQ => pick_wp 5 _ id bs _ (rd_mask (h3.more (Nat.le_add_right _ _)) (by simp)) hb (by omega) (by omega) (by omega) _ fun k m' hk k1 k2 => hQ _ _ ⟨k, hk, rfl⟩ k1 k2) (fun v m' hv j1 j2 j3 => ?_)
              obtain ⟨k5, hk5, rfl⟩ := hv
              have nJ : st.nid + 10 ≤ m'.nid := j2.1
              have frJ := ((Fr.refl st.toMem id).more (n := st.nid + 10) (Nat.le_add_right _ _)).trans j2
              dsimp only at j1 frJ
              clear j2 j3
              generalize hJ : (joinM [id] (st.nid + 10) ⟨st.sto, st.nid + 10⟩ m').sto = J at *
              simp +decide (disch := first | decide | omega) only [go_sem, Nat.reduceAdd, Nat.reduceMul, Nat.reduceSub, Nat.reduceLT, Nat.reduceLeDiff, Nat.reduceEqDiff, Nat.add_assoc, Int.reduceAdd, Int.reduceSub, Int.reduceMul, Int.reduceLT, Int.reduceLE, Int.reduceEq, Int.reduceNeg, strOp_add, e0, e2, e3, e4, e5, hJ]
              refine rdl_far (P' := P + 3000 + 1 + 1 + 1) ((j1.put (E := st.nid + 5) (n := m'.nid) (by omega) (Nat.le_refl _))) (by show st.nid + 5 < m'.nid; omega) (by omega) (by dsimp only; rw [upd_hit]; simp [still]) (by dsimp only; rw [upd_hit]) (by rw [reach_rd (j1.put (E := st.nid + 5) (n := m'.nid) (by omega) (Nat.le_refl _)), reach_arr (by dsimp only; rw [upd_hit]; simp [still]) 2097151]; rfl) (fun v m' => ∃ x ∈ ([0, 300, -1] : List Int), v = .int .i64 x) (fun Q hQ => ?_) (fun v m2' hv k1 k2 k3 => ?_)
              · exact oneA_wp [0, 300, -1] _ id bs _ (st.nid + 5) 0 true false none (by simp only [mask]; rw [if_pos (by simp)]; exact upd_hit _ _ _) (by show st.nid + 5 < m'.nid; omega) (by omega) (rd_mask ((j1.put (E := st.nid + 5) (n := m'.nid) (by omega) (Nat.le_refl _))) (by simp)) hb (by omega) (by decide) (by decide) _ fun x m' hx k1 k2 => hQ _ _ ⟨x, hx, rfl⟩ k1 k2
              · obtain ⟨y6, hy6, rfl⟩ := hv
                have nK : m'.nid ≤ m2'.nid := k2.1
                have frK := (frJ.put (E := st.nid + 5) (n := m'.nid) (by omega) (Nat.le_refl _)).trans k2
                dsimp only at k1 frK
                clear k2 k3 frJ j1
                generalize hK : (joinM [id, st.nid + 5] m'.nid ⟨upd J (st.nid + 5) _, m'.nid⟩ m2').sto = J2 at *
                have fa := (frK.2 a (by omega) (by omega)).trans ha
                dsimp only at fa
                cases Ld with
                | nil => simp at hLd0
                | cons dd dds =>
                obtain ⟨p1, B1, p2, B2, hcs, hBB, hD1, hD2⟩ := celR_cons.1 hcel
                have hp1 : p1.length = 5 := by
                  obtain ⟨_, _, _, _, _⟩ := dd
                  obtain ⟨_, _, _, _, rfl, _⟩ := datR_iff.1 hD1
                  rfl
                have hc5 : 5 ≤ cs0.length := by rw [hcs, List.length_append]; omega
                have hd5 : cs0.drop 5 = p2 := by rw [hcs, ← hp1]; simp
                have hpos' : ((0 : Int) < ((dds.length + 1 : Nat) : Int)) = True := eq_true (by omega)
                have hS1 := sane_bare (k := k5) (n := y6) (by unfold i64; omega) (by
                  simp only [List.mem_cons, List.mem_nil_iff, or_false] at hy6
                  unfold i64
                  omega)
                simp +decide (disch := first | decide | omega) only [go_sem, Nat.reduceAdd, Nat.reduceMul, Nat.reduceSub, Nat.reduceLT, Nat.reduceLeDiff, Nat.reduceEqDiff, Nat.add_assoc, Int.reduceAdd, Int.reduceSub, Int.reduceMul, Int.reduceLT, Int.reduceLE, Int.reduceEq, Int.reduceNeg, strOp_add, e0, e2, e3, e4, e5, hK, fa, hpos', hc5, hd5, Nat.zero_mul]
                refine ⟨by simp; omega, _, rfl, ?_⟩
                simp +decide only [go_sem, Nat.reduceAdd, Nat.reduceMul, Nat.reduceSub, Nat.reduceLT, Nat.reduceLeDiff, Nat.reduceEqDiff, Nat.add_assoc, Int.reduceAdd, Int.reduceSub, Int.reduceMul, Int.reduceLT, Int.reduceLE, Int.reduceEq, Int.reduceNeg, strOp_add, e2, e3, e4, e5]
                have hoth : ∀ (x : Blk) (j : Nat), j < st.nid → j ≠ a → j ≠ id → upd J2 a x j = st.sto j := fun x j c1 c2 c3 => (upd_miss _ _ _ _ c2).trans (frK.2 j c1 c3)
                refine ⟨(k1.mono (by omega)).put (by omega) (Nat.le_refl _), ⟨by show m.nid ≤ m2'.nid; omega, fun j c1 c2 => (hoth _ j (by omega) (by omega) c2).trans (fr2.2 j c1 c2)⟩, by omega, (hoth _ m.nid (by omega) (by omega) (by omega)).trans f0', (hoth _ (m.nid + 1) (by omega) (by omega) (by omega)).trans f1', _, _, _, _, 4, .mk k5 y6 ⟨#[]⟩ [] [] :: dds, N, _, _, (hoth _ m1.nid (by omega) (by omega) (by omega)).trans g0, hW2.same fun j c1 c2 => ?_, hsane, (hoth _ (m1.nid + 1) (by omega) (by omega) (by omega)).trans g1, by unfold smallI; omega, .inr ⟨a, g, b, qq, ty, ty', _, B2, rfl, rfl, upd_hit _ _ _, (hoth _ b (by omega) (by omega) (by omega)).trans hbq, hNl, celR_cons.2 ⟨[.int .i64 k5, .int .i64 y6, .str ⟨#[]⟩, .nils 5, .nils 1], [], p2, B2, rfl, rfl, datR_bare _ _ _, CelR.same hD2 fun x hx => ?_⟩, fun hx => haB (by rw [hBB]; exact List.mem_append_right _ hx), fun hx => hbB (by rw [hBB]; exact List.mem_append_right _ hx), hab, ha1, by show a < m2'.nid; omega, hb1, by show b < m2'.nid; omega, fun x hx => ?_⟩, ?_, ?_, ?_, ?_⟩
                · show Same (upd _ _ _ _) _
                  rw [hoth _ j (by omega) (by omega) (by omega)]
                  exact ⟨rfl, rfl⟩
                · have c0 : x ∈ B0 := by rw [hBB]; exact List.mem_append_right _ hx
                  have c1 : x ≠ a := fun e => haB (e ▸ c0)
                  have c3 := hB0 x c0
                  have c4 : x < m1.nid := c3.2
                  show Same (upd _ _ _ _) _
                  rw [hoth _ x (by omega) c1 (by omega)]
                  exact ⟨rfl, rfl⟩
                · have c0 : x ∈ B0 := by rw [hBB]; exact List.mem_append_right _ hx
                  have c3 := hB0 x c0
                  have c4 : x < m1.nid := c3.2
                  exact ⟨c3.1, by show x < m2'.nid; omega⟩
                · have := hOk.1
                  simp only [List.length_cons] at this ⊢
                  omega
                · have := hOk.2.1
                  omega
                · intro y hy
                  rcases List.mem_cons.1 hy with rfl | hy
                  · exact ⟨hS1.1, by omega⟩
                  · exact hOk.2.2.1 y (List.mem_cons_of_mem _ hy)
                · exact hOk.2.2.2
            · have hpos : ((0 : Int) < ((Ld.length : Nat) : Int)) = False := eq_false (by omega)
              simp +decide only [go_sem, Nat.reduceAdd, Nat.reduceMul, Nat.reduceSub, Nat.reduceLT, Nat.reduceLeDiff, Nat.reduceEqDiff, Nat.add_assoc, Int.reduceAdd, Int.reduceSub, Int.reduceMul, Int.reduceLT, Int.reduceLE, Int.reduceEq, Int.reduceNeg, strOp_add, e0, e2, e3, e4, e5, g1, hpos]
              refine ⟨_, rfl, ?_⟩
              simp +decide only [go_sem, Nat.reduceAdd, Nat.reduceMul, Nat.reduceSub, Nat.reduceLT, Nat.reduceLeDiff, Nat.reduceEqDiff, Nat.add_assoc, Int.reduceAdd, Int.reduceSub, Int.reduceMul, Int.reduceLT, Int.reduceLE, Int.reduceEq, Int.reduceNeg, strOp_add, e2, e3, e4, e5]
              exact ⟨h3.mono (by omega), fr2, by omega, f0', f1', _, _, _, _, 4, _, _, _, _, g0, hW2, hsane, g1, by unfold smallI; omega, hO2.keep (M' := st.toMem) (by show m1.nid ≤ st.nid; omega) fun j c1 c2 => rfl, hOk.mono (by omega)⟩
        · simp +decide only [go_sem, Nat.reduceAdd, Nat.reduceMul, Nat.reduceSub, Nat.reduceLT, Nat.reduceLeDiff, Nat.reduceEqDiff, Nat.add_assoc, Int.reduceAdd, Int.reduceSub, Int.reduceMul, Int.reduceLT, Int.reduceLE, Int.reduceEq, Int.reduceNeg, strOp_add, e0, e2, e3, e4, e5]
          refine ⟨_, rfl, ?_⟩
          simp +decide only [go_sem, Nat.reduceAdd, Nat.reduceMul, Nat.reduceSub, Nat.reduceLT, Nat.reduceLeDiff, Nat.reduceEqDiff, Nat.add_assoc, Int.reduceAdd, Int.reduceSub, Int.reduceMul, Int.reduceLT, Int.reduceLE, Int.reduceEq, Int.reduceNeg, strOp_add, e2, e3, e4, e5]
          exact ⟨h3.mono (by omega), fr2, by omega, f0', f1', _, _, _, _, 4, Ld, N, lv, nv, g0, hW2, hsane, g1, by unfold smallI; omega, hO2.keep (M' := st.toMem) (by show m1.nid ≤ st.nid; omega) fun j c1 c2 => rfl, hOk.mono (by omega)⟩
  clear hW2 hO2 hOk hsane f0' f1' g0 g1 fr2 h3 e0 e2 e3 e4 e5 e12 hq o1 o2 o3 o4
  rintro _ ⟨s', rfl, e2, e3, e4, e5, hR, hF, hn, f0, f1, sv, ev, ss, es, k, L, N, lv, nv, g0, hW, hs, g1, hk, hO, hOk⟩
  have hW2 : ∀ x y : Blk, SchW ⟨upd (upd s'.sto m.nid x) (m.nid + 1) y, s'.nid + 4⟩ (m.nid + 2) lo sv ev ss es := fun x y => hW.same fun j c1 c2 => by
    show Same (upd (upd s'.sto m.nid x) (m.nid + 1) y j) _
    simp (disch := omega) only [upd_hit, upd_miss]
    exact ⟨rfl, rfl⟩
  have hO2 : ∀ x y : Blk, OutL ⟨upd (upd s'.sto m.nid x) (m.nid + 1) y, s'.nid + 4⟩ lo L N lv nv := fun x y => hO.keep (M' := ⟨_, s'.nid + 4⟩) (Nat.le_add_right _ _) fun j c1 c2 => by simp (disch := omega) only [upd_hit, upd_miss]
  have hs1 := fun x y => (hW2 x y).snap 2097147
  have hs2 := fun x y => out_snap2 (hO2 x y) fun d hd => by have := (hOk.2.2.1 d hd).2; omega
  have l1 := fun x y => (hs1 x y).1
  have l2 := fun x y => (hs1 x y).2.1
  have l3 := fun x y => (hs2 x y).1
  have l4 := fun x y => (hs2 x y).2.1
  obtain ⟨_, _, o1, o2, _⟩ := hW.snap 0
  obtain ⟨o3, o4⟩ := hO.ones
  simp only [AV.one] at o1 o2 o3 o4
  simp +decide only [go_sem, Nat.reduceAdd, Nat.reduceMul, Nat.reduceSub, Nat.reduceLT, Nat.reduceLeDiff, Nat.reduceEqDiff, Nat.add_assoc, Int.reduceAdd, Int.reduceSub, Int.reduceMul, Int.reduceLT, Int.reduceLE, Int.reduceEq, Int.reduceNeg, strOp_add]
  refine (d_plan (ord := [0, 1, 2, 3]) (prs := [(0, 1), (1, 2)]) (by kernel_rfl)).2 ?_
  simp +decide (disch := first | decide | omega) only [go_sem, Nat.reduceAdd, Nat.reduceMul, Nat.reduceSub, Nat.reduceLT, Nat.reduceLeDiff, Nat.reduceEqDiff, Nat.add_assoc, Int.reduceAdd, Int.reduceSub, Int.reduceMul, Int.reduceLT, Int.reduceLE, Int.reduceEq, Int.reduceNeg, strOp_add, e2, e3, e4, e5, f0, f1, g0, g1, o1, o2, o3, o4, l1, l2, l3, l4]
  obtain ⟨hd1, hd2⟩ := hOk.sane (by omega) hk (show smallI 0 by unfold smallI; omega)
  have hq := fun m' => hQ ss es (.mk k 0 ⟨#[]⟩ L N) m' hs hd1 (by omega)
  rw [Dat.av_mk] at hq
  refine ⟨by omega, ?_⟩
  have l5 := fun x y => (hs1 x y).2.2.2.2
  have l6 := fun x y => (hs2 x y).2.2
  have hlo3 : ∀ (x y : Blk), ∀ z ∈ reachD ⟨upd (upd s'.sto m.nid x) (m.nid + 1) y, s'.nid + 4⟩ 2097150 sv ++ reachD ⟨upd (upd s'.sto m.nid x) (m.nid + 1) y, s'.nid + 4⟩ 2097150 ev ++ (reachD ⟨upd (upd s'.sto m.nid x) (m.nid + 1) y, s'.nid + 4⟩ 2097150 lv ++ reachD ⟨upd (upd s'.sto m.nid x) (m.nid + 1) y, s'.nid + 4⟩ 2097150 nv), m.nid + 2 ≤ z := fun x y z hz => by
    rcases List.mem_append.1 hz with hz | hz
    · exact l5 x y z hz
    · have := l6 x y z hz
      omega
  refine hq _ (((((hR.mono (by omega)).more (n := s'.nid + 4) (Nat.le_add_right _ _)).put (E := m.nid) (by omega) (Nat.le_refl _)).put (by omega) (Nat.le_refl _)).froz fun hx => ?_) (((hF.more (n := s'.nid + 4) (Nat.le_add_right _ _)).put (E := m.nid) (Nat.le_refl _) (Nat.le_refl _)).put (by omega) (Nat.le_refl _) |>.froz fun x hx => ?_)
  · have := hlo3 _ _ _ hx
    omega
  · have := hlo3 _ _ _ hx
    omega
end Go.Ev.Tryz
