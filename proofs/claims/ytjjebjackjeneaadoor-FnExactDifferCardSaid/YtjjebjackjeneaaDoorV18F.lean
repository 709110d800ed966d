/- Part of the proof of a statement about the given program: V18F. No condition of its own. -/
import Derived.Test.YtjjebjackjeneaaDoorV17F
namespace Go.Ev.Tryd
open Go.Proofs
set_option maxRecDepth 10000
set_option linter.unusedSimpArgs false
set_option linter.unusedVariables false
attribute [local congr] comes_congr bB_congr gK_congr gdK_congr


set_option maxHeartbeats 1000000 in
theorem steps_wp2 (d : Dat) (hd : d.Sane) (cs : List AV) (B : List Nat) (m : Mem) (hO : ODat m d cs B) (hB : ∀ b ∈ B, b < m.nid) (Q : AV × Mem → Prop)
    (hQ : ∀ v m' B', OStr m' d.steps v B' → (∀ b ∈ B', b ∈ B ∨ m.nid ≤ b ∧ b < m'.nid) → m.nid ≤ m'.nid → (∀ j, j < m.nid → m'.sto j = m.sto j) → Q (v, m')) :
    Comes (fnI CC PR 51 [.agg cs] m) Q := by
  cases hd with
  | mk k n t l ns hk hn ht hl hns hss h =>
  obtain ⟨lv, nv, Bl, Bn, rfl, rfl, hnv, hlv⟩ := oDat_iff.1 hO
  have y3 : ∀ b ∈ Bn, b < m.nid := fun b hb => hB b (by simp [hb])
  have o1 := lstR_one hlv.lst
  have o2 := strR_one hnv.str
  simp only [AV.one] at o1 o2
  by_cases h4 : k = 4
  · subst h4
    have hst : Dat.steps (.mk 4 n t l ns) = ns := by simp [Dat.steps, Dat.kind, Dat.names]
    rw [hst] at hQ
    refine fnI_wp (rs := [.tmp 2]) Tryd.func51 rfl rfl (Nat.le_of_ble_eq_true rfl) rfl rfl ?_
    simp +decide (disch := first | decide | omega) only [go_sem, Nat.reduceAdd, Nat.reduceMul, Nat.reduceSub, Nat.reduceLT, Nat.reduceLeDiff, Nat.reduceEqDiff, Nat.add_assoc, Int.reduceAdd, Int.reduceSub, Int.reduceMul, Int.reduceLT, Int.reduceLE, Int.reduceEq, Int.reduceNeg, strOp_add, o1, o2, true_or]
    refine hQ nv ⟨_, m.nid + 1⟩ Bn ?_ (fun b hb => .inl (List.mem_append_right _ hb)) (Nat.le_succ _) fun j hj => ?_
    · refine hnv.keep fun b hb => ?_
      have := y3 b hb
      show upd _ _ _ _ = _
      simp (disch := omega) only [upd_hit, upd_miss]
    · show upd _ _ _ _ = _
      simp (disch := omega) only [upd_hit, upd_miss]
  · have hst : Dat.steps (.mk k n t l ns) = nums l.length := by simp [Dat.steps, Dat.kind, Dat.list, h4]
    have h4' : (k = 4) = False := eq_false h4
    rw [hst] at hQ
    rcases hlv with ⟨rfl, rfl, rfl⟩ | ⟨id, g, app, ty, cs, B, rfl, hs, hC, rfl⟩
    · refine fnI_wp (rs := [.tmp 2]) Tryd.func51 rfl rfl (Nat.le_of_ble_eq_true rfl) rfl rfl ?_
      simp +decide (disch := first | decide | omega) only [go_sem, Nat.reduceAdd, Nat.reduceMul, Nat.reduceSub, Nat.reduceLT, Nat.reduceLeDiff, Nat.reduceEqDiff, Nat.add_assoc, Int.reduceAdd, Int.reduceSub, Int.reduceMul, Int.reduceLT, Int.reduceLE, Int.reduceEq, Int.reduceNeg, strOp_add, o2, h4', true_or]
      refine comes_upto 0 (fun i st => st.env 12 = .int .i64 0 ∧ st.env 13 = .int .i64 i ∧ st.env 3 = .nils 1 ∧ m.nid ≤ st.nid ∧ ∀ j, j < m.nid → st.sto j = m.sto j) ?_ ?_ _ ?_
      · rintro i st hi; omega
      · rintro st ⟨e12, e13, e3, en, hfr⟩
        simp +decide (disch := first | decide | omega) only [go_sem, Nat.reduceAdd, Nat.reduceMul, Nat.reduceSub, Nat.reduceLT, Nat.reduceLeDiff, Nat.reduceEqDiff, Nat.add_assoc, Int.reduceAdd, Int.reduceSub, Int.reduceMul, Int.reduceLT, Int.reduceLE, Int.reduceEq, Int.reduceNeg, strOp_add, e3, e12, e13]
        exact hQ _ _ [] (.inl ⟨rfl, rfl, rfl⟩) (fun b hb => by cases hb) en hfr
      · simp +decide (disch := first | decide | omega) only [go_sem, Nat.reduceAdd, Nat.reduceMul, Nat.reduceSub, Nat.reduceLT, Nat.reduceLeDiff, Nat.reduceEqDiff, Nat.add_assoc, Int.reduceAdd, Int.reduceSub, Int.reduceMul, Int.reduceLT, Int.reduceLE, Int.reduceEq, Int.reduceNeg, strOp_add]
        refine ⟨rfl, Nat.le_succ _, fun j hj => ?_⟩
        simp (disch := omega) only [upd_hit, upd_miss]
    · refine fnI_wp (rs := [.tmp 2]) Tryd.func51 rfl rfl (Nat.le_of_ble_eq_true rfl) rfl rfl ?_
      simp +decide (disch := first | decide | omega) only [go_sem, Nat.reduceAdd, Nat.reduceMul, Nat.reduceSub, Nat.reduceLT, Nat.reduceLeDiff, Nat.reduceEqDiff, Nat.add_assoc, Int.reduceAdd, Int.reduceSub, Int.reduceMul, Int.reduceLT, Int.reduceLE, Int.reduceEq, Int.reduceNeg, strOp_add, o1, o2, h4', true_or]
      refine comes_upto l.length (fun i st => st.env 12 = .int .i64 l.length ∧ st.env 13 = .int .i64 i ∧ m.nid + 1 ≤ st.nid ∧ (∀ j, j < m.nid → st.sto j = m.sto j) ∧ StrsAt st.toMem (m.nid + 1) (st.env 3) (nums i)) ?_ ?_ _ ?_
      · rintro i st hi ⟨e12, e13, en, hfr, hD⟩
        have hsu : (nums (i + 1)).map AV.str = (nums i).map AV.str ++ [.str (dec (i : Nat))] := by rw [nums_succ, List.map_append]; rfl
        have w1 : IntKind.wrap .i64 ((i : Int) + 1) = ((i + 1 : Nat) : Int) := wrap_succ (by omega)
        have hq := itoa_eq (i : Nat) (by omega) (by omega)
        rcases hD with ⟨hl0, e3⟩ | ⟨id2, g2, hlo, hid, e3, ty2, hs2⟩
        · have hi0 : i = 0 := by have := nums_len i; rw [hl0] at this; exact this.symm
          simp +decide (disch := first | decide | omega) only [go_sem, Nat.reduceAdd, Nat.reduceMul, Nat.reduceSub, Nat.reduceLT, Nat.reduceLeDiff, Nat.reduceEqDiff, Nat.add_assoc, Int.reduceAdd, Int.reduceSub, Int.reduceMul, Int.reduceLT, Int.reduceLE, Int.reduceEq, Int.reduceNeg, strOp_add, e3, e12, e13, hi, w1, hq]
          refine ⟨by omega, fun j hj => ?_, .inr ⟨st.nid + 1, 0, by omega, by show st.nid + 1 < st.nid + 2; omega, ?_, ?_⟩⟩
          · simp (disch := omega) only [upd_hit, upd_miss]
            exact hfr j hj
          · rw [nums_len, hi0]
          · rw [hsu, hl0]
            refine ⟨some (9, false), ?_⟩
            simp +decide (disch := first | decide | omega) only [go_sem, Nat.reduceAdd, Nat.reduceMul, Nat.reduceSub, Nat.reduceLT, Nat.reduceLeDiff, Nat.reduceEqDiff, Nat.add_assoc, Int.reduceAdd, Int.reduceSub, Int.reduceMul, Int.reduceLT, Int.reduceLE, Int.reduceEq, Int.reduceNeg, strOp_add]
        · have hc1 : (nums i).length = i := nums_len i
          have hc2 : i + 1 ≤ most := by simp only [most]; omega
          rw [hc1] at e3
          simp +decide (disch := first | decide | omega) only [go_sem, Nat.reduceAdd, Nat.reduceMul, Nat.reduceSub, Nat.reduceLT, Nat.reduceLeDiff, Nat.reduceEqDiff, Nat.add_assoc, Int.reduceAdd, Int.reduceSub, Int.reduceMul, Int.reduceLT, Int.reduceLE, Int.reduceEq, Int.reduceNeg, strOp_add, e3, e12, e13, hi, w1, hq, hs2, hc1, hc2, List.length_map]
          refine ⟨by omega, fun j hj => ?_, .inr ⟨id2, g2 + 1, hlo, by show id2 < st.nid + 1; omega, ?_, ?_⟩⟩
          · simp (disch := omega) only [upd_hit, upd_miss]
            exact hfr j hj
          · rw [nums_len]
          · rw [hsu]
            refine ⟨grewT 9 ty2, ?_⟩
            simp +decide (disch := first | decide | omega) only [go_sem, Nat.reduceAdd, Nat.reduceMul, Nat.reduceSub, Nat.reduceLT, Nat.reduceLeDiff, Nat.reduceEqDiff, Nat.add_assoc, Int.reduceAdd, Int.reduceSub, Int.reduceMul, Int.reduceLT, Int.reduceLE, Int.reduceEq, Int.reduceNeg, strOp_add]
      · rintro st ⟨e12, e13, en, hfr, hD⟩
        simp +decide (disch := first | decide | omega) only [go_sem, Nat.reduceAdd, Nat.reduceMul, Nat.reduceSub, Nat.reduceLT, Nat.reduceLeDiff, Nat.reduceEqDiff, Nat.add_assoc, Int.reduceAdd, Int.reduceSub, Int.reduceMul, Int.reduceLT, Int.reduceLE, Int.reduceEq, Int.reduceNeg, strOp_add, e12, e13]
        rcases hD with ⟨hl0, e3⟩ | ⟨id2, g2, hlo, hid, e3, ty2, hs2⟩
        · exact hQ _ _ [] (.inl ⟨hl0, e3, rfl⟩) (fun b hb => by cases hb) (by show m.nid ≤ st.nid; omega) hfr
        · refine hQ _ _ [id2] (.inr ⟨id2, g2, true, ty2, e3, hs2, rfl⟩) (fun b hb => .inr ?_) (by show m.nid ≤ st.nid; omega) hfr
          rw [List.mem_singleton.1 hb]
          exact ⟨by omega, hid⟩
      · simp +decide (disch := first | decide | omega) only [go_sem, Nat.reduceAdd, Nat.reduceMul, Nat.reduceSub, Nat.reduceLT, Nat.reduceLeDiff, Nat.reduceEqDiff, Nat.add_assoc, Int.reduceAdd, Int.reduceSub, Int.reduceMul, Int.reduceLT, Int.reduceLE, Int.reduceEq, Int.reduceNeg, strOp_add]
        exact ⟨rfl, Nat.le_refl _, fun j hj => by simp (disch := omega) only [upd_hit, upd_miss], .inl ⟨rfl, rfl⟩⟩


theorem AStr.one {M : Mem} {ns : List ByteArray} {v : AV} (h : AStr M ns v) : v.one = true := by
  rcases h with ⟨rfl, rfl⟩ | ⟨id, g, app, ty, _, rfl, h2⟩ <;> rfl
theorem nin_lt {ids B : List Nat} {n : Nat} (h : ids = B) (hB : ∀ b ∈ B, b < n) : ∀ i ∈ ids, i < n := by subst h; exact hB
/-- Closed: what one datum leads to. -/
theorem closed1 {M : Mem} {d : Dat} {cs : List AV} {B ids : List Nat} (hO : ODat M d cs B) (hids : ids = B) : closedB M ids [.agg cs] = true := by
  subst hids
  obtain ⟨h1, h2⟩ := leads_odat (L := ids) 2097151 d hO fun b hb => by simpa using hb
  obtain ⟨h3, _⟩ := leads_odat (L := ids) 2097150 d hO fun b hb => by simpa using hb
  simp only [closedB, List.all_cons, List.all_nil, Bool.and_true, Bool.and_eq_true, List.all_eq_true]
  exact ⟨by simp only [leadsB, List.all_eq_true]; exact h3, h2⟩
theorem closed2 {M : Mem} {d e : Dat} {cs cs2 : List AV} {B C ids : List Nat} (hO : ODat M d cs B) (hO2 : ODat M e cs2 C) (hids : ids = B ++ C) : closedB M ids [.agg cs, .agg cs2] = true := by
  subst hids
  obtain ⟨h1, h2⟩ := leads_odat (L := B ++ C) 2097151 d hO fun b hb => by simp [hb]
  obtain ⟨h3, _⟩ := leads_odat (L := B ++ C) 2097150 d hO fun b hb => by simp [hb]
  obtain ⟨k1, k2⟩ := leads_odat (L := B ++ C) 2097151 e hO2 fun b hb => by simp [hb]
  obtain ⟨k3, _⟩ := leads_odat (L := B ++ C) 2097150 e hO2 fun b hb => by simp [hb]
  simp only [closedB, List.all_cons, List.all_nil, Bool.and_true, Bool.and_eq_true, List.all_eq_true]
  refine ⟨⟨by simp only [leadsB, List.all_eq_true]; exact h3, by simp only [leadsB, List.all_eq_true]; exact k3⟩, fun b hb => ?_⟩
  rcases List.mem_append.1 hb with hb | hb
  · exact h2 b hb
  · exact k2 b hb
theorem closed3 {M : Mem} {q : ByteArray} {ps : List (List ByteArray)} {v : AV} {B ids : List Nat} (hO : OPs M ps v B) (hids : ids = B) : closedB M ids [.str q, v] = true := by
  subst hids
  obtain ⟨h1, h2⟩ := leads_ops (L := ids) 2097151 hO fun b hb => by simpa using hb
  simp only [closedB, List.all_cons, List.all_nil, Bool.and_true, Bool.and_eq_true, List.all_eq_true]
  exact ⟨⟨rfl, h1⟩, h2⟩
theorem reach_agg {M : Mem} {d : Dat} {cs : List AV} {B : List Nat} (hdep : dep d ≤ 2000000) (hO : ODat M d cs B) : reachL M 2097152 (.agg cs) = B := by
  rw [reachL]
  exact reach_odat d 2097151 (by omega) hO
/-- steps, in a drawn region. -/
theorem steps_far {M : Mem} {d : Dat} {cs : List AV} {B ids : List Nat} {K : Do → Prop} (hd : d.Sane) (hO : ODat M d cs B) (hids : ids = B) (hB : ∀ b ∈ B, b < M.nid)
    (hK : ∀ v m' J, v.one = true → v.loud = false → M.nid ≤ m'.nid → J = (joinM ids M.nid M m').sto → (∀ j, j < M.nid → J j = M.sto j) → (∃ B', OStr ⟨J, m'.nid⟩ d.steps v B' ∧ ∀ b ∈ B', b < m'.nid) → K (.call ids M.nid v m')) :
    closedB M ids [.agg cs] = true ∧ Comes (fnI CC PR 51 [.agg cs] (mask ids M)) (farK ids M K) := by
  refine far_mem (nin_lt hids hB) (closed1 hO hids) (fun v m' => ∃ B', OStr m' d.steps v B' ∧ ∀ b ∈ B', b ∈ B ∨ M.nid ≤ b ∧ b < m'.nid) (fun Q hQ => ?_) fun v m' J hp hn hJ j1 j2 => ?_
  · refine steps_wp2 d hd cs B _ (hO.keep _ fun b hb => mask_in (hids ▸ hb)) hB Q fun v m' B' p1 p2 p3 p4 => hQ v m' ⟨B', p1, p2⟩ p3 p4
  · obtain ⟨B', p1, p2⟩ := hp
    have o := (strR_one p1.str)
    have l : v.loud = false := by rcases p1 with ⟨_, rfl, _⟩ | ⟨_, _, _, _, rfl, _⟩ <;> rfl
    refine hK v m' J o l hn hJ j1 ⟨B', p1.keep fun b hb => ?_, fun b hb => ?_⟩
    · rcases p2 b hb with h | ⟨h, _⟩
      · exact j2 b (.inr (hids ▸ h))
      · exact j2 b (.inl h)
    · rcases p2 b hb with h | ⟨_, h⟩
      · have := hB b h; omega
      · exact h
/-- ahead, in a drawn region. -/
theorem ahead_far {M : Mem} (q : ByteArray) (ps : List (List ByteArray)) (hn : ps.length ≤ 1099511627776) (hp : ∀ p ∈ ps, p.length ≤ 1000000) {v : AV} {B ids : List Nat} {K : Do → Prop} (hO : OPs M ps v B) (hids : ids = B) (hB : ∀ b ∈ B, b < M.nid)
    (hK : ∀ v m' B' J, v.one = true → v.loud = false → M.nid ≤ m'.nid → J = (joinM ids M.nid M m').sto → (∀ j, j < M.nid → J j = M.sto j) → GPs ⟨J, m'.nid⟩ (ps.map (q :: ·)) v B' → Own M.nid m'.nid B' → K (.call ids M.nid v m')) :
    closedB M ids [.str q, v] = true ∧ Comes (fnI CC PR 52 [.str q, v] (mask ids M)) (farK ids M K) := by
  refine far_mem (nin_lt hids hB) (closed3 hO hids) (fun v m' => ∃ B', GPs m' (ps.map (q :: ·)) v B' ∧ Own M.nid m'.nid B') (fun Q hQ => ?_) fun v m' J hp hn hJ j1 j2 => ?_
  · exact ahead_wp q ps hn hp v B _ (hO.keep fun b hb => mask_in (hids ▸ hb)) hB Q fun v m' B' p1 p2 p3 p4 => hQ v m' ⟨B', p1, p2⟩ p3 p4
  · obtain ⟨B', p1, p2⟩ := hp
    obtain ⟨o1, o2⟩ := p1.ps.one
    exact hK v m' B' J o1 o2 hn hJ j1 (p1.keep fun b hb => j2 b (.inl (p2.2 b hb).1)) p2
end Go.Ev.Tryd
