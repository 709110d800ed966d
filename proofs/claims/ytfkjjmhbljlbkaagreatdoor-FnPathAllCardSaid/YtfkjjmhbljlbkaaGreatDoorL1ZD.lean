/- Part of the proof of a statement about the given program: L1ZD. No condition of its own. -/
import Derived.Test.YtfkjjmhbljlbkaaGreatDoorR15ZD
namespace Go.Ev.Tryz
open Go.Proofs
set_option maxRecDepth 10000
set_option linter.unusedSimpArgs false
set_option linter.unusedVariables false
attribute [local congr] comes_congr bB_congr gK_congr gdK_congr

theorem writ_mono : ∀ (n m : Nat) (d : Dat), n ≤ m → writ n d = true → writ m d = true
  | 0, m, d, _, h => by cases h
  | n + 1, 0, d, h, _ => by omega
  | n + 1, m + 1, d, hnm, h => by
    simp only [writ, Bool.and_eq_true, List.all_eq_true] at h ⊢
    exact ⟨h.1, h.2.1, fun x hx => writ_mono n m x (by omega) (h.2.2 x hx)⟩
theorem writ_elem (n : Nat) {d y : Dat} (h : writ (n + 1) d = true) (hm : y ∈ d.list) : writ n y = true := by
  simp only [writ, Bool.and_eq_true, List.all_eq_true] at h
  exact h.2.2 y hm
theorem getP_sane : ∀ (p : List ByteArray) (d x : Dat), d.Sane → writ 8 d = true → getP d p = some x → x.Sane ∧ writ 8 x = true
  | [], d, x, h1, h2, h => by simp [getP] at h; subst h; exact ⟨h1, h2⟩
  | s :: p, d, x, h1, h2, h => by
    simp only [getP, Option.bind_eq_some_iff] at h
    obtain ⟨y, hy, h⟩ := h
    have hm : y ∈ d.list := by
      unfold Dat.step at hy
      split at hy
      · cases hy
      · exact List.mem_of_getElem? hy
    refine getP_sane p y x (h1.elem hm) ?_ h
    exact writ_mono 7 8 y (by omega) (writ_elem 7 h2 hm)
def bytesA (bs : List Int) : AV := .slice 1 (bs.map (.int .u8 ·))
theorem bytes_ok {bs : List Int} (hb : ∀ b ∈ bs, 0 ≤ b ∧ b ≤ 255) : Bytes (bs.take 2000) := ⟨by rw [List.length_take]; omega, fun b h => hb b (List.mem_of_mem_take h)⟩
theorem OpenF_wp (bs : List Int) (m : Mem) (hb : ∀ b ∈ bs, 0 ≤ b ∧ b ≤ 255) (Q : AV × Mem → Prop)
    (hQ : ∀ m', RdAt m' m.nid (bs.take 2000) 0 → m.nid < m'.nid → (∀ j, j < m.nid → m'.sto j = m.sto j) → Q (.ptr m.nid 0 0, m')) :
    Comes (fnI CC PR 13 [.slice 1 (bs.map (.int .u8 ·))] m) Q := by
  refine fnI_wp (rs := [.tmp 2]) Tryz.func13 rfl rfl (Nat.le_of_ble_eq_true rfl) rfl rfl ?_
  simp +decide only [go_sem, Nat.reduceAdd, Nat.reduceMul, Nat.reduceSub, Nat.reduceLT, Nat.reduceLeDiff, Nat.reduceEqDiff, Nat.add_assoc, Int.reduceAdd, Int.reduceSub, Int.reduceMul, Int.reduceLT, Int.reduceLE, Int.reduceEq, Int.reduceNeg, strOp_add, List.length_map]
  refine bB_split (fun hB => ?_) (fun hB => ?_)
  · simp only [decide_eq_true_eq] at hB
    have h1 : (2000 : Int) ≤ (bs.length : Int) := by omega
    simp +decide only [go_sem, Nat.reduceAdd, Nat.reduceMul, Nat.reduceSub, Nat.reduceLT, Nat.reduceLeDiff, Nat.reduceEqDiff, Nat.add_assoc, Int.reduceAdd, Int.reduceSub, Int.reduceMul, Int.reduceLT, Int.reduceLE, Int.reduceEq, Int.reduceNeg, strOp_add, List.length_map, h1]
    exact hQ _ ⟨Nat.lt_succ_self _, 0, Nat.le_refl _, (upd_hit _ _ _).trans (by simp [List.map_take])⟩ (Nat.lt_succ_self _) fun j hj => upd_miss _ _ _ _ (by omega)
  · simp only [decide_eq_false_iff_not] at hB
    simp +decide only [go_sem, Nat.reduceAdd, Nat.reduceMul, Nat.reduceSub, Nat.reduceLT, Nat.reduceLeDiff, Nat.reduceEqDiff, Nat.add_assoc, Int.reduceAdd, Int.reduceSub, Int.reduceMul, Int.reduceLT, Int.reduceLE, Int.reduceEq, Int.reduceNeg, strOp_add, List.length_map]
    have : bs.take 2000 = bs := List.take_of_length_le (by omega)
    rw [this] at hQ
    exact hQ _ ⟨Nat.lt_succ_self _, 0, Nat.le_refl _, (upd_hit _ _ _)⟩ (Nat.lt_succ_self _) fun j hj => upd_miss _ _ _ _ (by omega)
theorem DrawPathGet_ok (bs : List Int) (hb : ∀ b ∈ bs, 0 ≤ b ∧ b ≤ 255) : ∃ (d : Dat) (p : List ByteArray), fnA CC PR 5 [bytesA bs] = some (.tup [d.av, strsA p]) ∧ d.Sane ∧ p.length ≤ 1001 := by
  have key : Comes (fnA CC PR 5 [bytesA bs]) (fun r => ∃ (d : Dat) (p : List ByteArray), r = .tup [d.av, strsA p] ∧ d.Sane ∧ p.length ≤ 1001) := by
    unfold bytesA
    refine fnA_wp (rs := [.cell 2 26, .tmp 3]) Tryz.func5 rfl rfl (Nat.le_of_ble_eq_true rfl) rfl ?_
    simp +decide only [go_sem, Nat.reduceAdd, Nat.reduceMul, Nat.reduceSub, Nat.reduceLT, Nat.reduceLeDiff, Nat.reduceEqDiff, Nat.add_assoc, Int.reduceAdd, Int.reduceSub, Int.reduceMul, Int.reduceLT, Int.reduceLE, Int.reduceEq, Int.reduceNeg, strOp_add]
    refine OpenF_wp bs _ hb _ fun m1 h1 n1 g1 => ?_
    simp +decide only [go_sem, Nat.reduceAdd, Nat.reduceMul, Nat.reduceSub, Nat.reduceLT, Nat.reduceLeDiff, Nat.reduceEqDiff, Nat.add_assoc, Int.reduceAdd, Int.reduceSub, Int.reduceMul, Int.reduceLT, Int.reduceLE, Int.reduceEq, Int.reduceNeg, strOp_add]
    refine AnyBoth_wp _ _ (bs.take 2000) 0 h1 (bytes_ok hb) (by omega) _ fun ss es d m2 hs hd hh h2 f2 => ?_
    obtain ⟨q1, q2, q3, q4, q5, hcs⟩ := cells_of d
    have n2 : m1.nid ≤ m2.nid := f2.1
    rw [hcs]
    simp +decide (disch := first | decide | omega) only [go_sem, Nat.reduceAdd, Nat.reduceMul, Nat.reduceSub, Nat.reduceLT, Nat.reduceLeDiff, Nat.reduceEqDiff, Nat.add_assoc, Int.reduceAdd, Int.reduceSub, Int.reduceMul, Int.reduceLT, Int.reduceLE, Int.reduceEq, Int.reduceNeg, strOp_add]
    refine (d_plan (ord := [0, 1, 2, 3, 4, 5]) (prs := [(0, 2), (0, 3)]) (by kernel_rfl)).2 ?_
    simp +decide (disch := first | decide | omega) only [go_sem, Nat.reduceAdd, Nat.reduceMul, Nat.reduceSub, Nat.reduceLT, Nat.reduceLeDiff, Nat.reduceEqDiff, Nat.add_assoc, Int.reduceAdd, Int.reduceSub, Int.reduceMul, Int.reduceLT, Int.reduceLE, Int.reduceEq, Int.reduceNeg, strOp_add]
    dsimp only at h1 n1 h2 f2 g1
    have g0 := (g1 0 (by omega)).trans (upd_hit _ _ _)
    have hm1 := h1.1
    have hq1 : Quiet (.agg [.int .i64 q1, .int .i64 q2, .str q3, .slice 5 q4, .slice 1 q5]) := quiet_agg (by simp [still])
    have h0 := f2.at (show 0 < m1.nid by omega) (by omega) g0
    have hM : ∀ {x y x' y' : Blk}, RdAt ⟨upd (upd (upd (upd m2.sto m2.nid x) (m2.nid + 1) y) m2.nid x') (m2.nid + 1) y', m2.nid + 8⟩ 1 (bs.take 2000) 4000 := fun {x y x' y'} => ((((h2.mono (by omega)).put (n := m2.nid) (by omega) (Nat.le_refl _)).put (E := m2.nid + 1) (n := m2.nid) (by omega) (Nat.le_refl _)).put (E := m2.nid) (n := m2.nid) (by omega) (Nat.le_refl _)).put (by omega) (by show m2.nid ≤ m2.nid + 8; omega)
    have hU : ∀ {x y x' y' : Blk}, upd (upd (upd (upd m2.sto m2.nid x) (m2.nid + 1) y) m2.nid x') (m2.nid + 1) y' 0 = m2.sto 0 := fun {x y x' y'} => by simp (disch := omega) only [upd_hit, upd_miss]
    refine rd_far (P' := 8000) hM (by rw [reach_rd hM, hq1.1]; rfl) (by
      intro x hx
      rw [List.mem_singleton.1 hx]
      exact hq1) (fun v m' => ∃ p : List ByteArray, p.length ≤ 1001 ∧ v = strsA p) (fun Q hQ => ?_) (fun v m' hv j1 j2 j3 => ?_)
    · rw [← hcs]
      exact Path_wp d hd (by omega) _ 1 _ 4000 (rd_mask hM (by simp)) (bytes_ok hb) (by omega) _ fun p m' k1 k2 k3 => hQ _ _ ⟨p, k1, rfl⟩ (k2.mono (by omega)) k3
    · obtain ⟨p, hp, rfl⟩ := hv
      have f7 := j2.at (show m2.nid + 1 < m2.nid + 8 by omega) (by omega) (upd_hit _ _ _)
      have f0 := j2.2 0 (show 0 < m2.nid + 8 by omega) (by omega)
      dsimp only at f7 f0 j1 j3
      rw [hU, h0] at f0
      generalize hJ : (joinM [1] (m2.nid + 8) ⟨_, m2.nid + 8⟩ m').sto = J at *
      simp +decide (disch := first | decide | omega) only [go_sem, Nat.reduceAdd, Nat.reduceMul, Nat.reduceSub, Nat.reduceLT, Nat.reduceLeDiff, Nat.reduceEqDiff, Nat.add_assoc, Int.reduceAdd, Int.reduceSub, Int.reduceMul, Int.reduceLT, Int.reduceLE, Int.reduceEq, Int.reduceNeg, strOp_add, hJ, f7, f0]
      exact ⟨by omega, d, p, by rw [hcs], hd, hp⟩
  obtain ⟨a, ha, d, p, rfl, h1, h2⟩ := key
  exact ⟨d, p, ha, h1, h2⟩
theorem getP_cons (d : Dat) (q : ByteArray) (r : List ByteArray) : getP d (q :: r) = (getP d [q]).bind fun x => getP x r := by
  simp only [getP]
  cases d.step q <;> simp
theorem pathGet_res (d : Dat) (p : List ByteArray) (hd : d.Sane) : ∃ (x : Dat) (f : Bool), pathGet d p = .tup [x.av, .bool f] ∧ x.Sane ∧ (f = true → writ 8 d = true ∧ getP d p = some x) := by
  have hz : zeroD.Sane := by
    unfold zeroD
    exact .mk _ _ _ _ _ (by unfold i64; omega) (by unfold i64; omega) (by decide) (by simp) (by simp) (by simp) (by simp)
  unfold pathGet
  split
  · rename_i hw
    cases hg : getP d p with
    | none => exact ⟨zeroD, false, rfl, hz, fun h => by cases h⟩
    | some x => exact ⟨x, true, rfl, (getP_sane p d x hd hw hg).1, fun _ => ⟨hw, rfl⟩⟩
  · exact ⟨zeroD, false, rfl, hz, fun h => by cases h⟩
theorem law_FnPathGet (bs : List Int) (hb : ∀ b ∈ bs, 0 ≤ b ∧ b ≤ 255) (hlen : bs.length ≤ 140737488351232) : fnA CC PR 3 [.slice 1 (bs.map (.int .u8 ·))] = some (.bool true) := by
  obtain ⟨d, p, h1, hd, hp⟩ := DrawPathGet_ok bs hb
  unfold bytesA at h1
  obtain ⟨x, f, hx, hxs, hf⟩ := pathGet_res d p hd
  have e1 := PathGet_eq p d (by omega) hd
  have e2 := specPathGet_eq p d (by omega) hd
  have eq := qnDatum_self x hxs
  rw [hx] at e1 e2
  have e3 : ∀ q r, p = q :: r → f = true → ∃ y : Dat, fnA CC PR 6 [d.av, strsA [q]] = some (.tup [y.av, .bool true]) ∧ fnA CC PR 6 [y.av, strsA r] = some (.tup [x.av, .bool true]) := by
    rintro q r rfl hft
    obtain ⟨hw, hg⟩ := hf hft
    rw [getP_cons] at hg
    cases hy : getP d [q] with
    | none => rw [hy] at hg; cases hg
    | some y =>
      rw [hy] at hg
      obtain ⟨y1, y2⟩ := getP_sane [q] d y hd hw hy
      refine ⟨y, ?_, ?_⟩
      · rw [PathGet_eq [q] d (by simp) hd]
        unfold pathGet
        rw [if_pos hw, hy]
        rfl
      · rw [PathGet_eq r y (by simp at hp; omega) y1]
        unfold pathGet
        rw [if_pos y2]
        simp only [Option.bind_some] at hg
        rw [hg]
        rfl
  have e6 : p = [] → f = true → fnA CC PR 8 [x.av, d.av] = some (.bool true) := by
    rintro rfl hft
    have := (hf hft).2
    simp only [getP, Option.some.injEq] at this
    rw [this]
    exact eq
  obtain ⟨d1, d2, d3, d4, d5, hdc⟩ := cells_of d
  obtain ⟨x1, x2, x3, x4, x5, hxc⟩ := cells_of x
  rw [hdc] at h1 e1 e2 e3 e6
  rw [hxc] at e1 e2 e3 e6 eq
  clear hx hf hxs hd hdc hxc
  apply comes_eq.1
  refine fnA_wp (rs := [.tmp 2]) Tryz.func3 rfl rfl (Nat.le_of_ble_eq_true rfl) rfl ?_
  simp +decide only [go_sem, Nat.reduceAdd, Nat.reduceMul, Nat.reduceSub, Nat.reduceLT, Nat.reduceLeDiff, Nat.reduceEqDiff, Nat.add_assoc, Int.reduceAdd, Int.reduceSub, Int.reduceMul, Int.reduceLT, Int.reduceLE, Int.reduceEq, Int.reduceNeg, strOp_add, List.length_map]
  refine bB_split (fun hB => ?_) (fun hB => ?_)
  · simp +decide only [go_sem, Nat.reduceAdd, Nat.reduceMul, Nat.reduceSub, Nat.reduceLT, Nat.reduceLeDiff, Nat.reduceEqDiff, Nat.add_assoc, Int.reduceAdd, Int.reduceSub, Int.reduceMul, Int.reduceLT, Int.reduceLE, Int.reduceEq, Int.reduceNeg, strOp_add]
  · cases hft : f
    all_goals rw [hft] at e1 e2 e3 e6
    · simp +decide only [go_sem, Nat.reduceAdd, Nat.reduceMul, Nat.reduceSub, Nat.reduceLT, Nat.reduceLeDiff, Nat.reduceEqDiff, Nat.add_assoc, Int.reduceAdd, Int.reduceSub, Int.reduceMul, Int.reduceLT, Int.reduceLE, Int.reduceEq, Int.reduceNeg, strOp_add, h1, e1, e2, eq]
    · cases p with
      | nil =>
        have e7 := e6 rfl rfl
        simp +decide only [go_sem, Nat.reduceAdd, Nat.reduceMul, Nat.reduceSub, Nat.reduceLT, Nat.reduceLeDiff, Nat.reduceEqDiff, Nat.add_assoc, Int.reduceAdd, Int.reduceSub, Int.reduceMul, Int.reduceLT, Int.reduceLE, Int.reduceEq, Int.reduceNeg, strOp_add, h1, e1, e2, eq, e7]
      | cons q r =>
        obtain ⟨y, e4, e5⟩ := e3 q r rfl rfl
        obtain ⟨y1, y2, y3, y4, y5, hyc⟩ := cells_of y
        rw [hyc] at e4 e5
        have hz1 : (((r.length + 1 : Nat) : Int) = 0) = False := eq_false (by omega)
        unfold strsA at h1 e1 e2 e4 e5
        simp only [List.map_cons, List.map_nil] at h1 e1 e2 e4 e5
        simp +decide only [go_sem, Nat.reduceAdd, Nat.reduceMul, Nat.reduceSub, Nat.reduceLT, Nat.reduceLeDiff, Nat.reduceEqDiff, Nat.add_assoc, Int.reduceAdd, Int.reduceSub, Int.reduceMul, Int.reduceLT, Int.reduceLE, Int.reduceEq, Int.reduceNeg, strOp_add, h1, e1, e2, eq, List.length_cons, List.length_map, hz1]
        refine (d_plan (ord := [0, 1, 2, 3, 4, 5, 6, 7, 8, 9]) (prs := [(0, 7), (3, 7)]) (by kernel_rfl)).2 ?_
        have hz3 : (1 : Int) ≤ ((r.length + 1 : Nat) : Int) := by omega
        have htk : (r.map AV.str).take r.length = r.map AV.str := List.take_of_length_le (by simp)
        simp +decide only [go_sem, Nat.reduceAdd, Nat.reduceMul, Nat.reduceSub, Nat.reduceLT, Nat.reduceLeDiff, Nat.reduceEqDiff, Nat.add_assoc, Int.reduceAdd, Int.reduceSub, Int.reduceMul, Int.reduceLT, Int.reduceLE, Int.reduceEq, Int.reduceNeg, strOp_add, h1, e1, e2, e4, e5, eq, List.length_cons, List.length_map, hz1, hz3, List.take_succ_cons, List.take_zero]
        refine (d_plan (ord := [0, 1, 2, 3, 4, 5, 6, 7, 8, 9]) (prs := [(0, 7), (3, 7)]) (by kernel_rfl)).2 ?_
        simp +decide only [go_sem, Nat.reduceAdd, Nat.reduceMul, Nat.reduceSub, Nat.reduceLT, Nat.reduceLeDiff, Nat.reduceEqDiff, Nat.add_assoc, Int.reduceAdd, Int.reduceSub, Int.reduceMul, Int.reduceLT, Int.reduceLE, Int.reduceEq, Int.reduceNeg, strOp_add, h1, e1, e2, e4, e5, eq, List.length_cons, List.length_map, hz1, hz3, List.take_succ_cons, List.take_zero, htk, Nat.min_self, List.drop_succ_cons, List.drop_zero]
end Go.Ev.Tryz
