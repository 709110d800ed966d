/- Part of the proof of a statement about the given program: P3ZD. No condition of its own. -/
import Derived.Test.YtfkjjmhbljlbkaaGreatDoorP2ZD
import Derived.Test.YtfkjjmhbljlbkaaGreatDoorL1ZD
namespace Go.Ev.Tryz
open Go.Proofs
set_option maxRecDepth 10000
set_option linter.unusedSimpArgs false
set_option linter.unusedVariables false
attribute [local congr] comes_congr bB_congr gK_congr gdK_congr

theorem dec_inj : ∀ i j : Fin 20, dec (i.val : Int) = dec (j.val : Int) → i = j := by decide +kernel
theorem step_at (n : Nat) (d : Dat) (hw : writ (n + 1) d = true) (hk : d.kind = 3 ∨ d.kind = 4) (i : Nat) (hi : i < d.list.length) (x : ByteArray) (hx : d.steps[i]? = some x) : d.step x = some d.list[i] := by
  have key : firstI (fun y => decide (y = x)) d.steps = i := by
    obtain ⟨hi', rfl⟩ := List.getElem?_eq_some_iff.1 hx
    refine firstI_some hi' (by simp) (fun j hji => ?_)
    simp only [decide_eq_false_iff_not]
    obtain ⟨k, m, t, l, ns⟩ := d
    simp only [writ, Bool.and_eq_true, Dat.names] at hw
    by_cases h4 : k = 4
    · subst h4
      have hs : Dat.steps (.mk 4 m t l ns) = ns := by simp [Dat.steps, Dat.kind, Dat.names]
      have h1 := hw.2.1
      rw [namesOk_split, Bool.and_eq_true, allNew_iff] at h1
      have hi2 : i < ns.length := by rw [hs] at hi'; exact hi'
      have h2 := (newIn_iff hi2).1 (h1.1 i hi2) j hji
      simpa [hs] using h2
    · have h3 : k = 3 := hk.resolve_right h4
      subst h3
      have hs : Dat.steps (.mk 3 m t l ns) = nums l.length := by simp [Dat.steps, Dat.kind, Dat.list]
      have hl : l.length ≤ 20 := by
        rcases shaped_kind hw.1 with ⟨h, _⟩ | ⟨h, _⟩ | ⟨h, _⟩ | ⟨_, h⟩ | ⟨h, _⟩
        all_goals first
          | exact h
          | omega
      have hi3 : i < l.length := hi
      simp only [hs, nums, List.getElem_map, List.getElem_range]
      intro e
      have := dec_inj ⟨j, by omega⟩ ⟨i, by omega⟩ e
      simp only [Fin.mk.injEq] at this
      omega
  unfold Dat.step
  rw [key, if_neg (by omega), Int.toNat_natCast, List.getElem?_eq_getElem hi]
theorem leaf_no : ∀ (n : Nat) (d : Dat), writ n d = true → ∀ q ∈ lv n d, ∃ x, getP d q = some x ∧ ¬ x.kind = 3 ∧ ¬ x.kind = 4
  | 0, d, h, _, _ => by cases h
  | n + 1, d, hw, q, hq => by
    unfold lv at hq
    split at hq
    · rename_i hk
      simp only [List.mem_flatten, List.mem_map] at hq
      obtain ⟨_, ⟨y, hy, rfl⟩, hq⟩ := hq
      obtain ⟨r, hr, rfl⟩ := List.mem_map.1 hq
      obtain ⟨i, hi, he⟩ := List.mem_iff_getElem.1 hy
      have hi2 : i < d.list.length := by rw [List.length_zip] at hi; omega
      have hi1 : i < d.steps.length := by rw [List.length_zip] at hi; omega
      rw [List.getElem_zip] at he
      subst he
      obtain ⟨x, hx, h3⟩ := leaf_no n d.list[i] (writ_elem n hw (List.getElem_mem hi2)) r hr
      refine ⟨x, ?_, h3⟩
      show (d.step d.steps[i]).bind _ = _
      rw [step_at n d hw hk i hi2 _ (List.getElem?_eq_getElem hi1)]
      exact hx
    · rename_i hk
      simp only [List.mem_singleton] at hq
      subst hq
      exact ⟨d, rfl, fun h => hk (.inl h), fun h => hk (.inr h)⟩
def pathAll (d : Dat) : List (List ByteArray) := if writ 8 d = true then lv 8 d else []
theorem specPathAll_eq (d : Dat) (hd : d.Sane) : fnA CC PR 11 [d.av] = some (pathsA (pathAll d)) := by
  have hok := l10Ok_eq 8 d (by omega) hd
  have c8 : ((8 : Nat) : Int) = 8 := rfl
  rw [c8] at hok
  unfold pathAll
  cases hw : writ 8 d
  all_goals rw [hw] at hok
  · obtain ⟨k, n, t, l, ns⟩ := d
    rw [Dat.av_mk] at hok ⊢
    apply comes_eq.1
    refine fnA_wp (rs := [.tmp 2]) Tryz.func11 rfl rfl (Nat.le_of_ble_eq_true rfl) rfl ?_
    simp +decide only [go_sem, Nat.reduceAdd, Nat.reduceMul, Nat.reduceSub, Nat.reduceLT, Nat.reduceLeDiff, Nat.reduceEqDiff, Nat.add_assoc, Int.reduceAdd, Int.reduceSub, Int.reduceMul, Int.reduceLT, Int.reduceLE, Int.reduceEq, Int.reduceNeg, strOp_add, hok]
    rfl
  · have hl := l11All_eq 8 d [] (Nat.le_refl _) hd hw (by simp)
    rw [if_pos rfl]
    have e : (lv 8 d).map (([] : List ByteArray) ++ ·) = lv 8 d := by simp
    rw [e] at hl
    generalize lv 8 d = ps at hl ⊢
    unfold pathsA strsA at *
    obtain ⟨k, n, t, l, ns⟩ := d
    rw [Dat.av_mk] at hok hl ⊢
    simp only [List.map_nil] at hl
    apply comes_eq.1
    refine fnA_wp (rs := [.tmp 2]) Tryz.func11 rfl rfl (Nat.le_of_ble_eq_true rfl) rfl ?_
    simp +decide only [go_sem, Nat.reduceAdd, Nat.reduceMul, Nat.reduceSub, Nat.reduceLT, Nat.reduceLeDiff, Nat.reduceEqDiff, Nat.add_assoc, Int.reduceAdd, Int.reduceSub, Int.reduceMul, Int.reduceLT, Int.reduceLE, Int.reduceEq, Int.reduceNeg, strOp_add, hok, hl]
theorem PathAll_eq (d : Dat) (hd : d.Sane) : fnA CC PR 10 [d.av] = some (pathsA (pathAll d)) := by
  unfold pathAll
  cases hw : writ 8 d
  · have hok := DatumPut_no d hd hw
    obtain ⟨k, n, t, l, ns⟩ := d
    rw [Dat.av_mk] at hok ⊢
    apply comes_eq.1
    refine fnA_wp (rs := [.tmp 2]) Tryz.func10 rfl rfl (Nat.le_of_ble_eq_true rfl) rfl ?_
    simp +decide only [go_sem, Nat.reduceAdd, Nat.reduceMul, Nat.reduceSub, Nat.reduceLT, Nat.reduceLeDiff, Nat.reduceEqDiff, Nat.add_assoc, Int.reduceAdd, Int.reduceSub, Int.reduceMul, Int.reduceLT, Int.reduceLE, Int.reduceEq, Int.reduceNeg, strOp_add, hok]
    rfl
  · obtain ⟨s, hok, hs1⟩ := DatumPut_ok d hd hw
    have hne : ¬ s = ⟨#[]⟩ := by
      intro e
      rw [e] at hs1
      exact absurd hs1 (by decide)
    have hl := leaves_eq 8 d (Nat.le_refl _) hd hw
    rw [if_pos rfl]
    generalize lv 8 d = ps at hl ⊢
    unfold pathsA strsA at *
    obtain ⟨k, n, t, l, ns⟩ := d
    rw [Dat.av_mk] at hok hl ⊢
    apply comes_eq.1
    refine fnA_wp (rs := [.tmp 2]) Tryz.func10 rfl rfl (Nat.le_of_ble_eq_true rfl) rfl ?_
    simp +decide only [go_sem, Nat.reduceAdd, Nat.reduceMul, Nat.reduceSub, Nat.reduceLT, Nat.reduceLeDiff, Nat.reduceEqDiff, Nat.add_assoc, Int.reduceAdd, Int.reduceSub, Int.reduceMul, Int.reduceLT, Int.reduceLE, Int.reduceEq, Int.reduceNeg, strOp_add, hok, hne, hl]
theorem DrawPathAll_ok (bs : List Int) (hb : ∀ b ∈ bs, 0 ≤ b ∧ b ≤ 255) : ∃ d : Dat, fnA CC PR 9 [bytesA bs] = some d.av ∧ d.Sane := by
  have key : Comes (fnA CC PR 9 [bytesA bs]) (fun r => ∃ d : Dat, r = d.av ∧ d.Sane) := by
    unfold bytesA
    refine fnA_wp (rs := [.cell 2 26]) Tryz.func9 rfl rfl (Nat.le_of_ble_eq_true rfl) rfl ?_
    simp +decide only [go_sem, Nat.reduceAdd, Nat.reduceMul, Nat.reduceSub, Nat.reduceLT, Nat.reduceLeDiff, Nat.reduceEqDiff, Nat.add_assoc, Int.reduceAdd, Int.reduceSub, Int.reduceMul, Int.reduceLT, Int.reduceLE, Int.reduceEq, Int.reduceNeg, strOp_add]
    refine OpenF_wp bs _ hb _ fun m1 h1 n1 g1 => ?_
    simp +decide only [go_sem, Nat.reduceAdd, Nat.reduceMul, Nat.reduceSub, Nat.reduceLT, Nat.reduceLeDiff, Nat.reduceEqDiff, Nat.add_assoc, Int.reduceAdd, Int.reduceSub, Int.reduceMul, Int.reduceLT, Int.reduceLE, Int.reduceEq, Int.reduceNeg, strOp_add]
    refine AnyBoth_wp _ _ (bs.take 2000) 0 h1 (bytes_ok hb) (by omega) _ fun ss es d m2 hs hd hh h2 f2 => ?_
    obtain ⟨q1, q2, q3, q4, q5, hcs⟩ := cells_of d
    have n2 : m1.nid ≤ m2.nid := f2.1
    rw [hcs]
    dsimp only at h1 n1 h2 f2 g1
    have g0 := (g1 0 (by omega)).trans (upd_hit _ _ _)
    have hm1 := h1.1
    have h0 := f2.at (show 0 < m1.nid by omega) (by omega) g0
    have hm2 : ¬ m2.nid = 0 := by omega
    simp +decide (disch := first | decide | omega) only [go_sem, Nat.reduceAdd, Nat.reduceMul, Nat.reduceSub, Nat.reduceLT, Nat.reduceLeDiff, Nat.reduceEqDiff, Nat.add_assoc, Int.reduceAdd, Int.reduceSub, Int.reduceMul, Int.reduceLT, Int.reduceLE, Int.reduceEq, Int.reduceNeg, strOp_add, h0]
    exact ⟨d, by rw [hcs], hd⟩
  obtain ⟨a, ha, d, rfl, h1⟩ := key
  exact ⟨d, ha, h1⟩
theorem law_FnPathAll (bs : List Int) (hb : ∀ b ∈ bs, 0 ≤ b ∧ b ≤ 255) (hlen : bs.length ≤ 140737488351232) : fnA CC PR 4 [.slice 1 (bs.map (.int .u8 ·))] = some (.bool true) := by
  obtain ⟨d, h1, hd⟩ := DrawPathAll_ok bs hb
  unfold bytesA at h1
  have e1 := PathAll_eq d hd
  have e2 := specPathAll_eq d hd
  have hshort : ∀ p ∈ pathAll d, p.length ≤ 8 := by
    unfold pathAll
    split
    · exact lv_short 8 d
    · intro p hp
      cases hp
  have hfew : (pathAll d).length ≤ 25600000000 := by
    unfold pathAll
    split
    · rename_i hw
      exact Nat.le_trans (lv_few 8 d hw) (pow20 8 (Nat.le_refl _))
    · exact Nat.zero_le _
  have e3' : ∀ q ∈ pathAll d, ∃ (x : Dat), fnA CC PR 6 [d.av, strsA q] = some (.tup [x.av, .bool true]) ∧ ¬ x.kind = 3 ∧ ¬ x.kind = 4 := by
    intro q hm
    have hp := hshort _ hm
    unfold pathAll at hm
    split at hm
    · rename_i hw
      obtain ⟨x, hx, hn⟩ := leaf_no 8 d hw _ hm
      refine ⟨x, ?_, hn⟩
      rw [PathGet_eq _ d (by omega) hd]
      unfold pathGet
      rw [if_pos hw, hx]
      rfl
    · cases hm
  have e3 : ∀ i, (hi : i < (pathAll d).length) → ∃ (x : Dat), fnA CC PR 6 [d.av, strsA (pathAll d)[i]] = some (.tup [x.av, .bool true]) ∧ ¬ x.kind = 3 ∧ ¬ x.kind = 4 := fun i hi => e3' _ (List.getElem_mem hi)
  clear e3'
  have e4 : ∀ i, (hi : i < (pathAll d).length) → fnA CC PR 12 [strsA (pathAll d)[i], strsA (pathAll d)[i]] = some (.bool true) := fun i hi => by
    rw [qnTexts_eq _ _ (by have := hshort _ (List.getElem_mem hi); omega)]
    simp
  generalize pathAll d = ps at e1 e2 e3 e4 hfew
  obtain ⟨d1, d2, d3, d4, d5, hdc⟩ := cells_of d
  rw [hdc] at h1 e1 e2 e3
  clear hshort hd hdc
  unfold pathsA at e1 e2
  apply comes_eq.1
  refine fnA_wp (rs := [.tmp 2]) Tryz.func4 rfl rfl (Nat.le_of_ble_eq_true rfl) rfl ?_
  simp +decide only [go_sem, Nat.reduceAdd, Nat.reduceMul, Nat.reduceSub, Nat.reduceLT, Nat.reduceLeDiff, Nat.reduceEqDiff, Nat.add_assoc, Int.reduceAdd, Int.reduceSub, Int.reduceMul, Int.reduceLT, Int.reduceLE, Int.reduceEq, Int.reduceNeg, strOp_add, List.length_map]
  refine bB_split (fun hB => ?_) (fun hB => ?_)
  · simp +decide only [go_sem, Nat.reduceAdd, Nat.reduceMul, Nat.reduceSub, Nat.reduceLT, Nat.reduceLeDiff, Nat.reduceEqDiff, Nat.add_assoc, Int.reduceAdd, Int.reduceSub, Int.reduceMul, Int.reduceLT, Int.reduceLE, Int.reduceEq, Int.reduceNeg, strOp_add]
  · simp +decide only [go_sem, Nat.reduceAdd, Nat.reduceMul, Nat.reduceSub, Nat.reduceLT, Nat.reduceLeDiff, Nat.reduceEqDiff, Nat.add_assoc, Int.reduceAdd, Int.reduceSub, Int.reduceMul, Int.reduceLT, Int.reduceLE, Int.reduceEq, Int.reduceNeg, strOp_add, h1, e1, e2, List.length_map]
    refine comes_upto ps.length (fun i st => st.env 3 = .ptr 0 0 0 ∧ st.env 4 = .slice 1 (ps.map strsA) ∧ st.env 5 = .slice 1 (ps.map strsA) ∧ st.env 6 = .int .i64 i ∧ 1 ≤ st.nid ∧ st.sto 0 = ⟨[.int .i64 d1, .int .i64 d2, .str d3, .slice 5 d4, .slice 1 d5], 0, false, some (26, true)⟩) ?_ ?_ _ ?_
    · rintro i st hi ⟨e03, e04, e05, e06, en, s0⟩
      obtain ⟨x, q1, hx3, hx4⟩ := e3 i hi
      have q2 := e4 i hi
      have hat : (ps.map strsA)[i]? = some (.slice 1 (ps[i].map AV.str)) := by simp [hi, strsA]
      have w1 : IntKind.wrap .i64 ((i : Int) + 1) = ((i + 1 : Nat) : Int) := wrap_succ (by omega)
      obtain ⟨k, n, t, l, ns⟩ := x
      rw [Dat.av_mk] at q1
      have hx3' : ¬ k = 3 := hx3
      have hx4' : ¬ k = 4 := hx4
      have q2' := q2
      unfold strsA at q1 q2'
      simp +decide (disch := first | decide | omega) only [go_sem, Nat.reduceAdd, Nat.reduceMul, Nat.reduceSub, Nat.reduceLT, Nat.reduceLeDiff, Nat.reduceEqDiff, Nat.add_assoc, Int.reduceAdd, Int.reduceSub, Int.reduceMul, Int.reduceLT, Int.reduceLE, Int.reduceEq, Int.reduceNeg, strOp_add, e03, e04, e05, e06, hi, List.length_map]
      refine (d_plan (ord := [0, 1, 2, 3, 4, 5, 6, 7, 8, 9, 10, 11]) (prs := [(0, 4), (0, 9), (4, 9), (5, 9)]) (by kernel_rfl)).2 ?_
      simp +decide (disch := first | decide | omega) only [go_sem, Nat.reduceAdd, Nat.reduceMul, Nat.reduceSub, Nat.reduceLT, Nat.reduceLeDiff, Nat.reduceEqDiff, Nat.add_assoc, Int.reduceAdd, Int.reduceSub, Int.reduceMul, Int.reduceLT, Int.reduceLE, Int.reduceEq, Int.reduceNeg, strOp_add, e03, e04, e05, e06, s0, hi, hat, q1, List.length_map]
      refine (d_plan (ord := [0, 1, 2, 3, 4, 5, 6, 7, 8, 9]) (prs := [(3, 7)]) (by kernel_rfl)).2 ?_
      simp +decide (disch := first | decide | omega) only [go_sem, Nat.reduceAdd, Nat.reduceMul, Nat.reduceSub, Nat.reduceLT, Nat.reduceLeDiff, Nat.reduceEqDiff, Nat.add_assoc, Int.reduceAdd, Int.reduceSub, Int.reduceMul, Int.reduceLT, Int.reduceLE, Int.reduceEq, Int.reduceNeg, strOp_add, e03, e04, e05, e06, s0, hi, hat, q1, q2', hx3', hx4', w1, List.length_map]
    · rintro st ⟨e03, e04, e05, e06, en, s0⟩
      simp +decide only [go_sem, Nat.reduceAdd, Nat.reduceMul, Nat.reduceSub, Nat.reduceLT, Nat.reduceLeDiff, Nat.reduceEqDiff, Nat.add_assoc, Int.reduceAdd, Int.reduceSub, Int.reduceMul, Int.reduceLT, Int.reduceLE, Int.reduceEq, Int.reduceNeg, strOp_add, e03, e04, e05, e06, List.length_map]
    · simp +decide only [go_sem, Nat.reduceAdd, Nat.reduceMul, Nat.reduceSub, Nat.reduceLT, Nat.reduceLeDiff, Nat.reduceEqDiff, Nat.add_assoc, Int.reduceAdd, Int.reduceSub, Int.reduceMul, Int.reduceLT, Int.reduceLE, Int.reduceEq, Int.reduceNeg, strOp_add]
      rfl
end Go.Ev.Tryz
