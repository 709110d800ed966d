/- Part of the proof of a statement about the given program: U1F U2F U3F. No condition of its own. -/
import Derived.Test.YtjjebjackjeneaaDoorQ1F
section
namespace Go.Ev.Tryd
open Go.Proofs
set_option maxRecDepth 10000
set_option linter.unusedSimpArgs false
set_option linter.unusedVariables false
attribute [local congr] comes_congr bB_congr gK_congr gdK_congr

theorem Equal_eq (xs ys : List ByteArray) (h : xs.length ≤ 1099511627776) : fnA CC PR 50 [strsA xs, strsA ys] = some (.bool (decide (xs = ys))) := by
  apply comes_eq.1
  refine fnA_wp (rs := [.tmp 4]) Tryd.func50 rfl rfl (Nat.le_of_ble_eq_true rfl) rfl ?_
  by_cases hl : xs.length = ys.length
  · have hli : ((xs.length : Int) = (ys.length : Int)) = True := eq_true (by omega)
    simp +decide only [go_sem, Nat.reduceAdd, Nat.reduceMul, Nat.reduceSub, Nat.reduceLT, Nat.reduceLeDiff, Nat.reduceEqDiff, Nat.add_assoc, Int.reduceAdd, Int.reduceSub, Int.reduceMul, Int.reduceLT, Int.reduceLE, Int.reduceEq, Int.reduceNeg, strOp_add, List.length_map, hli]
    refine comes_upto xs.length (fun i st => st.env 0 = strsA xs ∧ st.env 1 = strsA ys ∧ st.env 12 = .int .i64 xs.length ∧ st.env 13 = .int .i64 i ∧ ∀ j, (hj : j < xs.length) → j < i → xs[j] = ys[j]'(by omega)) ?_ ?_ _ ?_
    · rintro i st hi ⟨e0, e1, e12, e13, hj⟩
      have hi2 : i < ys.length := by omega
      have w1 : IntKind.wrap .i64 ((i : Int) + 1) = ((i + 1 : Nat) : Int) := wrap_succ (by omega)
      simp +decide only [go_sem, Nat.reduceAdd, Nat.reduceMul, Nat.reduceSub, Nat.reduceLT, Nat.reduceLeDiff, Nat.reduceEqDiff, Nat.add_assoc, Int.reduceAdd, Int.reduceSub, Int.reduceMul, Int.reduceLT, Int.reduceLE, Int.reduceEq, Int.reduceNeg, strOp_add, e0, e1, e12, e13, hi, hi2, List.length_map, strs_at hi, strs_at hi2, w1]
      refine (d_plan (ord := [0, 1, 2, 3, 4, 5, 6, 7, 8]) (prs := [(3, 7)]) (by kernel_rfl)).2 ?_
      simp +decide only [go_sem, Nat.reduceAdd, Nat.reduceMul, Nat.reduceSub, Nat.reduceLT, Nat.reduceLeDiff, Nat.reduceEqDiff, Nat.add_assoc, Int.reduceAdd, Int.reduceSub, Int.reduceMul, Int.reduceLT, Int.reduceLE, Int.reduceEq, Int.reduceNeg, strOp_add, e0, e1, e12, e13, hi, hi2, List.length_map, strs_at hi, strs_at hi2, w1]
      refine bB_split (fun hB => ?_) (fun hB => ?_)
      · simp only [decide_eq_true_eq] at hB
        simp +decide only [go_sem, Nat.reduceAdd, Nat.reduceMul, Nat.reduceSub, Nat.reduceLT, Nat.reduceLeDiff, Nat.reduceEqDiff, Nat.add_assoc, Int.reduceAdd, Int.reduceSub, Int.reduceMul, Int.reduceLT, Int.reduceLE, Int.reduceEq, Int.reduceNeg, strOp_add, e0, e1, e12, e13, w1]
        intro j h1 h2
        rcases Nat.lt_or_ge j i with h3 | h3
        · exact hj j h1 h3
        · have : j = i := by omega
          subst this
          exact hB
      · simp only [decide_eq_false_iff_not] at hB
        simp +decide only [go_sem, Nat.reduceAdd, Nat.reduceMul, Nat.reduceSub, Nat.reduceLT, Nat.reduceLeDiff, Nat.reduceEqDiff, Nat.add_assoc, Int.reduceAdd, Int.reduceSub, Int.reduceMul, Int.reduceLT, Int.reduceLE, Int.reduceEq, Int.reduceNeg, strOp_add, e0, e1, e12, e13, w1]
        have : ¬ xs = ys := by
          intro e
          subst e
          exact hB rfl
        simp [this]
    · rintro st ⟨e0, e1, e12, e13, hj⟩
      simp +decide only [go_sem, Nat.reduceAdd, Nat.reduceMul, Nat.reduceSub, Nat.reduceLT, Nat.reduceLeDiff, Nat.reduceEqDiff, Nat.add_assoc, Int.reduceAdd, Int.reduceSub, Int.reduceMul, Int.reduceLT, Int.reduceLE, Int.reduceEq, Int.reduceNeg, strOp_add, e0, e1, e12, e13, List.length_map]
      have : xs = ys := List.ext_getElem hl fun j h1 _ => hj j h1 h1
      simp [this]
    · simp +decide only [go_sem, Nat.reduceAdd, Nat.reduceMul, Nat.reduceSub, Nat.reduceLT, Nat.reduceLeDiff, Nat.reduceEqDiff, Nat.add_assoc, Int.reduceAdd, Int.reduceSub, Int.reduceMul, Int.reduceLT, Int.reduceLE, Int.reduceEq, Int.reduceNeg, strOp_add]
      simp
  · have hli : ((xs.length : Int) = (ys.length : Int)) = False := eq_false (by omega)
    have : ¬ xs = ys := fun e => hl (by rw [e])
    simp +decide only [go_sem, Nat.reduceAdd, Nat.reduceMul, Nat.reduceSub, Nat.reduceLT, Nat.reduceLeDiff, Nat.reduceEqDiff, Nat.add_assoc, Int.reduceAdd, Int.reduceSub, Int.reduceMul, Int.reduceLT, Int.reduceLE, Int.reduceEq, Int.reduceNeg, strOp_add, List.length_map, hli]
    simp [this]
open Classical in
/-- Whether two data are the same. -/
noncomputable def sm (x y : Dat) : Bool := decide (x = y)
theorem sm_iff {x y : Dat} : sm x y = true ↔ x = y := by simp [sm]
theorem EqualFunc_eq (xs ys : List Dat) (hx : xs.length ≤ 1099511627776) (hf : ∀ x ∈ xs, ∀ y ∈ ys, fnA CC PR 48 [x.av, y.av] = some (.bool (sm x y))) (b : Bool) (hb : b = true ↔ xs = ys) :
    fnA CC PR 69 [.slice 5 (xs.map Dat.av), .slice 5 (ys.map Dat.av), .fn 48 []] = some (.bool b) := by
  apply comes_eq.1
  refine fnA_wp (rs := [.tmp 6]) Tryd.func69 rfl rfl (Nat.le_of_ble_eq_true rfl) rfl ?_
  by_cases hl : xs.length = ys.length
  · have hli : ((xs.length : Int) = (ys.length : Int)) = True := eq_true (by omega)
    simp +decide only [go_sem, Nat.reduceAdd, Nat.reduceMul, Nat.reduceSub, Nat.reduceLT, Nat.reduceLeDiff, Nat.reduceEqDiff, Nat.add_assoc, Int.reduceAdd, Int.reduceSub, Int.reduceMul, Int.reduceLT, Int.reduceLE, Int.reduceEq, Int.reduceNeg, strOp_add, List.length_map, hli]
    refine comes_upto xs.length (fun i st => st.env 1 = .slice 5 (ys.map Dat.av) ∧ st.env 2 = .fn 48 [] ∧ st.env 15 = .slice 5 (xs.map Dat.av) ∧ st.env 16 = .int .i64 xs.length ∧ st.env 17 = .int .i64 i ∧ ∀ j, (hj : j < xs.length) → j < i → xs[j] = ys[j]'(by omega)) ?_ ?_ _ ?_
    · rintro i st hi ⟨e1, e2, e15, e16, e17, hj⟩
      have hi2 : i < ys.length := by omega
      have w1 : IntKind.wrap .i64 ((i : Int) + 1) = ((i + 1 : Nat) : Int) := wrap_succ (by omega)
      obtain ⟨a1, a2, a3, a4, a5, hcs⟩ := cells_of xs[i]
      obtain ⟨b1, b2, b3, b4, b5, hcs2⟩ := cells_of ys[i]
      have ha := av_at hi
      have ha2 := av_at hi2
      have hq := hf xs[i] (List.getElem_mem hi) ys[i] (List.getElem_mem hi2)
      rw [hcs] at ha hq
      rw [hcs2] at ha2 hq
      cases hB : sm xs[i] ys[i]
      · rw [hB] at hq
        simp +decide (disch := first | decide | omega) only [go_sem, Nat.reduceAdd, Nat.reduceMul, Nat.reduceSub, Nat.reduceLT, Nat.reduceLeDiff, Nat.reduceEqDiff, Nat.add_assoc, Int.reduceAdd, Int.reduceSub, Int.reduceMul, Int.reduceLT, Int.reduceLE, Int.reduceEq, Int.reduceNeg, strOp_add, e1, e2, e15, e16, e17, hi, hi2, ha, ha2, hq, w1, List.length_map]
        have : ¬ xs = ys := by
          intro e
          subst e
          rw [sm_iff.2 rfl] at hB
          cases hB
        have hbf : b = false := by
          cases b with
          | false => rfl
          | true => exact absurd (hb.1 rfl) this
        simp [hbf]
      · rw [hB] at hq
        have hB' := sm_iff.1 hB
        simp +decide (disch := first | decide | omega) only [go_sem, Nat.reduceAdd, Nat.reduceMul, Nat.reduceSub, Nat.reduceLT, Nat.reduceLeDiff, Nat.reduceEqDiff, Nat.add_assoc, Int.reduceAdd, Int.reduceSub, Int.reduceMul, Int.reduceLT, Int.reduceLE, Int.reduceEq, Int.reduceNeg, strOp_add, e1, e2, e15, e16, e17, hi, hi2, ha, ha2, hq, w1, List.length_map]
        intro j h1 h2
        rcases Nat.lt_or_ge j i with h3 | h3
        · exact hj j h1 h3
        · have : j = i := by omega
          subst this
          exact hB'
    · rintro st ⟨e1, e2, e15, e16, e17, hj⟩
      simp +decide only [go_sem, Nat.reduceAdd, Nat.reduceMul, Nat.reduceSub, Nat.reduceLT, Nat.reduceLeDiff, Nat.reduceEqDiff, Nat.add_assoc, Int.reduceAdd, Int.reduceSub, Int.reduceMul, Int.reduceLT, Int.reduceLE, Int.reduceEq, Int.reduceNeg, strOp_add, e1, e2, e15, e16, e17, List.length_map]
      have : xs = ys := List.ext_getElem hl fun j h1 _ => hj j h1 h1
      simp [hb.2 this]
    · simp +decide only [go_sem, Nat.reduceAdd, Nat.reduceMul, Nat.reduceSub, Nat.reduceLT, Nat.reduceLeDiff, Nat.reduceEqDiff, Nat.add_assoc, Int.reduceAdd, Int.reduceSub, Int.reduceMul, Int.reduceLT, Int.reduceLE, Int.reduceEq, Int.reduceNeg, strOp_add]
      simp
  · have hli : ((xs.length : Int) = (ys.length : Int)) = False := eq_false (by omega)
    have : ¬ xs = ys := fun e => hl (by rw [e])
    have hbf : b = false := by
      cases b with
      | false => rfl
      | true => exact absurd (hb.1 rfl) this
    simp +decide only [go_sem, Nat.reduceAdd, Nat.reduceMul, Nat.reduceSub, Nat.reduceLT, Nat.reduceLeDiff, Nat.reduceEqDiff, Nat.add_assoc, Int.reduceAdd, Int.reduceSub, Int.reduceMul, Int.reduceLT, Int.reduceLE, Int.reduceEq, Int.reduceNeg, strOp_add, List.length_map, hli]
    simp [hbf]
theorem DatumSame_eq : ∀ (x y : Dat), x.Sane → fnA CC PR 48 [x.av, y.av] = some (.bool (sm x y)) := by
  intro x
  induction x using Dat.ind with
  | h k n t l ns ih =>
  intro y hd
  obtain ⟨k2, n2, t2, l2, ns2⟩ := y
  cases hd with
  | mk _ _ _ _ _ hk hn ht hl hns hss h =>
  have hq := Equal_eq ns ns2 hns
  have hsm : ∀ b : Bool, (b = true ↔ (Dat.mk k n t l ns = Dat.mk k2 n2 t2 l2 ns2)) → sm (.mk k n t l ns) (.mk k2 n2 t2 l2 ns2) = b := fun b hb => by
    rw [Bool.eq_iff_iff, sm_iff, hb]
  rw [Dat.av_mk, Dat.av_mk]
  apply comes_eq.1
  unfold strsA at hq
  by_cases e1 : k = k2
  · by_cases e2 : n = n2
    · by_cases e3 : t = t2
      · by_cases e5 : ns = ns2
        · subst e1 e2 e3 e5
          rw [decide_eq_true rfl] at hq
          have hf := fun b hb => EqualFunc_eq l l2 hl (fun x hx y hy => ih x hx y (h x hx)) b hb
          by_cases e6 : l = l2
          · have hf' := hf true (by simp [e6])
            rw [hsm true (by simp [e6])]
            refine fnA_wp (rs := [.tmp 4]) Tryd.func48 rfl rfl (Nat.le_of_ble_eq_true rfl) rfl ?_
            simp +decide only [go_sem, Nat.reduceAdd, Nat.reduceMul, Nat.reduceSub, Nat.reduceLT, Nat.reduceLeDiff, Nat.reduceEqDiff, Nat.add_assoc, Int.reduceAdd, Int.reduceSub, Int.reduceMul, Int.reduceLT, Int.reduceLE, Int.reduceEq, Int.reduceNeg, strOp_add, List.length_map, hq, hf']
          · have hf' := hf false (by simp [e6])
            rw [hsm false (by simp [e6])]
            refine fnA_wp (rs := [.tmp 4]) Tryd.func48 rfl rfl (Nat.le_of_ble_eq_true rfl) rfl ?_
            simp +decide only [go_sem, Nat.reduceAdd, Nat.reduceMul, Nat.reduceSub, Nat.reduceLT, Nat.reduceLeDiff, Nat.reduceEqDiff, Nat.add_assoc, Int.reduceAdd, Int.reduceSub, Int.reduceMul, Int.reduceLT, Int.reduceLE, Int.reduceEq, Int.reduceNeg, strOp_add, List.length_map, hq, hf']
        · subst e1 e2 e3
          rw [decide_eq_false e5] at hq
          rw [hsm false (by simp [e5])]
          refine fnA_wp (rs := [.tmp 4]) Tryd.func48 rfl rfl (Nat.le_of_ble_eq_true rfl) rfl ?_
          simp +decide only [go_sem, Nat.reduceAdd, Nat.reduceMul, Nat.reduceSub, Nat.reduceLT, Nat.reduceLeDiff, Nat.reduceEqDiff, Nat.add_assoc, Int.reduceAdd, Int.reduceSub, Int.reduceMul, Int.reduceLT, Int.reduceLE, Int.reduceEq, Int.reduceNeg, strOp_add, List.length_map, hq]
      · rw [hsm false (by simp [e3])]
        subst e1 e2
        refine fnA_wp (rs := [.tmp 4]) Tryd.func48 rfl rfl (Nat.le_of_ble_eq_true rfl) rfl ?_
        simp +decide only [go_sem, Nat.reduceAdd, Nat.reduceMul, Nat.reduceSub, Nat.reduceLT, Nat.reduceLeDiff, Nat.reduceEqDiff, Nat.add_assoc, Int.reduceAdd, Int.reduceSub, Int.reduceMul, Int.reduceLT, Int.reduceLE, Int.reduceEq, Int.reduceNeg, strOp_add, e3]
    · rw [hsm false (by simp [e2])]
      subst e1
      refine fnA_wp (rs := [.tmp 4]) Tryd.func48 rfl rfl (Nat.le_of_ble_eq_true rfl) rfl ?_
      simp +decide only [go_sem, Nat.reduceAdd, Nat.reduceMul, Nat.reduceSub, Nat.reduceLT, Nat.reduceLeDiff, Nat.reduceEqDiff, Nat.add_assoc, Int.reduceAdd, Int.reduceSub, Int.reduceMul, Int.reduceLT, Int.reduceLE, Int.reduceEq, Int.reduceNeg, strOp_add, e2]
  · rw [hsm false (by simp [e1])]
    refine fnA_wp (rs := [.tmp 4]) Tryd.func48 rfl rfl (Nat.le_of_ble_eq_true rfl) rfl ?_
    simp +decide only [go_sem, Nat.reduceAdd, Nat.reduceMul, Nat.reduceSub, Nat.reduceLT, Nat.reduceLeDiff, Nat.reduceEqDiff, Nat.add_assoc, Int.reduceAdd, Int.reduceSub, Int.reduceMul, Int.reduceLT, Int.reduceLE, Int.reduceEq, Int.reduceNeg, strOp_add, e1]
end Go.Ev.Tryd
end
section
namespace Go.Ev.Tryd
open Go.Proofs
set_option maxRecDepth 10000
set_option linter.unusedSimpArgs false
set_option linter.unusedVariables false
attribute [local congr] comes_congr bB_congr gK_congr gdK_congr

noncomputable def dfF (n : Nat) (x : ByteArray × Dat × Dat) : List (List ByteArray) := (df n x.2.1 x.2.2).map (x.1 :: ·)
theorem list_few {n : Nat} {d : Dat} (h : writ (n + 1) d = true) : d.list.length ≤ 20 := by
  obtain ⟨k, m, t, l, ns⟩ := d
  simp only [writ, Bool.and_eq_true] at h
  have := shaped_kind h.1
  simp only [Dat.list]
  rcases this with ⟨_, rfl⟩ | ⟨_, rfl, _⟩ | ⟨_, rfl, _⟩ | ⟨_, h⟩ | ⟨_, h, h2⟩
  all_goals first
    | exact Nat.zero_le _
    | omega
theorem df_few : ∀ (n : Nat) (a b : Dat), writ n a = true → (df n a b).length ≤ 20 ^ n
  | 0, a, b, h => by cases h
  | n + 1, a, b, h => by
    have hd := list_few h
    unfold df
    split
    · exact Nat.zero_le _
    · split
      · have h1 := sum_le (20 ^ n) ((a.steps.zip (a.list.zip b.list)).map fun x => (df n x.2.1 x.2.2).map (x.1 :: ·)) fun y hy => by
          obtain ⟨x, hx, rfl⟩ := List.mem_map.1 hy
          rw [List.length_map]
          exact df_few n x.2.1 x.2.2 (writ_elem0 n h (List.of_mem_zip (List.of_mem_zip hx).2).1)
        have h2 : ((a.steps.zip (a.list.zip b.list)).map fun x => (df n x.2.1 x.2.2).map (x.1 :: ·)).length ≤ 20 := by
          rw [List.length_map, List.length_zip, List.length_zip]
          omega
        refine Nat.le_trans h1 ?_
        rw [Nat.pow_succ, Nat.mul_comm (20 ^ n)]
        exact Nat.mul_le_mul_right _ h2
      · exact Nat.pow_pos (by decide)
end Go.Ev.Tryd
end
section
namespace Go.Ev.Tryd
open Go.Proofs
set_option maxRecDepth 10000
set_option linter.unusedSimpArgs false
set_option linter.unusedVariables false
attribute [local congr] comes_congr bB_congr gK_congr gdK_congr

theorem l10Same_eq : ∀ (x y : Dat), x.Sane → fnA CC PR 43 [x.av, y.av] = some (.bool (sm x y)) := by
  intro x
  induction x using Dat.ind with
  | h k n t l ns ih =>
  intro y hd
  obtain ⟨k2, n2, t2, l2, ns2⟩ := y
  cases hd with
  | mk _ _ _ _ _ hk hn ht hl hns hss h =>
  have hsm : ∀ b : Bool, (b = true ↔ (Dat.mk k n t l ns = Dat.mk k2 n2 t2 l2 ns2)) → sm (.mk k n t l ns) (.mk k2 n2 t2 l2 ns2) = b := fun b hb => by
    rw [Bool.eq_iff_iff, sm_iff, hb]
  rw [Dat.av_mk, Dat.av_mk]
  apply comes_eq.1
  by_cases e1 : k = k2
  · by_cases e2 : n = n2
    · by_cases e3 : t = t2
      · by_cases e4 : l.length = l2.length
        · by_cases e5 : ns.length = ns2.length
          · subst e1 e2 e3
            have e4' : ((l.length : Int) = (l2.length : Int)) = True := eq_true (by omega)
            have e5' : ((ns.length : Int) = (ns2.length : Int)) = True := eq_true (by omega)
            refine fnA_wp (rs := [.tmp 4]) Tryd.func43 rfl rfl (Nat.le_of_ble_eq_true rfl) rfl ?_
            simp +decide only [go_sem, Nat.reduceAdd, Nat.reduceMul, Nat.reduceSub, Nat.reduceLT, Nat.reduceLeDiff, Nat.reduceEqDiff, Nat.add_assoc, Int.reduceAdd, Int.reduceSub, Int.reduceMul, Int.reduceLT, Int.reduceLE, Int.reduceEq, Int.reduceNeg, strOp_add, List.length_map, e4', e5']
            refine comes_upto l.length (fun i st => st.env 2 = .ptr 0 0 0 ∧ st.env 3 = .ptr 1 0 0 ∧ st.env 5 = .int .i64 i ∧ 2 ≤ st.nid ∧ st.sto 0 = ⟨[.int .i64 k, .int .i64 n, .str t, .slice 5 (l.map Dat.av), .slice 1 (ns.map AV.str)], 0, false, none⟩ ∧ st.sto 1 = ⟨[.int .i64 k, .int .i64 n, .str t, .slice 5 (l2.map Dat.av), .slice 1 (ns2.map AV.str)], 0, false, none⟩ ∧ ∀ j, (hj : j < l.length) → j < i → l[j] = l2[j]'(by omega)) ?_ ?_ _ ?_
            · rintro i st hi ⟨e2, e3, e5, en, s0, s1, hsame⟩
              have hi2 : i < l2.length := by omega
              obtain ⟨a1, a2, a3, a4, a5, hcs⟩ := cells_of l[i]
              obtain ⟨b1, b2, b3, b4, b5, hcs2⟩ := cells_of l2[i]
              have ha := av_at hi
              have ha2 := av_at hi2
              have w1 : IntKind.wrap .i64 ((i : Int) + 1) = ((i + 1 : Nat) : Int) := wrap_succ (by omega)
              have hqq := ih _ (List.getElem_mem hi) l2[i] (h _ (List.getElem_mem hi))
              cases hB : sm l[i] l2[i]
              all_goals
                rw [hB] at hqq
                rw [hcs] at ha hqq
                rw [hcs2] at ha2 hqq
                simp +decide only [go_sem, Nat.reduceAdd, Nat.reduceMul, Nat.reduceSub, Nat.reduceLT, Nat.reduceLeDiff, Nat.reduceEqDiff, Nat.add_assoc, Int.reduceAdd, Int.reduceSub, Int.reduceMul, Int.reduceLT, Int.reduceLE, Int.reduceEq, Int.reduceNeg, strOp_add, e2, e3, e5, s0, s1, hi, hi2, List.length_map, ha, ha2, hqq, w1]
                refine (d_plan (ord := [0, 1, 2, 3, 4, 5, 6, 7, 8, 9, 10, 11]) (prs := [(1, 6), (4, 6), (1, 9), (4, 9)]) (by kernel_rfl)).2 ?_
                simp +decide only [go_sem, Nat.reduceAdd, Nat.reduceMul, Nat.reduceSub, Nat.reduceLT, Nat.reduceLeDiff, Nat.reduceEqDiff, Nat.add_assoc, Int.reduceAdd, Int.reduceSub, Int.reduceMul, Int.reduceLT, Int.reduceLE, Int.reduceEq, Int.reduceNeg, strOp_add, e2, e3, e5, s0, s1, hi, hi2, List.length_map, ha, ha2, hqq, w1]
              · have hne : ¬ l = l2 := by
                  intro e
                  subst e
                  rw [sm_iff.2 rfl] at hB
                  cases hB
                rw [hsm false (by simp [hne])]
              · intro j h1 h2
                rcases Nat.lt_or_ge j i with h3 | h3
                · exact hsame j h1 h3
                · have : j = i := by omega
                  subst this
                  exact sm_iff.1 hB
            · rintro st ⟨e2, e3, e5, en, s0, s1, hsame⟩
              have hll : l = l2 := List.ext_getElem (by omega) fun j h1 h2 => hsame j h1 h1
              simp +decide only [go_sem, Nat.reduceAdd, Nat.reduceMul, Nat.reduceSub, Nat.reduceLT, Nat.reduceLeDiff, Nat.reduceEqDiff, Nat.add_assoc, Int.reduceAdd, Int.reduceSub, Int.reduceMul, Int.reduceLT, Int.reduceLE, Int.reduceEq, Int.reduceNeg, strOp_add, e2, e3, e5, s0, s1, List.length_map]
              refine comes_upto ns.length (fun i st => st.env 2 = .ptr 0 0 0 ∧ st.env 3 = .ptr 1 0 0 ∧ st.env 6 = .int .i64 i ∧ 2 ≤ st.nid ∧ st.sto 0 = ⟨[.int .i64 k, .int .i64 n, .str t, .slice 5 (l.map Dat.av), .slice 1 (ns.map AV.str)], 0, false, none⟩ ∧ st.sto 1 = ⟨[.int .i64 k, .int .i64 n, .str t, .slice 5 (l2.map Dat.av), .slice 1 (ns2.map AV.str)], 0, false, none⟩ ∧ ∀ j, (hj : j < ns.length) → j < i → ns[j] = ns2[j]'(by omega)) ?_ ?_ _ ?_
              · rintro i st hi ⟨e2, e3, e6, en, s0, s1, hn2⟩
                have hi2 : i < ns2.length := by omega
                have w1 : IntKind.wrap .i64 ((i : Int) + 1) = ((i + 1 : Nat) : Int) := wrap_succ (by omega)
                simp +decide only [go_sem, Nat.reduceAdd, Nat.reduceMul, Nat.reduceSub, Nat.reduceLT, Nat.reduceLeDiff, Nat.reduceEqDiff, Nat.add_assoc, Int.reduceAdd, Int.reduceSub, Int.reduceMul, Int.reduceLT, Int.reduceLE, Int.reduceEq, Int.reduceNeg, strOp_add, e2, e3, e6, s0, s1, hi, hi2, List.length_map, strs_at hi, strs_at hi2, w1]
                refine (d_plan (ord := [0, 1, 2, 3, 4, 5, 6, 7, 8, 9, 10]) (prs := [(1, 6), (4, 6), (1, 9), (4, 9)]) (by kernel_rfl)).2 ?_
                simp +decide only [go_sem, Nat.reduceAdd, Nat.reduceMul, Nat.reduceSub, Nat.reduceLT, Nat.reduceLeDiff, Nat.reduceEqDiff, Nat.add_assoc, Int.reduceAdd, Int.reduceSub, Int.reduceMul, Int.reduceLT, Int.reduceLE, Int.reduceEq, Int.reduceNeg, strOp_add, e2, e3, e6, s0, s1, hi, hi2, List.length_map, strs_at hi, strs_at hi2, w1]
                refine bB_split (fun hB => ?_) (fun hB => ?_)
                · simp only [decide_eq_true_eq] at hB
                  simp +decide only [go_sem, Nat.reduceAdd, Nat.reduceMul, Nat.reduceSub, Nat.reduceLT, Nat.reduceLeDiff, Nat.reduceEqDiff, Nat.add_assoc, Int.reduceAdd, Int.reduceSub, Int.reduceMul, Int.reduceLT, Int.reduceLE, Int.reduceEq, Int.reduceNeg, strOp_add, e2, e3, e6, s0, s1, w1]
                  intro j h1 h2
                  rcases Nat.lt_or_ge j i with h3 | h3
                  · exact hn2 j h1 h3
                  · have : j = i := by omega
                    subst this
                    exact hB
                · simp only [decide_eq_false_iff_not] at hB
                  simp +decide only [go_sem, Nat.reduceAdd, Nat.reduceMul, Nat.reduceSub, Nat.reduceLT, Nat.reduceLeDiff, Nat.reduceEqDiff, Nat.add_assoc, Int.reduceAdd, Int.reduceSub, Int.reduceMul, Int.reduceLT, Int.reduceLE, Int.reduceEq, Int.reduceNeg, strOp_add, e2, e3, e6, w1]
                  have : ¬ ns = ns2 := by
                    intro e
                    subst e
                    exact hB rfl
                  rw [hsm false (by simp [this])]
              · rintro st ⟨e2, e3, e6, en, s0, s1, hn2⟩
                have hnn : ns = ns2 := List.ext_getElem (by omega) fun j h1 h2 => hn2 j h1 h1
                simp +decide only [go_sem, Nat.reduceAdd, Nat.reduceMul, Nat.reduceSub, Nat.reduceLT, Nat.reduceLeDiff, Nat.reduceEqDiff, Nat.add_assoc, Int.reduceAdd, Int.reduceSub, Int.reduceMul, Int.reduceLT, Int.reduceLE, Int.reduceEq, Int.reduceNeg, strOp_add, e2, e3, e6, s0, s1, List.length_map]
                rw [hsm true (by simp [hll, hnn])]
              · simp +decide only [go_sem, Nat.reduceAdd, Nat.reduceMul, Nat.reduceSub, Nat.reduceLT, Nat.reduceLeDiff, Nat.reduceEqDiff, Nat.add_assoc, Int.reduceAdd, Int.reduceSub, Int.reduceMul, Int.reduceLT, Int.reduceLE, Int.reduceEq, Int.reduceNeg, strOp_add, e2, e3, s0, s1]
                refine ⟨rfl, en, ?_⟩
                simp
            · simp +decide only [go_sem, Nat.reduceAdd, Nat.reduceMul, Nat.reduceSub, Nat.reduceLT, Nat.reduceLeDiff, Nat.reduceEqDiff, Nat.add_assoc, Int.reduceAdd, Int.reduceSub, Int.reduceMul, Int.reduceLT, Int.reduceLE, Int.reduceEq, Int.reduceNeg, strOp_add]
              simp
          · have hne : ¬ ns = ns2 := fun e => e5 (by rw [e])
            rw [hsm false (by simp [hne])]
            subst e1 e2 e3
            have e4' : ((l.length : Int) = (l2.length : Int)) = True := eq_true (by omega)
            have e5' : ((ns.length : Int) = (ns2.length : Int)) = False := eq_false (by omega)
            refine fnA_wp (rs := [.tmp 4]) Tryd.func43 rfl rfl (Nat.le_of_ble_eq_true rfl) rfl ?_
            simp +decide only [go_sem, Nat.reduceAdd, Nat.reduceMul, Nat.reduceSub, Nat.reduceLT, Nat.reduceLeDiff, Nat.reduceEqDiff, Nat.add_assoc, Int.reduceAdd, Int.reduceSub, Int.reduceMul, Int.reduceLT, Int.reduceLE, Int.reduceEq, Int.reduceNeg, strOp_add, List.length_map, e4', e5']
        · have hne : ¬ l = l2 := fun e => e4 (by rw [e])
          rw [hsm false (by simp [hne])]
          subst e1 e2 e3
          have e4' : ((l.length : Int) = (l2.length : Int)) = False := eq_false (by omega)
          refine fnA_wp (rs := [.tmp 4]) Tryd.func43 rfl rfl (Nat.le_of_ble_eq_true rfl) rfl ?_
          simp +decide only [go_sem, Nat.reduceAdd, Nat.reduceMul, Nat.reduceSub, Nat.reduceLT, Nat.reduceLeDiff, Nat.reduceEqDiff, Nat.add_assoc, Int.reduceAdd, Int.reduceSub, Int.reduceMul, Int.reduceLT, Int.reduceLE, Int.reduceEq, Int.reduceNeg, strOp_add, List.length_map, e4']
      · rw [hsm false (by simp [e3])]
        subst e1 e2
        refine fnA_wp (rs := [.tmp 4]) Tryd.func43 rfl rfl (Nat.le_of_ble_eq_true rfl) rfl ?_
        simp +decide only [go_sem, Nat.reduceAdd, Nat.reduceMul, Nat.reduceSub, Nat.reduceLT, Nat.reduceLeDiff, Nat.reduceEqDiff, Nat.add_assoc, Int.reduceAdd, Int.reduceSub, Int.reduceMul, Int.reduceLT, Int.reduceLE, Int.reduceEq, Int.reduceNeg, strOp_add, e3]
    · rw [hsm false (by simp [e2])]
      subst e1
      refine fnA_wp (rs := [.tmp 4]) Tryd.func43 rfl rfl (Nat.le_of_ble_eq_true rfl) rfl ?_
      simp +decide only [go_sem, Nat.reduceAdd, Nat.reduceMul, Nat.reduceSub, Nat.reduceLT, Nat.reduceLeDiff, Nat.reduceEqDiff, Nat.add_assoc, Int.reduceAdd, Int.reduceSub, Int.reduceMul, Int.reduceLT, Int.reduceLE, Int.reduceEq, Int.reduceNeg, strOp_add, e2]
  · rw [hsm false (by simp [e1])]
    refine fnA_wp (rs := [.tmp 4]) Tryd.func43 rfl rfl (Nat.le_of_ble_eq_true rfl) rfl ?_
    simp +decide only [go_sem, Nat.reduceAdd, Nat.reduceMul, Nat.reduceSub, Nat.reduceLT, Nat.reduceLeDiff, Nat.reduceEqDiff, Nat.add_assoc, Int.reduceAdd, Int.reduceSub, Int.reduceMul, Int.reduceLT, Int.reduceLE, Int.reduceEq, Int.reduceNeg, strOp_add, e1]
end Go.Ev.Tryd
end
