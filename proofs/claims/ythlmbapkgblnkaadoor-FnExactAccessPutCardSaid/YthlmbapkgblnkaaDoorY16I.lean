/- Part of the proof of a statement about the given program: Y16I. No condition of its own. -/
import Derived.Test.YthlmbapkgblnkaaDoorY15I
namespace Go.Ev.Tryd
open Go.Proofs
set_option maxRecDepth 10000
set_option linter.unusedSimpArgs false
set_option linter.unusedVariables false
attribute [local congr] comes_congr bB_congr gK_congr gdK_congr

def okI (a y : Nod) : Bool := structB y && (decide (y.data.size = a.data.size) && decide (y.ptrs.length = a.ptrs.length))
def likeS (l : List Nod) : Bool := match l with
  | [] => true
  | a :: _ => l.all (okI a)
/-- Is a node a list that has a form, but for what is within? -/
def listB (n : Nod) : Bool :=
  if n.kind = 2 then
    if 0 ≤ n.size ∧ n.size ≤ 7 then
      if 0 ≤ n.count ∧ n.count ≤ 12800 then
        if n.size = 6 then decide (n.data = ⟨#[]⟩) && (decide (n.ptrs.length = n.count.toNat) && decide (n.items.length = 0))
        else if n.size = 7 then likeS n.items && (decide (n.data = ⟨#[]⟩) && (decide (n.ptrs.length = 0) && decide (n.items.length = n.count.toNat)))
        else decide (n.ptrs.length = 0) && (decide (n.items.length = 0) && plainB n)
      else false
    else false
  else false
set_option maxHeartbeats 8000000 in
theorem l4List_eq (n : Nod) (hd : n.Sane) : fnA CC PR 62 [n.av] = some (.bool (listB n)) := by
  obtain ⟨h1, h2, h3⟩ : n.data.size ≤ 1048576 ∧ n.ptrs.length ≤ 1048576 ∧ n.items.length ≤ 1048576 := by
    cases hd
    exact ⟨by assumption, by assumption, by assumption⟩
  have hpl := l4Plain_eq n hd
  rw [nav_eta] at hpl ⊢
  by_cases k2 : n.kind = 2
  case neg =>
    have e : listB n = false := by unfold listB; rw [if_neg k2]
    rw [e]
    have k2' : (n.kind = 2) = False := eq_false k2
    apply comes_eq.1
    refine fnA_wp (rs := [.tmp 2]) Tryd.func62 rfl rfl (Nat.le_of_ble_eq_true rfl) rfl ?_
    simp +decide only [go_sem, Nat.reduceAdd, Nat.reduceMul, Nat.reduceSub, Nat.reduceLT, Nat.reduceLeDiff, Nat.reduceEqDiff, Nat.add_assoc, Int.reduceAdd, Int.reduceSub, Int.reduceMul, Int.reduceLT, Int.reduceLE, Int.reduceEq, Int.reduceNeg, strOp_add, k2']
  have k2' : (n.kind = 2) = True := eq_true k2
  unfold listB
  rw [if_pos k2]
  by_cases hs : 0 ≤ n.size ∧ n.size ≤ 7
  case neg =>
    rw [if_neg hs]
    have s1 : (decide (0 ≤ n.size) && decide (n.size ≤ 7)) = false := by
      rw [Bool.eq_false_iff]
      intro h
      simp only [Bool.and_eq_true, decide_eq_true_eq] at h
      exact hs h
    apply comes_eq.1
    refine fnA_wp (rs := [.tmp 2]) Tryd.func62 rfl rfl (Nat.le_of_ble_eq_true rfl) rfl ?_
    simp +decide only [go_sem, Nat.reduceAdd, Nat.reduceMul, Nat.reduceSub, Nat.reduceLT, Nat.reduceLeDiff, Nat.reduceEqDiff, Nat.add_assoc, Int.reduceAdd, Int.reduceSub, Int.reduceMul, Int.reduceLT, Int.reduceLE, Int.reduceEq, Int.reduceNeg, strOp_add, k2', s1]
  rw [if_pos hs]
  have s1 : (0 ≤ n.size) = True := eq_true hs.1
  have s2 : (n.size ≤ 7) = True := eq_true hs.2
  by_cases hc : 0 ≤ n.count ∧ n.count ≤ 12800
  case neg =>
    rw [if_neg hc]
    have c1 : (decide (0 ≤ n.count) && decide (n.count ≤ 12800)) = false := by
      rw [Bool.eq_false_iff]
      intro h
      simp only [Bool.and_eq_true, decide_eq_true_eq] at h
      exact hc h
    apply comes_eq.1
    refine fnA_wp (rs := [.tmp 2]) Tryd.func62 rfl rfl (Nat.le_of_ble_eq_true rfl) rfl ?_
    simp +decide only [go_sem, Nat.reduceAdd, Nat.reduceMul, Nat.reduceSub, Nat.reduceLT, Nat.reduceLeDiff, Nat.reduceEqDiff, Nat.add_assoc, Int.reduceAdd, Int.reduceSub, Int.reduceMul, Int.reduceLT, Int.reduceLE, Int.reduceEq, Int.reduceNeg, strOp_add, k2', s1, s2, c1]
  rw [if_pos hc]
  have c1 : (0 ≤ n.count) = True := eq_true hc.1
  have c2 : (n.count ≤ 12800) = True := eq_true hc.2
  have m1 : (((n.ptrs.length : Nat) : Int) = n.count) = (n.ptrs.length = n.count.toNat) := propext ⟨fun h => by omega, fun h => by omega⟩
  have m2 : (((n.items.length : Nat) : Int) = n.count) = (n.items.length = n.count.toNat) := propext ⟨fun h => by omega, fun h => by omega⟩
  have m3 : (((n.items.length : Nat) : Int) = 0) = (n.items.length = 0) := propext ⟨fun h => by omega, fun h => by omega⟩
  have m4 : (((n.ptrs.length : Nat) : Int) = 0) = (n.ptrs.length = 0) := propext ⟨fun h => by omega, fun h => by omega⟩
  by_cases h6 : n.size = 6
  · rw [if_pos h6]
    have h6' : (n.size = 6) = True := eq_true h6
    apply comes_eq.1
    refine fnA_wp (rs := [.tmp 2]) Tryd.func62 rfl rfl (Nat.le_of_ble_eq_true rfl) rfl ?_
    (simp +decide only [go_sem, Nat.reduceAdd, Nat.reduceMul, Nat.reduceSub, Nat.reduceLT, Nat.reduceLeDiff, Nat.reduceEqDiff, Nat.add_assoc, Int.reduceAdd, Int.reduceSub, Int.reduceMul, Int.reduceLT, Int.reduceLE, Int.reduceEq, Int.reduceNeg, strOp_add, k2', s1, s2, c1, c2, h6', m1, m3, List.length_map]); repeat' (refine bB_split (fun hB => ?_) (fun hB => ?_) <;> (try simp only [Bool.and_eq_true, Bool.or_eq_false_iff, decide_eq_true_eq, decide_eq_false_iff_not] at hB) <;> simp +decide only [go_sem, Nat.reduceAdd, Nat.reduceMul, Nat.reduceSub, Nat.reduceLT, Nat.reduceLeDiff, Nat.reduceEqDiff, Nat.add_assoc, Int.reduceAdd, Int.reduceSub, Int.reduceMul, Int.reduceLT, Int.reduceLE, Int.reduceEq, Int.reduceNeg, strOp_add, hB, k2', s1, s2, c1, c2, h6', m1, m3, List.length_map])
    all_goals simp_all
  rw [if_neg h6]
  have h6' : (n.size = 6) = False := eq_false h6
  by_cases h7 : n.size = 7
  case neg =>
    rw [if_neg h7]
    have h7' : (n.size = 7) = False := eq_false h7
    have hpl := hpl ⟨hs.1, by omega⟩ hc
    generalize plainB n = pb at *
    apply comes_eq.1
    refine fnA_wp (rs := [.tmp 2]) Tryd.func62 rfl rfl (Nat.le_of_ble_eq_true rfl) rfl ?_
    (simp +decide only [go_sem, Nat.reduceAdd, Nat.reduceMul, Nat.reduceSub, Nat.reduceLT, Nat.reduceLeDiff, Nat.reduceEqDiff, Nat.add_assoc, Int.reduceAdd, Int.reduceSub, Int.reduceMul, Int.reduceLT, Int.reduceLE, Int.reduceEq, Int.reduceNeg, strOp_add, k2', s1, s2, c1, c2, h6', h7', m3, m4, hpl, List.length_map]); repeat' (refine bB_split (fun hB => ?_) (fun hB => ?_) <;> (try simp only [Bool.and_eq_true, Bool.or_eq_false_iff, decide_eq_true_eq, decide_eq_false_iff_not] at hB) <;> simp +decide only [go_sem, Nat.reduceAdd, Nat.reduceMul, Nat.reduceSub, Nat.reduceLT, Nat.reduceLeDiff, Nat.reduceEqDiff, Nat.add_assoc, Int.reduceAdd, Int.reduceSub, Int.reduceMul, Int.reduceLT, Int.reduceLE, Int.reduceEq, Int.reduceNeg, strOp_add, hB, k2', s1, s2, c1, c2, h6', h7', m3, m4, hpl, List.length_map])
    all_goals simp_all
  rw [if_pos h7]
  have h7' : (n.size = 7) = True := eq_true h7
  clear hpl
  apply comes_eq.1
  refine fnA_wp (rs := [.tmp 2]) Tryd.func62 rfl rfl (Nat.le_of_ble_eq_true rfl) rfl ?_
  simp +decide only [go_sem, Nat.reduceAdd, Nat.reduceMul, Nat.reduceSub, Nat.reduceLT, Nat.reduceLeDiff, Nat.reduceEqDiff, Nat.add_assoc, Int.reduceAdd, Int.reduceSub, Int.reduceMul, Int.reduceLT, Int.reduceLE, Int.reduceEq, Int.reduceNeg, strOp_add, k2', s1, s2, c1, c2, h6', h7']
  refine comes_upto n.items.length (fun j st => st.env 1 = .ptr 0 0 0 ∧ st.env 3 = .int .i64 j ∧ 1 ≤ st.nid ∧ st.sto 0 = ⟨[.int .i64 n.kind, .str n.data, .slice 6 (n.ptrs.map Nod.av), .int .i64 n.size, .int .i64 n.count, .slice 6 (n.items.map Nod.av)], 0, false, none⟩ ∧ likeS (n.items.take j) = true) ?_ ?_ _ ?_
  · rintro j st hj ⟨e1, e3, en, s0, hlk⟩
    have w1 : IntKind.wrap .i64 ((j : Int) + 1) = ((j + 1 : Nat) : Int) := wrap_succ (by omega)
    obtain ⟨a, rest, hia⟩ : ∃ a rest, n.items = a :: rest := by
      cases h : n.items with
      | nil => rw [h] at hj; cases hj
      | cons a rest => exact ⟨a, rest, rfl⟩
    have hfx : ∀ y ∈ n.items, y.Sane ∧ y.data.size ≤ 1048576 ∧ y.ptrs.length ≤ 1048576 := fun y hy => by
      have hys := hd.items y hy
      refine ⟨hys, ?_⟩
      cases hys
      exact ⟨by assumption, by assumption⟩
    obtain ⟨hys, hy1, hy2⟩ := hfx _ (List.getElem_mem hj)
    obtain ⟨_, ha1, ha2⟩ := hfx a (by rw [hia]; simp)
    have hst := l4Struct_eq n.items[j] hys
    have ha := nav_at hj
    have hx0 : (n.items.map Nod.av)[0]? = some a.av := by rw [hia]; rfl
    have hll : likeS n.items = n.items.all (okI a) := by rw [hia]; rfl
    have hlt0 : likeS (n.items.take (j + 1)) = (n.items.take (j + 1)).all (okI a) := by rw [hia, List.take_succ_cons]; rfl
    have hl0 : (n.items.take j).all (okI a) = true := by
      cases j with
      | zero => rfl
      | succ j => rw [hia, List.take_succ_cons] at hlk; rw [hia, List.take_succ_cons]; exact hlk
    have hlt : likeS (n.items.take (j + 1)) = okI a n.items[j] := hlt0.trans (by rw [List.take_succ_eq_append_getElem hj, List.all_append, hl0, Bool.true_and, List.all_cons, List.all_nil, Bool.and_true])
    clear hlt0
    have hbad : okI a n.items[j] = false → likeS n.items = false := fun h => by
      rw [hll, List.all_eq_false]
      exact ⟨_, List.getElem_mem hj, by rw [h]; exact Bool.false_ne_true⟩
    rw [nav_eta] at ha hst hx0
    have hxl : ((0 : Int) < (((n.items.map Nod.av).length : Nat) : Int)) = True := eq_true (by rw [List.length_map]; omega)
    have hjl : ((j : Int) < (((n.items.map Nod.av).length : Nat) : Int)) = True := eq_true (by rw [List.length_map]; omega)
    have hjn : (j < (n.items.map Nod.av).length) = True := eq_true (by rw [List.length_map]; omega)
    rw [hlt]
    unfold okI at hbad ⊢
    generalize n.items[j] = y at *
    generalize structB y = sb at *
    generalize n.items.map Nod.av = its at *
    cases sb
    · rw [hbad rfl, Bool.false_and]
      simp (maxSteps := 2000000) +decide (disch := first | decide | omega) only [go_sem, Nat.reduceAdd, Nat.reduceMul, Nat.reduceSub, Nat.reduceLT, Nat.reduceLeDiff, Nat.reduceEqDiff, Nat.add_assoc, Int.reduceAdd, Int.reduceSub, Int.reduceMul, Int.reduceLT, Int.reduceLE, Int.reduceEq, Int.reduceNeg, strOp_add, e1, e3, s0, hjl, hjn, ha]
      refine (d_plan (ord := [0, 1, 2, 3, 4, 5, 6, 7, 8, 9, 10, 11, 12, 13, 14, 15, 16, 17, 18, 19, 20, 21, 22, 23, 24, 25, 26, 27, 28, 29, 30, 31, 32, 33, 34, 35, 36, 37, 38]) (prs := [(9, 16), (13, 16), (9, 19), (13, 19), (25, 32), (29, 32), (25, 35), (29, 35)]) (by kernel_rfl)).2 ?_
      simp (maxSteps := 2000000) +decide (disch := first | decide | omega) only [go_sem, Nat.reduceAdd, Nat.reduceMul, Nat.reduceSub, Nat.reduceLT, Nat.reduceLeDiff, Nat.reduceEqDiff, Nat.add_assoc, Int.reduceAdd, Int.reduceSub, Int.reduceMul, Int.reduceLT, Int.reduceLE, Int.reduceEq, Int.reduceNeg, strOp_add, e1, e3, s0, hjl, hjn, ha, hst]
      rfl
    · by_cases q2 : y.data.size = a.data.size
      · have q2' : (((y.data.size : Nat) : Int) = ((a.data.size : Nat) : Int)) = True := eq_true (by omega)
        by_cases q3 : y.ptrs.length = a.ptrs.length
        · have q3' : (((y.ptrs.length : Nat) : Int) = ((a.ptrs.length : Nat) : Int)) = True := eq_true (by omega)
          simp (maxSteps := 2000000) +decide (disch := first | decide | omega) only [go_sem, Nat.reduceAdd, Nat.reduceMul, Nat.reduceSub, Nat.reduceLT, Nat.reduceLeDiff, Nat.reduceEqDiff, Nat.add_assoc, Int.reduceAdd, Int.reduceSub, Int.reduceMul, Int.reduceLT, Int.reduceLE, Int.reduceEq, Int.reduceNeg, strOp_add, e1, e3, s0, hjl, hjn, ha]
          refine (d_plan (ord := [0, 1, 2, 3, 4, 5, 6, 7, 8, 9, 10, 11, 12, 13, 14, 15, 16, 17, 18, 19, 20, 21, 22, 23, 24, 25, 26, 27, 28, 29, 30, 31, 32, 33, 34, 35, 36, 37, 38]) (prs := [(9, 16), (13, 16), (9, 19), (13, 19), (25, 32), (29, 32), (25, 35), (29, 35)]) (by kernel_rfl)).2 ?_
          simp (maxSteps := 2000000) +decide (disch := first | decide | omega) only [go_sem, Nat.reduceAdd, Nat.reduceMul, Nat.reduceSub, Nat.reduceLT, Nat.reduceLeDiff, Nat.reduceEqDiff, Nat.add_assoc, Int.reduceAdd, Int.reduceSub, Int.reduceMul, Int.reduceLT, Int.reduceLE, Int.reduceEq, Int.reduceNeg, strOp_add, e1, e3, s0, hjl, hjn, hxl, ha, hx0, hst, q2', q3', w1, List.length_map]
          exact ⟨q2, q3⟩
        · have q3' : (((y.ptrs.length : Nat) : Int) = ((a.ptrs.length : Nat) : Int)) = False := eq_false (by omega)
          rw [hbad (by rw [decide_eq_false q3, Bool.and_false, Bool.and_false]), Bool.false_and]
          simp (maxSteps := 2000000) +decide (disch := first | decide | omega) only [go_sem, Nat.reduceAdd, Nat.reduceMul, Nat.reduceSub, Nat.reduceLT, Nat.reduceLeDiff, Nat.reduceEqDiff, Nat.add_assoc, Int.reduceAdd, Int.reduceSub, Int.reduceMul, Int.reduceLT, Int.reduceLE, Int.reduceEq, Int.reduceNeg, strOp_add, e1, e3, s0, hjl, hjn, ha]
          refine (d_plan (ord := [0, 1, 2, 3, 4, 5, 6, 7, 8, 9, 10, 11, 12, 13, 14, 15, 16, 17, 18, 19, 20, 21, 22, 23, 24, 25, 26, 27, 28, 29, 30, 31, 32, 33, 34, 35, 36, 37, 38]) (prs := [(9, 16), (13, 16), (9, 19), (13, 19), (25, 32), (29, 32), (25, 35), (29, 35)]) (by kernel_rfl)).2 ?_
          simp (maxSteps := 2000000) +decide (disch := first | decide | omega) only [go_sem, Nat.reduceAdd, Nat.reduceMul, Nat.reduceSub, Nat.reduceLT, Nat.reduceLeDiff, Nat.reduceEqDiff, Nat.add_assoc, Int.reduceAdd, Int.reduceSub, Int.reduceMul, Int.reduceLT, Int.reduceLE, Int.reduceEq, Int.reduceNeg, strOp_add, e1, e3, s0, hjl, hjn, hxl, ha, hx0, hst, q2', q3', w1, List.length_map]
      · have q2' : (((y.data.size : Nat) : Int) = ((a.data.size : Nat) : Int)) = False := eq_false (by omega)
        rw [hbad (by rw [decide_eq_false q2, Bool.false_and, Bool.and_false]), Bool.false_and]
        simp (maxSteps := 2000000) +decide (disch := first | decide | omega) only [go_sem, Nat.reduceAdd, Nat.reduceMul, Nat.reduceSub, Nat.reduceLT, Nat.reduceLeDiff, Nat.reduceEqDiff, Nat.add_assoc, Int.reduceAdd, Int.reduceSub, Int.reduceMul, Int.reduceLT, Int.reduceLE, Int.reduceEq, Int.reduceNeg, strOp_add, e1, e3, s0, hjl, hjn, ha]
        refine (d_plan (ord := [0, 1, 2, 3, 4, 5, 6, 7, 8, 9, 10, 11, 12, 13, 14, 15, 16, 17, 18, 19, 20, 21, 22, 23, 24, 25, 26, 27, 28, 29, 30, 31, 32, 33, 34, 35, 36, 37, 38]) (prs := [(9, 16), (13, 16), (9, 19), (13, 19), (25, 32), (29, 32), (25, 35), (29, 35)]) (by kernel_rfl)).2 ?_
        simp (maxSteps := 2000000) +decide (disch := first | decide | omega) only [go_sem, Nat.reduceAdd, Nat.reduceMul, Nat.reduceSub, Nat.reduceLT, Nat.reduceLeDiff, Nat.reduceEqDiff, Nat.add_assoc, Int.reduceAdd, Int.reduceSub, Int.reduceMul, Int.reduceLT, Int.reduceLE, Int.reduceEq, Int.reduceNeg, strOp_add, e1, e3, s0, hjl, hjn, hxl, ha, hx0, hst, q2', w1, List.length_map]
  · rintro st ⟨e1, e3, en, s0, hlk⟩
    rw [List.take_length] at hlk
    rw [hlk, Bool.true_and]
    (simp +decide only [go_sem, Nat.reduceAdd, Nat.reduceMul, Nat.reduceSub, Nat.reduceLT, Nat.reduceLeDiff, Nat.reduceEqDiff, Nat.add_assoc, Int.reduceAdd, Int.reduceSub, Int.reduceMul, Int.reduceLT, Int.reduceLE, Int.reduceEq, Int.reduceNeg, strOp_add, e1, e3, s0, m2, m4, List.length_map]); repeat' (refine bB_split (fun hB => ?_) (fun hB => ?_) <;> (try simp only [Bool.and_eq_true, Bool.or_eq_false_iff, decide_eq_true_eq, decide_eq_false_iff_not] at hB) <;> simp +decide only [go_sem, Nat.reduceAdd, Nat.reduceMul, Nat.reduceSub, Nat.reduceLT, Nat.reduceLeDiff, Nat.reduceEqDiff, Nat.add_assoc, Int.reduceAdd, Int.reduceSub, Int.reduceMul, Int.reduceLT, Int.reduceLE, Int.reduceEq, Int.reduceNeg, strOp_add, hB, e1, e3, s0, m2, m4, List.length_map])
    all_goals simp_all
  · simp +decide only [go_sem, Nat.reduceAdd, Nat.reduceMul, Nat.reduceSub, Nat.reduceLT, Nat.reduceLeDiff, Nat.reduceEqDiff, Nat.add_assoc, Int.reduceAdd, Int.reduceSub, Int.reduceMul, Int.reduceLT, Int.reduceLE, Int.reduceEq, Int.reduceNeg, strOp_add]
    rfl
end Go.Ev.Tryd
