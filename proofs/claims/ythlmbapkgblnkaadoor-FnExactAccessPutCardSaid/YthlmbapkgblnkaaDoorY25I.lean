/- Part of the proof of a statement about the given program: Y25I. No condition of its own. -/
import Derived.Test.YthlmbapkgblnkaaDoorY24I
import Derived.Test.YthlmbapkgblnkaaDoorA2I
import Derived.Test.YthlmbapkgblnkaaDoorY10I
namespace Go.Ev.Tryd
open Go.Proofs
set_option maxRecDepth 10000
set_option linter.unusedSimpArgs false
set_option linter.unusedVariables false
attribute [local congr] comes_congr bB_congr gK_congr gdK_congr

def zeroN : Nod := .mk 0 ⟨#[]⟩ [] 0 0 []
def xorI (a b : Int) : Int := IntKind.wrap .i64 ((BitVec.ofInt 64 a ^^^ BitVec.ofInt 64 b).toNat : Int)
@[go_sem high] theorem binX_xor {C : Ctx} {t : TypeId} {y : Operand} {a b : Int} : binX C t y .xor (.int .i64 a) (.int .i64 b) = some (.int .i64 (xorI a b)) := rfl
def tagOk (d : ByteArray) (x5 x6 : Int) : Bool := decide (x5 < 0) || decide (feI d x5.toNat 2 = x6)
/-- What is read: is there something, its bits, its node. -/
def getR (x0 : ByteArray) (x1 x2 x3 x4 x5 x6 : Int) (n : Nod) : Bool × Int × Nod :=
  if accOk x0 x1 x2 x3 x4 x5 x6 = false then (false, 0, zeroN)
  else if nodeOk n = false then (false, 0, zeroN)
  else if n.kind = 2 then (false, 0, zeroN)
  else if tagOk n.data x5 x6 = false then (false, 0, zeroN)
  else if x1 = 1 then (true, xorI (bitA n.data x2.toNat : Nat) x4, zeroN)
  else if x1 = 2 then (true, xorI (feI n.data x2.toNat x3.toNat) x4, zeroN)
  else if x2.toNat < n.ptrs.length then (true, 0, n.ptrs.getD x2.toNat zeroN)
  else (true, 0, zeroN)
def valA (r : Bool × Int × Nod) : AV := .tup [.agg [.int .i64 r.2.1, .int .i64 r.2.2.kind, .str r.2.2.data, .slice 6 (r.2.2.ptrs.map Nod.av), .int .i64 r.2.2.size, .int .i64 r.2.2.count, .slice 6 (r.2.2.items.map Nod.av)], .bool r.1]
theorem accOk_says {x0 : ByteArray} {x1 x2 x3 x4 x5 x6 : Int} (h : accOk x0 x1 x2 x3 x4 x5 x6 = true) : 0 ≤ x2 ∧ x2 ≤ 12799 ∧ -1 ≤ x5 ∧ x5 ≤ 1598 ∧ (x1 = 1 ∨ (x1 = 2 ∧ isSize x3 = true) ∨ x1 = 3) := by
  unfold accOk at h
  simp only [Bool.and_eq_true, decide_eq_true_eq] at h
  obtain ⟨h0, h5, h2, h⟩ := h
  refine ⟨h2.1, h2.2, (tagB_rng h5).1, (tagB_rng h5).2, ?_⟩
  split at h
  · left; assumption
  · split at h
    · rename_i hx
      simp only [Bool.and_eq_true] at h
      exact .inr (.inl ⟨hx, h.1⟩)
    · split at h
      · right; right; assumption
      · cases h
theorem nodeOk_says {n : Nod} (h : nodeOk n = true) : nshape n = true ∧ (n.kind = 0 ∨ n.kind = 1 ∨ n.kind = 2) ∧ (n.kind ≠ 2 → n.data.size ≤ 1600 ∧ n.data.size % 8 = 0) := by
  unfold nodeOk at h
  cases hm : meas n 8 with
  | none => rw [hm] at h; cases h
  | some b =>
    rw [hm] at h
    have hs := (meas_shape hm).1
    simp only [Bool.and_eq_true, decide_eq_true_eq] at h
    have hw := ((sameM n 8).1 b hm).1
    by_cases h0 : n.kind = 0
    · refine ⟨hs, .inl h0, fun _ => ?_⟩
      rw [none_shape h0] at hs
      unfold noneB at hs
      simp only [Bool.and_eq_true, decide_eq_true_eq] at hs
      rw [hs.1]
      exact ⟨Nat.zero_le _, rfl⟩
    · have hk := (shape_says hs h0).1
      refine ⟨hs, .inr hk, fun h2 => ?_⟩
      have h1 : n.kind = 1 := by omega
      have hb : structB n = true := by rw [← struct_shape h1]; exact hs
      have hz := (struct_items hb).2.2
      have hwr := struct_wrd hb
      exact ⟨by omega, hz⟩
set_option maxHeartbeats 4000000 in
theorem specAccessGet_eq (x0 : ByteArray) (x1 x2 x3 x4 x5 x6 : Int) (n : Nod) (hs : x0.size ≤ 1099511627776) (hd : n.Sane) (hz : szN n ≤ 1048576) : fnA CC PR 7 [accA x0 x1 x2 x3 x4 x5 x6, n.av] = some (valA (getR x0 x1 x2 x3 x4 x5 x6 n)) := by
  have hA := specAcc_eq x0 x1 x2 x3 x4 x5 x6 hs
  have hN := specNodeOk_eq n hd hz
  rw [← nodeOk_same] at hN
  rw [nav_eta] at hN ⊢
  unfold getR
  cases hacc : accOk x0 x1 x2 x3 x4 x5 x6 with
  | false =>
    rw [hacc] at hA
    rw [if_pos rfl]
    apply comes_eq.1
    refine fnA_wp (rs := [.cell 4 33, .tmp 5]) Tryd.func7 rfl rfl (Nat.le_of_ble_eq_true rfl) rfl ?_
    simp +decide only [go_sem, Nat.reduceAdd, Nat.reduceMul, Nat.reduceSub, Nat.reduceLT, Nat.reduceLeDiff, Nat.reduceEqDiff, Nat.add_assoc, Int.reduceAdd, Int.reduceSub, Int.reduceMul, Int.reduceLT, Int.reduceLE, Int.reduceEq, Int.reduceNeg, strOp_add]
    refine (d_plan (ord := [0, 1, 2, 3, 4, 5, 6, 7, 8, 9, 10, 11, 12, 13, 14, 15, 16, 17, 18, 19, 20, 21, 22, 23, 24, 25, 26, 27]) (prs := [(19, 21), (19, 24), (21, 24), (22, 24)]) (by kernel_rfl)).2 ?_
    simp +decide only [go_sem, Nat.reduceAdd, Nat.reduceMul, Nat.reduceSub, Nat.reduceLT, Nat.reduceLeDiff, Nat.reduceEqDiff, Nat.add_assoc, Int.reduceAdd, Int.reduceSub, Int.reduceMul, Int.reduceLT, Int.reduceLE, Int.reduceEq, Int.reduceNeg, strOp_add, hA]
    try rfl
  | true =>
    rw [hacc] at hA
    rw [if_neg (by decide)]
    obtain ⟨a1, a2, a3, a4, a5⟩ := accOk_says hacc
    cases hok : nodeOk n with
    | false =>
      rw [hok] at hN
      rw [if_pos rfl]
      apply comes_eq.1
      refine fnA_wp (rs := [.cell 4 33, .tmp 5]) Tryd.func7 rfl rfl (Nat.le_of_ble_eq_true rfl) rfl ?_
      simp +decide only [go_sem, Nat.reduceAdd, Nat.reduceMul, Nat.reduceSub, Nat.reduceLT, Nat.reduceLeDiff, Nat.reduceEqDiff, Nat.add_assoc, Int.reduceAdd, Int.reduceSub, Int.reduceMul, Int.reduceLT, Int.reduceLE, Int.reduceEq, Int.reduceNeg, strOp_add]
      refine (d_plan (ord := [0, 1, 2, 3, 4, 5, 6, 7, 8, 9, 10, 11, 12, 13, 14, 15, 16, 17, 18, 19, 20, 21, 22, 23, 24, 25, 26, 27]) (prs := [(19, 21), (19, 24), (21, 24), (22, 24)]) (by kernel_rfl)).2 ?_
      simp +decide only [go_sem, Nat.reduceAdd, Nat.reduceMul, Nat.reduceSub, Nat.reduceLT, Nat.reduceLeDiff, Nat.reduceEqDiff, Nat.add_assoc, Int.reduceAdd, Int.reduceSub, Int.reduceMul, Int.reduceLT, Int.reduceLE, Int.reduceEq, Int.reduceNeg, strOp_add, hA, hN]
      try rfl
    | true =>
    rw [hok] at hN
    rw [if_neg (by decide)]
    obtain ⟨-, b2, b3⟩ := nodeOk_says hok
    by_cases k2 : n.kind = 2
    · rw [if_pos k2]
      have k2' : (n.kind = 2) = True := eq_true k2
      apply comes_eq.1
      refine fnA_wp (rs := [.cell 4 33, .tmp 5]) Tryd.func7 rfl rfl (Nat.le_of_ble_eq_true rfl) rfl ?_
      simp +decide only [go_sem, Nat.reduceAdd, Nat.reduceMul, Nat.reduceSub, Nat.reduceLT, Nat.reduceLeDiff, Nat.reduceEqDiff, Nat.add_assoc, Int.reduceAdd, Int.reduceSub, Int.reduceMul, Int.reduceLT, Int.reduceLE, Int.reduceEq, Int.reduceNeg, strOp_add]
      refine (d_plan (ord := [0, 1, 2, 3, 4, 5, 6, 7, 8, 9, 10, 11, 12, 13, 14, 15, 16, 17, 18, 19, 20, 21, 22, 23, 24, 25, 26, 27]) (prs := [(19, 21), (19, 24), (21, 24), (22, 24)]) (by kernel_rfl)).2 ?_
      simp +decide only [go_sem, Nat.reduceAdd, Nat.reduceMul, Nat.reduceSub, Nat.reduceLT, Nat.reduceLeDiff, Nat.reduceEqDiff, Nat.add_assoc, Int.reduceAdd, Int.reduceSub, Int.reduceMul, Int.reduceLT, Int.reduceLE, Int.reduceEq, Int.reduceNeg, strOp_add, hA, hN, k2']
      try rfl
    rw [if_neg k2]
    have k2' : (n.kind = 2) = False := eq_false k2
    obtain ⟨z1, z2⟩ := b3 k2
    obtain ⟨q2, rfl⟩ : ∃ q : Nat, x2 = q := ⟨x2.toNat, by omega⟩
    have hq2 : q2 ≤ 12799 := by omega
    rw [Int.toNat_natCast]
    have hT : ∀ q5 : Nat, x5 = (q5 : Int) → fnA CC PR 22 [.str n.data, .int .i64 (q5 : Int), .int .i64 2] = some (.int .i64 (feI n.data q5 2)) := fun q5 h5 => l1Get_eq n.data q5 2 (by omega) (by omega) (by omega) (by omega)
    have hB := BitGet_eq n.data q2 (by omega) z1 z2
    have hF : isSize x3 = true → fnA CC PR 22 [.str n.data, .int .i64 (q2 : Int), .int .i64 x3] = some (.int .i64 (feI n.data q2 x3.toNat)) := fun h => by
      rcases isSize_iff.1 h with rfl | rfl | rfl | rfl
      · exact l1Get_eq n.data q2 1 (by omega) (by omega) (by omega) (by omega)
      · exact l1Get_eq n.data q2 2 (by omega) (by omega) (by omega) (by omega)
      · exact l1Get_eq n.data q2 4 (by omega) (by omega) (by omega) (by omega)
      · exact l1Get_eq n.data q2 8 (by omega) (by omega) (by omega) (by omega)
    have hC : ∀ h : q2 < n.ptrs.length, fnA CC PR 24 [n.ptrs[q2].av] = some n.ptrs[q2].av := fun h => l8Copy_eq _ (by cases hd; rename_i h1 h2; exact h1 _ (List.getElem_mem h))
    unfold tagOk
    by_cases h5 : x5 < 0
    · have h5' : (0 ≤ x5) = False := eq_false (by omega)
      rw [decide_eq_true h5, Bool.true_or, if_neg (by decide)]
      rcases a5 with rfl | ⟨rfl, h3⟩ | rfl
      · rw [if_pos rfl]
        generalize bitA n.data q2 = bt at *
        apply comes_eq.1
        refine fnA_wp (rs := [.cell 4 33, .tmp 5]) Tryd.func7 rfl rfl (Nat.le_of_ble_eq_true rfl) rfl ?_
        simp +decide only [go_sem, Nat.reduceAdd, Nat.reduceMul, Nat.reduceSub, Nat.reduceLT, Nat.reduceLeDiff, Nat.reduceEqDiff, Nat.add_assoc, Int.reduceAdd, Int.reduceSub, Int.reduceMul, Int.reduceLT, Int.reduceLE, Int.reduceEq, Int.reduceNeg, strOp_add]
        refine (d_plan (ord := [0, 1, 2, 3, 4, 5, 6, 7, 8, 9, 10, 11, 12, 13, 14, 15, 16, 17, 18, 19, 20, 21, 22, 23, 24, 25, 26, 27]) (prs := [(19, 21), (19, 24), (21, 24), (22, 24)]) (by kernel_rfl)).2 ?_
        simp +decide only [go_sem, Nat.reduceAdd, Nat.reduceMul, Nat.reduceSub, Nat.reduceLT, Nat.reduceLeDiff, Nat.reduceEqDiff, Nat.add_assoc, Int.reduceAdd, Int.reduceSub, Int.reduceMul, Int.reduceLT, Int.reduceLE, Int.reduceEq, Int.reduceNeg, strOp_add, hA, hN, k2', h5']
        refine (d_plan (ord := [0, 1, 2, 3, 4, 5, 6, 7, 8, 9, 10]) (prs := [(1, 3), (1, 6), (3, 6), (4, 6)]) (by kernel_rfl)).2 ?_
        simp +decide only [go_sem, Nat.reduceAdd, Nat.reduceMul, Nat.reduceSub, Nat.reduceLT, Nat.reduceLeDiff, Nat.reduceEqDiff, Nat.add_assoc, Int.reduceAdd, Int.reduceSub, Int.reduceMul, Int.reduceLT, Int.reduceLE, Int.reduceEq, Int.reduceNeg, strOp_add, hB]
        try rfl
      · rw [if_neg (by decide), if_pos rfl]
        have hF := hF h3
        generalize feI n.data q2 x3.toNat = bt at *
        apply comes_eq.1
        refine fnA_wp (rs := [.cell 4 33, .tmp 5]) Tryd.func7 rfl rfl (Nat.le_of_ble_eq_true rfl) rfl ?_
        simp +decide only [go_sem, Nat.reduceAdd, Nat.reduceMul, Nat.reduceSub, Nat.reduceLT, Nat.reduceLeDiff, Nat.reduceEqDiff, Nat.add_assoc, Int.reduceAdd, Int.reduceSub, Int.reduceMul, Int.reduceLT, Int.reduceLE, Int.reduceEq, Int.reduceNeg, strOp_add]
        refine (d_plan (ord := [0, 1, 2, 3, 4, 5, 6, 7, 8, 9, 10, 11, 12, 13, 14, 15, 16, 17, 18, 19, 20, 21, 22, 23, 24, 25, 26, 27]) (prs := [(19, 21), (19, 24), (21, 24), (22, 24)]) (by kernel_rfl)).2 ?_
        simp +decide only [go_sem, Nat.reduceAdd, Nat.reduceMul, Nat.reduceSub, Nat.reduceLT, Nat.reduceLeDiff, Nat.reduceEqDiff, Nat.add_assoc, Int.reduceAdd, Int.reduceSub, Int.reduceMul, Int.reduceLT, Int.reduceLE, Int.reduceEq, Int.reduceNeg, strOp_add, hA, hN, k2', h5']
        refine (d_plan (ord := [0, 1, 2, 3, 4, 5, 6, 7, 8, 9, 10, 11, 12]) (prs := [(1, 3), (1, 5), (3, 5), (1, 8), (3, 8), (5, 8), (6, 8)]) (by kernel_rfl)).2 ?_
        simp +decide only [go_sem, Nat.reduceAdd, Nat.reduceMul, Nat.reduceSub, Nat.reduceLT, Nat.reduceLeDiff, Nat.reduceEqDiff, Nat.add_assoc, Int.reduceAdd, Int.reduceSub, Int.reduceMul, Int.reduceLT, Int.reduceLE, Int.reduceEq, Int.reduceNeg, strOp_add, hF]
        try rfl
      · rw [if_neg (by decide), if_neg (by decide)]
        by_cases hl : q2 < n.ptrs.length
        · have l1 : ((q2 : Int) < (n.ptrs.length : Int)) = True := eq_true (by omega)
          rw [if_pos hl]
          have hC := hC hl
          have hat := nav_at hl
          have hg : n.ptrs.getD q2 zeroN = n.ptrs[q2] := by rw [List.getD_eq_getElem?_getD, List.getElem?_eq_getElem hl]; rfl
          rw [hg]
          rw [nav_eta n.ptrs[q2]] at hC hat
          generalize n.ptrs[q2] = y at *
          apply comes_eq.1
          refine fnA_wp (rs := [.cell 4 33, .tmp 5]) Tryd.func7 rfl rfl (Nat.le_of_ble_eq_true rfl) rfl ?_
          simp +decide only [go_sem, Nat.reduceAdd, Nat.reduceMul, Nat.reduceSub, Nat.reduceLT, Nat.reduceLeDiff, Nat.reduceEqDiff, Nat.add_assoc, Int.reduceAdd, Int.reduceSub, Int.reduceMul, Int.reduceLT, Int.reduceLE, Int.reduceEq, Int.reduceNeg, strOp_add]
          refine (d_plan (ord := [0, 1, 2, 3, 4, 5, 6, 7, 8, 9, 10, 11, 12, 13, 14, 15, 16, 17, 18, 19, 20, 21, 22, 23, 24, 25, 26, 27]) (prs := [(19, 21), (19, 24), (21, 24), (22, 24)]) (by kernel_rfl)).2 ?_
          simp +decide only [go_sem, Nat.reduceAdd, Nat.reduceMul, Nat.reduceSub, Nat.reduceLT, Nat.reduceLeDiff, Nat.reduceEqDiff, Nat.add_assoc, Int.reduceAdd, Int.reduceSub, Int.reduceMul, Int.reduceLT, Int.reduceLE, Int.reduceEq, Int.reduceNeg, strOp_add, hA, hN, k2', h5', l1, hl, hat, hC, List.length_map]
          try rfl
        · have l1 : ((q2 : Int) < (n.ptrs.length : Int)) = False := eq_false (by omega)
          rw [if_neg hl]
          apply comes_eq.1
          refine fnA_wp (rs := [.cell 4 33, .tmp 5]) Tryd.func7 rfl rfl (Nat.le_of_ble_eq_true rfl) rfl ?_
          simp +decide only [go_sem, Nat.reduceAdd, Nat.reduceMul, Nat.reduceSub, Nat.reduceLT, Nat.reduceLeDiff, Nat.reduceEqDiff, Nat.add_assoc, Int.reduceAdd, Int.reduceSub, Int.reduceMul, Int.reduceLT, Int.reduceLE, Int.reduceEq, Int.reduceNeg, strOp_add]
          refine (d_plan (ord := [0, 1, 2, 3, 4, 5, 6, 7, 8, 9, 10, 11, 12, 13, 14, 15, 16, 17, 18, 19, 20, 21, 22, 23, 24, 25, 26, 27]) (prs := [(19, 21), (19, 24), (21, 24), (22, 24)]) (by kernel_rfl)).2 ?_
          simp +decide only [go_sem, Nat.reduceAdd, Nat.reduceMul, Nat.reduceSub, Nat.reduceLT, Nat.reduceLeDiff, Nat.reduceEqDiff, Nat.add_assoc, Int.reduceAdd, Int.reduceSub, Int.reduceMul, Int.reduceLT, Int.reduceLE, Int.reduceEq, Int.reduceNeg, strOp_add, hA, hN, k2', h5', l1, List.length_map]
          try rfl
    · have h5' : (0 ≤ x5) = True := eq_true (by omega)
      obtain ⟨q5, rfl⟩ : ∃ q : Nat, x5 = q := ⟨x5.toNat, by omega⟩
      have hT := hT q5 rfl
      rw [decide_eq_false h5, Bool.false_or, Int.toNat_natCast]
      generalize feI n.data q5 2 = tg at *
      by_cases hte : tg = x6
      case neg =>
        have hte' : (tg = x6) = False := eq_false hte
        rw [decide_eq_false hte, if_pos rfl]
        apply comes_eq.1
        refine fnA_wp (rs := [.cell 4 33, .tmp 5]) Tryd.func7 rfl rfl (Nat.le_of_ble_eq_true rfl) rfl ?_
        simp +decide only [go_sem, Nat.reduceAdd, Nat.reduceMul, Nat.reduceSub, Nat.reduceLT, Nat.reduceLeDiff, Nat.reduceEqDiff, Nat.add_assoc, Int.reduceAdd, Int.reduceSub, Int.reduceMul, Int.reduceLT, Int.reduceLE, Int.reduceEq, Int.reduceNeg, strOp_add]
        refine (d_plan (ord := [0, 1, 2, 3, 4, 5, 6, 7, 8, 9, 10, 11, 12, 13, 14, 15, 16, 17, 18, 19, 20, 21, 22, 23, 24, 25, 26, 27]) (prs := [(19, 21), (19, 24), (21, 24), (22, 24)]) (by kernel_rfl)).2 ?_
        simp +decide only [go_sem, Nat.reduceAdd, Nat.reduceMul, Nat.reduceSub, Nat.reduceLT, Nat.reduceLeDiff, Nat.reduceEqDiff, Nat.add_assoc, Int.reduceAdd, Int.reduceSub, Int.reduceMul, Int.reduceLT, Int.reduceLE, Int.reduceEq, Int.reduceNeg, strOp_add, hA, hN, k2', h5', hT, hte']
        try rfl
      subst hte
      rw [decide_eq_true rfl, if_neg (by decide)]
      rcases a5 with rfl | ⟨rfl, h3⟩ | rfl
      · rw [if_pos rfl]
        generalize bitA n.data q2 = bt at *
        apply comes_eq.1
        refine fnA_wp (rs := [.cell 4 33, .tmp 5]) Tryd.func7 rfl rfl (Nat.le_of_ble_eq_true rfl) rfl ?_
        simp +decide only [go_sem, Nat.reduceAdd, Nat.reduceMul, Nat.reduceSub, Nat.reduceLT, Nat.reduceLeDiff, Nat.reduceEqDiff, Nat.add_assoc, Int.reduceAdd, Int.reduceSub, Int.reduceMul, Int.reduceLT, Int.reduceLE, Int.reduceEq, Int.reduceNeg, strOp_add]
        refine (d_plan (ord := [0, 1, 2, 3, 4, 5, 6, 7, 8, 9, 10, 11, 12, 13, 14, 15, 16, 17, 18, 19, 20, 21, 22, 23, 24, 25, 26, 27]) (prs := [(19, 21), (19, 24), (21, 24), (22, 24)]) (by kernel_rfl)).2 ?_
        simp +decide only [go_sem, Nat.reduceAdd, Nat.reduceMul, Nat.reduceSub, Nat.reduceLT, Nat.reduceLeDiff, Nat.reduceEqDiff, Nat.add_assoc, Int.reduceAdd, Int.reduceSub, Int.reduceMul, Int.reduceLT, Int.reduceLE, Int.reduceEq, Int.reduceNeg, strOp_add, hA, hN, k2', h5', hT]
        refine (d_plan (ord := [0, 1, 2, 3, 4, 5, 6, 7, 8, 9, 10]) (prs := [(1, 3), (1, 6), (3, 6), (4, 6)]) (by kernel_rfl)).2 ?_
        simp +decide only [go_sem, Nat.reduceAdd, Nat.reduceMul, Nat.reduceSub, Nat.reduceLT, Nat.reduceLeDiff, Nat.reduceEqDiff, Nat.add_assoc, Int.reduceAdd, Int.reduceSub, Int.reduceMul, Int.reduceLT, Int.reduceLE, Int.reduceEq, Int.reduceNeg, strOp_add, hB]
        try rfl
      · rw [if_neg (by decide), if_pos rfl]
        have hF := hF h3
        generalize feI n.data q2 x3.toNat = bt at *
        apply comes_eq.1
        refine fnA_wp (rs := [.cell 4 33, .tmp 5]) Tryd.func7 rfl rfl (Nat.le_of_ble_eq_true rfl) rfl ?_
        simp +decide only [go_sem, Nat.reduceAdd, Nat.reduceMul, Nat.reduceSub, Nat.reduceLT, Nat.reduceLeDiff, Nat.reduceEqDiff, Nat.add_assoc, Int.reduceAdd, Int.reduceSub, Int.reduceMul, Int.reduceLT, Int.reduceLE, Int.reduceEq, Int.reduceNeg, strOp_add]
        refine (d_plan (ord := [0, 1, 2, 3, 4, 5, 6, 7, 8, 9, 10, 11, 12, 13, 14, 15, 16, 17, 18, 19, 20, 21, 22, 23, 24, 25, 26, 27]) (prs := [(19, 21), (19, 24), (21, 24), (22, 24)]) (by kernel_rfl)).2 ?_
        simp +decide only [go_sem, Nat.reduceAdd, Nat.reduceMul, Nat.reduceSub, Nat.reduceLT, Nat.reduceLeDiff, Nat.reduceEqDiff, Nat.add_assoc, Int.reduceAdd, Int.reduceSub, Int.reduceMul, Int.reduceLT, Int.reduceLE, Int.reduceEq, Int.reduceNeg, strOp_add, hA, hN, k2', h5', hT]
        refine (d_plan (ord := [0, 1, 2, 3, 4, 5, 6, 7, 8, 9, 10, 11, 12]) (prs := [(1, 3), (1, 5), (3, 5), (1, 8), (3, 8), (5, 8), (6, 8)]) (by kernel_rfl)).2 ?_
        simp +decide only [go_sem, Nat.reduceAdd, Nat.reduceMul, Nat.reduceSub, Nat.reduceLT, Nat.reduceLeDiff, Nat.reduceEqDiff, Nat.add_assoc, Int.reduceAdd, Int.reduceSub, Int.reduceMul, Int.reduceLT, Int.reduceLE, Int.reduceEq, Int.reduceNeg, strOp_add, hF]
        try rfl
      · rw [if_neg (by decide), if_neg (by decide)]
        by_cases hl : q2 < n.ptrs.length
        · have l1 : ((q2 : Int) < (n.ptrs.length : Int)) = True := eq_true (by omega)
          rw [if_pos hl]
          have hC := hC hl
          have hat := nav_at hl
          have hg : n.ptrs.getD q2 zeroN = n.ptrs[q2] := by rw [List.getD_eq_getElem?_getD, List.getElem?_eq_getElem hl]; rfl
          rw [hg]
          rw [nav_eta n.ptrs[q2]] at hC hat
          generalize n.ptrs[q2] = y at *
          apply comes_eq.1
          refine fnA_wp (rs := [.cell 4 33, .tmp 5]) Tryd.func7 rfl rfl (Nat.le_of_ble_eq_true rfl) rfl ?_
          simp +decide only [go_sem, Nat.reduceAdd, Nat.reduceMul, Nat.reduceSub, Nat.reduceLT, Nat.reduceLeDiff, Nat.reduceEqDiff, Nat.add_assoc, Int.reduceAdd, Int.reduceSub, Int.reduceMul, Int.reduceLT, Int.reduceLE, Int.reduceEq, Int.reduceNeg, strOp_add]
          refine (d_plan (ord := [0, 1, 2, 3, 4, 5, 6, 7, 8, 9, 10, 11, 12, 13, 14, 15, 16, 17, 18, 19, 20, 21, 22, 23, 24, 25, 26, 27]) (prs := [(19, 21), (19, 24), (21, 24), (22, 24)]) (by kernel_rfl)).2 ?_
          simp +decide only [go_sem, Nat.reduceAdd, Nat.reduceMul, Nat.reduceSub, Nat.reduceLT, Nat.reduceLeDiff, Nat.reduceEqDiff, Nat.add_assoc, Int.reduceAdd, Int.reduceSub, Int.reduceMul, Int.reduceLT, Int.reduceLE, Int.reduceEq, Int.reduceNeg, strOp_add, hA, hN, k2', h5', hT, l1, hl, hat, hC, List.length_map]
          try rfl
        · have l1 : ((q2 : Int) < (n.ptrs.length : Int)) = False := eq_false (by omega)
          rw [if_neg hl]
          apply comes_eq.1
          refine fnA_wp (rs := [.cell 4 33, .tmp 5]) Tryd.func7 rfl rfl (Nat.le_of_ble_eq_true rfl) rfl ?_
          simp +decide only [go_sem, Nat.reduceAdd, Nat.reduceMul, Nat.reduceSub, Nat.reduceLT, Nat.reduceLeDiff, Nat.reduceEqDiff, Nat.add_assoc, Int.reduceAdd, Int.reduceSub, Int.reduceMul, Int.reduceLT, Int.reduceLE, Int.reduceEq, Int.reduceNeg, strOp_add]
          refine (d_plan (ord := [0, 1, 2, 3, 4, 5, 6, 7, 8, 9, 10, 11, 12, 13, 14, 15, 16, 17, 18, 19, 20, 21, 22, 23, 24, 25, 26, 27]) (prs := [(19, 21), (19, 24), (21, 24), (22, 24)]) (by kernel_rfl)).2 ?_
          simp +decide only [go_sem, Nat.reduceAdd, Nat.reduceMul, Nat.reduceSub, Nat.reduceLT, Nat.reduceLeDiff, Nat.reduceEqDiff, Nat.add_assoc, Int.reduceAdd, Int.reduceSub, Int.reduceMul, Int.reduceLT, Int.reduceLE, Int.reduceEq, Int.reduceNeg, strOp_add, hA, hN, k2', h5', hT, l1, List.length_map]
          try rfl
end Go.Ev.Tryd
