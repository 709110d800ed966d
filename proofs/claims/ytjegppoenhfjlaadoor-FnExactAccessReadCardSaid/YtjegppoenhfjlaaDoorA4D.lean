/- Part of the proof of a statement about the given program: A4D. No condition of its own. -/
import Derived.Test.YtjegppoenhfjlaaDoorA3D
namespace Go.Ev.Tryd
open Go.Proofs
set_option maxRecDepth 10000
set_option linter.unusedSimpArgs false
set_option linter.unusedVariables false
attribute [local congr] comes_congr bB_congr gK_congr gdK_congr

/-- The words that AccessText gathers. -/
def WordsAt (m : Mem) (b0 : Blk) (ws : List ByteArray) : Prop := 2 < m.nid ∧ m.sto 0 = b0 ∧ ∃ ge ty, m.sto 2 = ⟨[.arr 1 ge 0 ws.length 1 true], 0, false, ty⟩ ∧ m.sto 1 = ⟨ws.map AV.str, ge, false, none⟩
theorem say_wp (w : ByteArray) (n : Int) (hn : i64 n) (m : Mem) (b0 : Blk) (ws : List ByteArray) (h : WordsAt m b0 ws) (hl : ws.length ≤ 100) (Q : AV × Mem → Prop)
   (hQ : ∀ m', WordsAt m' b0 (ws ++ [w, dec n]) → Q (.tup [], m')) :
   Comes (fnI CC PR 29 [.str w, .int .i64 n, .ptr 2 0 0] m) Q := by
  obtain ⟨hnid, hb0, ge, ty, h1, h2⟩ := h
  refine fnI_wp (rs := []) Tryd.func29 rfl rfl (Nat.le_of_ble_eq_true rfl) rfl rfl ?_
  refine (d_plan (ord := [0, 1, 2, 3, 4, 5, 6]) (prs := [(0, 3), (0, 4)]) (by kernel_rfl)).2 ?_
  have f1 : ∀ k, (1 = m.nid + k) = False := fun k => eq_false (by omega)
  have f2 : ∀ k, (2 = m.nid + k) = False := fun k => eq_false (by omega)
  have f3 : ∀ k, (m.nid + k = 2) = False := fun k => eq_false (by omega)
  have f4 : ∀ k, (m.nid + k = 1) = False := fun k => eq_false (by omega)
  have f5 : ws.length + 2 ≤ most := by show _ ≤ 1099511627776; omega
  simp +decide only [go_sem, Nat.reduceAdd, Nat.reduceMul, Nat.reduceSub, Nat.reduceLT, Nat.reduceLeDiff, Nat.reduceEqDiff, Nat.add_assoc, Int.reduceAdd, Int.reduceSub, Int.reduceMul, Int.reduceLT, Int.reduceLE, Int.reduceEq, Int.reduceNeg, strOp_add, h1, h2, itoa_eq n hn.1 hn.2, f1, f2, f3, f4, f5, List.length_map]
  refine hQ _ ⟨?_, ?_, ge + 1, ty, ?_, ?_⟩
  · dsimp only; omega
  · have : ¬ (0 = m.nid + 4) := by omega
    simp [upd, this, hb0]
  · simp [upd]
  · have : ¬ (1 = m.nid + 4) := by omega
    simp [upd, this]
theorem join_words (sep x : ByteArray) (l : List ByteArray) : joinB sep (x :: l) = l.foldl (fun a y => a ++ sep ++ y) x := rfl
theorem b_ext {a b : ByteArray} (h : a.data.toList = b.data.toList) : a = b := ByteArray.ext (Array.ext' h)
theorem accOk_size {x0 : ByteArray} {x1 x2 x3 x4 x5 x6 : Int} (h : accOk x0 x1 x2 x3 x4 x5 x6 = true) : x0.size ≤ 10 := by
  simp only [accOk, Bool.and_eq_true] at h
  exact ((isName_iff x0).1 h.1).1.2
theorem accOk_kind {x0 : ByteArray} {x1 x2 x3 x4 x5 x6 : Int} (h : accOk x0 x1 x2 x3 x4 x5 x6 = true) (h1 : ¬ x1 = 1) (h2 : ¬ x1 = 2) : x1 = 3 := by
  simp only [accOk, Bool.and_eq_true, if_neg h1, if_neg h2] at h
  by_cases h3 : x1 = 3
  · exact h3
  · rw [if_neg h3] at h
    simp at h
theorem accText_eq (x0 : ByteArray) (x1 x2 x3 x4 x5 x6 : Int) (h2 : i64 x2) (h3 : i64 x3) (h4 : i64 x4) (h5 : i64 x5) (h6 : i64 x6) :
    fnA CC PR 16 [accA x0 x1 x2 x3 x4 x5 x6] = some (.str (if accOk x0 x1 x2 x3 x4 x5 x6 = true then accText x0 x1 x2 x3 x4 x5 x6 else ⟨#[]⟩)) := by
  apply comes_eq.1
  refine fnA_wp (rs := [.tmp 2]) Tryd.func16 rfl rfl (Nat.le_of_ble_eq_true rfl) rfl ?_
  simp +decide only [go_sem, Nat.reduceAdd, Nat.reduceMul, Nat.reduceSub, Nat.reduceLT, Nat.reduceLeDiff, Nat.reduceEqDiff, Nat.add_assoc, Int.reduceAdd, Int.reduceSub, Int.reduceMul, Int.reduceLT, Int.reduceLE, Int.reduceEq, Int.reduceNeg, strOp_add]
  refine bB_split (fun hB => ?_) (fun hB => ?_)
  · have hz0 := accOk_size hB
    have z2 := dec_size x2 h2.1 h2.2
    have z3 := dec_size x3 h3.1 h3.2
    have z4 := dec_size x4 h4.1 h4.2
    have z5 := dec_size x5 h5.1 h5.2
    have z6 := dec_size x6 h6.1 h6.2
    simp +decide only [go_sem, Nat.reduceAdd, Nat.reduceMul, Nat.reduceSub, Nat.reduceLT, Nat.reduceLeDiff, Nat.reduceEqDiff, Nat.add_assoc, Int.reduceAdd, Int.reduceSub, Int.reduceMul, Int.reduceLT, Int.reduceLE, Int.reduceEq, Int.reduceNeg, strOp_add, hB]
    refine bB_split (fun hk => ?_) (fun hk => ?_)
    · simp only [decide_eq_true_eq] at hk
      simp +decide only [go_sem, Nat.reduceAdd, Nat.reduceMul, Nat.reduceSub, Nat.reduceLT, Nat.reduceLeDiff, Nat.reduceEqDiff, Nat.add_assoc, Int.reduceAdd, Int.reduceSub, Int.reduceMul, Int.reduceLT, Int.reduceLE, Int.reduceEq, Int.reduceNeg, strOp_add, hk]
      refine say_wp _ _ h2 _ _ [x0, ⟨#[105, 115]⟩] ⟨Nat.lt_succ_self _, rfl, 0, some (29, true), by simp [upd], by simp [upd]⟩ (by simp) _ (fun m1 k1 => ?_)
      simp only [List.cons_append, List.nil_append] at k1
      obtain ⟨n1, b1, g1, t1, c1, d1⟩ := id k1
      simp +decide only [go_sem, Nat.reduceAdd, Nat.reduceMul, Nat.reduceSub, Nat.reduceLT, Nat.reduceLeDiff, Nat.reduceEqDiff, Nat.add_assoc, Int.reduceAdd, Int.reduceSub, Int.reduceMul, Int.reduceLT, Int.reduceLE, Int.reduceEq, Int.reduceNeg, strOp_add, hk, b1, c1, d1]
      refine say_wp _ _ h4 _ _ [x0, ⟨#[105, 115]⟩, ⟨#[98, 105, 116]⟩, dec x2] k1 (by simp) _ (fun m2 k2 => ?_)
      simp only [List.cons_append, List.nil_append] at k2
      obtain ⟨n2, b2, g2, t2, c2, d2⟩ := id k2
      simp +decide only [go_sem, Nat.reduceAdd, Nat.reduceMul, Nat.reduceSub, Nat.reduceLT, Nat.reduceLeDiff, Nat.reduceEqDiff, Nat.add_assoc, Int.reduceAdd, Int.reduceSub, Int.reduceMul, Int.reduceLT, Int.reduceLE, Int.reduceEq, Int.reduceNeg, strOp_add, hk, b2, c2, d2]
      refine bB_split (fun hT => ?_) (fun hT => ?_)
      · simp only [decide_eq_true_eq] at hT
        simp +decide only [go_sem, Nat.reduceAdd, Nat.reduceMul, Nat.reduceSub, Nat.reduceLT, Nat.reduceLeDiff, Nat.reduceEqDiff, Nat.add_assoc, Int.reduceAdd, Int.reduceSub, Int.reduceMul, Int.reduceLT, Int.reduceLE, Int.reduceEq, Int.reduceNeg, strOp_add, hT, b2, c2, d2]
        refine say_wp _ _ h5 _ _ [x0, ⟨#[105, 115]⟩, ⟨#[98, 105, 116]⟩, dec x2, ⟨#[116, 117, 114, 110, 101, 100]⟩, dec x4] k2 (by simp) _ (fun m3 k3 => ?_)
        simp only [List.cons_append, List.nil_append] at k3
        obtain ⟨n3, b3, g3, t3, c3, d3⟩ := id k3
        simp +decide only [go_sem, Nat.reduceAdd, Nat.reduceMul, Nat.reduceSub, Nat.reduceLT, Nat.reduceLeDiff, Nat.reduceEqDiff, Nat.add_assoc, Int.reduceAdd, Int.reduceSub, Int.reduceMul, Int.reduceLT, Int.reduceLE, Int.reduceEq, Int.reduceNeg, strOp_add, hT, b3, c3, d3]
        refine say_wp _ _ h6 _ _ [x0, ⟨#[105, 115]⟩, ⟨#[98, 105, 116]⟩, dec x2, ⟨#[116, 117, 114, 110, 101, 100]⟩, dec x4, ⟨#[105, 102]⟩, dec x5] k3 (by simp) _ (fun m4 k4 => ?_)
        simp only [List.cons_append, List.nil_append] at k4
        obtain ⟨n4, b4, g4, t4, c4, d4⟩ := id k4
        simp +decide only [go_sem, Nat.reduceAdd, Nat.reduceMul, Nat.reduceSub, Nat.reduceLT, Nat.reduceLeDiff, Nat.reduceEqDiff, Nat.add_assoc, Int.reduceAdd, Int.reduceSub, Int.reduceMul, Int.reduceLT, Int.reduceLE, Int.reduceEq, Int.reduceNeg, strOp_add, hT, b4, c4, d4]
        have hj := join_eq ⟨#[32]⟩ [x0, ⟨#[105, 115]⟩, ⟨#[98, 105, 116]⟩, dec x2, ⟨#[116, 117, 114, 110, 101, 100]⟩, dec x4, ⟨#[105, 102]⟩, dec x5, ⟨#[116, 101, 108, 108, 115]⟩, dec x6] (by simp [size_lit]) (by simp) (by simp only [sumB, List.map_cons, List.map_nil, List.sum_cons, List.sum_nil, size_lit, List.size_toArray, List.length_cons, List.length_nil]; omega)
        simp only [strsA, List.map_cons, List.map_nil] at hj
        simp +decide only [go_sem, Nat.reduceAdd, Nat.reduceMul, Nat.reduceSub, Nat.reduceLT, Nat.reduceLeDiff, Nat.reduceEqDiff, Nat.add_assoc, Int.reduceAdd, Int.reduceSub, Int.reduceMul, Int.reduceLT, Int.reduceLE, Int.reduceEq, Int.reduceNeg, strOp_add, hT, c4, d4, hj]
        simp only [join_words, List.foldl_cons, List.foldl_nil]
        refine congrArg AV.str (b_ext ?_)
        simp [accText, hB, *]
      · simp only [decide_eq_false_iff_not] at hT
        simp +decide only [go_sem, Nat.reduceAdd, Nat.reduceMul, Nat.reduceSub, Nat.reduceLT, Nat.reduceLeDiff, Nat.reduceEqDiff, Nat.add_assoc, Int.reduceAdd, Int.reduceSub, Int.reduceMul, Int.reduceLT, Int.reduceLE, Int.reduceEq, Int.reduceNeg, strOp_add, hT, b2, c2, d2]
        have hj := join_eq ⟨#[32]⟩ [x0, ⟨#[105, 115]⟩, ⟨#[98, 105, 116]⟩, dec x2, ⟨#[116, 117, 114, 110, 101, 100]⟩, dec x4] (by simp [size_lit]) (by simp) (by simp only [sumB, List.map_cons, List.map_nil, List.sum_cons, List.sum_nil, size_lit, List.size_toArray, List.length_cons, List.length_nil]; omega)
        simp only [strsA, List.map_cons, List.map_nil] at hj
        simp +decide only [go_sem, Nat.reduceAdd, Nat.reduceMul, Nat.reduceSub, Nat.reduceLT, Nat.reduceLeDiff, Nat.reduceEqDiff, Nat.add_assoc, Int.reduceAdd, Int.reduceSub, Int.reduceMul, Int.reduceLT, Int.reduceLE, Int.reduceEq, Int.reduceNeg, strOp_add, hT, c2, d2, hj]
        simp only [join_words, List.foldl_cons, List.foldl_nil]
        refine congrArg AV.str (b_ext ?_)
        simp [accText, hB, *]
    · simp only [decide_eq_false_iff_not] at hk
      simp +decide only [go_sem, Nat.reduceAdd, Nat.reduceMul, Nat.reduceSub, Nat.reduceLT, Nat.reduceLeDiff, Nat.reduceEqDiff, Nat.add_assoc, Int.reduceAdd, Int.reduceSub, Int.reduceMul, Int.reduceLT, Int.reduceLE, Int.reduceEq, Int.reduceNeg, strOp_add, hk]
      refine bB_split (fun hk2 => ?_) (fun hk2 => ?_)
      · simp only [decide_eq_true_eq] at hk2
        simp +decide only [go_sem, Nat.reduceAdd, Nat.reduceMul, Nat.reduceSub, Nat.reduceLT, Nat.reduceLeDiff, Nat.reduceEqDiff, Nat.add_assoc, Int.reduceAdd, Int.reduceSub, Int.reduceMul, Int.reduceLT, Int.reduceLE, Int.reduceEq, Int.reduceNeg, strOp_add, hk2]
        refine say_wp _ _ h2 _ _ [x0, ⟨#[105, 115]⟩] ⟨Nat.lt_succ_self _, rfl, 0, some (29, true), by simp [upd], by simp [upd]⟩ (by simp) _ (fun m1 k1 => ?_)
        simp only [List.cons_append, List.nil_append] at k1
        obtain ⟨n1, b1, g1, t1, c1, d1⟩ := id k1
        simp +decide only [go_sem, Nat.reduceAdd, Nat.reduceMul, Nat.reduceSub, Nat.reduceLT, Nat.reduceLeDiff, Nat.reduceEqDiff, Nat.add_assoc, Int.reduceAdd, Int.reduceSub, Int.reduceMul, Int.reduceLT, Int.reduceLE, Int.reduceEq, Int.reduceNeg, strOp_add, hk2, b1, c1, d1]
        refine say_wp _ _ h3 _ _ [x0, ⟨#[105, 115]⟩, ⟨#[98, 121, 116, 101, 115]⟩, dec x2] k1 (by simp) _ (fun m2 k2 => ?_)
        simp only [List.cons_append, List.nil_append] at k2
        obtain ⟨n2, b2, g2, t2, c2, d2⟩ := id k2
        simp +decide only [go_sem, Nat.reduceAdd, Nat.reduceMul, Nat.reduceSub, Nat.reduceLT, Nat.reduceLeDiff, Nat.reduceEqDiff, Nat.add_assoc, Int.reduceAdd, Int.reduceSub, Int.reduceMul, Int.reduceLT, Int.reduceLE, Int.reduceEq, Int.reduceNeg, strOp_add, hk2, b2, c2, d2]
        refine say_wp _ _ h4 _ _ [x0, ⟨#[105, 115]⟩, ⟨#[98, 121, 116, 101, 115]⟩, dec x2, ⟨#[115, 105, 122, 101]⟩, dec x3] k2 (by simp) _ (fun m3 k3 => ?_)
        simp only [List.cons_append, List.nil_append] at k3
        obtain ⟨n3, b3, g3, t3, c3, d3⟩ := id k3
        simp +decide only [go_sem, Nat.reduceAdd, Nat.reduceMul, Nat.reduceSub, Nat.reduceLT, Nat.reduceLeDiff, Nat.reduceEqDiff, Nat.add_assoc, Int.reduceAdd, Int.reduceSub, Int.reduceMul, Int.reduceLT, Int.reduceLE, Int.reduceEq, Int.reduceNeg, strOp_add, hk2, b3, c3, d3]
        refine bB_split (fun hT => ?_) (fun hT => ?_)
        · simp only [decide_eq_true_eq] at hT
          simp +decide only [go_sem, Nat.reduceAdd, Nat.reduceMul, Nat.reduceSub, Nat.reduceLT, Nat.reduceLeDiff, Nat.reduceEqDiff, Nat.add_assoc, Int.reduceAdd, Int.reduceSub, Int.reduceMul, Int.reduceLT, Int.reduceLE, Int.reduceEq, Int.reduceNeg, strOp_add, hT, b3, c3, d3]
          refine say_wp _ _ h5 _ _ [x0, ⟨#[105, 115]⟩, ⟨#[98, 121, 116, 101, 115]⟩, dec x2, ⟨#[115, 105, 122, 101]⟩, dec x3, ⟨#[116, 117, 114, 110, 101, 100]⟩, dec x4] k3 (by simp) _ (fun m4 k4 => ?_)
          simp only [List.cons_append, List.nil_append] at k4
          obtain ⟨n4, b4, g4, t4, c4, d4⟩ := id k4
          simp +decide only [go_sem, Nat.reduceAdd, Nat.reduceMul, Nat.reduceSub, Nat.reduceLT, Nat.reduceLeDiff, Nat.reduceEqDiff, Nat.add_assoc, Int.reduceAdd, Int.reduceSub, Int.reduceMul, Int.reduceLT, Int.reduceLE, Int.reduceEq, Int.reduceNeg, strOp_add, hT, b4, c4, d4]
          refine say_wp _ _ h6 _ _ [x0, ⟨#[105, 115]⟩, ⟨#[98, 121, 116, 101, 115]⟩, dec x2, ⟨#[115, 105, 122, 101]⟩, dec x3, ⟨#[116, 117, 114, 110, 101, 100]⟩, dec x4, ⟨#[105, 102]⟩, dec x5] k4 (by simp) _ (fun m5 k5 => ?_)
          simp only [List.cons_append, List.nil_append] at k5
          obtain ⟨n5, b5, g5, t5, c5, d5⟩ := id k5
          simp +decide only [go_sem, Nat.reduceAdd, Nat.reduceMul, Nat.reduceSub, Nat.reduceLT, Nat.reduceLeDiff, Nat.reduceEqDiff, Nat.add_assoc, Int.reduceAdd, Int.reduceSub, Int.reduceMul, Int.reduceLT, Int.reduceLE, Int.reduceEq, Int.reduceNeg, strOp_add, hT, b5, c5, d5]
          have hj := join_eq ⟨#[32]⟩ [x0, ⟨#[105, 115]⟩, ⟨#[98, 121, 116, 101, 115]⟩, dec x2, ⟨#[115, 105, 122, 101]⟩, dec x3, ⟨#[116, 117, 114, 110, 101, 100]⟩, dec x4, ⟨#[105, 102]⟩, dec x5, ⟨#[116, 101, 108, 108, 115]⟩, dec x6] (by simp [size_lit]) (by simp) (by simp only [sumB, List.map_cons, List.map_nil, List.sum_cons, List.sum_nil, size_lit, List.size_toArray, List.length_cons, List.length_nil]; omega)
          simp only [strsA, List.map_cons, List.map_nil] at hj
          simp +decide only [go_sem, Nat.reduceAdd, Nat.reduceMul, Nat.reduceSub, Nat.reduceLT, Nat.reduceLeDiff, Nat.reduceEqDiff, Nat.add_assoc, Int.reduceAdd, Int.reduceSub, Int.reduceMul, Int.reduceLT, Int.reduceLE, Int.reduceEq, Int.reduceNeg, strOp_add, hT, c5, d5, hj]
          simp only [join_words, List.foldl_cons, List.foldl_nil]
          refine congrArg AV.str (b_ext ?_)
          simp [accText, hB, *]
        · simp only [decide_eq_false_iff_not] at hT
          simp +decide only [go_sem, Nat.reduceAdd, Nat.reduceMul, Nat.reduceSub, Nat.reduceLT, Nat.reduceLeDiff, Nat.reduceEqDiff, Nat.add_assoc, Int.reduceAdd, Int.reduceSub, Int.reduceMul, Int.reduceLT, Int.reduceLE, Int.reduceEq, Int.reduceNeg, strOp_add, hT, b3, c3, d3]
          have hj := join_eq ⟨#[32]⟩ [x0, ⟨#[105, 115]⟩, ⟨#[98, 121, 116, 101, 115]⟩, dec x2, ⟨#[115, 105, 122, 101]⟩, dec x3, ⟨#[116, 117, 114, 110, 101, 100]⟩, dec x4] (by simp [size_lit]) (by simp) (by simp only [sumB, List.map_cons, List.map_nil, List.sum_cons, List.sum_nil, size_lit, List.size_toArray, List.length_cons, List.length_nil]; omega)
          simp only [strsA, List.map_cons, List.map_nil] at hj
          simp +decide only [go_sem, Nat.reduceAdd, Nat.reduceMul, Nat.reduceSub, Nat.reduceLT, Nat.reduceLeDiff, Nat.reduceEqDiff, Nat.add_assoc, Int.reduceAdd, Int.reduceSub, Int.reduceMul, Int.reduceLT, Int.reduceLE, Int.reduceEq, Int.reduceNeg, strOp_add, hT, c3, d3, hj]
          simp only [join_words, List.foldl_cons, List.foldl_nil]
          refine congrArg AV.str (b_ext ?_)
          simp [accText, hB, *]
      · simp only [decide_eq_false_iff_not] at hk2
        have hk3 : x1 = 3 := accOk_kind hB hk hk2
        subst hk3
        simp +decide only [go_sem, Nat.reduceAdd, Nat.reduceMul, Nat.reduceSub, Nat.reduceLT, Nat.reduceLeDiff, Nat.reduceEqDiff, Nat.add_assoc, Int.reduceAdd, Int.reduceSub, Int.reduceMul, Int.reduceLT, Int.reduceLE, Int.reduceEq, Int.reduceNeg, strOp_add]
        refine say_wp _ _ h2 _ _ [x0, ⟨#[105, 115]⟩] ⟨Nat.lt_succ_self _, rfl, 0, some (29, true), by simp [upd], by simp [upd]⟩ (by simp) _ (fun m1 k1 => ?_)
        simp only [List.cons_append, List.nil_append] at k1
        obtain ⟨n1, b1, g1, t1, c1, d1⟩ := id k1
        simp +decide only [go_sem, Nat.reduceAdd, Nat.reduceMul, Nat.reduceSub, Nat.reduceLT, Nat.reduceLeDiff, Nat.reduceEqDiff, Nat.add_assoc, Int.reduceAdd, Int.reduceSub, Int.reduceMul, Int.reduceLT, Int.reduceLE, Int.reduceEq, Int.reduceNeg, strOp_add, hk2, b1, c1, d1]
        refine bB_split (fun hT => ?_) (fun hT => ?_)
        · simp only [decide_eq_true_eq] at hT
          simp +decide only [go_sem, Nat.reduceAdd, Nat.reduceMul, Nat.reduceSub, Nat.reduceLT, Nat.reduceLeDiff, Nat.reduceEqDiff, Nat.add_assoc, Int.reduceAdd, Int.reduceSub, Int.reduceMul, Int.reduceLT, Int.reduceLE, Int.reduceEq, Int.reduceNeg, strOp_add, hT, b1, c1, d1]
          refine say_wp _ _ h5 _ _ [x0, ⟨#[105, 115]⟩, ⟨#[112, 111, 105, 110, 116, 101, 114]⟩, dec x2] k1 (by simp) _ (fun m2 k2 => ?_)
          simp only [List.cons_append, List.nil_append] at k2
          obtain ⟨n2, b2, g2, t2, c2, d2⟩ := id k2
          simp +decide only [go_sem, Nat.reduceAdd, Nat.reduceMul, Nat.reduceSub, Nat.reduceLT, Nat.reduceLeDiff, Nat.reduceEqDiff, Nat.add_assoc, Int.reduceAdd, Int.reduceSub, Int.reduceMul, Int.reduceLT, Int.reduceLE, Int.reduceEq, Int.reduceNeg, strOp_add, hT, b2, c2, d2]
          refine say_wp _ _ h6 _ _ [x0, ⟨#[105, 115]⟩, ⟨#[112, 111, 105, 110, 116, 101, 114]⟩, dec x2, ⟨#[105, 102]⟩, dec x5] k2 (by simp) _ (fun m3 k3 => ?_)
          simp only [List.cons_append, List.nil_append] at k3
          obtain ⟨n3, b3, g3, t3, c3, d3⟩ := id k3
          simp +decide only [go_sem, Nat.reduceAdd, Nat.reduceMul, Nat.reduceSub, Nat.reduceLT, Nat.reduceLeDiff, Nat.reduceEqDiff, Nat.add_assoc, Int.reduceAdd, Int.reduceSub, Int.reduceMul, Int.reduceLT, Int.reduceLE, Int.reduceEq, Int.reduceNeg, strOp_add, hT, b3, c3, d3]
          have hj := join_eq ⟨#[32]⟩ [x0, ⟨#[105, 115]⟩, ⟨#[112, 111, 105, 110, 116, 101, 114]⟩, dec x2, ⟨#[105, 102]⟩, dec x5, ⟨#[116, 101, 108, 108, 115]⟩, dec x6] (by simp [size_lit]) (by simp) (by simp only [sumB, List.map_cons, List.map_nil, List.sum_cons, List.sum_nil, size_lit, List.size_toArray, List.length_cons, List.length_nil]; omega)
          simp only [strsA, List.map_cons, List.map_nil] at hj
          simp +decide only [go_sem, Nat.reduceAdd, Nat.reduceMul, Nat.reduceSub, Nat.reduceLT, Nat.reduceLeDiff, Nat.reduceEqDiff, Nat.add_assoc, Int.reduceAdd, Int.reduceSub, Int.reduceMul, Int.reduceLT, Int.reduceLE, Int.reduceEq, Int.reduceNeg, strOp_add, hT, c3, d3, hj]
          simp only [join_words, List.foldl_cons, List.foldl_nil]
          refine congrArg AV.str (b_ext ?_)
          simp [accText, hB, *]
        · simp only [decide_eq_false_iff_not] at hT
          simp +decide only [go_sem, Nat.reduceAdd, Nat.reduceMul, Nat.reduceSub, Nat.reduceLT, Nat.reduceLeDiff, Nat.reduceEqDiff, Nat.add_assoc, Int.reduceAdd, Int.reduceSub, Int.reduceMul, Int.reduceLT, Int.reduceLE, Int.reduceEq, Int.reduceNeg, strOp_add, hT, b1, c1, d1]
          have hj := join_eq ⟨#[32]⟩ [x0, ⟨#[105, 115]⟩, ⟨#[112, 111, 105, 110, 116, 101, 114]⟩, dec x2] (by simp [size_lit]) (by simp) (by simp only [sumB, List.map_cons, List.map_nil, List.sum_cons, List.sum_nil, size_lit, List.size_toArray, List.length_cons, List.length_nil]; omega)
          simp only [strsA, List.map_cons, List.map_nil] at hj
          simp +decide only [go_sem, Nat.reduceAdd, Nat.reduceMul, Nat.reduceSub, Nat.reduceLT, Nat.reduceLeDiff, Nat.reduceEqDiff, Nat.add_assoc, Int.reduceAdd, Int.reduceSub, Int.reduceMul, Int.reduceLT, Int.reduceLE, Int.reduceEq, Int.reduceNeg, strOp_add, hT, c1, d1, hj]
          simp only [join_words, List.foldl_cons, List.foldl_nil]
          refine congrArg AV.str (b_ext ?_)
          simp [accText, hB, *]
  · simp +decide only [go_sem, Nat.reduceAdd, Nat.reduceMul, Nat.reduceSub, Nat.reduceLT, Nat.reduceLeDiff, Nat.reduceEqDiff, Nat.add_assoc, Int.reduceAdd, Int.reduceSub, Int.reduceMul, Int.reduceLT, Int.reduceLE, Int.reduceEq, Int.reduceNeg, strOp_add, hB]
    try simp [hB]
end Go.Ev.Tryd
