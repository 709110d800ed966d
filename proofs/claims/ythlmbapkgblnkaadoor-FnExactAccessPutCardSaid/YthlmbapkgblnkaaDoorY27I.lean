/- Part of the proof of a statement about the given program: Y27I. No condition of its own. -/
import Derived.Test.YthlmbapkgblnkaaDoorY26I
namespace Go.Ev.Tryd
open Go.Proofs
set_option maxRecDepth 10000
set_option linter.unusedSimpArgs false
set_option linter.unusedVariables false
attribute [local congr] comes_congr bB_congr gK_congr gdK_congr

theorem toAccess_eq (x0 : ByteArray) (x1 x2 x3 x4 x5 x6 : Int) : fnA CC PR 8 [accA x0 x1 x2 x3 x4 x5 x6] = some (accA x0 x1 x2 x3 x4 x5 x6) := by
  apply comes_eq.1
  refine fnA_wp (rs := [.cell 2 36]) Tryd.func8 rfl rfl (Nat.le_of_ble_eq_true rfl) rfl ?_
  simp +decide only [go_sem, Nat.reduceAdd, Nat.reduceMul, Nat.reduceSub, Nat.reduceLT, Nat.reduceLeDiff, Nat.reduceEqDiff, Nat.add_assoc, Int.reduceAdd, Int.reduceSub, Int.reduceMul, Int.reduceLT, Int.reduceLE, Int.reduceEq, Int.reduceNeg, strOp_add]
theorem szAccess_eq (x0 : ByteArray) (x1 x2 x3 x4 x5 x6 : Int) (hs : x0.size ≤ 9223372036854775807) : fnA CC PR 5 [accA x0 x1 x2 x3 x4 x5 x6, .int .i64 1048576] = some (.int .i64 (lft 1048576 x0.size)) := by
  apply comes_eq.1
  refine fnA_wp (rs := [.tmp 4]) Tryd.func5 rfl rfl (Nat.le_of_ble_eq_true rfl) rfl ?_
  by_cases h : x0.size ≤ 1048576
  · rw [lft_le h]
    have w : IntKind.wrap .i64 (1048576 - (x0.size : Int)) = ((1048576 - x0.size : Nat) : Int) := by rw [wrap_id (by omega) (by omega)]; omega
    have l0 : (((1048576 - x0.size : Nat) : Int) < 0) = False := eq_false (by omega)
    simp +decide only [go_sem, Nat.reduceAdd, Nat.reduceMul, Nat.reduceSub, Nat.reduceLT, Nat.reduceLeDiff, Nat.reduceEqDiff, Nat.add_assoc, Int.reduceAdd, Int.reduceSub, Int.reduceMul, Int.reduceLT, Int.reduceLE, Int.reduceEq, Int.reduceNeg, strOp_add, w, l0]
  · rw [lft_no h]
    have w : IntKind.wrap .i64 (1048576 - (x0.size : Int)) = 1048576 - (x0.size : Int) := wrap_id (by omega) (by omega)
    have l0 : (1048576 - (x0.size : Int) < 0) = True := eq_true (by omega)
    simp +decide only [go_sem, Nat.reduceAdd, Nat.reduceMul, Nat.reduceSub, Nat.reduceLT, Nat.reduceLeDiff, Nat.reduceEqDiff, Nat.add_assoc, Int.reduceAdd, Int.reduceSub, Int.reduceMul, Int.reduceLT, Int.reduceLE, Int.reduceEq, Int.reduceNeg, strOp_add, w, l0]
theorem eqVal_self (b : Int) (n : Nod) (hn : n.Sane) : fnA CC PR 11 [.agg [.int .i64 b, .int .i64 n.kind, .str n.data, .slice 6 (n.ptrs.map Nod.av), .int .i64 n.size, .int .i64 n.count, .slice 6 (n.items.map Nod.av)], .agg [.int .i64 b, .int .i64 n.kind, .str n.data, .slice 6 (n.ptrs.map Nod.av), .int .i64 n.size, .int .i64 n.count, .slice 6 (n.items.map Nod.av)]] = some (.bool true) := by
  have hq := eqNode_self n hn
  rw [nav_eta] at hq
  apply comes_eq.1
  refine fnA_wp (rs := [.tmp 4]) Tryd.func11 rfl rfl (Nat.le_of_ble_eq_true rfl) rfl ?_
  simp +decide only [go_sem, Nat.reduceAdd, Nat.reduceMul, Nat.reduceSub, Nat.reduceLT, Nat.reduceLeDiff, Nat.reduceEqDiff, Nat.add_assoc, Int.reduceAdd, Int.reduceSub, Int.reduceMul, Int.reduceLT, Int.reduceLE, Int.reduceEq, Int.reduceNeg, strOp_add, hq]
theorem mkN_kind (k : Nat) (n : Nod) : (mkN k n).kind = n.kind := by obtain ⟨_, _, _, _, _, _⟩ := n; rfl
theorem mkN_data (k : Nat) (n : Nod) : (mkN k n).data = n.data := by obtain ⟨_, _, _, _, _, _⟩ := n; rfl
theorem mkN_size (k : Nat) (n : Nod) : (mkN k n).size = n.size := by obtain ⟨_, _, _, _, _, _⟩ := n; rfl
theorem mkN_count (k : Nat) (n : Nod) : (mkN k n).count = n.count := by obtain ⟨_, _, _, _, _, _⟩ := n; rfl
theorem heldVal_eq (b : Int) (n : Nod) (hd : n.Sane) (k : Nat) (h1 : 1 ≤ k) (hk : k + cnt n ≤ 4611686018427387904) : fnA CC PR 15 [.agg [.int .i64 b, .int .i64 n.kind, .str n.data, .slice 6 ((mkN k n).ptrs.map Nod.av), .int .i64 n.size, .int .i64 n.count, .slice 6 ((mkN k n).items.map Nod.av)], .int .i64 k] = some (.int .i64 ((k + (cntL n.ptrs + cntL n.items) : Nat) : Int)) := by
  have hq := heldNode_eq n hd k h1 hk
  rw [nav_eta, mkN_kind, mkN_data, mkN_size, mkN_count] at hq
  have n4 : (((k + (cntL n.ptrs + cntL n.items) : Nat) : Int) < 0) = False := eq_false (by omega)
  clear hk
  generalize (mkN k n).ptrs.map Nod.av = y at *
  generalize (mkN k n).items.map Nod.av = z at *
  generalize k + (cntL n.ptrs + cntL n.items) = k4 at *
  apply comes_eq.1
  refine fnA_wp (rs := [.tmp 4]) Tryd.func15 rfl rfl (Nat.le_of_ble_eq_true rfl) rfl ?_
  simp +decide only [go_sem, Nat.reduceAdd, Nat.reduceMul, Nat.reduceSub, Nat.reduceLT, Nat.reduceLeDiff, Nat.reduceEqDiff, Nat.add_assoc, Int.reduceAdd, Int.reduceSub, Int.reduceMul, Int.reduceLT, Int.reduceLE, Int.reduceEq, Int.reduceNeg, strOp_add, hq, n4]
theorem ONod.std {M : Mem} {n : Nod} {k s c : Int} {d : ByteArray} {pv iv : AV} {B : List Nat} (h : ONod M n [.int .i64 k, .str d, pv, .int .i64 s, .int .i64 c, iv] B) : k = n.kind ∧ d = n.data ∧ s = n.size ∧ c = n.count := by
  obtain ⟨_, _, -, -, -, h1, h2, h3, h4⟩ := h.parts
  cases h1; cases h2; cases h3; cases h4
  exact ⟨rfl, rfl, rfl, rfl⟩
theorem markVal_wp (b : AV) (hb : b.one = true) (n : Nod) (hd : n.Sane) (k : Nat) (h1 : 1 ≤ k) (hk : k + cnt n ≤ 4611686018427387904) (a0 a1 pv a3 a4 iv : AV) (B : List Nat) (m : Mem) (hO : ONod m n [a0, a1, pv, a3, a4, iv] B) (hN : B.Nodup) (hB : ∀ b ∈ B, b < m.nid) (Q : AV × Mem → Prop)
    (hQ : ∀ m', ONod m' (mkN k n) [a0, a1, pv, a3, a4, iv] B → m.nid ≤ m'.nid → (∀ j, j < m.nid → j ∉ B → m'.sto j = m.sto j) → Q (.int .i64 ((k + (cntL n.ptrs + cntL n.items) : Nat) : Int), m')) :
    Comes (fnI CC PR 14 [.agg [b, a0, a1, pv, a3, a4, iv], .int .i64 k] m) Q := by
  have hm := markNode_wp n hd k h1 hk a0 a1 pv a3 a4 iv B
  obtain ⟨o1, o2⟩ := hO.ones
  obtain ⟨_, _, -, -, -, rfl, rfl, rfl, rfl⟩ := hO.parts
  simp only [AV.one] at o1 o2 hb
  refine fnI_wp (rs := [.tmp 4]) Tryd.func14 rfl rfl (Nat.le_of_ble_eq_true rfl) rfl rfl ?_
  simp +decide (disch := first | decide | omega) only [go_sem, Nat.reduceAdd, Nat.reduceMul, Nat.reduceSub, Nat.reduceLT, Nat.reduceLeDiff, Nat.reduceEqDiff, Nat.add_assoc, Int.reduceAdd, Int.reduceSub, Int.reduceMul, Int.reduceLT, Int.reduceLE, Int.reduceEq, Int.reduceNeg, strOp_add, o1, o2, hb, true_or]
  refine hm _ (hO.keep _ fun b hb => ?_) hN (fun b hb => by show b < m.nid + 1; have := hB b hb; omega) _ fun m1 q1 q2 q3 => ?_
  · have := hB b hb
    show upd _ _ _ _ = _
    simp (disch := omega) only [upd_hit, upd_miss]
  have q2' : m.nid + 1 ≤ m1.nid := q2
  simp +decide (disch := first | decide | omega) only [go_sem, Nat.reduceAdd, Nat.reduceMul, Nat.reduceSub, Nat.reduceLT, Nat.reduceLeDiff, Nat.reduceEqDiff, Nat.add_assoc, Int.reduceAdd, Int.reduceSub, Int.reduceMul, Int.reduceLT, Int.reduceLE, Int.reduceEq, Int.reduceNeg, strOp_add]
  refine hQ ⟨_, m1.nid⟩ (q1.keep _ fun b hb => rfl) (by show m.nid ≤ m1.nid; omega) fun j hj hn => (q3 j (by show j < m.nid + 1; omega) hn).trans ?_
  show upd _ _ _ _ = _
  simp (disch := omega) only [upd_hit, upd_miss]
/-- toNode, in a drawn region. -/
theorem toNode_far {M : Mem} (n : Nod) (hd : n.Sane) {K : Do → Prop}
    (hK : ∀ pv iv m' B J, M.nid ≤ m'.nid → J = (joinM [] M.nid M m').sto → (∀ j, j < M.nid → J j = M.sto j) → ONod ⟨J, m'.nid⟩ n [.int .i64 n.kind, .str n.data, pv, .int .i64 n.size, .int .i64 n.count, iv] B → Own M.nid m'.nid B → pv.one = true → iv.one = true → K (.call [] M.nid (.agg [.int .i64 n.kind, .str n.data, pv, .int .i64 n.size, .int .i64 n.count, iv]) m')) :
    closedB M (reachL M 2097152 (.agg [.int .i64 n.kind, .str n.data, .slice 6 (n.ptrs.map Nod.av), .int .i64 n.size, .int .i64 n.count, .slice 6 (n.items.map Nod.av)])) [.agg [.int .i64 n.kind, .str n.data, .slice 6 (n.ptrs.map Nod.av), .int .i64 n.size, .int .i64 n.count, .slice 6 (n.items.map Nod.av)]] = true ∧
      Comes (fnI CC PR 9 [.agg [.int .i64 n.kind, .str n.data, .slice 6 (n.ptrs.map Nod.av), .int .i64 n.size, .int .i64 n.count, .slice 6 (n.items.map Nod.av)]] (mask (reachL M 2097152 (.agg [.int .i64 n.kind, .str n.data, .slice 6 (n.ptrs.map Nod.av), .int .i64 n.size, .int .i64 n.count, .slice 6 (n.items.map Nod.av)])) M))
        (farK (reachL M 2097152 (.agg [.int .i64 n.kind, .str n.data, .slice 6 (n.ptrs.map Nod.av), .int .i64 n.size, .int .i64 n.count, .slice 6 (n.items.map Nod.av)])) M K) := by
  have ht := toNode_wp n hd
  rw [nav_eta n] at ht
  refine plain_far (by simp [still]) (ht _ _ fun k d pv s c iv m' B a1 a2 a3 a4 a5 a6 => ?_)
  obtain ⟨rfl, rfl, rfl, rfl⟩ := a1.std
  refine hK pv iv m' B _ a3 rfl (fun j hj => ?_) (a1.keep _ fun b hb => ?_) a2 a5 a6
  · have hj' : ¬ M.nid ≤ j := by omega
    simp [joinM, hj']
  · have hb' : M.nid ≤ b := (a2.2 b hb).1
    simp [joinM, hb']
theorem zeroN_sane : zeroN.Sane := by
  unfold zeroN
  exact .mk _ _ _ _ _ _ (by unfold i64; omega) (by unfold i64; omega) (by unfold i64; omega) (by decide) (by decide) (by decide) (fun x hx => by cases hx) fun x hx => by cases hx
/-- Small enough for all that is done with it. -/
def Fine (n : Nod) : Prop := n.Sane ∧ ndep n ≤ 2000000 ∧ cnt n ≤ 4194308
theorem zeroN_fine : Fine zeroN := by
  refine ⟨zeroN_sane, ?_, ?_⟩
  · unfold zeroN; rw [ndep_mk]; decide
  · unfold zeroN; rw [cnt_mk, cntL_nil]; decide
theorem fine_of {n : Nod} (hd : n.Sane) (hz : szN n ≤ 1048576) : Fine n := ⟨hd, by have := ndep_le n; omega, by have := cnt_le n; omega⟩
theorem szN_ptrs {n x : Nod} (h : x ∈ n.ptrs) : szN x ≤ szN n := by
  obtain ⟨k, d, p, s, c, i⟩ := n
  have := szNL_mem (l := p) h
  rw [szN_mk]
  omega
theorem fine_ptrs {n : Nod} (hd : n.Sane) (hz : szN n ≤ 1048576) {i : Nat} (h : i < n.ptrs.length) : Fine (n.ptrs.getD i zeroN) := by
  have e : n.ptrs.getD i zeroN = n.ptrs[i] := by rw [List.getD_eq_getElem?_getD, List.getElem?_eq_getElem h]; rfl
  rw [e]
  have := szN_ptrs (List.getElem_mem h)
  exact fine_of (hd.ptrs _ (List.getElem_mem h)) (by omega)
theorem getR_fine (x0 : ByteArray) (x1 x2 x3 x4 x5 x6 : Int) (n : Nod) (hd : n.Sane) (hz : szN n ≤ 1048576) : Fine (getR x0 x1 x2 x3 x4 x5 x6 n).2.2 := by
  unfold getR
  split
  · exact zeroN_fine
  split
  · exact zeroN_fine
  split
  · exact zeroN_fine
  split
  · exact zeroN_fine
  split
  · exact zeroN_fine
  split
  · exact zeroN_fine
  split
  · rename_i h
    exact fine_ptrs hd hz h
  · exact zeroN_fine
theorem ndep_mkL : ∀ (l : List Nod), (∀ x ∈ l, ∀ k, ndep (mkE k x) = ndep x) → ∀ k, (mkL k l).map ndep = l.map ndep
  | [], _, k => by rw [mkL]
  | x :: l, h, k => by rw [mkL, List.map_cons, List.map_cons, h x (by simp) k, ndep_mkL l (fun y hy => h y (by simp [hy]))]
theorem ndep_mkE : ∀ (n : Nod) (k : Nat), ndep (mkE k n) = ndep n := by
  intro n
  induction n using Nod.ind with
  | h a d p s c i ih1 ih2 =>
  intro k
  rw [mkE_mk, ndep_mk, ndep_mk, ndep_mkL p ih1, ndep_mkL i ih2]
theorem ndep_mkN (k : Nat) (n : Nod) : ndep (mkN k n) = ndep n := by
  obtain ⟨a, d, p, s, c, i⟩ := n
  simp only [mkN]
  rw [ndep_mk, ndep_mk, ndep_mkL p (fun x _ => ndep_mkE x), ndep_mkL i (fun x _ => ndep_mkE x)]
end Go.Ev.Tryd
