/- Part of the proof of a statement about the given program: Y18I. No condition of its own. -/
import Derived.Test.YthlmbapkgblnkaaDoorY17I
namespace Go.Ev.Tryd
open Go.Proofs
set_option maxRecDepth 10000
set_option linter.unusedSimpArgs false
set_option linter.unusedVariables false
attribute [local congr] comes_congr bB_congr gK_congr gdK_congr

/-- The words of items, without what they lead to. -/
def itW : List Nod → Nat
  | [] => 0
  | x :: l => x.data.size / 8 + x.ptrs.length + itW l
theorem itW_app : ∀ (a b : List Nod), itW (a ++ b) = itW a + itW b
  | [], b => (Nat.zero_add _).symm
  | x :: a, b => by rw [List.cons_append, itW, itW, itW_app a b]; omega
theorem itW_take {l : List Nod} {j : Nat} (hj : j < l.length) : itW (l.take (j + 1)) = itW (l.take j) + (l[j].data.size / 8 + l[j].ptrs.length) := by
  rw [List.take_succ_eq_append_getElem hj, itW_app, itW, itW]
  omega
theorem szN_part (n : Nod) : n.data.size + n.ptrs.length ≤ szN n := by
  obtain ⟨k, d, p, s, c, i⟩ := n
  rw [szN_mk]
  simp only [Nod.data, Nod.ptrs]
  omega
theorem itW_le : ∀ (l : List Nod), itW l ≤ szNL l
  | [] => Nat.zero_le _
  | x :: l => by
    have h1 := itW_le l
    have h2 := szN_part x
    rw [itW, szNL_cons]
    omega
theorem itW_le2 (l : List Nod) (j : Nat) : itW (l.take j) ≤ itW l := by
  have := itW_app (l.take j) (l.drop j)
  rw [List.take_append_drop] at this
  omega
/-- The words of a node, without what is within, as the reference counts. -/
def own4 (n : Nod) : Nat :=
  if n.kind = 1 then n.data.size / 8 + n.ptrs.length
  else if n.kind = 2 then
    if n.size = 7 then 1 + itW n.items
    else if n.size = 6 then n.ptrs.length
    else (n.data.size + 7) / 8
  else 0
set_option maxHeartbeats 4000000 in
theorem l4Own_eq (n : Nod) (hd : n.Sane) (hz : szN n ≤ 1048576) (h6c : n.kind = 2 → n.size = 6 → n.count = (n.ptrs.length : Int)) : fnA CC PR 63 [n.av] = some (.int .i64 (own4 n : Nat)) := by
  obtain ⟨h1, h2, h3⟩ : n.data.size ≤ 1048576 ∧ n.ptrs.length ≤ 1048576 ∧ n.items.length ≤ 1048576 := by
    cases hd
    exact ⟨by assumption, by assumption, by assumption⟩
  have m1 : ((n.data.size : Int).tdiv 8) = ((n.data.size / 8 : Nat) : Int) := rfl
  have m2 : IntKind.wrap .i64 ((n.data.size / 8 : Nat) : Int) = ((n.data.size / 8 : Nat) : Int) := wrap_id (by omega) (by omega)
  have hiz : szNL n.items ≤ 1048576 := by
    obtain ⟨k, d, p, s, c, i⟩ := n
    rw [szN_mk] at hz
    simp only [Nod.items]
    omega
  rw [nav_eta]
  unfold own4
  by_cases k1 : n.kind = 1
  · rw [if_pos k1]
    have k1' : (n.kind = 1) = True := eq_true k1
    have m3 : IntKind.wrap .i64 (((n.data.size / 8 : Nat) : Int) + (n.ptrs.length : Int)) = ((n.data.size / 8 + n.ptrs.length : Nat) : Int) := by rw [wrap_id (by omega) (by omega)]; omega
    apply comes_eq.1
    refine fnA_wp (rs := [.tmp 2]) Tryd.func63 rfl rfl (Nat.le_of_ble_eq_true rfl) rfl ?_
    generalize n.data.size / 8 = d8 at *
    simp +decide only [go_sem, Nat.reduceAdd, Nat.reduceMul, Nat.reduceSub, Nat.reduceLT, Nat.reduceLeDiff, Nat.reduceEqDiff, Nat.add_assoc, Int.reduceAdd, Int.reduceSub, Int.reduceMul, Int.reduceLT, Int.reduceLE, Int.reduceEq, Int.reduceNeg, strOp_add, k1', m1, m2, m3, List.length_map]
  rw [if_neg k1]
  have k1' : (n.kind = 1) = False := eq_false k1
  by_cases k2 : n.kind = 2
  case neg =>
    rw [if_neg k2]
    have k2' : (n.kind = 2) = False := eq_false k2
    apply comes_eq.1
    refine fnA_wp (rs := [.tmp 2]) Tryd.func63 rfl rfl (Nat.le_of_ble_eq_true rfl) rfl ?_
    simp +decide only [go_sem, Nat.reduceAdd, Nat.reduceMul, Nat.reduceSub, Nat.reduceLT, Nat.reduceLeDiff, Nat.reduceEqDiff, Nat.add_assoc, Int.reduceAdd, Int.reduceSub, Int.reduceMul, Int.reduceLT, Int.reduceLE, Int.reduceEq, Int.reduceNeg, strOp_add, k1', k2']
    rfl
  rw [if_pos k2]
  have k2' : (n.kind = 2) = True := eq_true k2
  by_cases h7 : n.size = 7
  · rw [if_pos h7]
    have h7' : (n.size = 7) = True := eq_true h7
    have hit := itW_le n.items
    apply comes_eq.1
    refine fnA_wp (rs := [.tmp 2]) Tryd.func63 rfl rfl (Nat.le_of_ble_eq_true rfl) rfl ?_
    simp +decide only [go_sem, Nat.reduceAdd, Nat.reduceMul, Nat.reduceSub, Nat.reduceLT, Nat.reduceLeDiff, Nat.reduceEqDiff, Nat.add_assoc, Int.reduceAdd, Int.reduceSub, Int.reduceMul, Int.reduceLT, Int.reduceLE, Int.reduceEq, Int.reduceNeg, strOp_add, k1', k2', h7']
    refine comes_upto n.items.length (fun j st => st.env 1 = .ptr 0 0 0 ∧ st.env 3 = .int .i64 ((1 + itW (n.items.take j) : Nat) : Int) ∧ st.env 4 = .int .i64 j ∧ 1 ≤ st.nid ∧ st.sto 0 = ⟨[.int .i64 n.kind, .str n.data, .slice 6 (n.ptrs.map Nod.av), .int .i64 n.size, .int .i64 n.count, .slice 6 (n.items.map Nod.av)], 0, false, none⟩) ?_ ?_ _ ?_
    · rintro j st hj ⟨e1, e3, e4, en, s0⟩
      have ha := nav_at hj
      have w1 : IntKind.wrap .i64 ((j : Int) + 1) = ((j + 1 : Nat) : Int) := wrap_succ (by omega)
      have htk := itW_take hj
      have hle := itW_le2 n.items (j + 1)
      rw [htk] at hle
      rw [htk]
      rw [nav_eta] at ha
      generalize itW (n.items.take j) = w at *
      generalize n.items[j] = x at *
      have x1 : ((x.data.size : Int).tdiv 8) = ((x.data.size / 8 : Nat) : Int) := rfl
      generalize x.data.size / 8 = x8 at *
      have x2 : IntKind.wrap .i64 ((x8 : Nat) : Int) = ((x8 : Nat) : Int) := wrap_id (by omega) (by omega)
      obtain ⟨v1, hv1⟩ : ∃ v, v = 1 + w := ⟨_, rfl⟩
      obtain ⟨v2, hv2⟩ : ∃ v, v = v1 + x8 := ⟨_, rfl⟩
      obtain ⟨v3, hv3⟩ : ∃ v, v = v2 + x.ptrs.length := ⟨_, rfl⟩
      have x3 : IntKind.wrap .i64 ((v1 : Int) + (x8 : Int)) = (v2 : Int) := by rw [wrap_id (by omega) (by omega)]; omega
      have x4 : IntKind.wrap .i64 ((v2 : Int) + (x.ptrs.length : Int)) = (v3 : Int) := by rw [wrap_id (by omega) (by omega)]; omega
      rw [← hv1] at e3
      rw [show 1 + (w + (x8 + x.ptrs.length)) = v3 by omega]
      clear hv1 hv2 hv3
      simp +decide only [go_sem, Nat.reduceAdd, Nat.reduceMul, Nat.reduceSub, Nat.reduceLT, Nat.reduceLeDiff, Nat.reduceEqDiff, Nat.add_assoc, Int.reduceAdd, Int.reduceSub, Int.reduceMul, Int.reduceLT, Int.reduceLE, Int.reduceEq, Int.reduceNeg, strOp_add, e1, e3, e4, s0, hj, List.length_map]
      refine (d_plan (ord := [0, 1, 2, 3, 4, 5, 6, 7, 8, 9, 10, 11, 12, 13, 14, 15, 16, 17, 18]) (prs := [(2, 11), (6, 11), (2, 15), (6, 15)]) (by kernel_rfl)).2 ?_
      simp +decide only [go_sem, Nat.reduceAdd, Nat.reduceMul, Nat.reduceSub, Nat.reduceLT, Nat.reduceLeDiff, Nat.reduceEqDiff, Nat.add_assoc, Int.reduceAdd, Int.reduceSub, Int.reduceMul, Int.reduceLT, Int.reduceLE, Int.reduceEq, Int.reduceNeg, strOp_add, e1, e3, e4, s0, hj, ha, w1, x1, x2, x3, x4, List.length_map]
    · rintro st ⟨e1, e3, e4, en, s0⟩
      rw [List.take_length] at e3
      generalize 1 + itW n.items = v at *
      simp +decide only [go_sem, Nat.reduceAdd, Nat.reduceMul, Nat.reduceSub, Nat.reduceLT, Nat.reduceLeDiff, Nat.reduceEqDiff, Nat.add_assoc, Int.reduceAdd, Int.reduceSub, Int.reduceMul, Int.reduceLT, Int.reduceLE, Int.reduceEq, Int.reduceNeg, strOp_add, e1, e3, e4, s0, List.length_map]
    · simp +decide only [go_sem, Nat.reduceAdd, Nat.reduceMul, Nat.reduceSub, Nat.reduceLT, Nat.reduceLeDiff, Nat.reduceEqDiff, Nat.add_assoc, Int.reduceAdd, Int.reduceSub, Int.reduceMul, Int.reduceLT, Int.reduceLE, Int.reduceEq, Int.reduceNeg, strOp_add]
      exact ⟨by rw [itW]; rfl, rfl⟩
  rw [if_neg h7]
  have h7' : (n.size = 7) = False := eq_false h7
  by_cases h6 : n.size = 6
  · rw [if_pos h6]
    have h6' : (n.size = 6) = True := eq_true h6
    rw [h6c k2 h6]
    apply comes_eq.1
    refine fnA_wp (rs := [.tmp 2]) Tryd.func63 rfl rfl (Nat.le_of_ble_eq_true rfl) rfl ?_
    simp +decide only [go_sem, Nat.reduceAdd, Nat.reduceMul, Nat.reduceSub, Nat.reduceLT, Nat.reduceLeDiff, Nat.reduceEqDiff, Nat.add_assoc, Int.reduceAdd, Int.reduceSub, Int.reduceMul, Int.reduceLT, Int.reduceLE, Int.reduceEq, Int.reduceNeg, strOp_add, k1', k2', h7', h6']
  · rw [if_neg h6]
    have h6' : (n.size = 6) = False := eq_false h6
    have y1 : IntKind.wrap .i64 ((n.data.size : Int) + 7) = ((n.data.size + 7 : Nat) : Int) := by rw [wrap_id (by omega) (by omega)]; omega
    have y2 : (((n.data.size + 7 : Nat) : Int).tdiv 8) = (((n.data.size + 7) / 8 : Nat) : Int) := rfl
    have y3 : IntKind.wrap .i64 (((n.data.size + 7) / 8 : Nat) : Int) = (((n.data.size + 7) / 8 : Nat) : Int) := wrap_id (by omega) (by omega)
    apply comes_eq.1
    refine fnA_wp (rs := [.tmp 2]) Tryd.func63 rfl rfl (Nat.le_of_ble_eq_true rfl) rfl ?_
    generalize (n.data.size + 7) / 8 = d8 at *
    generalize n.data.size + 7 = d7 at *
    simp +decide only [go_sem, Nat.reduceAdd, Nat.reduceMul, Nat.reduceSub, Nat.reduceLT, Nat.reduceLeDiff, Nat.reduceEqDiff, Nat.add_assoc, Int.reduceAdd, Int.reduceSub, Int.reduceMul, Int.reduceLT, Int.reduceLE, Int.reduceEq, Int.reduceNeg, strOp_add, k1', k2', h7', h6', y1, y2, y3]
end Go.Ev.Tryd
