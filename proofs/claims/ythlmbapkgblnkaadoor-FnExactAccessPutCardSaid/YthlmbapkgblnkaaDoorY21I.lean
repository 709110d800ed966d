/- Part of the proof of a statement about the given program: Y21I. No condition of its own. -/
import Derived.Test.YthlmbapkgblnkaaDoorY20I
namespace Go.Ev.Tryd
open Go.Proofs
set_option maxRecDepth 10000
set_option linter.unusedSimpArgs false
set_option linter.unusedVariables false
attribute [local congr] comes_congr bB_congr gK_congr gdK_congr

/-- Is a node ok, as the reference says? -/
def nodeOk4 (n : Nod) : Bool := ok4 n 8 && decide (((wrd n : Nat) : Int) < 200)
theorem specNodeOk_eq (n : Nod) (hd : n.Sane) (hz : szN n ≤ 1048576) : fnA CC PR 21 [n.av] = some (.bool (nodeOk4 n)) := by
  have h1 := (l4Ok_both n hd).1 8 (by omega) (by omega)
  have h2 := (l4Words_both n hd hz).1 8
  unfold nodeOk4
  rw [nav_eta] at h1 h2 ⊢
  cases hok : ok4 n 8
  · rw [hok] at h1
    apply comes_eq.1
    refine fnA_wp (rs := [.tmp 2]) Tryd.func21 rfl rfl (Nat.le_of_ble_eq_true rfl) rfl ?_
    simp +decide only [go_sem, Nat.reduceAdd, Nat.reduceMul, Nat.reduceSub, Nat.reduceLT, Nat.reduceLeDiff, Nat.reduceEqDiff, Nat.add_assoc, Int.reduceAdd, Int.reduceSub, Int.reduceMul, Int.reduceLT, Int.reduceLE, Int.reduceEq, Int.reduceNeg, strOp_add, h1]
    try rfl
  · rw [hok] at h1
    have h2 := h2 hok
    generalize wrd n = w at *
    apply comes_eq.1
    refine fnA_wp (rs := [.tmp 2]) Tryd.func21 rfl rfl (Nat.le_of_ble_eq_true rfl) rfl ?_
    simp +decide only [go_sem, Nat.reduceAdd, Nat.reduceMul, Nat.reduceSub, Nat.reduceLT, Nat.reduceLeDiff, Nat.reduceEqDiff, Nat.add_assoc, Int.reduceAdd, Int.reduceSub, Int.reduceMul, Int.reduceLT, Int.reduceLE, Int.reduceEq, Int.reduceNeg, strOp_add, h1, h2]
    try rfl
/-! ### both say the same -/
theorem struct_shape {n : Nod} (h : n.kind = 1) : nshape n = structB n := by
  unfold nshape structB
  rw [if_neg (by omega), if_pos h, decide_eq_true h, Bool.true_and]
  cases decide (n.data.size % 8 = 0) <;> cases decide (n.items.length = 0) <;> cases decide (n.size = 0) <;> cases decide (n.count = 0) <;> rfl
theorem likeS_B : ∀ (l : List Nod), (∀ x ∈ l, x.kind = 1 → structB x = true) → likeS l = likeB l
  | [], _ => rfl
  | a :: l, h => by
    unfold likeS likeB
    simp only
    rw [Bool.eq_iff_iff, List.all_eq_true, List.all_eq_true]
    constructor
    · intro h1 x hx
      have h2 := h1 x hx
      unfold okI structB at h2
      simp only [Bool.and_eq_true, decide_eq_true_eq] at h2 ⊢
      exact ⟨h2.1.1, h2.2⟩
    · intro h1 x hx
      have h2 := h1 x hx
      simp only [Bool.and_eq_true, decide_eq_true_eq] at h2
      unfold okI
      rw [h x hx h2.1]
      simp only [Bool.and_eq_true, decide_eq_true_eq, true_and]
      exact h2.2
/-- A list's form, where its items are structs just if they say so. -/
theorem list_shape {n : Nod} (h : n.kind = 2) (hi : likeS n.items = likeB n.items) : listB n = nshape n := by
  unfold listB nshape
  have k0 : ¬ n.kind = 0 := by omega
  have k1 : ¬ n.kind = 1 := by omega
  by_cases hc : 0 ≤ n.count ∧ n.count ≤ 12800
  · by_cases hs : 0 ≤ n.size ∧ n.size ≤ 7
    · by_cases h6 : n.size = 6
      · have h5 : ¬ (0 ≤ n.size ∧ n.size ≤ 5) := by omega
        simp only [h, k0, k1, hc, hs, h6, if_true, if_false]
        cases decide (n.data = ⟨#[]⟩) <;> cases decide (n.ptrs.length = n.count.toNat) <;> cases decide (n.items.length = 0) <;> rfl
      · by_cases h7 : n.size = 7
        · have h5 : ¬ (0 ≤ n.size ∧ n.size ≤ 5) := by omega
          simp only [h, k0, k1, hc, hs, h6, h7, hi, if_true, if_false]
          cases likeB n.items <;> cases decide (n.data = ⟨#[]⟩) <;> cases decide (n.ptrs.length = 0) <;> cases decide (n.items.length = n.count.toNat) <;> rfl
        · have h5 : (0 ≤ n.size ∧ n.size ≤ 5) := by omega
          rw [if_pos h, if_pos hs, if_pos hc, if_neg h6, if_neg h7, if_neg k0, if_neg k1, if_pos h, if_pos hc, if_pos h5]
          unfold bareB plainB
          rw [Bool.and_assoc]
    · have h5 : ¬ (0 ≤ n.size ∧ n.size ≤ 5) := by omega
      have h6 : ¬ n.size = 6 := by omega
      have h7 : ¬ n.size = 7 := by omega
      rw [if_pos h, if_neg hs, if_neg k0, if_neg k1, if_pos h, if_pos hc, if_neg h5, if_neg h6, if_neg h7]
  · rw [if_pos h, if_neg hc, if_neg k0, if_neg k1, if_pos h, if_neg hc]
    split <;> rfl
end Go.Ev.Tryd
