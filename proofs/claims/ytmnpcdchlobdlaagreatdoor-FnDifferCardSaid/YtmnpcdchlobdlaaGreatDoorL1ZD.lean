/- Part of the proof of a statement about the given program: L1ZD. No condition of its own. -/
import Derived.Test.YtmnpcdchlobdlaaGreatDoorR15ZD
namespace Go.Ev.Tryz
open Go.Proofs
set_option maxRecDepth 10000
set_option linter.unusedSimpArgs false
set_option linter.unusedVariables false
attribute [local congr] comes_congr bB_congr gK_congr gdK_congr

theorem writ_mono : ∀ (n m : Nat) (d : Dat), n ≤ m → writ n d = true → writ m d = true
  | 0, m, d, _, h => by cases h
  | n + 1, 0, d, h, _ => by omega
  | n + 1, m + 1, d, hnm, h => by
    simp only [writ, Bool.and_eq_true, List.all_eq_true] at h ⊢
    exact ⟨h.1, h.2.1, fun x hx => writ_mono n m x (by omega) (h.2.2 x hx)⟩
theorem writ_elem (n : Nat) {d y : Dat} (h : writ (n + 1) d = true) (hm : y ∈ d.list) : writ n y = true := by
  simp only [writ, Bool.and_eq_true, List.all_eq_true] at h
  exact h.2.2 y hm
theorem getP_sane : ∀ (p : List ByteArray) (d x : Dat), d.Sane → writ 8 d = true → getP d p = some x → x.Sane ∧ writ 8 x = true
  | [], d, x, h1, h2, h => by simp [getP] at h; subst h; exact ⟨h1, h2⟩
  | s :: p, d, x, h1, h2, h => by
    simp only [getP, Option.bind_eq_some_iff] at h
    obtain ⟨y, hy, h⟩ := h
    have hm : y ∈ d.list := by
      unfold Dat.step at hy
      split at hy
      · cases hy
      · exact List.mem_of_getElem? hy
    refine getP_sane p y x (h1.elem hm) ?_ h
    exact writ_mono 7 8 y (by omega) (writ_elem 7 h2 hm)
def bytesA (bs : List Int) : AV := .slice 1 (bs.map (.int .u8 ·))
theorem bytes_ok {bs : List Int} (hb : ∀ b ∈ bs, 0 ≤ b ∧ b ≤ 255) : Bytes (bs.take 2000) := ⟨by rw [List.length_take]; omega, fun b h => hb b (List.mem_of_mem_take h)⟩
theorem OpenF_wp (bs : List Int) (m : Mem) (hb : ∀ b ∈ bs, 0 ≤ b ∧ b ≤ 255) (Q : AV × Mem → Prop)
    (hQ : ∀ m', RdAt m' m.nid (bs.take 2000) 0 → m.nid < m'.nid → (∀ j, j < m.nid → m'.sto j = m.sto j) → Q (.ptr m.nid 0 0, m')) :
    Comes (fnI CC PR 11 [.slice 1 (bs.map (.int .u8 ·))] m) Q := by
  refine fnI_wp (rs := [.tmp 2]) Tryz.func11 rfl rfl (Nat.le_of_ble_eq_true rfl) rfl rfl ?_
  simp +decide only [go_sem, Nat.reduceAdd, Nat.reduceMul, Nat.reduceSub, Nat.reduceLT, Nat.reduceLeDiff, Nat.reduceEqDiff, Nat.add_assoc, Int.reduceAdd, Int.reduceSub, Int.reduceMul, Int.reduceLT, Int.reduceLE, Int.reduceEq, Int.reduceNeg, strOp_add, List.length_map]
  refine bB_split (fun hB => ?_) (fun hB => ?_)
  · simp only [decide_eq_true_eq] at hB
    have h1 : (2000 : Int) ≤ (bs.length : Int) := by omega
    simp +decide only [go_sem, Nat.reduceAdd, Nat.reduceMul, Nat.reduceSub, Nat.reduceLT, Nat.reduceLeDiff, Nat.reduceEqDiff, Nat.add_assoc, Int.reduceAdd, Int.reduceSub, Int.reduceMul, Int.reduceLT, Int.reduceLE, Int.reduceEq, Int.reduceNeg, strOp_add, List.length_map, h1]
    exact hQ _ ⟨Nat.lt_succ_self _, 0, Nat.le_refl _, (upd_hit _ _ _).trans (by simp [List.map_take])⟩ (Nat.lt_succ_self _) fun j hj => upd_miss _ _ _ _ (by omega)
  · simp only [decide_eq_false_iff_not] at hB
    simp +decide only [go_sem, Nat.reduceAdd, Nat.reduceMul, Nat.reduceSub, Nat.reduceLT, Nat.reduceLeDiff, Nat.reduceEqDiff, Nat.add_assoc, Int.reduceAdd, Int.reduceSub, Int.reduceMul, Int.reduceLT, Int.reduceLE, Int.reduceEq, Int.reduceNeg, strOp_add, List.length_map]
    have : bs.take 2000 = bs := List.take_of_length_le (by omega)
    rw [this] at hQ
    exact hQ _ ⟨Nat.lt_succ_self _, 0, Nat.le_refl _, (upd_hit _ _ _)⟩ (Nat.lt_succ_self _) fun j hj => upd_miss _ _ _ _ (by omega)
theorem getP_cons (d : Dat) (q : ByteArray) (r : List ByteArray) : getP d (q :: r) = (getP d [q]).bind fun x => getP x r := by
  simp only [getP]
  cases d.step q <;> simp
theorem pathGet_res (d : Dat) (p : List ByteArray) (hd : d.Sane) : ∃ (x : Dat) (f : Bool), pathGet d p = .tup [x.av, .bool f] ∧ x.Sane ∧ (f = true → writ 8 d = true ∧ getP d p = some x) := by
  have hz : zeroD.Sane := by
    unfold zeroD
    exact .mk _ _ _ _ _ (by unfold i64; omega) (by unfold i64; omega) (by decide) (by simp) (by simp) (by simp) (by simp)
  unfold pathGet
  split
  · rename_i hw
    cases hg : getP d p with
    | none => exact ⟨zeroD, false, rfl, hz, fun h => by cases h⟩
    | some x => exact ⟨x, true, rfl, (getP_sane p d x hd hw hg).1, fun _ => ⟨hw, rfl⟩⟩
  · exact ⟨zeroD, false, rfl, hz, fun h => by cases h⟩
end Go.Ev.Tryz
