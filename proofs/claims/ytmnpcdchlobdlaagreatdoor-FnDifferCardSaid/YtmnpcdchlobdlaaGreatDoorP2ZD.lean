/- Part of the proof of a statement about the given program: P2ZD. No condition of its own. -/
import Derived.Test.YtmnpcdchlobdlaaGreatDoorP1ZD
namespace Go.Ev.Tryz
open Go.Proofs
set_option maxRecDepth 10000
set_option linter.unusedSimpArgs false
set_option linter.unusedVariables false
attribute [local congr] comes_congr bB_congr gK_congr gdK_congr

theorem Name_eq (d : Dat) (hd : d.Sane) (i : Nat) (x : ByteArray) (hx : d.steps[i]? = some x) (hl : i ≤ 1099511627776) : fnA CC PR 33 [d.av, .int .i64 i] = some (.str x) := by
  obtain ⟨k, n, t, l, ns⟩ := d
  rw [Dat.av_mk]
  by_cases h4 : k = 4
  · subst h4
    have hs : Dat.steps (.mk 4 n t l ns) = ns := by simp [Dat.steps, Dat.kind, Dat.names]
    rw [hs] at hx
    obtain ⟨hi', hx⟩ := List.getElem?_eq_some_iff.1 hx
    subst hx
    have hat := strs_at hi'
    apply comes_eq.1
    refine fnA_wp (rs := [.tmp 4]) Tryz.func33 rfl rfl (Nat.le_of_ble_eq_true rfl) rfl ?_
    simp +decide only [go_sem, Nat.reduceAdd, Nat.reduceMul, Nat.reduceSub, Nat.reduceLT, Nat.reduceLeDiff, Nat.reduceEqDiff, Nat.add_assoc, Int.reduceAdd, Int.reduceSub, Int.reduceMul, Int.reduceLT, Int.reduceLE, Int.reduceEq, Int.reduceNeg, strOp_add, hi', hat, List.length_map]
  · have hs : Dat.steps (.mk k n t l ns) = nums l.length := by simp [Dat.steps, Dat.kind, Dat.list, h4]
    rw [hs] at hx
    obtain ⟨hi', hx⟩ := List.getElem?_eq_some_iff.1 hx
    have e : x = dec (i : Nat) := by rw [← hx]; simp [nums]
    rw [e]
    have hq := l1Dec_nat i (by omega)
    apply comes_eq.1
    refine fnA_wp (rs := [.tmp 4]) Tryz.func33 rfl rfl (Nat.le_of_ble_eq_true rfl) rfl ?_
    simp +decide only [go_sem, Nat.reduceAdd, Nat.reduceMul, Nat.reduceSub, Nat.reduceLT, Nat.reduceLeDiff, Nat.reduceEqDiff, Nat.add_assoc, Int.reduceAdd, Int.reduceSub, Int.reduceMul, Int.reduceLT, Int.reduceLE, Int.reduceEq, Int.reduceNeg, strOp_add, h4, hq]
/-- A list of paths in a block of the call's own. -/
def ArrAt (m : Mem) (lo : Nat) (v : AV) (l : List (List ByteArray)) : Prop :=
  ∃ id g, lo ≤ id ∧ id < m.nid ∧ v = .arr id g 0 l.length 1 true ∧ ∃ ty, m.sto id = ⟨l.map strsA, g, false, ty⟩
end Go.Ev.Tryz
