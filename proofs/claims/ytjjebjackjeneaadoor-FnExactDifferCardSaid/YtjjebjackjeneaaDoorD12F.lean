/- Part of the proof of a statement about the given program: D12F. No condition of its own. -/
import Derived.Test.YtjjebjackjeneaaDoorD10F
namespace Go.Ev.Tryd
open Go.Proofs
set_option maxRecDepth 10000
set_option linter.unusedSimpArgs false
set_option linter.unusedVariables false
attribute [local congr] comes_congr bB_congr gK_congr gdK_congr

def pathGet (d : Dat) (p : List ByteArray) : AV := if writ 8 d = true then pairA (getP d p) else pairA none

theorem specPathGet_eq (p : List ByteArray) (d : Dat) (hp : p.length ≤ 1099511627776) (hd : d.Sane) : fnA CC PR 18 [d.av, strsA p] = some (pathGet d p) := by
  have hok := l10Ok_eq 8 d (by omega) hd
  have c8 : ((8 : Nat) : Int) = 8 := rfl
  rw [c8] at hok
  have hget : writ 8 d = true → _ := fun h => l11Get_eq p d hp hd ⟨8, Nat.le_refl _, h⟩
  unfold pathGet
  cases hw : writ 8 d
  all_goals rw [hw] at hok hget
  · clear hget
    obtain ⟨k, n, t, l, ns⟩ := d
    rw [Dat.av_mk] at hok ⊢
    apply comes_eq.1
    refine fnA_wp (rs := [.cell 4 31, .tmp 5]) Tryd.func18 rfl rfl (Nat.le_of_ble_eq_true rfl) rfl ?_
    simp +decide only [go_sem, Nat.reduceAdd, Nat.reduceMul, Nat.reduceSub, Nat.reduceLT, Nat.reduceLeDiff, Nat.reduceEqDiff, Nat.add_assoc, Int.reduceAdd, Int.reduceSub, Int.reduceMul, Int.reduceLT, Int.reduceLE, Int.reduceEq, Int.reduceNeg, strOp_add, hok]
    simp [pairA, zeroD_av]
  · have hget := hget rfl
    obtain ⟨k3, n3, t3, l3, ns3, hcs3⟩ := cells_of ((getP d p).getD zeroD)
    rw [if_pos rfl]
    unfold pairA strsA at hget ⊢
    rw [hcs3] at hget ⊢
    obtain ⟨k, n, t, l, ns⟩ := d
    rw [Dat.av_mk] at hok hget ⊢
    apply comes_eq.1
    refine fnA_wp (rs := [.cell 4 31, .tmp 5]) Tryd.func18 rfl rfl (Nat.le_of_ble_eq_true rfl) rfl ?_
    simp +decide only [go_sem, Nat.reduceAdd, Nat.reduceMul, Nat.reduceSub, Nat.reduceLT, Nat.reduceLeDiff, Nat.reduceEqDiff, Nat.add_assoc, Int.reduceAdd, Int.reduceSub, Int.reduceMul, Int.reduceLT, Int.reduceLE, Int.reduceEq, Int.reduceNeg, strOp_add, hok, hget]
theorem DatumPut_no (d : Dat) (hd : d.Sane) (h : writ 8 d = false) : fnA CC PR 28 [d.av] = some (.str ⟨#[]⟩) := by
  have hok := writable_eq 8 d (by omega) hd
  have c8 : ((8 : Nat) : Int) = 8 := rfl
  rw [c8, h] at hok
  obtain ⟨k, n, t, l, ns⟩ := d
  rw [Dat.av_mk] at hok ⊢
  apply comes_eq.1
  refine fnA_wp (rs := [.tmp 2]) Tryd.func28 rfl rfl (Nat.le_of_ble_eq_true rfl) rfl ?_
  simp +decide only [go_sem, Nat.reduceAdd, Nat.reduceMul, Nat.reduceSub, Nat.reduceLT, Nat.reduceLeDiff, Nat.reduceEqDiff, Nat.add_assoc, Int.reduceAdd, Int.reduceSub, Int.reduceMul, Int.reduceLT, Int.reduceLE, Int.reduceEq, Int.reduceNeg, strOp_add, hok]
theorem DatumPut_ok (d : Dat) (hd : d.Sane) (h : writ 8 d = true) : ∃ s, fnA CC PR 28 [d.av] = some (.str s) ∧ 1 ≤ s.size := by
  have hok := writable_eq 8 d (by omega) hd
  have c8 : ((8 : Nat) : Int) = 8 := rfl
  rw [c8, h] at hok
  obtain ⟨s, hs, hs1, _⟩ := text_ok 8 d (Nat.le_refl _) hd h
  refine ⟨s, ?_, hs1⟩
  obtain ⟨k, n, t, l, ns⟩ := d
  rw [Dat.av_mk] at hok hs ⊢
  apply comes_eq.1
  refine fnA_wp (rs := [.tmp 2]) Tryd.func28 rfl rfl (Nat.le_of_ble_eq_true rfl) rfl ?_
  simp +decide only [go_sem, Nat.reduceAdd, Nat.reduceMul, Nat.reduceSub, Nat.reduceLT, Nat.reduceLeDiff, Nat.reduceEqDiff, Nat.add_assoc, Int.reduceAdd, Int.reduceSub, Int.reduceMul, Int.reduceLT, Int.reduceLE, Int.reduceEq, Int.reduceNeg, strOp_add, hok, hs]
/-- What the pointer to what is at the end of a path is. -/
def atA (id : Nat) (d : Dat) (p : List ByteArray) : AV := match p with
  | [] => .ptr id 0 0
  | _ => match getP d p with
    | some x => .eptr x.av.cells
    | none => .nilp
end Go.Ev.Tryd
