/- Part of the proof of a statement about the given program: G2D. No condition of its own. -/
import Derived.Test.YtjegppoenhfjlaaDoorG1D
import Derived.Test.YtjegppoenhfjlaaDoorA4D
namespace Go.Ev.Tryd
open Go.Proofs
set_option maxRecDepth 10000
set_option linter.unusedSimpArgs false
set_option linter.unusedVariables false
attribute [local congr] comes_congr bB_congr gK_congr gdK_congr
theorem sget_list {s : ByteArray} {i : Nat} (h : i < s.size) : s.data.toList[i]? = some (sget s i) := by
  have h' : i < s.data.size := h
  rw [List.getElem?_eq_getElem (by simpa using h')]
  simp only [sget, Array.getD, dif_pos h']
  rfl
theorem take_snoc {l : List UInt8} {i : Nat} {c : UInt8} (h : l[i]? = some c) : l.take (i + 1) = l.take i ++ [c] := by
  obtain ⟨h1, h2⟩ := List.getElem?_eq_some_iff.1 h
  rw [List.take_succ_eq_append_getElem h1, h2]
theorem piece_snoc {l : List UInt8} {f i : Nat} {c : UInt8} (h : l[i]? = some c) (hf : f ≤ i) : (l.drop f).take (i + 1 - f) = (l.drop f).take (i - f) ++ [c] := by
  have h1 : (l.drop f)[i - f]? = some c := by rw [List.getElem?_drop]; rw [show f + (i - f) = i by omega]; exact h
  rw [show i + 1 - f = (i - f) + 1 by omega, take_snoc h1]
set_option maxHeartbeats 1000000 in
theorem l8Cut_eq (s : ByteArray) (hs : s.size ≤ 1099511627775) : fnA CC PR 7 [.str s] = some (strsA (cut s)) := by
  apply comes_eq.1
  refine fnA_wp (rs := [.tmp 2]) Tryd.func7 rfl rfl (Nat.le_of_ble_eq_true rfl) rfl ?_
  simp +decide only [go_sem, Nat.reduceAdd, Nat.reduceMul, Nat.reduceSub, Nat.reduceLT, Nat.reduceLeDiff, Nat.reduceEqDiff, Nat.add_assoc, Int.reduceAdd, Int.reduceSub, Int.reduceMul, Int.reduceLT, Int.reduceLE, Int.reduceEq, Int.reduceNeg, strOp_add]
  refine comes_upto s.size (fun i st => ∃ (ws : List ByteArray) (f g : Nat) (ty : Option (TypeId × Bool)), f ≤ i ∧ ws.length ≤ i ∧ cutF ([], []) (s.data.toList.take i) = (ws.map (·.data.toList), (s.data.toList.drop f).take (i - f)) ∧ st.env 0 = .str s ∧ st.env 3 = .arr 0 g 0 ws.length 1 true ∧ st.env 4 = .int .i64 f ∧ st.env 5 = .int .i64 i ∧ 1 ≤ st.nid ∧ st.sto 0 = ⟨ws.map AV.str, g, false, ty⟩) ?_ ?_ _ ?_
  · rintro i st hi ⟨ws, f, g, ty, hf, hwl, hcut, e0, e3, e4, e5, en, s0⟩
    have w1 : IntKind.wrap .i64 ((i : Int) + 1) = ((i + 1 : Nat) : Int) := wrap_succ (by omega)
    have hcs := sget_list hi
    have htk := take_snoc hcs
    have hpc := piece_snoc hcs hf
    have hm : ws.length + 1 ≤ most := by simp only [most]; omega
    have x1 : (0 ≤ (f : Int)) = True := eq_true (by omega)
    have x2 : (0 ≤ (i : Int)) = True := eq_true (by omega)
    have x3 : (f ≤ i) = True := eq_true hf
    have x4 : (i ≤ s.size) = True := eq_true (by omega)
    have x5 : ((i : Int) ≤ (s.size : Int)) = True := eq_true (by omega)
    have x6 : ((f : Int) ≤ (i : Int)) = True := eq_true (by omega)
    simp +decide (disch := first | decide | omega) only [go_sem, Nat.reduceAdd, Nat.reduceMul, Nat.reduceSub, Nat.reduceLT, Nat.reduceLeDiff, Nat.reduceEqDiff, Nat.add_assoc, Int.reduceAdd, Int.reduceSub, Int.reduceMul, Int.reduceLT, Int.reduceLE, Int.reduceEq, Int.reduceNeg, strOp_add, e0, e3, e4, e5, s0, hi, s_at hi, w1]
    refine bB_split (fun hB => ?_) (fun hB => ?_)
    · simp only [decide_eq_true_eq] at hB
      simp +decide (disch := first | decide | omega) only [go_sem, Nat.reduceAdd, Nat.reduceMul, Nat.reduceSub, Nat.reduceLT, Nat.reduceLeDiff, Nat.reduceEqDiff, Nat.add_assoc, Int.reduceAdd, Int.reduceSub, Int.reduceMul, Int.reduceLT, Int.reduceLE, Int.reduceEq, Int.reduceNeg, strOp_add, e0, e3, e4, e5, s0, w1, hm, x1, x2, x3, x4, x5, x6, Int.toNat_natCast, and_false, if_false, List.length_map]
      refine ⟨ws ++ [s.extract f i], i + 1, g + 1, grewT 9 ty, Nat.le_refl _, by simp; omega, ?_, by simp, rfl, ?_⟩
      · have hc32 : sget s i = 32 := by
          have : (sget s i).toNat = 32 := by omega
          exact UInt8.toNat_inj.1 this
        rw [htk, cutF_app, hcut, hc32]
        simp [cutF, cutStep, ext_list]
      · simp
        rfl
    · simp only [decide_eq_false_iff_not] at hB
      simp +decide (disch := first | decide | omega) only [go_sem, Nat.reduceAdd, Nat.reduceMul, Nat.reduceSub, Nat.reduceLT, Nat.reduceLeDiff, Nat.reduceEqDiff, Nat.add_assoc, Int.reduceAdd, Int.reduceSub, Int.reduceMul, Int.reduceLT, Int.reduceLE, Int.reduceEq, Int.reduceNeg, strOp_add, e0, e3, e4, e5, s0, w1]
      refine ⟨ws, f, g, ty, by omega, by omega, ?_, rfl, rfl, en, rfl⟩
      have hc32 : ¬ sget s i = 32 := by
        intro e
        rw [e] at hB
        exact hB rfl
      rw [htk, cutF_app, hcut, hpc]
      simp [cutF, cutStep, hc32]
  · rintro st ⟨ws, f, g, ty, hf, hwl, hcut, e0, e3, e4, e5, en, s0⟩
    have hm : ws.length + 1 ≤ most := by simp only [most]; omega
    have x1 : (0 ≤ (f : Int)) = True := eq_true (by omega)
    have x3 : (f ≤ s.size) = True := eq_true hf
    simp +decide (disch := first | decide | omega) only [go_sem, Nat.reduceAdd, Nat.reduceMul, Nat.reduceSub, Nat.reduceLT, Nat.reduceLeDiff, Nat.reduceEqDiff, Nat.add_assoc, Int.reduceAdd, Int.reduceSub, Int.reduceMul, Int.reduceLT, Int.reduceLE, Int.reduceEq, Int.reduceNeg, strOp_add, e0, e3, e4, e5, s0, hm, x1, x3, Int.toNat_natCast, and_false, if_false, List.length_map]
    have hL : ws.map AV.str ++ [AV.str (s.extract f s.size)] = (ws ++ [s.extract f s.size]).map AV.str := by simp
    have hwl2 : (ws ++ [s.extract f s.size]).length = ws.length + 1 := by simp
    have hcu : cut s = ws ++ [s.extract f s.size] := by
      rw [List.take_of_length_le (show s.data.toList.length ≤ s.size from by simp)] at hcut
      unfold cut cutL
      rw [hcut, ← ext_list]
      rw [List.map_append, List.map_map, List.map_cons, List.map_nil]
      congr 1
      conv => rhs; rw [← List.map_id ws]
      exact List.map_congr_left fun x _ => by simp
    rw [hL, if_pos (by rw [List.length_map, hwl2]; exact Nat.le_refl _), List.take_of_length_le (by rw [List.length_map, hwl2]; exact Nat.le_refl _), snap_words]
    rw [hcu, ← hL]
    simp only [Option.map_some]
    refine comes_some.2 ?_
    have he := elems_words (ws ++ [s.extract f s.size])
    rw [hwl2] at he
    rw [hL]
    exact congrArg (AV.slice 1) he
  · simp +decide only [go_sem, Nat.reduceAdd, Nat.reduceMul, Nat.reduceSub, Nat.reduceLT, Nat.reduceLeDiff, Nat.reduceEqDiff, Nat.add_assoc, Int.reduceAdd, Int.reduceSub, Int.reduceMul, Int.reduceLT, Int.reduceLE, Int.reduceEq, Int.reduceNeg, strOp_add]
    exact ⟨[], 0, 0, none, Nat.le_refl _, Nat.le_refl _, rfl, rfl, rfl, rfl, rfl⟩
end Go.Ev.Tryd
