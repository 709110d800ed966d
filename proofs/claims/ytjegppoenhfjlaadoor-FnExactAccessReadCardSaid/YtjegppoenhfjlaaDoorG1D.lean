/- Part of the proof of a statement about the given program: G1D. No condition of its own. -/
import Derived.Test.YtjegppoenhfjlaaDoorJD
import Derived.Test.YtjegppoenhfjlaaDoorC2
import Derived.Lib.IndexLaws
namespace Go.Ev.Tryd
open Go.Proofs
set_option maxRecDepth 10000
set_option linter.unusedSimpArgs false
set_option linter.unusedVariables false
attribute [local congr] comes_congr bB_congr gK_congr gdK_congr
/-- The words of a text. -/
def cut (s : ByteArray) : List ByteArray := (cutL s.data.toList).map fun l => ⟨l.toArray⟩
theorem count_eq (s : ByteArray) : fnA CC PR 32 [.str s, .str ⟨#[32]⟩] = some (.int .i64 (Lib.countByte s.data.toList 32)) :=
  fnA_prim CC PR (by simp [PR]; exact ⟨rfl, rfl⟩)
theorem index_eq (s : ByteArray) : fnA CC PR 33 [.str s, .str ⟨#[32]⟩] = some (.int .i64 (Lib.indexByte s.data.toList 32)) :=
  fnA_prim CC PR (by simp [PR]; exact ⟨rfl, rfl⟩)
theorem ext_list (s : ByteArray) (a b : Nat) : (s.extract a b).data.toList = (s.data.toList.drop a).take (b - a) := by
  simp [ByteArray.data_extract, Array.toList_extract, List.extract_eq_take_drop]
theorem ext_size (s : ByteArray) (a b : Nat) : (s.extract a b).size = (min b s.size) - a := by
  simp [ByteArray.size_extract]
theorem split_at {l : List UInt8} {o : Nat} (h : Lib.indexByte l 32 = o) : o < l.length ∧ l = l.take o ++ 32 :: l.drop (o + 1) ∧ ∀ c ∈ l.take o, c ≠ 32 := by
  obtain ⟨h1, h2⟩ := Lib.indexByte_some h
  obtain ⟨hlt, h1⟩ := List.getElem?_eq_some_iff.1 h1
  refine ⟨hlt, ?_, fun c hc e => ?_⟩
  · conv => lhs; rw [← List.take_append_drop o l, List.drop_eq_getElem_cons hlt, h1]
  · subst e
    obtain ⟨k, hk, hk2⟩ := List.mem_iff_getElem.1 hc
    rw [List.getElem_take] at hk2
    rw [List.length_take] at hk
    refine h2 k (by omega) ?_
    rw [List.getElem?_eq_getElem (by omega), hk2]
theorem cut_end {ws : List (List UInt8)} {l r : List UInt8} (h : cutF ([], []) l = cutF (ws, []) r) (hr : ∀ c ∈ r, c ≠ 32) : cutL l = ws ++ [r] := by
  unfold cutL
  rw [h, cutF_none r (ws, []) hr]
  rfl
theorem cut_round {ws : List (List UInt8)} {l r w r' : List UInt8} (h : cutF ([], []) l = cutF (ws, []) r) (hr : r = w ++ 32 :: r') (hw : ∀ c ∈ w, c ≠ 32) : cutF ([], []) l = cutF (ws ++ [w], []) r' := by
  rw [h, hr, cutF_app, cutF_none w (ws, []) hw]
  rfl
theorem snap_words (ws : List ByteArray) (m : Mem) (k : Nat) : (ws.map AV.str).mapM (snapD m (k + 1)) = some (ws.map AV.str) := by
  induction ws with
  | nil => rfl
  | cons c l ih => rw [List.map_cons, List.mapM_cons, ih]; rfl
theorem elems_words (ws : List ByteArray) : elems 1 ws.length (ws.map AV.str) = ws.map AV.str := by
  induction ws with
  | nil => rfl
  | cons c l ih => simp [elems, ih]
theorem genSplit_eq (s : ByteArray) (hs : s.size ≤ 1099511627775) : fnA CC PR 24 [.str s, .str ⟨#[32]⟩, .int .i64 0, .int .i64 (-1)] = some (strsA (cut s)) := by
  apply comes_eq.1
  refine fnA_wp (rs := [.tmp 8]) Tryd.func24 rfl rfl (Nat.le_of_ble_eq_true rfl) rfl ?_
  have hc := count_eq s
  have hcs : Lib.countByte s.data.toList 32 ≤ s.size := List.count_le_length
  generalize hn : Lib.countByte s.data.toList 32 = n at hc hcs
  have w1 : IntKind.wrap .i64 ((n : Int) + 1) = ((n + 1 : Nat) : Int) := wrap_succ (by omega)
  have w2 : IntKind.wrap .i64 ((s.size : Int) + 1) = ((s.size + 1 : Nat) : Int) := wrap_succ (by omega)
  have w3 : IntKind.wrap .i64 (((n + 1 : Nat) : Int) - 1) = (n : Int) := by rw [wrap_id (by omega) (by omega)]; omega
  have m1 : (s.size + 1 < n + 1) = False := eq_false (by omega)
  have m2 : (0 ≤ ((n + 1 : Nat) : Int)) = True := eq_true (by omega)
  have m3 : (((n + 1 : Nat) : Int) ≤ (most : Int)) = True := eq_true (by simp only [most]; omega)
  have m4 : (List.replicate (n + 1) [AV.str ⟨#[]⟩]).flatten = List.replicate (n + 1) (AV.str ⟨#[]⟩) := by simp
  simp +decide only [go_sem, Nat.reduceAdd, Nat.reduceMul, Nat.reduceSub, Nat.reduceLT, Nat.reduceLeDiff, Nat.reduceEqDiff, Nat.add_assoc, Int.reduceAdd, Int.reduceSub, Int.reduceMul, Int.reduceLT, Int.reduceLE, Int.reduceEq, Int.reduceNeg, strOp_add, hc, w1, w2, w3, m1, m2, m3, Int.toNat_natCast, m4]
  refine comes_upto n (fun i st => ∃ (ws : List ByteArray) (r : ByteArray), ws.length = i ∧ st.env 0 = .str r ∧ st.env 1 = .str ⟨#[32]⟩ ∧ st.env 2 = .int .i64 0 ∧ st.env 3 = .int .i64 n ∧ st.env 9 = .arr 0 0 0 (n + 1) 1 true ∧ st.env 10 = .int .i64 i ∧ 1 ≤ st.nid ∧ st.sto 0 = ⟨ws.map AV.str ++ List.replicate (n + 1 - i) (AV.str ⟨#[]⟩), 0, false, none⟩ ∧ r.size ≤ s.size ∧ cutF ([], []) s.data.toList = cutF (ws.map (·.data.toList), []) r.data.toList ∧ i + Lib.countByte r.data.toList 32 = n) ?_ ?_ _ ?_
  · rintro i st hi ⟨ws, r, hw, e0, e1, e2, e3, e9, e10, en, s0, hr, hcut, hcnt⟩
    have hix := index_eq r
    obtain ⟨o, ho⟩ : ∃ o : Nat, Lib.indexByte r.data.toList 32 = o := by
      have hge := Lib.indexByte_ge r.data.toList 32
      rcases Int.lt_or_le (Lib.indexByte r.data.toList 32) 0 with hl | hl
      · exfalso
        have h1 := Lib.indexByte_none (l := r.data.toList) (c := 32) (by omega)
        have : Lib.countByte r.data.toList 32 = 0 := List.count_eq_zero.2 fun hm => by
          obtain ⟨k, hk, hk2⟩ := List.mem_iff_getElem.1 hm
          exact h1 k (by rw [List.getElem?_eq_getElem hk, hk2])
        omega
      · exact ⟨(Lib.indexByte r.data.toList 32).toNat, by omega⟩
    rw [ho] at hix
    obtain ⟨o1, o2, o3⟩ := split_at ho
    have o1' : o < r.size := o1
    have x1 : ((o : Int) < 0) = False := eq_false (by omega)
    have x2 : IntKind.wrap .i64 (o : Int) = (o : Int) := wrap_nat (by omega)
    have x5 : (0 ≤ (o : Int)) = True := eq_true (by omega)
    have x9 : (o ≤ r.size) = True := eq_true (by omega)
    have x10 : (o + 1 ≤ r.size) = True := eq_true (by omega)
    have x6 : ((o : Int) ≤ (r.size : Int)) = True := eq_true (by omega)
    have x7 : (0 ≤ ((o + 1 : Nat) : Int)) = True := eq_true (by omega)
    have x8 : (((o + 1 : Nat) : Int) ≤ (r.size : Int)) = True := eq_true (by omega)
    obtain ⟨C, hC⟩ : ∃ C : List AV, C = ws.map AV.str ++ List.replicate (n + 1 - i) (AV.str ⟨#[]⟩) := ⟨_, rfl⟩
    have hCl : C.length = n + 1 := by rw [hC]; simp; omega
    rw [← hC] at s0
    have hCi : i + 1 ≤ C.length := by omega
    have hin : i < n + 1 := by omega
    have x3 : IntKind.wrap .i64 ((o : Int) + 1) = ((o + 1 : Nat) : Int) := wrap_succ (by omega)
    have x11 : IntKind.wrap .i64 ((o : Int) + ((1 : Nat) : Int)) = ((o + 1 : Nat) : Int) := wrap_nat (by omega)
    have x4 : IntKind.wrap .i64 ((i : Int) + 1) = ((i + 1 : Nat) : Int) := wrap_succ (by omega)
    simp +decide only [go_sem, Nat.reduceAdd, Nat.reduceMul, Nat.reduceSub, Nat.reduceLT, Nat.reduceLeDiff, Nat.reduceEqDiff, Nat.add_assoc, Int.reduceAdd, Int.reduceSub, Int.reduceMul, Int.reduceLT, Int.reduceLE, Int.reduceEq, Int.reduceNeg, strOp_add, e0, e1, e2, e3, e9, e10, s0, hi, hix, x1, x2, x3, x4, x5, x6, x7, x8, x9, x10, x11, hCi, hin, Int.toNat_natCast, and_false, if_false]
    refine ⟨ws ++ [r.extract 0 o], r.extract (o + 1) r.size, by simp [hw], rfl, en, ?_, ?_, ?_, ?_⟩
    · have h1 : n + 1 - i = (n - i) + 1 := by omega
      rw [hC, h1, List.replicate_succ]
      have h2 : (ws.map AV.str).length = i := by rw [List.length_map, hw]
      have h3 : n + 1 - (i + 1) = n - i := by omega
      rw [h3, ← h2, List.take_left, List.drop_length_add_append]
      simp
    · rw [ext_size]
      omega
    · have := cut_round hcut o2 o3
      rw [List.map_append, List.map_cons, List.map_nil, ext_list, ext_list]
      rw [this, List.drop_zero, Nat.sub_zero]
      congr 1
      exact (List.take_of_length_le (by rw [List.length_drop]; exact Nat.le_refl _)).symm
    · rw [ext_list, List.take_of_length_le (by rw [List.length_drop]; exact Nat.le_refl _)]
      have h1 : Lib.countByte r.data.toList 32 = Lib.countByte (r.data.toList.take o) 32 + (Lib.countByte (r.data.toList.drop (o + 1)) 32 + 1) := by
        conv => lhs; rw [o2]
        unfold Lib.countByte
        rw [List.count_append, List.count_cons_self]
      have h2 : Lib.countByte (r.data.toList.take o) 32 = 0 := List.count_eq_zero.2 fun hm => o3 _ hm rfl
      omega
  · rintro st ⟨ws, r, hw, e0, e1, e2, e3, e9, e10, en, s0, hr, hcut, hcnt⟩
    have x4 : IntKind.wrap .i64 ((n : Int) + 1) = ((n + 1 : Nat) : Int) := wrap_succ (by omega)
    obtain ⟨C, hC⟩ : ∃ C : List AV, C = ws.map AV.str ++ List.replicate (n + 1 - n) (AV.str ⟨#[]⟩) := ⟨_, rfl⟩
    have hCl : C.length = n + 1 := by rw [hC]; simp; omega
    rw [← hC] at s0
    have hCi : n + 1 ≤ C.length := by omega
    have hin : n < n + 1 := by omega
    have x7 : (0 ≤ ((n + 1 : Nat) : Int)) = True := eq_true (by omega)
    simp +decide only [go_sem, Nat.reduceAdd, Nat.reduceMul, Nat.reduceSub, Nat.reduceLT, Nat.reduceLeDiff, Nat.reduceEqDiff, Nat.add_assoc, Int.reduceAdd, Int.reduceSub, Int.reduceMul, Int.reduceLT, Int.reduceLE, Int.reduceEq, Int.reduceNeg, strOp_add, e0, e1, e2, e3, e9, e10, s0, x4, hCi, hin, x7, Int.toNat_natCast, Int.le_refl, Nat.le_refl, and_false, if_false]
    have hL : List.take n C ++ [AV.str r] ++ List.drop (n + 1) C = (ws ++ [r]).map AV.str := by
      have h2 : (ws.map AV.str).length = n := by rw [List.length_map, hw]
      have h3 : n + 1 - n = 1 := by omega
      rw [hC, h3, ← h2, List.take_left, List.drop_length_add_append]
      simp
    have hwl : (ws ++ [r]).length = n + 1 := by simp [hw]
    have hz : ∀ c ∈ r.data.toList, c ≠ 32 := fun c hc e => by
      have h0 : Lib.countByte r.data.toList 32 = 0 := by omega
      exact List.count_eq_zero.1 h0 (e ▸ hc)
    have hcu : cut s = ws ++ [r] := by
      unfold cut
      rw [cut_end hcut hz]
      simp [Function.comp_def]
    rw [hL, Nat.sub_zero, if_pos (by rw [List.length_map, hwl]; exact Nat.le_refl _), List.take_of_length_le (by rw [List.length_map, hwl]; exact Nat.le_refl _), snap_words]
    rw [hcu, ← hwl]
    have he := elems_words (ws ++ [r])
    simp only [Option.map_some]
    refine comes_some.2 ?_
    show AV.slice 1 (elems 1 _ _) = _
    rw [he]
  · simp +decide only [go_sem, Nat.reduceAdd, Nat.reduceMul, Nat.reduceSub, Nat.reduceLT, Nat.reduceLeDiff, Nat.reduceEqDiff, Nat.add_assoc, Int.reduceAdd, Int.reduceSub, Int.reduceMul, Int.reduceLT, Int.reduceLE, Int.reduceEq, Int.reduceNeg, strOp_add]
    refine ⟨[], s, rfl, rfl, rfl, ?_, Nat.le_refl _, rfl, hn⟩
    simp [List.replicate_succ]
theorem Split_eq (s : ByteArray) (hs : s.size ≤ 1099511627775) : fnA CC PR 14 [.str s, .str ⟨#[32]⟩] = some (strsA (cut s)) := by
  have h := genSplit_eq s hs
  apply comes_eq.1
  refine fnA_wp (rs := [.tmp 4]) Tryd.func14 rfl rfl (Nat.le_of_ble_eq_true rfl) rfl ?_
  simp +decide only [go_sem, Nat.reduceAdd, Nat.reduceMul, Nat.reduceSub, Nat.reduceLT, Nat.reduceLeDiff, Nat.reduceEqDiff, Nat.add_assoc, Int.reduceAdd, Int.reduceSub, Int.reduceMul, Int.reduceLT, Int.reduceLE, Int.reduceEq, Int.reduceNeg, strOp_add, h]
end Go.Ev.Tryd
