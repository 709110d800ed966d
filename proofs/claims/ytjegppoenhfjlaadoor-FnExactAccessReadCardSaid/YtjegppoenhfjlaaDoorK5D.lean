/- Part of the proof of a statement about the given program: K5D. No condition of its own. -/
import Derived.Test.YtjegppoenhfjlaaDoorShE
import Derived.Lib.AtoiErrMem
import Derived.WalkKit
import Derived.BigCall
import Derived.Test.YtjegppoenhfjlaaDoorC2
import Derived.Test.YtjegppoenhfjlaaDoorEvPrim
set_option linter.unusedVariables false
namespace Go.Proofs
open Go.Shelf Go.RowKit Go.Sort
set_option maxHeartbeats 1000000 in
set_option maxRecDepth 100000 in
theorem Tryd.in_calls (a b c : Int) (w : World) :
    Calls Tryd.prog 36 #[.int .i64 a, .int .i64 b, .int .i64 c] w fun e w' => e = .returned (.bool (decide (b ≤ a) && decide (a ≤ c))) ∧ w' = w := by
  go_enter Tryd.func36, Tryd.ntmps36
  go_wp2
  all_goals
    go_ret
    rename_i h
    refine ⟨?_, rfl⟩
    simp [h]
  all_goals omega
set_option maxHeartbeats 1000000 in
set_option maxRecDepth 100000 in
theorem Tryd.short_calls (a : Int) (w : World) :
    Calls Tryd.prog 26 #[.int .i64 a] w fun e w' => e = .returned (.bool (decide (-999999999999999999 ≤ a) && decide (a ≤ 999999999999999999))) ∧ w' = w := by
  go_enter Tryd.func26, Tryd.ntmps26
  go_wp2_with (go_at_call 36; refine (Tryd.in_calls _ _ _ _).mono ?_; rintro e w' ⟨rfl, rfl⟩)
  go_ret
  exact ⟨rfl, rfl⟩
theorem Ev.below_grown {B : Nat} {w : World} {k : Nat} {os : Array Obj} (hB : B ≤ w.heap.size) : Below B w (grow (w.drewN k) os) := by
  obtain ⟨h1, h2, h3, h4, h5⟩ := Ev.grown (w := w) (k := k) (os := os)
  exact ⟨h1, h2, h3, h4, fun i hi => h5 i (by omega)⟩
theorem Ev.tab_below {P : Program} {w w' : World} {name : String} {k : IntKind} {zs : List Int} (h : Lib.TabIs P w name k zs) (hb : Below w.heap.size w w') : Lib.TabIs P w' name k zs := by
  unfold Lib.TabIs World.var? at *
  cases hg : P.globalNamed name with
  | none => simp [hg] at h
  | some g =>
    simp only [hg, Option.bind_some] at h ⊢
    have hlt : g < w.heap.size := by
      rcases Nat.lt_or_ge g w.heap.size with h' | h'
      · exact h'
      · rw [Array.getElem?_eq_none h'] at h; simp at h
    rw [hb.block g hlt]
    exact h
set_option maxHeartbeats 4000000 in
set_option maxRecDepth 100000 in
theorem Tryd.numberOf_calls (s : ByteArray) (hlim : s.size ≤ 281474976710656) (ev0 ev1 : Value) (w : World) (hv0 : w.cell? ⟨1, 0, none⟩ = some ev0) (he0 : ev0 = .nilIface ∨ ∃ te pe, ev0 = .iface te pe) (hv1 : w.cell? ⟨2, 0, none⟩ = some ev1) (he1 : ev1 = .nilIface ∨ ∃ te pe, ev1 = .iface te pe)
    (htab : Lib.TabIs Tryd.prog w "internal/strconv.uint64pow10" .u64 Lib.pow10Tab) :
    Calls Tryd.prog 15 #[.string s] w fun e w' => e = .returned (.tuple #[.int .i64 (Ev.numW s.data.toList).1, .bool (Ev.numW s.data.toList).2]) ∧ Below w.heap.size w w' := by
  rcases Ev.ends (Lib.atoiAll s.data.toList) with ⟨v, h⟩ | h | h
  · have hr : Ev.numW s.data.toList = (v, decide (-999999999999999999 ≤ v) && decide (v ≤ 999999999999999999) && decide (Lib.itoa v = s.data.toList)) := by simp only [Ev.numW, h]
    rw [hr]
    go_enter Tryd.func15, Tryd.ntmps15
    go_wp2_with (go_at_call 25; refine (Tryd.strconv_Atoi_ok s (by omega) v h _).mono ?_; rintro e w' ⟨rfl, hw⟩)
    have hb : Below w.heap.size w w' := by
      rcases hw with rfl | ⟨t, rfl⟩
      · exact Below.refl _ _
      · exact Lib.bytesWorld_below _ _ _
    have htab' := Ev.tab_below htab hb
    clear hw
    refine (Tryd.short_calls v _).mono ?_
    rintro e w2 ⟨rfl, rfl⟩
    go_wp2_with (go_at_call 27; refine (Tryd.strconv_Itoa v (by omega) (by omega) _ htab').mono ?_; rintro e w3 ⟨rfl, k, os, rfl⟩)
    all_goals try go_wp2
    · rename_i hs
      go_ret2
      refine ⟨?_, hb.trans ?_⟩
      · rw [ByteArray.toList_eq]
        simp only [hs, decide_true, Bool.true_and]
        by_cases he : Lib.itoa v = s.data.toList
        · simp [he]
        · simp [he]
      · exact Ev.below_grown hb.size
    · rename_i hs
      go_ret2
      refine ⟨?_, hb⟩
      have : (decide (-999999999999999999 ≤ v) && decide (v ≤ 999999999999999999)) = false := by
        rw [Bool.eq_false_iff]
        intro h2
        simp only [Bool.and_eq_true, decide_eq_true_eq] at h2
        exact hs h2
      rw [this]
      rfl
  · have hr : Ev.numW s.data.toList = (Lib.atoiSat s.data.toList, false) := by simp only [Ev.numW, h]
    rw [hr]
    go_enter Tryd.func15, Tryd.ntmps15
    go_wp2_with (go_at_call 25; refine (Tryd.strconv_Atoi_range s hlim h ev1 _ ?_ he1).mono ?_)
    · exact hv1
    rintro e W1 ⟨N, rfl, -, -, hb⟩
    go_wp2
    go_ret2
    exact ⟨rfl, hb⟩
  · have hr : Ev.numW s.data.toList = (0, false) := by
      unfold Ev.numW
      rw [h]
      rfl
    rw [hr]
    go_enter Tryd.func15, Tryd.ntmps15
    go_wp2_with (go_at_call 25; refine (Tryd.strconv_Atoi_syntax s hlim h ev0 _ ?_ he0).mono ?_)
    · exact hv0
    rintro e W1 ⟨N, rfl, -, -, hb⟩
    go_wp2
    go_ret2
    exact ⟨rfl, hb⟩
end Go.Proofs
