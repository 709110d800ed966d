/- FrameGet of the program and of the reference answer alike: the plain law. -/
import Derived.Test.YtfkjjmhbljlbkaaDoorAFnPipeAll
import Derived.Test.YtfkjjmhbljlbkaaDoorQLibFnPipeAll
namespace Go.Proofs.YtfkjjmhbljlbkaaDoor.Q
open Go.RowKit Go.Proofs.YtfkjjmhbljlbkaaDoor.P Go.Proofs.YtfkjjmhbljlbkaaDoorW.PrintWords Go.Proofs.YtfkjjmhbljlbkaaDoorW.PrintLast Go.Proofs.YtfkjjmhbljlbkaaDoorW.PrintMore
set_option linter.unusedVariables false
set_option linter.unusedSimpArgs false

def by4 (s : ByteArray) (a : Int) : Int := ((bt s (a + 3) * 256 + bt s (a + 2)) * 256 + bt s (a + 1)) * 256 + bt s a
theorem by4_range (s : ByteArray) (a : Int) : 0 ≤ by4 s a ∧ by4 s a ≤ 4294967295 := by
  unfold by4
  have h0 := bt_range s a; have h1 := bt_range s (a + 1); have h2 := bt_range s (a + 2); have h3 := bt_range s (a + 3)
  omega

theorem fetch_step (k : Nat) (s : ByteArray) (a x i : Int) (h0 : 0 ≤ a) (hi : 0 ≤ i) (hb : a + i ≤ 9223372036854775807) (hx : 0 ≤ x) (hx1 : x < 72057594037927936) (j : Int) (hj : j = i - 1) :
    impl_fetch.l0 (k + 1) s a x i = impl_fetch.l0 k s a (x * 256 + bt s (a + i)) j := by
  subst hj
  have hr := bt_range s (a + i)
  rw [impl_fetch.l0, if_pos hi, w64 (by omega) (by omega), w64 (x := i - 1) (by omega) (by omega), wu64 (x := x * 256) (by omega) (by omega), wu64 (x := bt s (a + i)) (by omega) (by omega), or_u64 (by omega) (by omega) (by omega) hr.1 hr.2, if_pos (show 0 ≤ a + i by omega)]
  split
  · rfl
  · rename_i h
    rw [bt_out s (a + i) (by omega), Int.add_zero]
theorem fetch4 (k : Nat) (s : ByteArray) (a : Int) (h0 : 0 ≤ a) (hb : a + 3 ≤ 9223372036854775807) : impl_fetch.f (k + 5) s a 4 = some (by4 s a) := by
  have g0 := bt_range s a; have g1 := bt_range s (a + 1); have g2 := bt_range s (a + 2); have g3 := bt_range s (a + 3)
  unfold impl_fetch.f
  rw [show wrap64 (4 - 1) = 3 by rw [w64 (by omega) (by omega)]; rfl, fetch_step (k + 4) s a 0 3 h0 (by omega) (by omega) (by omega) (by omega) 2 rfl, fetch_step (k + 3) s a _ 2 h0 (by omega) (by omega) (by omega) (by omega) 1 rfl, fetch_step (k + 2) s a _ 1 h0 (by omega) (by omega) (by omega) (by omega) 0 rfl, fetch_step (k + 1) s a _ 0 h0 (by omega) (by omega) (by omega) (by omega) (-1) rfl, impl_fetch.l0, if_neg (by omega)]
  have h := by4_range s a
  have e : ((((0 : Int) * 256 + bt s (a + 3)) * 256 + bt s (a + 2)) * 256 + bt s (a + 1)) * 256 + bt s (a + 0) = by4 s a := by
    unfold by4; simp
  rw [e, w64 (by omega) (by omega)]
theorem fetch4' (k : Nat) (s : ByteArray) (a : Int) (hk : 5 ≤ k) (h0 : 0 ≤ a) (hb : a + 3 ≤ 9223372036854775807) : impl_fetch.f k s a 4 = some (by4 s a) := by
  obtain ⟨m, rfl⟩ : ∃ m, k = m + 5 := ⟨k - 5, by omega⟩
  exact fetch4 m s a h0 hb
/-! ### noughts -/
def allZ (s : ByteArray) : Bool := s.data.toList.all (· == 0)
theorem bt_zero_iff (s : ByteArray) (i : Nat) (h : i < s.size) : bt s i = 0 ↔ s.data.toList[i]'(by rw [size_data]; exact h) = 0 := by
  rw [bt_data, Int.toNat_natCast, List.getD_eq_getElem?_getD, List.getElem?_eq_getElem (by rw [size_data]; exact h), Option.getD_some]
  constructor
  · intro e; exact UInt8.toNat_inj.1 (by simpa using e)
  · intro e; rw [e]; rfl
theorem allZ_iff (s : ByteArray) : allZ s = true ↔ ∀ i : Nat, i < s.size → bt s i = 0 := by
  unfold allZ
  rw [List.all_eq_true]
  constructor
  · intro h i hi
    rw [bt_zero_iff s i hi]
    exact eq_of_beq (h _ (List.getElem_mem (by rw [size_data]; exact hi)))
  · intro h x hx
    obtain ⟨i, hi, rfl⟩ := List.mem_iff_getElem.1 hx
    rw [size_data] at hi
    exact beq_iff_eq.2 ((bt_zero_iff s i hi).1 (h i hi))
theorem bt_ext (s : ByteArray) (i j m : Nat) (h : i + m < j) (hj : j ≤ s.size) : bt (s.extract i j) (m : Int) = bt s ((i + m : Nat) : Int) := by
  rw [bt_data, bt_data, data_extract, Int.toNat_natCast, Int.toNat_natCast, List.getD_eq_getElem?_getD, List.getD_eq_getElem?_getD, List.getElem?_drop, List.getElem?_take_of_lt h]
theorem right_loop (n : Nat) : ∀ (s : ByteArray) (k : Nat), s.size = n → s.size ≤ 9223372036854775807 → n < k → ∃ t, strings_trimRightByte.l0 k s 0 = some t ∧ t.size ≤ s.size ∧ (t.size = 0 → allZ s = true) ∧ (0 < t.size → bt t (t.size - 1 : Int) ≠ 0 ∧ allZ s = false) := by
  induction n with
  | zero =>
    intro s k hs hn hk
    obtain ⟨k, rfl⟩ : ∃ m, k = m + 1 := ⟨k - 1, by omega⟩
    refine ⟨s, ?_, Nat.le_refl _, fun _ => (allZ_iff s).2 (fun j hj => by omega), fun h => by omega⟩
    rw [strings_trimRightByte.l0, if_neg (by omega)]
  | succ n ih =>
    intro s k hs hn hk
    obtain ⟨k, rfl⟩ : ∃ m, k = m + 1 := ⟨k - 1, by omega⟩
    rw [strings_trimRightByte.l0, if_pos (by omega), w64 (by omega) (by omega), if_pos (by omega), if_pos (by omega)]
    by_cases h : bt s ((s.size : Int) - 1) = 0
    · rw [if_pos h, if_pos (by omega), show ((s.size : Int) - 1).toNat = n by omega]
      have hz : (s.extract 0 n).size = n := by rw [ByteArray.size_extract]; omega
      obtain ⟨t, e, hl, h0, h1⟩ := ih (s.extract 0 n) k hz (by omega) (by omega)
      have key : allZ s = allZ (s.extract 0 n) := by
        rw [Bool.eq_iff_iff, allZ_iff, allZ_iff, hz]
        constructor
        · intro g i hi
          have := bt_ext s 0 n i (by omega) (by omega)
          rw [Nat.zero_add] at this
          rw [this]; exact g i (by omega)
        · intro g i hi
          by_cases e : i = n
          · rw [e, ← h]; congr 1; omega
          · have := bt_ext s 0 n i (by omega) (by omega)
            rw [Nat.zero_add] at this
            rw [← this]; exact g i (by omega)
      exact ⟨t, e, by omega, fun g => by rw [key]; exact h0 g, fun g => by rw [key]; exact h1 g⟩
    · rw [if_neg h]
      refine ⟨s, rfl, Nat.le_refl _, fun g => by omega, fun _ => ⟨h, ?_⟩⟩
      rw [Bool.eq_false_iff]
      intro e
      have := (allZ_iff s).1 e n (by omega)
      apply h
      rw [show (s.size : Int) - 1 = (n : Int) by omega]; exact this
theorem left_loop (n : Nat) : ∀ (s : ByteArray) (k : Nat), s.size = n → s.size ≤ 9223372036854775807 → n < k → ∃ t, strings_trimLeftByte.l0 k s 0 = some t ∧ (s.size = 0 → t.size = 0) ∧ (0 < s.size → bt s (s.size - 1 : Int) ≠ 0 → 0 < t.size) := by
  induction n with
  | zero =>
    intro s k hs hn hk
    obtain ⟨k, rfl⟩ : ∃ m, k = m + 1 := ⟨k - 1, by omega⟩
    refine ⟨s, ?_, fun h => h, fun h => by omega⟩
    rw [strings_trimLeftByte.l0, if_neg (by omega)]
  | succ n ih =>
    intro s k hs hn hk
    obtain ⟨k, rfl⟩ : ∃ m, k = m + 1 := ⟨k - 1, by omega⟩
    rw [strings_trimLeftByte.l0, if_pos (by omega), if_pos (by omega)]
    by_cases h : bt s 0 = 0
    · rw [if_pos h, if_pos (by omega)]
      have hz : (s.extract 1 s.size).size = n := by rw [ByteArray.size_extract]; omega
      obtain ⟨t, e, h0, h1⟩ := ih (s.extract 1 s.size) k hz (by omega) (by omega)
      refine ⟨t, e, fun g => by omega, fun _ g => ?_⟩
      have hn0 : 0 < n := by
        rcases Nat.eq_zero_or_pos n with h2 | h2
        · exfalso; apply g; rw [show (s.size : Int) - 1 = 0 by omega]; exact h
        · exact h2
      refine h1 (by omega) ?_
      have := bt_ext s 1 s.size (n - 1) (by omega) (by omega)
      rw [hz, show (n : Int) - 1 = ((n - 1 : Nat) : Int) by omega, this]
      rw [show ((1 + (n - 1) : Nat) : Int) = (s.size : Int) - 1 by omega]
      exact g
    · rw [if_neg h]
      exact ⟨s, rfl, fun g => by omega, fun _ _ => by omega⟩
theorem trim_f (s : ByteArray) (hn : s.size ≤ 9223372036854775807) (k : Nat) (hk : s.size + 2 < k) : ∃ t, strings_Trim.f k s (⟨#[0]⟩ : ByteArray) = some t ∧ (t.toList != ([] : List UInt8)) = !allZ s := by
  obtain ⟨k, rfl⟩ : ∃ m, k = m + 2 := ⟨k - 2, by omega⟩
  unfold strings_Trim.f
  by_cases h : s.toList = []
  · rw [if_pos h, strings_Trim.j0, if_pos rfl]
    refine ⟨s, rfl, ?_⟩
    have h0 := (toList_nil s).1 h
    rw [h, (allZ_iff s).2 (fun i hi => by omega)]; rfl
  · rw [if_neg h, show ((⟨#[0]⟩ : ByteArray).toList == ([] : List UInt8)) = false from by decide +kernel, strings_Trim.j0, if_neg (by decide), if_pos (by decide), if_pos (by decide), show decide (bt (⟨#[0]⟩ : ByteArray) 0 < 128) = true from by decide, strings_Trim.j1, if_pos rfl, if_pos (by decide), show bt (⟨#[0]⟩ : ByteArray) 0 = 0 from by decide]
    unfold strings_trimRightByte.f strings_trimLeftByte.f
    obtain ⟨t, e, hl, h0, h1⟩ := right_loop s.size s k rfl hn (by omega)
    obtain ⟨u, e2, g0, g1⟩ := left_loop t.size t k rfl (by omega) (by omega)
    rw [e, Option.bind_some, e2]
    refine ⟨u, rfl, ?_⟩
    rcases Nat.eq_zero_or_pos t.size with ht | ht
    · rw [h0 ht, (toList_nil u).2 (g0 ht)]; rfl
    · rw [(h1 ht).2]
      have hu := g1 ht (h1 ht).1
      have : u.toList ≠ [] := fun e => by have := (toList_nil u).1 e; omega
      simpa using this
end Go.Proofs.YtfkjjmhbljlbkaaDoor.Q
