/- AccessOk of the program answers as the reference's: the plain law, over numbers and bytes alone. -/
import Derived.Test.YtfkjjmhbljlbkaaPFnExactAccessOkx
namespace Go.Proofs.Ytfkjjmhbljlbkaa.Pure
set_option linter.unusedVariables false
set_option linter.unusedSimpArgs false
open Go.RowKit Go.Proofs.Ytfkjjmhbljlbkaa.PFnExactAccessOk Go.Proofs.YtfkjjmhbljlbkaaW.PrintWords Go.Proofs.YtfkjjmhbljlbkaaW.PrintLast

def letterB (c : Int) : Bool := decide ((97 ≤ c ∧ c ≤ 122) ∨ (65 ≤ c ∧ c ≤ 90))
def figB (c : Int) : Bool := decide (48 ≤ c ∧ c ≤ 57)
def nameAll (s : ByteArray) : Int → Nat → Bool
  | _, 0 => true
  | i, d + 1 => (letterB (bt s i) || (decide (i ≠ 0) && figB (bt s i))) && nameAll s (i + 1) d
def nameB (s : ByteArray) : Bool := nameAll s 0 s.size && decide (1 ≤ s.size ∧ s.size ≤ 10)

theorem wrap_succ {i : Int} {n : Nat} (h0 : 0 ≤ i) (h : i < (n : Int)) (hn : n ≤ 9223372036854775807) : wrap64 (i + 1) = i + 1 := by
  unfold wrap64
  omega

theorem spec_round (k : Nat) (s : ByteArray) (i : Int) (h0 : 0 ≤ i) (hi : i < (s.size : Int)) :
    spec_l9Name.l0 (k + 1) s i = if letterB (bt s i) || (decide (i ≠ 0) && figB (bt s i)) then spec_l9Name.l0 k s (wrap64 (i + 1)) else some false := by
  rw [spec_l9Name.l0, if_pos hi, if_pos h0]
  generalize spec_l9Name.l0 k s (wrap64 (i + 1)) = z
  generalize bt s i = c
  unfold letterB figB
  grind

theorem spec_name (s : ByteArray) (hn : s.size ≤ 9223372036854775807) (d : Nat) : ∀ (k : Nat) (i : Int), 0 ≤ i → (s.size : Int) - i = d → d < k →
    spec_l9Name.l0 k s i = some (nameAll s i d && decide (1 ≤ s.size ∧ s.size ≤ 10)) := by
  induction d with
  | zero =>
    intro k i h0 hd hk
    obtain ⟨k, rfl⟩ : ∃ m, k = m + 1 := ⟨k - 1, by omega⟩
    rw [spec_l9Name.l0, if_neg (by omega)]
    unfold spec_l1In.f nameAll
    by_cases h1 : 1 ≤ s.size
    · rw [if_pos (by omega)]; simp [h1]; omega
    · rw [if_neg (by omega)]; simp [h1]
  | succ d ih =>
    intro k i h0 hd hk
    obtain ⟨k, rfl⟩ : ∃ m, k = m + 1 := ⟨k - 1, by omega⟩
    rw [spec_round k s i h0 (by omega), wrap_succ h0 (by omega) hn, nameAll]
    split
    · rename_i h; rw [h, ih k (i + 1) (by omega) (by omega) (by omega)]; simp
    · rename_i h; rw [Bool.not_eq_true] at h; rw [h]; simp

theorem spec_l9Name_eq (s : ByteArray) (hn : s.size ≤ 9223372036854775807) (k : Nat) (hk : s.size < k) : spec_l9Name.f k s = some (nameB s) := by
  unfold spec_l9Name.f nameB
  exact spec_name s hn s.size k 0 (by omega) (by omega) hk

theorem letter_f (c : Int) : impl_isLetter.f c = some (letterB c) := by unfold impl_isLetter.f letterB; grind
theorem fig_f (c : Int) : impl_isFigure.f c = some (figB c) := by unfold impl_isFigure.f figB; grind

def restAll (s : ByteArray) : Int → Nat → Bool
  | _, 0 => true
  | i, d + 1 => (letterB (bt s i) || figB (bt s i)) && restAll s (i + 1) d

theorem impl_loop (s : ByteArray) (hn : s.size ≤ 9223372036854775807) (d : Nat) : ∀ (k : Nat) (i : Int), 0 ≤ i → (s.size : Int) - i = d → d < k →
    impl_isName.l0 k s (s.size : Int) i = some (restAll s i d) := by
  induction d with
  | zero =>
    intro k i h0 hd hk
    obtain ⟨k, rfl⟩ : ∃ m, k = m + 1 := ⟨k - 1, by omega⟩
    rw [impl_isName.l0, if_neg (by omega)]; rfl
  | succ d ih =>
    intro k i h0 hd hk
    obtain ⟨k, rfl⟩ : ∃ m, k = m + 1 := ⟨k - 1, by omega⟩
    rw [impl_isName.l0, if_pos (by omega), if_pos h0, if_pos (by omega), letter_f, fig_f, wrap_succ h0 (by omega) hn, ih k (i + 1) (by omega) (by omega) (by omega), restAll]
    cases letterB (bt s i) <;> cases figB (bt s i) <;> simp

theorem rest_all (s : ByteArray) (d : Nat) : ∀ i : Int, 0 < i → nameAll s i d = restAll s i d := by
  induction d with
  | zero => intro i _; rfl
  | succ d ih => intro i h; rw [nameAll, restAll, ih (i + 1) (by omega)]; simp [show i ≠ 0 by omega]

theorem impl_isName_eq (s : ByteArray) (hn : s.size ≤ 9223372036854775807) (k : Nat) (hk : s.size + 1 < k) : impl_isName.f k s = some (nameB s) := by
  obtain ⟨k, rfl⟩ : ∃ m, k = m + 1 := ⟨k - 1, by omega⟩
  unfold impl_isName.f impl_in.f nameB
  rw [letter_f]
  by_cases h1 : 1 ≤ s.size ∧ s.size ≤ 10
  · rw [if_pos (by omega)]
    simp only [Option.bind_some]
    rw [decide_eq_true (show (s.size : Int) ≤ 10 by omega), if_pos rfl, if_pos (by omega), impl_isName.j0, impl_loop s hn s.size k 0 (by omega) (by omega) (by omega)]
    obtain ⟨d, hd⟩ : ∃ d, s.size = d + 1 := ⟨s.size - 1, by omega⟩
    rw [hd, nameAll, restAll, rest_all s d (0 + 1) (by omega)]
    cases letterB (bt s 0) <;> simp <;> omega
  · have e : decide (1 ≤ s.size ∧ s.size ≤ 10) = false := decide_eq_false h1
    rw [e, Bool.and_false]
    by_cases h2 : (s.size : Int) ≥ 1
    · rw [if_pos h2]
      simp only [Option.bind_some]
      rw [decide_eq_false (show ¬ (s.size : Int) ≤ 10 by omega)]
      simp [impl_isName.j0]
    · rw [if_neg h2]
      simp [impl_isName.j0]

theorem in_eq (a b c : Int) : impl_in.f a b c = some (decide (b ≤ a ∧ a ≤ c)) := by
  unfold impl_in.f
  by_cases h : b ≤ a <;> simp [h]
theorem l1In_eq (a b c : Int) : spec_l1In.f a b c = some (decide (b ≤ a ∧ a ≤ c)) := by
  unfold spec_l1In.f
  by_cases h : b ≤ a <;> simp [h]
theorem size_eq (n : Int) : spec_l1Size.f n = impl_isSize.f n := rfl
theorem short_eq (n : Int) : spec_l9Num.f n = impl_short.f n := by unfold spec_l9Num.f impl_short.f; rw [in_eq, l1In_eq]
theorem fits_eq (n size : Int) (h : size = 1 ∨ size = 2 ∨ size = 4 ∨ size = 8) : spec_l1Fits.f n size = impl_fitsBits.f n (wrap64 (8 * size)) := by
  unfold spec_l1Fits.f impl_fitsBits.f
  simp only [l1In_eq, in_eq]
  rcases h with rfl | rfl | rfl | rfl <;> simp [wrap64]
theorem size_some (n : Int) : impl_isSize.f n = some (decide (n = 1 ∨ n = 2 ∨ n = 4 ∨ n = 8)) := by unfold impl_isSize.f; grind
theorem fits_some (n size : Int) (h : size = 1 ∨ size = 2 ∨ size = 4 ∨ size = 8) : ∃ b, impl_fitsBits.f n (wrap64 (8 * size)) = some b := by
  unfold impl_fitsBits.f
  rcases h with rfl | rfl | rfl | rfl <;> simp [wrap64, in_eq]
theorem short_some (n : Int) : ∃ b, impl_short.f n = some b := by unfold impl_short.f; rw [in_eq]; simp

theorem apart_eq (a0 : ByteArray) (kind at_ size turn tag place : Int) (h0 : 0 ≤ at_) (h1 : at_ ≤ 12799) (hk : kind = 1 ∧ size = 0 ∨ kind = 2 ∧ (size = 1 ∨ size = 2 ∨ size = 4 ∨ size = 8)) :
    impl_Access_apart.f a0 kind at_ size turn tag place = spec_l12Apart.f (if kind = 1 then wrap64 (Int.tdiv at_ 8) else at_) (if kind = 1 then 1 else size) tag ∧ ∃ b, impl_Access_apart.f a0 kind at_ size turn tag place = some b := by
  unfold impl_Access_apart.f impl_Access_span.f spec_l12Apart.f
  rcases hk with ⟨rfl, rfl⟩ | ⟨rfl, h⟩
  · simp
    grind
  · have : size ≠ 0 := by omega
    simp [this]
    grind

theorem j1_eq (k : Nat) (x : Bool) (a0 : ByteArray) (kind at_ size turn tag place : Int) (h : x = false → 0 ≤ at_ ∧ at_ ≤ 12799) :
    ∃ b, spec_AccessOk.j1 (k + 1) x a0 kind at_ size turn tag place = some b ∧ impl_AccessOk.j1 (k + 1) x a0 kind at_ size turn tag place = some b := by
  rw [spec_AccessOk.j1, impl_AccessOk.j1]
  cases x with
  | true => exact ⟨false, rfl, rfl⟩
  | false =>
    obtain ⟨h0, h1⟩ := h rfl
    simp only [Bool.false_eq_true, if_false]
    by_cases k1 : kind = 1
    · subst k1
      simp only [if_true, l1In_eq, in_eq, Option.bind_some]
      by_cases hs : size = 0
      · by_cases ht : (0 : Int) ≤ turn ∧ turn ≤ 1
        · obtain ⟨e, b, eb⟩ := apart_eq a0 1 at_ size turn tag place h0 h1 (.inl ⟨rfl, hs⟩)
          simp only [if_true] at e
          subst hs
          exact ⟨b, by simp [ht, ← e, eb], by simp [ht, eb]⟩
        · exact ⟨false, by simp [hs, ht], by simp [ht]⟩
      · refine ⟨false, by simp [hs], by simp [hs]⟩
    · simp only [k1, if_false]
      by_cases k2 : kind = 2
      · subst k2
        simp only [if_true, size_eq, size_some, Option.bind_some]
        by_cases hs : size = 1 ∨ size = 2 ∨ size = 4 ∨ size = 8
        · have hz : size ≠ 0 := by omega
          obtain ⟨e, b, eb⟩ := apart_eq a0 2 at_ size turn tag place h0 h1 (.inr ⟨rfl, hs⟩)
          simp only [show ((2 : Int) = 1) = False by decide, if_false] at e
          obtain ⟨c, hc⟩ := fits_some turn size hs
          obtain ⟨d, hd⟩ := short_some turn
          simp only [decide_eq_true hs, if_true, hz, if_false, fits_eq turn size hs, short_eq, hc, hd, Option.bind_some, ← e, eb]
          by_cases hm : Int.tmod at_ size = 0
          · simp only [hm, if_true]; cases c <;> cases d <;> simp
          · simp [hm]
        · simp [hs]
      · simp only [k2, if_false]
        by_cases k3 : kind = 3 <;> by_cases hs : size = 0 <;> simp [k3, hs]

theorem j0_eq (k : Nat) (x : Bool) (a0 : ByteArray) (kind at_ size turn tag place : Int) (hn : a0.size ≤ 9223372036854775807) (hk : a0.size + 2 < k) :
    ∃ b, spec_AccessOk.j0 k x a0 kind at_ size turn tag place = some b ∧ impl_AccessOk.j0 k x a0 kind at_ size turn tag place = some b := by
  obtain ⟨k, rfl⟩ : ∃ m, k = m + 1 := ⟨k - 1, by omega⟩
  rw [spec_AccessOk.j0, impl_AccessOk.j0, spec_l9Name_eq a0 hn k (by omega), impl_isName_eq a0 hn k (by omega)]
  obtain ⟨k, rfl⟩ : ∃ m, k = m + 1 := ⟨k - 1, by omega⟩
  simp only [Option.bind_some, l1In_eq, in_eq]
  cases nameB a0 <;> cases x <;> simp only [if_true, Bool.false_eq_true, if_false]
  · exact j1_eq k true a0 kind at_ size turn tag place (by simp)
  · exact j1_eq k true a0 kind at_ size turn tag place (by simp)
  · exact j1_eq k true a0 kind at_ size turn tag place (by simp)
  · exact j1_eq k _ a0 kind at_ size turn tag place (by simp)

theorem access_eq (k : Nat) (a0 : ByteArray) (kind at_ size turn tag place : Int) (hn : a0.size ≤ 9223372036854775807) (hk : a0.size + 2 < k) :
    ∃ b, spec_AccessOk.f k a0 kind at_ size turn tag place = some b ∧ impl_AccessOk.f k a0 kind at_ size turn tag place = some b := by
  have J := fun x => j0_eq k x a0 kind at_ size turn tag place hn hk
  unfold spec_AccessOk.f impl_AccessOk.f
  simp only [l1In_eq, in_eq, Option.bind_some]
  repeat' split
  all_goals exact J _

theorem AccessOk (a0 : ByteArray) (kind at_ size turn tag place : Int) (hn : a0.size ≤ 9223372036854775807) : ∃ k, laws_FnExactAccessOk.f k a0 kind at_ size turn tag place = some true := by
  refine ⟨a0.size + 3, ?_⟩
  unfold laws_FnExactAccessOk.f laws_szAccess.f laws_toAccess.f
  obtain ⟨b, e1, e2⟩ := access_eq (a0.size + 3) a0 kind at_ size turn tag place hn (by omega)
  by_cases h : wrap64 (1048576 - (a0.size : Int)) < 0
  · rw [if_pos h]; simp
  · rw [if_neg h]; simp [h, e1, e2]
end Go.Proofs.Ytfkjjmhbljlbkaa.Pure
