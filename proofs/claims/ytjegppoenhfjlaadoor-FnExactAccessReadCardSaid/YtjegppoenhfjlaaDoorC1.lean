/- Part of the proof of a statement about the given program: C1. No condition of its own. -/
import Derived.Lib.AtoiAll
import Derived.Lib.ItoaMem
namespace Go.Ev
open Go.Lib
set_option linter.unusedSimpArgs false
set_option linter.unusedVariables false

/-! Words between blanks. -/
def cutStep (p : List (List UInt8) × List UInt8) (c : UInt8) : List (List UInt8) × List UInt8 := if c = 32 then (p.1 ++ [p.2], []) else (p.1, p.2 ++ [c])
def cutF (p : List (List UInt8) × List UInt8) (s : List UInt8) : List (List UInt8) × List UInt8 := s.foldl cutStep p
/-- The words of a text. -/
def cutL (s : List UInt8) : List (List UInt8) := (cutF ([], []) s).1 ++ [(cutF ([], []) s).2]
theorem cutF_app (p : List (List UInt8) × List UInt8) (a b : List UInt8) : cutF p (a ++ b) = cutF (cutF p a) b := by simp [cutF]
theorem cutF_none : ∀ (a : List UInt8) (p : List (List UInt8) × List UInt8), (∀ c ∈ a, c ≠ 32) → cutF p a = (p.1, p.2 ++ a)
  | [], p, h => by simp [cutF]
  | c :: a, p, h => by
    have h1 := cutF_none a (cutStep p c) fun x hx => h x (by simp [hx])
    show cutF (cutStep p c) a = _
    rw [h1]
    simp [cutStep, h c (by simp)]
theorem cutF_len : ∀ (a : List UInt8) (p : List (List UInt8) × List UInt8), (cutF p a).1.length = p.1.length + (a.filter (· = 32)).length
  | [], p => by simp [cutF]
  | c :: a, p => by
    show (cutF (cutStep p c) a).1.length = _
    rw [cutF_len a]
    unfold cutStep
    split
    · rename_i h
      simp [h]
      omega
    · rename_i h
      simp [h]
/-! Figures. -/
theorem decDigits_fig (u : Nat) : ∀ c ∈ decDigits u, 48 ≤ c.toNat ∧ c.toNat ≤ 57 := by
  induction u using Nat.strongRecOn with
  | _ u ih =>
    intro c hc
    rw [decDigits] at hc
    split at hc
    · rename_i h
      rw [List.mem_singleton.1 hc, UInt8.toNat_ofNat']
      omega
    · rename_i h
      rcases List.mem_append.1 hc with hc | hc
      · exact ih (u / 10) (by omega) c hc
      · rw [List.mem_singleton.1 hc, UInt8.toNat_ofNat']
        omega
theorem itoa_noblank (n : Int) : ∀ c ∈ itoa n, c ≠ 32 := by
  intro c hc e
  subst e
  unfold itoa at hc
  split at hc
  · rcases List.mem_cons.1 hc with h | h
    · cases h
    · have := (decDigits_fig _ _ h).1
      simp at this
  · have := (decDigits_fig _ _ hc).1
    simp at this
theorem parse_app : ∀ (l r : List UInt8) (acc : Nat), parseUint10 acc (l ++ r) = match parseUint10 acc l with | .ok a => parseUint10 a r | e => e
  | [], r, acc => by simp [parseUint10]
  | b :: l, r, acc => by
    simp only [List.cons_append, parseUint10]
    split
    · split
      · rfl
      · split
        · rfl
        · rw [parse_app l]
    · rfl
theorem parse_dec (u : Nat) : u < 18446744073709551616 → parseUint10 0 (decDigits u) = .ok u := by
  induction u using Nat.strongRecOn with
  | _ u ih =>
    intro hu
    rw [decDigits]
    split
    · rename_i h
      have : (UInt8.ofNat (48 + u)).toNat = 48 + u := by rw [UInt8.toNat_ofNat']; omega
      simp only [parseUint10, this]
      rw [if_pos (by omega), if_neg (by omega), if_neg (by omega)]
      congr 1
      omega
    · rename_i h
      rw [parse_app, ih (u / 10) (by omega) (by omega)]
      have : (UInt8.ofNat (48 + u % 10)).toNat = 48 + u % 10 := by rw [UInt8.toNat_ofNat']; omega
      simp only [parseUint10, this]
      rw [if_pos (by omega), if_neg (by omega), if_neg (by omega)]
      congr 1
      omega
theorem decDigits_ne (u : Nat) : decDigits u ≠ [] := by
  intro h
  have := decDigits_length u
  rw [h] at this
  have := nDigits_pos u
  simp at *
  omega
theorem atoi_itoa (n : Int) (h0 : -9223372036854775808 ≤ n) (h1 : n ≤ 9223372036854775807) : atoiAll (itoa n) = .ok n := by
  by_cases hn : n < 0
  · have e : itoa n = 45 :: decDigits n.natAbs := by unfold itoa; rw [if_pos hn]
    rw [e]
    have h45 : (45 : UInt8).toNat = 45 := rfl
    have hm : parseMag (decDigits n.natAbs) = .ok n.natAbs := by
      unfold parseMag
      rw [if_neg (decDigits_ne _), parse_dec _ (by omega)]
    have hs : (if (45 : UInt8).toNat = 43 ∨ (45 : UInt8).toNat = 45 then decDigits n.natAbs else 45 :: decDigits n.natAbs) = decDigits n.natAbs := if_pos (.inr rfl)
    have hk : ¬ 9223372036854775808 < n.natAbs := by omega
    simp only [atoiAll, hs, hm, h45, not_true_eq_false, false_and, if_false, true_and, hk, if_true]
    have hn2 : -((n.natAbs : Nat) : Int) = n := by omega
    simp [hn2, hm, hk]
  · have e : itoa n = decDigits n.toNat := by unfold itoa; rw [if_neg hn]
    rw [e]
    cases hd : decDigits n.toNat with
    | nil => exact absurd hd (decDigits_ne _)
    | cons c r =>
      have hc := decDigits_fig n.toNat c (by rw [hd]; simp)
      simp only [atoiAll]
      rw [if_neg (by omega)]
      unfold parseMag
      rw [if_neg (by simp), ← hd, parse_dec _ (by omega)]
      have hne : ¬ c.toNat = 45 := by omega
      simp only [hne, not_false_eq_true, true_and, false_and, if_false]
      rw [if_neg (by omega)]
      congr 1
      omega
end Go.Ev
