/- Part of the proof of a statement about the given program: C2. No condition of its own. -/
import Derived.Test.YtjegppoenhfjlaaDoorC1
namespace Go.Ev
open Go.Lib
set_option linter.unusedSimpArgs false
set_option linter.unusedVariables false
def isFig (c : UInt8) : Bool := decide (48 ≤ c.toNat) && decide (c.toNat ≤ 57)
/-- The number that figures spell. -/
def valD (s : List UInt8) : Nat := s.foldl (fun a c => a * 10 + (c.toNat - 48)) 0
theorem valD_snoc (s : List UInt8) (c : UInt8) : valD (s ++ [c]) = valD s * 10 + (c.toNat - 48) := by simp [valD]
theorem valD_dec (u : Nat) : valD (decDigits u) = u := by
  induction u using Nat.strongRecOn with
  | _ u ih =>
    rw [decDigits]
    split
    · rename_i h
      have : (UInt8.ofNat (48 + u)).toNat = 48 + u := by rw [UInt8.toNat_ofNat']; omega
      simp only [valD, List.foldl_cons, List.foldl_nil, this]
      omega
    · rename_i h
      have : (UInt8.ofNat (48 + u % 10)).toNat = 48 + u % 10 := by rw [UInt8.toNat_ofNat']; omega
      rw [valD_snoc, ih (u / 10) (by omega), this]
      omega
theorem nDigits_le : ∀ (k u : Nat), u < 10 ^ (k + 1) → nDigits u ≤ k + 1
  | 0, u, h => by
    rw [nDigits_small (by simpa using h)]
    exact Nat.le_refl _
  | k + 1, u, h => by
    by_cases hu : u < 10
    · rw [nDigits_small hu]
      omega
    · rw [nDigits_big hu]
      have := nDigits_le k (u / 10) (by rw [Nat.pow_succ] at h; omega)
      omega
theorem dec_head (u : Nat) : 1 ≤ u → (decDigits u).head? ≠ some 48 := by
  induction u using Nat.strongRecOn with
  | _ u ih =>
    intro hu
    rw [decDigits]
    split
    · rename_i h
      intro he
      simp only [List.head?_cons, Option.some.injEq] at he
      have : (UInt8.ofNat (48 + u)).toNat = 48 + u := by rw [UInt8.toNat_ofNat']; omega
      rw [he] at this
      have h48 : (48 : UInt8).toNat = 48 := rfl
      omega
    · rename_i h
      rw [List.head?_append]
      cases hd : (decDigits (u / 10)).head? with
      | none => exact absurd (List.head?_eq_none_iff.1 hd) (decDigits_ne _)
      | some c =>
        have := ih (u / 10) (by omega) (by omega)
        rw [hd] at this
        simpa using this
/-- The reference's number of a word, and whether it is bad. -/
def numS (w : List UInt8) : Int × Bool :=
  if (if 1 < w.length ∧ w.head? = some 45 then w.tail else w).all isFig = false then (0, true)
  else if (if 1 < w.length ∧ w.head? = some 45 then w.tail else w).length < 1 ∨ 18 < (if 1 < w.length ∧ w.head? = some 45 then w.tail else w).length ∨ (1 < (if 1 < w.length ∧ w.head? = some 45 then w.tail else w).length ∧ (if 1 < w.length ∧ w.head? = some 45 then w.tail else w).head? = some 48) ∨ ((1 < w.length ∧ w.head? = some 45) ∧ valD (if 1 < w.length ∧ w.head? = some 45 then w.tail else w) = 0) then (0, true)
  else (if 1 < w.length ∧ w.head? = some 45 then -(valD w.tail : Int) else valD w, false)
theorem dec_all (u : Nat) : (decDigits u).all isFig = true := by
  rw [List.all_eq_true]
  intro c hc
  have := decDigits_fig u c hc
  simp [isFig, this]
theorem dec_pos (u : Nat) : 1 ≤ (decDigits u).length := by
  rw [decDigits_length]
  exact nDigits_pos u
theorem dec_short {u : Nat} (h : u ≤ 999999999999999999) : (decDigits u).length ≤ 18 := by
  rw [decDigits_length]
  exact nDigits_le 17 u (by omega)
theorem numS_itoa (n : Int) (h0 : -999999999999999999 ≤ n) (h1 : n ≤ 999999999999999999) : numS (itoa n) = (n, false) := by
  by_cases hn : n < 0
  · have e : itoa n = 45 :: decDigits n.natAbs := by unfold itoa; rw [if_pos hn]
    have hp := dec_pos n.natAbs
    have hs := dec_short (u := n.natAbs) (by omega)
    have hh := dec_head n.natAbs (by omega)
    have hm : 1 < (45 :: decDigits n.natAbs : List UInt8).length ∧ (45 :: decDigits n.natAbs : List UInt8).head? = some 45 := ⟨by simp; omega, rfl⟩
    rw [e]
    unfold numS
    simp only [if_pos hm, List.tail_cons, dec_all, Bool.true_eq_false, if_false, valD_dec]
    rw [if_neg]
    · congr 1
      omega
    · rintro (h | h | h | h)
      · omega
      · omega
      · exact hh h.2
      · omega
  · have e : itoa n = decDigits n.toNat := by unfold itoa; rw [if_neg hn]
    have hp := dec_pos n.toNat
    have hs := dec_short (u := n.toNat) (by omega)
    have hm : ¬ (1 < (decDigits n.toNat).length ∧ (decDigits n.toNat).head? = some 45) := by
      rintro ⟨_, h⟩
      have := (decDigits_fig n.toNat 45 (List.mem_of_mem_head? h)).1
      simp at this
    rw [e]
    unfold numS
    simp only [if_neg hm, dec_all, Bool.true_eq_false, if_false, valD_dec]
    rw [if_neg]
    · congr 1
      omega
    · rintro (h | h | h | h)
      · omega
      · omega
      · by_cases hu : 1 ≤ n.toNat
        · exact dec_head _ hu h.2
        · have : n.toNat = 0 := by omega
          rw [this] at h
          simp [decDigits] at h
      · exact hm h.1
/-- The program's number of a word, and whether it is one. -/
def numW (w : List UInt8) : Int × Bool :=
  match atoiAll w with
  | .ok v => (v, decide (-999999999999999999 ≤ v) && decide (v ≤ 999999999999999999) && decide (itoa v = w))
  | .range => (atoiSat w, false)
  | _ => (0, false)
/-- How a numeral's reading ends: with a number, out of range, or as that of nothing. -/
theorem ends (e : NumEnd Int) : (∃ v, e = .ok v) ∨ e = .range ∨ e = atoiAll [] := by
  cases e
  · exact .inl ⟨_, rfl⟩
  · exact .inr (.inr rfl)
  · exact .inr (.inl rfl)
theorem numW_itoa (n : Int) (h0 : -999999999999999999 ≤ n) (h1 : n ≤ 999999999999999999) : numW (itoa n) = (n, true) := by
  unfold numW
  rw [atoi_itoa n (by omega) (by omega)]
  simp [h0, h1]
end Go.Ev
