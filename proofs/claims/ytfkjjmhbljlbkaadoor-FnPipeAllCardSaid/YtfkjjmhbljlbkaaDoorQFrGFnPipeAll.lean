/- FrameGet of the program and of the reference, both as one plain function. -/
import Derived.Test.YtfkjjmhbljlbkaaDoorQFrameFnPipeAll
namespace Go.Proofs.YtfkjjmhbljlbkaaDoor.Q
open Go.RowKit Go.Proofs.YtfkjjmhbljlbkaaDoor.P Go.Proofs.YtfkjjmhbljlbkaaDoorW.PrintWords Go.Proofs.YtfkjjmhbljlbkaaDoorW.PrintLast Go.Proofs.YtfkjjmhbljlbkaaDoorW.PrintMore
set_option linter.unusedVariables false
set_option linter.unusedSimpArgs false

def hd (m : Nat) : Int := (4 * ((m : Int) + 1) + 7) / 8 * 8
def szs (s : ByteArray) : Nat → List Int
  | 0 => []
  | n + 1 => szs s n ++ [by4 s (4 * ((n : Int) + 1))]
def cuts (s : ByteArray) : Int → List Int → List ByteArray
  | _, [] => []
  | a, z :: zs => s.extract a.toNat (a + 8 * z).toNat :: cuts s (a + 8 * z) zs
def frT (s : ByteArray) (m : Nat) : List ByteArray × Int :=
  if (szs s m).sum > 200 then ([], -1) else if allZ (s.extract (4 * (m + 1)) (hd m).toNat) = false then ([], -1)
  else if (s.size : Int) < hd m + 8 * (szs s m).sum then ([], 0) else (cuts s (hd m) (szs s m), hd m + 8 * (szs s m).sum)
def frG (s : ByteArray) : List ByteArray × Int :=
  if (s.size : Int) < 4 then ([], 0) else if by4 s 0 + 1 > 6 then ([], -1) else if (s.size : Int) < hd (by4 s 0 + 1).toNat then ([], 0) else frT s (by4 s 0 + 1).toNat

theorem szs_len (s : ByteArray) (n : Nat) : (szs s n).length = n := by induction n with | zero => rfl | succ n ih => simp [szs, ih]
theorem szs_get (s : ByteArray) (n i : Nat) (h : i < n) : (szs s n)[i]? = some (by4 s (4 * ((i : Int) + 1))) := by
  induction n with
  | zero => omega
  | succ n ih =>
    rw [szs]
    by_cases e : i = n
    · rw [List.getElem?_append_right (by rw [szs_len]; omega), szs_len, e]; simp
    · rw [List.getElem?_append_left (by rw [szs_len]; omega)]; exact ih (by omega)
theorem szs_range (s : ByteArray) (n : Nat) : ∀ z ∈ szs s n, 0 ≤ z ∧ z ≤ 4294967295 := by
  induction n with
  | zero => intro z hz; simp [szs] at hz
  | succ n ih =>
    intro z hz
    rw [szs, List.mem_append] at hz
    rcases hz with hz | hz
    · exact ih z hz
    · simp at hz; rw [hz]; exact by4_range s _
theorem szs_sum (s : ByteArray) (n : Nat) : 0 ≤ (szs s n).sum ∧ (szs s n).sum ≤ 4294967295 * n := by
  induction n with
  | zero => simp [szs]
  | succ n ih =>
    rw [szs, List.sum_append]
    have := by4_range s (4 * ((n : Int) + 1))
    simp
    omega
theorem sum_nonneg {l : List Int} (h : ∀ z ∈ l, 0 ≤ z ∧ z ≤ 4294967295) : 0 ≤ l.sum := by
  induction l with
  | nil => simp
  | cons x l ih =>
    have h1 := h x (by simp)
    have h2 := ih (fun z hz => h z (by simp [hz]))
    rw [List.sum_cons]; omega
theorem hd_vals (m : Nat) (h : m ≤ 6) : 0 ≤ hd m ∧ hd m ≤ 32 ∧ 4 * ((m : Int) + 1) ≤ hd m ∧ hd m ≤ 4 * ((m : Int) + 1) + 4 := by unfold hd; omega

theorem impl_l1 (s : ByteArray) (hs : s.size ≤ 4611686018427387904) (zs : List Int) (hz : ∀ z ∈ zs, 0 ≤ z ∧ z ≤ 4294967295) (hl : zs.length ≤ 6) (d : Nat) : ∀ (k i : Nat) (acc : List ByteArray) (a : Int), i + d = zs.length → d < k → 0 ≤ a → a + 8 * (zs.drop i).sum ≤ s.size → acc.length ≤ i →
    impl_FrameGet.l1 k s acc a zs (zs.length : Int) (i : Int) = some (acc ++ cuts s a (zs.drop i), a + 8 * (zs.drop i).sum) := by
  induction d with
  | zero =>
    intro k i acc a hd hk ha hb hacc
    obtain ⟨k, rfl⟩ : ∃ m, k = m + 1 := ⟨k - 1, by omega⟩
    rw [impl_FrameGet.l1, if_neg (by omega), List.drop_of_length_le (by omega)]
    simp [cuts]
  | succ d ih =>
    intro k i acc a hd hk ha hb hacc
    obtain ⟨k, rfl⟩ : ∃ m, k = m + 1 := ⟨k - 1, by omega⟩
    have hi : i < zs.length := by omega
    rw [List.drop_eq_getElem_cons hi] at hb ⊢
    have hr := hz zs[i] (List.getElem_mem hi)
    have hn := sum_nonneg (l := zs.drop (i + 1)) (fun z h => hz z (List.mem_of_mem_drop h))
    rw [List.sum_cons] at hb ⊢
    have hrd : rd zs (i : Int) = zs[i] := by unfold rd; rw [Int.toNat_natCast, List.getD_eq_getElem?_getD, List.getElem?_eq_getElem hi, Option.getD_some]
    rw [impl_FrameGet.l1, hrd, w64 (x := 8 * zs[i]) (by omega) (by omega), w64 (x := a + 8 * zs[i]) (by omega) (by omega), w64 (x := (i : Int) + 1) (by omega) (by omega), if_pos (by omega), if_pos (by omega), if_pos (by omega), if_pos ha, if_pos (by omega), if_pos (by omega), if_pos (by omega)]
    have := ih k (i + 1) (acc ++ [s.extract a.toNat (a + 8 * zs[i]).toNat]) (a + 8 * zs[i]) (by omega) (by omega) (by omega) (by omega) (by rw [List.length_append]; simp; omega)
    rw [show ((i + 1 : Nat) : Int) = (i : Int) + 1 by omega] at this
    rw [this, cuts, List.append_assoc, List.singleton_append, show a + 8 * zs[i] + 8 * (zs.drop (i + 1)).sum = a + 8 * (zs[i] + (zs.drop (i + 1)).sum) by omega]

theorem impl_end (s : ByteArray) (hs : s.size ≤ 4611686018427387904) (m : Nat) (hm : m ≤ 6) (hh : hd m ≤ s.size) (k : Nat) (hk : 40 ≤ k) (h4 : 4 * ((m : Int) + 1) = wrap64 (4 * wrap64 ((m : Int) + 1))) :
    impl_FrameGet.l0 k s (m : Int) (hd m) (szs s m) (szs s m).sum (m : Int) (m : Int) = some (frT s m) := by
  obtain ⟨k, rfl⟩ : ∃ m, k = m + 1 := ⟨k - 1, by omega⟩
  have hv := hd_vals m hm
  have hsum := szs_sum s m
  have J : ∀ b : Bool, impl_FrameGet.j1 k s (hd m) (szs s m) (szs s m).sum b = some (if b = true then ([], -1) else if (s.size : Int) < hd m + 8 * (szs s m).sum then ([], 0) else (cuts s (hd m) (szs s m), hd m + 8 * (szs s m).sum)) := by
    intro b
    obtain ⟨k, rfl⟩ : ∃ m, k = m + 1 := ⟨k - 1, by omega⟩
    rw [impl_FrameGet.j1, w64 (x := 8 * (szs s m).sum) (by omega) (by omega), w64 (by omega) (by omega)]
    cases b
    · simp only [Bool.false_eq_true, if_false]
      by_cases h : (s.size : Int) < hd m + 8 * (szs s m).sum
      · rw [if_pos h, if_pos h]
      · rw [if_neg h, if_neg h]
        have := impl_l1 s hs (szs s m) (szs_range s m) (by rw [szs_len]; exact hm) (szs s m).length k 0 [] (hd m) (by omega) (by rw [szs_len]; omega) hv.1 (by rw [List.drop_zero]; omega) (by simp)
        rw [List.drop_zero, List.nil_append] at this
        exact this
    · simp only [if_true]
  rw [impl_FrameGet.l0, if_neg (by omega), ← h4]
  unfold frT
  by_cases h : (szs s m).sum > 200
  · rw [if_pos h, if_pos h, J]; rfl
  · rw [if_neg h, if_neg h, if_pos (by omega), if_pos hv.2.2.1, if_pos hh]
    have hx : (s.extract (4 * ((m : Int) + 1)).toNat (hd m).toNat).size ≤ 4 := by rw [ByteArray.size_extract]; omega
    obtain ⟨t, e, ht⟩ := trim_f (s.extract (4 * ((m : Int) + 1)).toNat (hd m).toNat) (by omega) k (by omega)
    rw [e, Option.bind_some, ht, J, show (4 * ((m : Int) + 1)).toNat = 4 * (m + 1) by omega]
    cases allZ (s.extract (4 * (m + 1)) (hd m).toNat) <;> simp

theorem impl_l0 (s : ByteArray) (hs : s.size ≤ 4611686018427387904) (m : Nat) (hm : m ≤ 6) (hh : hd m ≤ s.size) (d : Nat) : ∀ (k i : Nat), i + d = m → d + 40 ≤ k →
    impl_FrameGet.l0 k s (m : Int) (hd m) (szs s i) (szs s i).sum (m : Int) (i : Int) = some (frT s m) := by
  induction d with
  | zero =>
    intro k i hi hk
    obtain rfl : i = m := by omega
    exact impl_end s hs i hm hh k (by omega) (by rw [w64 (x := (i : Int) + 1) (by omega) (by omega), w64 (by omega) (by omega)])
  | succ d ih =>
    intro k i hi hk
    obtain ⟨k, rfl⟩ : ∃ m, k = m + 1 := ⟨k - 1, by omega⟩
    have hr := by4_range s (4 * ((i : Int) + 1))
    have hsum := szs_sum s i
    rw [impl_FrameGet.l0, if_pos (by omega), w64 (x := (i : Int) + 1) (by omega) (by omega), w64 (x := 4 * ((i : Int) + 1)) (by omega) (by omega), fetch4' k s _ (by omega) (by omega) (by omega), Option.bind_some, if_pos (by rw [szs_len]; omega), Option.bind_some, if_pos (by omega), if_pos (by rw [List.length_append, szs_len]; simp; omega)]
    have hrd : rd (szs s i ++ [by4 s (4 * ((i : Int) + 1))]) (i : Int) = by4 s (4 * ((i : Int) + 1)) := by
      unfold rd; rw [Int.toNat_natCast, List.getD_eq_getElem?_getD, List.getElem?_append_right (by rw [szs_len]; omega), szs_len]; simp
    rw [hrd, w64 (by omega) (by omega)]
    have := ih k (i + 1) (by omega) (by omega)
    rw [szs, List.sum_append, show ((i + 1 : Nat) : Int) = (i : Int) + 1 by omega] at this
    simpa using this

theorem impl_frG (s : ByteArray) (hs : s.size ≤ 4611686018427387904) (k : Nat) (hk : 60 ≤ k) : impl_FrameGet.f k s = some (frG s) := by
  unfold impl_FrameGet.f frG
  by_cases h : (s.size : Int) < 4
  · rw [if_pos h, if_pos h]
  · rw [if_neg h, if_neg h, fetch4' k s 0 (by omega) (by omega) (by omega), Option.bind_some]
    have hr := by4_range s 0
    rw [w64 (x := by4 s 0 + 1) (by omega) (by omega)]
    by_cases h6 : by4 s 0 + 1 > 6
    · rw [if_pos h6, if_pos h6]
    · rw [if_neg h6, if_neg h6]
      obtain ⟨m, hm⟩ : ∃ m : Nat, by4 s 0 + 1 = m := ⟨(by4 s 0 + 1).toNat, by omega⟩
      rw [hm, Int.toNat_natCast]
      have hd' : wrap64 (wrap64 (Int.tdiv (wrap64 (wrap64 (wrap64 (4 * wrap64 ((m : Int) + 1)) + 8) - 1)) 8) * 8) = hd m := by
        rw [w64 (x := (m : Int) + 1) (by omega) (by omega), w64 (x := 4 * ((m : Int) + 1)) (by omega) (by omega), w64 (x := 4 * ((m : Int) + 1) + 8) (by omega) (by omega), w64 (x := 4 * ((m : Int) + 1) + 8 - 1) (by omega) (by omega), tdiv_pos (by omega), w64 (x := (4 * ((m : Int) + 1) + 8 - 1) / 8) (by omega) (by omega), w64 (by omega) (by omega)]
        unfold hd; omega
      rw [hd']
      by_cases hh : (s.size : Int) < hd m
      · rw [if_pos hh, if_pos hh]
      · rw [if_neg hh, if_neg hh]
        exact impl_l0 s hs m (by omega) (by omega) m k 0 (by omega) (by omega)

end Go.Proofs.YtfkjjmhbljlbkaaDoor.Q
