/- What is fed to a pipe, as plain functions: the frames of a text, one behind the other. -/
import Derived.Test.YtfkjjmhbljlbkaaDoorQFrGFnPipeAll
namespace Go.Proofs.YtfkjjmhbljlbkaaDoor.Q
open Go.RowKit Go.Proofs.YtfkjjmhbljlbkaaDoor.P Go.Proofs.YtfkjjmhbljlbkaaDoorW.PrintWords Go.Proofs.YtfkjjmhbljlbkaaDoorW.PrintLast Go.Proofs.YtfkjjmhbljlbkaaDoorW.PrintMore
set_option linter.unusedVariables false
set_option linter.unusedSimpArgs false

theorem frG_cases (t : ByteArray) : frG t = ([], -1) ∨ (frG t = ([], 0) ∧ t.size ≤ 1632) ∨ (8 ≤ (frG t).2 ∧ (frG t).2 ≤ t.size) := by
  unfold frG frT
  have hr := by4_range t 0
  by_cases h4 : (t.size : Int) < 4
  · rw [if_pos h4]; right; left; exact ⟨rfl, by omega⟩
  · rw [if_neg h4]
    by_cases h6 : by4 t 0 + 1 > 6
    · rw [if_pos h6]; left; rfl
    · rw [if_neg h6]
      obtain ⟨m, hm⟩ : ∃ m : Nat, by4 t 0 + 1 = m := ⟨(by4 t 0 + 1).toNat, by omega⟩
      rw [hm, Int.toNat_natCast]
      have hv := hd_vals m (by omega)
      have hh8 : 8 ≤ hd m := by unfold hd; omega
      have hs := szs_sum t m
      by_cases hh : (t.size : Int) < hd m
      · rw [if_pos hh]; right; left; exact ⟨rfl, by omega⟩
      · rw [if_neg hh]
        by_cases h2 : (szs t m).sum > 200
        · rw [if_pos h2]; left; rfl
        · rw [if_neg h2]
          by_cases hz : allZ (t.extract (4 * (m + 1)) (hd m).toNat) = false
          · rw [if_pos hz]; left; rfl
          · rw [if_neg hz]
            by_cases hl : (t.size : Int) < hd m + 8 * (szs t m).sum
            · rw [if_pos hl]; right; left; exact ⟨rfl, by omega⟩
            · rw [if_neg hl]; right; right; exact ⟨by show 8 ≤ hd m + 8 * (szs t m).sum; omega, by show hd m + 8 * (szs t m).sum ≤ _; omega⟩

theorem by4_app (t u : ByteArray) (a : Int) (h0 : 0 ≤ a) (h : a + 4 ≤ t.size) : by4 (t ++ u) a = by4 t a := by
  unfold by4
  rw [bt_app_l t u (a + 3) (by omega) (by omega), bt_app_l t u (a + 2) (by omega) (by omega), bt_app_l t u (a + 1) (by omega) (by omega), bt_app_l t u a (by omega) (by omega)]
theorem szs_app (t u : ByteArray) (m : Nat) (h : 4 * ((m : Int) + 1) ≤ t.size) : szs (t ++ u) m = szs t m := by
  induction m with
  | zero => rfl
  | succ m ih => rw [szs, szs, ih (by omega), by4_app t u _ (by omega) (by omega)]
theorem cuts_app (t u : ByteArray) (zs : List Int) : ∀ a : Int, 0 ≤ a → (∀ z ∈ zs, 0 ≤ z ∧ z ≤ 4294967295) → a + 8 * zs.sum ≤ t.size → cuts (t ++ u) a zs = cuts t a zs := by
  induction zs with
  | nil => intro a _ _ _; rfl
  | cons z zs ih =>
    intro a ha hz hb
    have h1 := hz z (by simp)
    have h2 := sum_nonneg (l := zs) (fun y hy => hz y (by simp [hy]))
    rw [List.sum_cons] at hb
    rw [cuts, cuts, ext_app_l t u _ _ (by omega), ih (a + 8 * z) (by omega) (fun y hy => hz y (by simp [hy])) (by omega)]
theorem frG_more (t u : ByteArray) (h : (frG t).2 ≠ 0) : frG (t ++ u) = frG t := by
  unfold frG frT at h ⊢
  have hr := by4_range t 0
  have hsz : (t ++ u).size = t.size + u.size := ByteArray.size_append
  by_cases h4 : (t.size : Int) < 4
  · rw [if_pos h4] at h; exact absurd rfl h
  · rw [if_neg h4] at h ⊢
    rw [if_neg (by omega), by4_app t u 0 (by omega) (by omega)]
    by_cases h6 : by4 t 0 + 1 > 6
    · rw [if_pos h6, if_pos h6]
    · rw [if_neg h6] at h ⊢
      rw [if_neg h6]
      obtain ⟨m, hm⟩ : ∃ m : Nat, by4 t 0 + 1 = m := ⟨(by4 t 0 + 1).toNat, by omega⟩
      rw [hm, Int.toNat_natCast] at h ⊢
      have hv := hd_vals m (by omega)
      by_cases hh : (t.size : Int) < hd m
      · rw [if_pos hh] at h; exact absurd rfl h
      · rw [if_neg hh] at h ⊢
        rw [if_neg (by omega), szs_app t u m (by omega), ext_app_l t u _ _ (by omega)]
        by_cases h2 : (szs t m).sum > 200
        · rw [if_pos h2, if_pos h2]
        · rw [if_neg h2] at h ⊢
          rw [if_neg h2]
          by_cases hz : allZ (t.extract (4 * (m + 1)) (hd m).toNat) = false
          · rw [if_pos hz, if_pos hz]
          · rw [if_neg hz] at h ⊢
            rw [if_neg hz]
            by_cases hl : (t.size : Int) < hd m + 8 * (szs t m).sum
            · rw [if_pos hl] at h; exact absurd rfl h
            · rw [if_neg hl, if_neg (by omega), cuts_app t u (szs t m) (hd m) hv.1 (szs_range t m) (by omega)]

/-! ### all frames of a text -/
def run : Nat → ByteArray → ByteArray × Bool × List (List ByteArray)
  | 0, t => (t, false, [])
  | n + 1, t => if (frG t).2 = -1 then (⟨#[]⟩, true, []) else if (frG t).2 = 0 then (t, false, [])
      else ((run n (t.extract (frG t).2.toNat t.size)).1, (run n (t.extract (frG t).2.toNat t.size)).2.1, (frG t).1 :: (run n (t.extract (frG t).2.toNat t.size)).2.2)
def feed (t : ByteArray) : ByteArray × Bool × List (List ByteArray) := run t.size t
theorem drop_size (t : ByteArray) (n : Int) (h : 8 ≤ n) (h1 : n ≤ t.size) : (t.extract n.toNat t.size).size = t.size - n.toNat := by rw [ByteArray.size_extract]; omega
theorem run_any (n : Nat) : ∀ (m : Nat) (t : ByteArray), t.size ≤ n → t.size ≤ m → run n t = run m t := by
  induction n with
  | zero =>
    intro m t hn hm
    cases m with
    | zero => rfl
    | succ m =>
      rw [run, run]
      have : frG t = ([], 0) := by unfold frG; rw [if_pos (by omega)]
      rw [this, if_neg (by decide), if_pos rfl]
  | succ n ih =>
    intro m t hn hm
    cases m with
    | zero =>
      rw [run, run]
      have : frG t = ([], 0) := by unfold frG; rw [if_pos (by omega)]
      rw [this, if_neg (by decide), if_pos rfl]
    | succ m =>
      rw [run, run]
      rcases frG_cases t with h | ⟨h, _⟩ | ⟨h, h1⟩
      · rw [h]; rfl
      · rw [h]; rfl
      · have hd := drop_size t (frG t).2 h h1
        rw [ih m _ (by omega) (by omega)]
theorem feed_bad (t : ByteArray) (h : (frG t).2 = -1) : feed t = (⟨#[]⟩, true, []) := by
  unfold feed
  rw [run_any t.size (t.size + 1) t (Nat.le_refl _) (by omega), run, if_pos h]
theorem feed_wait (t : ByteArray) (h : (frG t).2 = 0) : feed t = (t, false, []) := by
  unfold feed
  rw [run_any t.size (t.size + 1) t (Nat.le_refl _) (by omega), run, if_neg (by omega), if_pos h]
theorem feed_some (t : ByteArray) (h : 8 ≤ (frG t).2) (h1 : (frG t).2 ≤ t.size) : feed t = ((feed (t.extract (frG t).2.toNat t.size)).1, (feed (t.extract (frG t).2.toNat t.size)).2.1, (frG t).1 :: (feed (t.extract (frG t).2.toNat t.size)).2.2) := by
  have hd := drop_size t (frG t).2 h h1
  unfold feed
  rw [run_any t.size (t.size + 1) t (Nat.le_refl _) (by omega), run, if_neg (by omega), if_neg (by omega), run_any t.size _ _ (by omega) (Nat.le_refl _)]
/-- What is left waits: it is no whole frame yet, and short. -/
theorem feed_left (n : Nat) : ∀ t : ByteArray, t.size = n → ((feed t).2.1 = true → (feed t).1 = ⟨#[]⟩) ∧ ((feed t).2.1 = false → frG (feed t).1 = ([], 0) ∧ (feed t).1.size ≤ 1632) ∧ (feed t).1.size ≤ t.size ∧ (feed t).2.2.length ≤ t.size := by
  induction n using Nat.strongRecOn with
  | _ n ih =>
    intro t ht
    rcases frG_cases t with h | ⟨h, hs⟩ | ⟨h, h1⟩
    · rw [feed_bad t (by rw [h])]
      exact ⟨fun _ => rfl, fun e => (Bool.noConfusion e : _), Nat.zero_le _, Nat.zero_le _⟩
    · rw [feed_wait t (by rw [h])]
      exact ⟨fun e => by simp at e, fun _ => ⟨h, hs⟩, Nat.le_refl _, by simp⟩
    · have hd := drop_size t (frG t).2 h h1
      rw [feed_some t h h1]
      obtain ⟨i1, i2, i3, i4⟩ := ih _ (by omega) (t.extract (frG t).2.toNat t.size) rfl
      rw [hd] at i3 i4
      generalize feed (t.extract (frG t).2.toNat t.size) = z at i1 i2 i3 i4
      refine ⟨i1, i2, ?_, ?_⟩
      · show z.1.size ≤ t.size
        omega
      · show ((frG t).1 :: z.2.2).length ≤ t.size
        rw [List.length_cons]; omega
/-- Fed in two pieces. -/
theorem feed_two (n : Nat) : ∀ t u : ByteArray, t.size = n → feed (t ++ u) = if (feed t).2.1 = true then feed t else ((feed ((feed t).1 ++ u)).1, (feed ((feed t).1 ++ u)).2.1, (feed t).2.2 ++ (feed ((feed t).1 ++ u)).2.2) := by
  induction n using Nat.strongRecOn with
  | _ n ih =>
    intro t u ht
    rcases frG_cases t with h | ⟨h, hs⟩ | ⟨h, h1⟩
    · rw [feed_bad t (by rw [h]), feed_bad (t ++ u) (by rw [frG_more t u (by rw [h]; decide), h]), if_pos rfl]
    · rw [feed_wait t (by rw [h]), if_neg (by simp)]
      simp
    · have hd := drop_size t (frG t).2 h h1
      have hm := frG_more t u (by omega)
      have hsz : (t ++ u).size = t.size + u.size := ByteArray.size_append
      rw [feed_some t h h1, feed_some (t ++ u) (by rw [hm]; exact h) (by rw [hm]; omega), hm, drop_app t u _ (by omega), ih _ (by omega) (t.extract (frG t).2.toNat t.size) u rfl]
      by_cases hb : (feed (t.extract (frG t).2.toNat t.size)).2.1 = true
      · rw [if_pos hb, if_pos hb]
      · rw [if_neg hb, if_neg hb]; simp
theorem feed_two' (t u : ByteArray) : feed (t ++ u) = if (feed t).2.1 = true then feed t else ((feed ((feed t).1 ++ u)).1, (feed ((feed t).1 ++ u)).2.1, (feed t).2.2 ++ (feed ((feed t).1 ++ u)).2.2) := feed_two t.size t u rfl

/-! ### the program's and the reference's feeding -/
def okP (l : ByteArray) (b : Bool) : Bool := if b = true then decide (l.size = 0) else decide ((frG l).2 = 0 ∧ l.size ≤ 1800)
theorem impl_ok (l : ByteArray) (b : Bool) (hl : l.size ≤ 4611686018427387904) (k : Nat) (hk : 60 ≤ k) : impl_PipeOk.f k l b = some (okP l b) := by
  unfold impl_PipeOk.f okP
  cases b
  · rw [if_neg (by decide), if_neg (by decide), impl_frG l hl k hk, Option.bind_some]
    by_cases h : (frG l).2 = 0
    · rw [if_pos h]; simp [h]; omega
    · rw [if_neg h]; simp [h]
  · rw [if_pos rfl, if_pos rfl]
    have e : (l.toList == ([] : List UInt8)) = decide (l.size = 0) := by
      by_cases h : l.size = 0
      · rw [decide_eq_true h, (toList_nil l).2 h]; rfl
      · rw [decide_eq_false h, beq_eq_false_iff_ne]; exact fun e => h ((toList_nil l).1 e)
    rw [e]
theorem impl_loop (n : Nat) : ∀ (t : ByteArray) (acc : List (List ByteArray)) (k : Nat), t.size = n → t.size ≤ 2305843009213693952 → acc.length + t.size ≤ 5000000000000 → n + 61 ≤ k → impl_PipeFeed.l0 k t acc = some ((feed t).1, (feed t).2.1, acc ++ (feed t).2.2) := by
  induction n using Nat.strongRecOn with
  | _ n ih =>
    intro t acc k ht hs ha hk
    obtain ⟨k, rfl⟩ : ∃ m, k = m + 1 := ⟨k - 1, by omega⟩
    rw [impl_PipeFeed.l0, impl_frG t (by omega) k (by omega), Option.bind_some]
    rcases frG_cases t with h | ⟨h, h1⟩ | ⟨h, h1⟩
    · rw [if_pos (by rw [h]), feed_bad t (by rw [h])]; simp
    · rw [if_neg (by rw [h]; decide), if_pos (by rw [h]), feed_wait t (by rw [h])]; simp
    · have hd := drop_size t (frG t).2 h h1
      rw [if_neg (by omega), if_neg (by omega), if_pos (by omega), if_pos (by omega), if_pos (by omega), ih _ (by omega) (t.extract (frG t).2.toNat t.size) (acc ++ [(frG t).1]) k rfl (by omega) (by rw [List.length_append]; simp; omega) (by omega), feed_some t h h1]
      simp
/-- What a pipe answers. -/
def feedP (l : ByteArray) (b : Bool) (t : ByteArray) : ByteArray × Bool × List (List ByteArray) :=
  if okP l b = false ∨ (t.size : Int) > 4000 then (⟨#[]⟩, false, []) else if b = true then (l, b, []) else feed (l ++ t)
theorem impl_feedP (l : ByteArray) (b : Bool) (t : ByteArray) (hl : l.size ≤ 1000000000000) (ht : t.size ≤ 1000000000000) (k : Nat) (hk : l.size + t.size + 100 ≤ k) : impl_PipeFeed.f k l b t = some (feedP l b t) := by
  have J : ∀ x, impl_PipeFeed.j0 k t x l b = some (if x = true then (⟨#[]⟩, false, []) else if b = true then (l, b, []) else feed (l ++ t)) := by
    intro x
    obtain ⟨k, rfl⟩ : ∃ m, k = m + 1 := ⟨k - 1, by omega⟩
    rw [impl_PipeFeed.j0]
    cases x
    · cases b
      · simp only [Bool.false_eq_true, if_false]
        rw [if_pos (by omega), impl_loop (l ++ t).size (l ++ t) [] k rfl (by rw [ByteArray.size_append]; omega) (by rw [ByteArray.size_append]; simp; omega) (by rw [ByteArray.size_append]; omega)]
        simp
      · simp
    · simp
  unfold impl_PipeFeed.f feedP
  rw [impl_ok l b (by omega) k (by omega), Option.bind_some, J, J]
  cases okP l b
  · simp
  · by_cases h : (t.size : Int) > 4000 <;> simp [h]
/-- Behind a feeding the pipe is ok. -/
theorem feed_ok (t : ByteArray) : okP (feed t).1 (feed t).2.1 = true := by
  obtain ⟨h1, h2, _, _⟩ := feed_left t.size t rfl
  unfold okP
  cases hb : (feed t).2.1
  · obtain ⟨e, hs⟩ := h2 hb
    rw [e]; simp; omega
  · rw [h1 hb]; simp [ByteArray.size]
end Go.Proofs.YtfkjjmhbljlbkaaDoor.Q
