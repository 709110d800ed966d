/- A pipe and bytes that are drawn: they are there, and not long. -/
import Derived.Test.YtfkjjmhbljlbkaaDoorQDrawFnPipe
import Derived.OpenShut
namespace Go.Proofs.YtfkjjmhbljlbkaaDoor.Q
open Go.RowKit Go.Proofs.YtfkjjmhbljlbkaaDoor.P Go.Proofs.YtfkjjmhbljlbkaaDoorW.PrintWords Go.Proofs.YtfkjjmhbljlbkaaDoorW.PrintLast Go.Proofs.YtfkjjmhbljlbkaaDoorW.PrintMore
set_option linter.unusedVariables false
set_option linter.unusedSimpArgs false

theorem open_ (l : List Int) (h : ∀ x ∈ l, (Lit.int .u8 x).wf = true) : ∃ b, spec_l1Open.f l = some (b, 0) ∧ (∀ x ∈ b, 0 ≤ x ∧ x ≤ 255) ∧ b.length ≤ 2000 := by
  have hw : ∀ x ∈ l, 0 ≤ x ∧ x ≤ 255 := fun x hx => bounds_u8 (h x hx)
  unfold spec_l1Open.f
  by_cases h1 : (l.length : Int) > 2000
  · rw [if_pos h1, if_pos (by omega)]
    exact ⟨_, rfl, fun x hx => hw x (List.mem_of_mem_take hx), by rw [List.length_take]; omega⟩
  · rw [if_neg h1]
    exact ⟨_, rfl, hw, by omega⟩
theorem segs_put {b : List Int} {p c : Int} (h : Rd b p c) (hc : 60 ≤ c) (k : Nat) (hk : 100 < k) : ∃ l p', spec_l13Segs.f k b p = some (l, p') ∧ p ≤ p' ∧ p' ≤ p + 60 ∧ spec_FramePut.f k l = some (putG l) ∧ (putG l).size ≤ 1640 := by
  obtain ⟨l, p1, e, h1, h2, h3⟩ := segs_ h hc k (by omega)
  have hw := h3.wds
  exact ⟨l, p1, e, h1, h2, spec_put l (by omega) (by omega) k (by omega), putG_size l⟩
theorem feedP_size (l : ByteArray) (b : Bool) (t : ByteArray) : (feedP l b t).1.size ≤ l.size + t.size := by
  unfold feedP
  split
  · exact Nat.zero_le _
  · split
    · show l.size ≤ _; omega
    · have := (feed_left (l ++ t).size (l ++ t) rfl).2.2.1
      rw [ByteArray.size_append] at this
      exact this
theorem pipe_loop (n : Nat) : ∀ (k : Nat) (b : List Int) (p c : Int) (l : ByteArray) (br : Bool), Rd b p c → 61 * (n : Int) ≤ c → 10000 + n < k → l.size + 1640 * n ≤ 5000 → ∃ l' b' p', spec_l13Pipe.l0 k (n : Int) b p l br = some (l', b', p') ∧ p ≤ p' ∧ p' ≤ p + 61 * n ∧ l'.size ≤ 5000 := by
  induction n with
  | zero =>
    intro k b p c l br h hc hk hl
    obtain ⟨k, rfl⟩ : ∃ m, k = m + 1 := ⟨k - 1, by omega⟩
    rw [spec_l13Pipe.l0, if_neg (by decide)]
    exact ⟨l, br, p, rfl, by omega, by omega, by omega⟩
  | succ n ih =>
    intro k b p c l br h hc hk hl
    obtain ⟨k, rfl⟩ : ∃ m, k = m + 1 := ⟨k - 1, by omega⟩
    obtain ⟨sg, p1, e1, h1, h2, e2, hz⟩ := segs_put h (by omega) k (by omega)
    obtain ⟨v, e3, g0, g1, _⟩ := pick (h.at (p' := p1) (c' := c - 60) (by omega) (by omega)) (by omega) (((putG sg).size : Int) + 1) k (by omega)
    have hv := g1 (by omega)
    have hx : ((putG sg).extract 0 v.toNat).size ≤ 1640 := by rw [ByteArray.size_extract]; omega
    have hf := feedP_size l br ((putG sg).extract 0 v.toNat)
    obtain ⟨l', b', p', e4, f1, f2, f3⟩ := ih k b (p1 + 1) (c - 61) (feedP l br ((putG sg).extract 0 v.toNat)).1 (feedP l br ((putG sg).extract 0 v.toNat)).2.1 (h.at (by omega) (by omega)) (by omega) (by omega) (by omega)
    rw [spec_l13Pipe.l0, if_pos (by omega), e1, Option.bind_some]
    dsimp only
    rw [e2, Option.bind_some, w64 (x := ((putG sg).size : Int) + 1) (by omega) (by omega), e3, Option.bind_some]
    dsimp only
    rw [if_pos g0, if_pos (by omega), spec_feedP l br _ (by omega) (by omega) k (by omega), Option.bind_some, w64 (x := ((n + 1 : Nat) : Int) - 1) (by omega) (by omega), show ((n + 1 : Nat) : Int) - 1 = (n : Int) by omega, e4]
    exact ⟨l', b', p', rfl, by omega, by omega, f3⟩
theorem pipe_ {b : List Int} {p c : Int} (h : Rd b p c) (hc : 200 ≤ c) (k : Nat) (hk : 20000 < k) : ∃ l br p', spec_l13Pipe.f k b p = some (l, br, p') ∧ p ≤ p' ∧ p' ≤ p + 200 ∧ l.size ≤ 5000 := by
  obtain ⟨v, e, g0, g1, _⟩ := pick h (by omega) 3 k (by omega)
  have hv := g1 (by omega)
  obtain ⟨n, rfl⟩ := Int.eq_ofNat_of_zero_le g0
  have z0 : (⟨#[]⟩ : ByteArray).size = 0 := rfl
  obtain ⟨l, br, p1, e1, f1, f2, f3⟩ := pipe_loop n k b (p + 1) (c - 1) ⟨#[]⟩ false (h.at (by omega) (by omega)) (by omega) (by omega) (by rw [z0]; omega)
  unfold spec_l13Pipe.f
  rw [e, Option.bind_some]
  dsimp only
  exact ⟨l, br, p1, e1, by omega, by omega, f3⟩
theorem drawOk (l0 : List Int) (hw : ∀ x ∈ l0, (Lit.int .u8 x).wf = true) (k : Nat) (hk : 20000 < k) : ∃ l br, spec_DrawPipeOk.f k l0 = some (l, br) ∧ l.size ≤ 5000 := by
  obtain ⟨b, e0, hb, hl⟩ := open_ l0 hw
  have h : Rd b 0 1000 := ⟨hb, hl, by omega, by omega⟩
  obtain ⟨l, br, p1, e1, h1, h2, h3⟩ := pipe_ h (by omega) k hk
  obtain ⟨v, e2, g0, g1, _⟩ := pick (h.at (p' := p1) (c' := 500) (by omega) (by omega)) (by omega) 8 k (by omega)
  obtain ⟨sg, p2, e3, f1, f2, e4, hz⟩ := segs_put (h.at (p' := p1 + 1) (c' := 400) (by omega) (by omega)) (by omega) k (by omega)
  unfold spec_DrawPipeOk.f
  rw [e0, Option.bind_some]
  dsimp only
  rw [e1, Option.bind_some]
  dsimp only
  rw [e2, Option.bind_some]
  dsimp only
  by_cases v0 : v = 0
  · rw [if_pos v0]; exact ⟨_, _, rfl, h3⟩
  · rw [if_neg v0]
    by_cases v1 : v = 1
    · rw [if_pos v1, e3, Option.bind_some]
      dsimp only
      rw [e4, Option.bind_some]
      exact ⟨_, _, rfl, by omega⟩
    · rw [if_neg v1]; exact ⟨_, _, rfl, h3⟩
theorem ext_le (a : ByteArray) (i j : Nat) : (a.extract i j).size ≤ a.size := by rw [ByteArray.size_extract]; omega
theorem cut_ {b : List Int} {p c : Int} (h : Rd b p c) (hc : 10 ≤ c) (s : ByteArray) (hs : s.size ≤ 1000000) (k : Nat) (hk : 10 < k) : ∃ t p', spec_l13Cut.f k b p s = some (t, p') ∧ t.size ≤ 2 * s.size + 1 := by
  obtain ⟨v, e1, g0, g1, _⟩ := pick h (by omega) ((s.size : Int) + 1) k (by omega)
  have hv := g1 (by omega)
  obtain ⟨u, e2, u0, _⟩ := pick (h.at (p' := p + 1) (c' := 9) (by omega) (by omega)) (by omega) 6 k (by omega)
  have x1 := ext_le s 0 v.toNat
  have x2 := ext_le s v.toNat s.size
  unfold spec_l13Cut.f
  rw [w64 (x := (s.size : Int) + 1) (by omega) (by omega), e1, Option.bind_some]
  dsimp only
  rw [e2, Option.bind_some]
  dsimp only
  by_cases c0 : u = 0
  · obtain ⟨x, hx, e3⟩ := of_ (h.at (p' := p + 1 + 1) (c' := 8) (by omega) (by omega)) (by omega) [(⟨#[0]⟩ : ByteArray), (⟨#[1]⟩ : ByteArray), (⟨#[255]⟩ : ByteArray), (⟨#[120]⟩ : ByteArray)] (by simp) k (by omega)
    have hz : x.size = 1 := by
      simp only [List.mem_cons, List.mem_nil_iff, or_false] at hx
      rcases hx with rfl | rfl | rfl | rfl <;> rfl
    rw [if_pos c0, if_pos g0, if_pos (by omega), e3, Option.bind_some]
    dsimp only
    rw [if_pos (by omega), if_pos (by rw [ByteArray.size_append]; omega)]
    exact ⟨_, _, rfl, by rw [ByteArray.size_append, ByteArray.size_append]; omega⟩
  · rw [if_neg c0]
    by_cases c1 : u = 1
    · rw [if_pos c1, if_pos g0, if_pos (by omega)]
      exact ⟨_, _, rfl, by omega⟩
    · rw [if_neg c1]
      by_cases c2 : u = 2
      · rw [if_pos c2]
        by_cases hlt : v < (s.size : Int)
        · obtain ⟨y, e3, y0, _⟩ := pick (h.at (p' := p + 1 + 1) (c' := 8) (by omega) (by omega)) (by omega) 256 k (by omega)
          rw [if_pos hlt, if_pos g0, if_pos (by omega), e3, Option.bind_some]
          dsimp only
          have hz : (strOfNums [y % 256]).size = 1 := by rw [size_strOfNums]; rfl
          have x3 := ext_le s (v + 1).toNat s.size
          rw [Option.bind_some, w64 (x := v + 1) (by omega) (by omega), if_pos (by omega), if_pos (by omega), if_pos (by omega), if_pos (by rw [ByteArray.size_append]; omega)]
          exact ⟨_, _, rfl, by rw [ByteArray.size_append, ByteArray.size_append]; omega⟩
        · rw [if_neg hlt]; exact ⟨_, _, rfl, by omega⟩
      · rw [if_neg c2]; exact ⟨_, _, rfl, by omega⟩
theorem drawFeed (l0 : List Int) (hw : ∀ x ∈ l0, (Lit.int .u8 x).wf = true) (k : Nat) (hk : 20000 < k) : ∃ l br t, spec_DrawPipeFeed.f k l0 = some (l, br, t) ∧ l.size ≤ 5000 ∧ t.size ≤ 10000 := by
  obtain ⟨l, br, e1, hl⟩ := drawOk l0 hw k hk
  obtain ⟨b, e0, hb, hbl⟩ := open_ l0 hw
  have h : Rd b 0 1000 := ⟨hb, hbl, by omega, by omega⟩
  obtain ⟨s1, p1, a1, a2, a3, a4, a5⟩ := segs_put h (by omega) k (by omega)
  obtain ⟨s2, p2, b1, b2, b3, b4, b5⟩ := segs_put (h.at (p' := p1) (c' := 500) (by omega) (by omega)) (by omega) k (by omega)
  have hz : (putG s1 ++ putG s2).size ≤ 3280 := by rw [ByteArray.size_append]; omega
  obtain ⟨v, e2, g0, g1, _⟩ := pick (h.at (p' := p2) (c' := 100) (by omega) (by omega)) (by omega) 2 k (by omega)
  obtain ⟨t1, q1, c1, d1⟩ := cut_ (h.at (p' := p2 + 1) (c' := 50) (by omega) (by omega)) (by omega) (putG s1 ++ putG s2) (by omega) k (by omega)
  obtain ⟨t2, q2, c2, d2⟩ := cut_ (h.at (p' := p2) (c' := 50) (by omega) (by omega)) (by omega) (putG s1 ++ putG s2) (by omega) k (by omega)
  have z0 : (⟨#[]⟩ : ByteArray).size = 0 := rfl
  unfold spec_DrawPipeFeed.f
  rw [e1, Option.bind_some]
  dsimp only
  rw [e0, Option.bind_some]
  dsimp only
  rw [a1, Option.bind_some]
  dsimp only
  rw [a4, Option.bind_some, b1, Option.bind_some]
  dsimp only
  rw [b4, Option.bind_some, if_pos (by omega), if_pos (by omega), spec_frG _ (by rw [ByteArray.size_append]; omega) k (by omega), Option.bind_some]
  by_cases hc : (frG (l ++ (putG s1 ++ putG s2))).2 ≤ 0
  · rw [if_pos hc, e2, Option.bind_some]
    dsimp only
    by_cases v0 : v = 0
    · rw [if_pos v0, c1, Option.bind_some]
      exact ⟨_, _, t1, rfl, by omega, by omega⟩
    · rw [if_neg v0, c1, Option.bind_some]
      exact ⟨_, _, t1, rfl, hl, by omega⟩
  · rw [if_neg hc, c2, Option.bind_some]
    exact ⟨_, _, t2, rfl, hl, by omega⟩
end Go.Proofs.YtfkjjmhbljlbkaaDoor.Q
