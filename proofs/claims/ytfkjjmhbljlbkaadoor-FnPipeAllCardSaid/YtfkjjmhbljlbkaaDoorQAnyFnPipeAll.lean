/- Segments that are drawn for a frame, whatever they are: they are there, and not many. -/
import Derived.Test.YtfkjjmhbljlbkaaDoorQOpenFnPipeAll
namespace Go.Proofs.YtfkjjmhbljlbkaaDoor.Q
open Go.RowKit Go.Proofs.YtfkjjmhbljlbkaaDoor.P Go.Proofs.YtfkjjmhbljlbkaaDoorW.PrintWords Go.Proofs.YtfkjjmhbljlbkaaDoorW.PrintLast Go.Proofs.YtfkjjmhbljlbkaaDoorW.PrintMore
set_option linter.unusedVariables false
set_option linter.unusedSimpArgs false

theorem wds_app (a b : List ByteArray) : wds (a ++ b) = wds a + wds b := by unfold wds; rw [List.map_append, List.sum_append]
theorem any_loop (d : Nat) : ∀ (k : Nat) (b : List Int) (p c : Int) (l : List ByteArray), Rd b p c → l.length + d = 7 → 20 - l.length ≤ c → d + 2 ≤ k → ∃ t p', spec_l13AnySegs.l0 k l b p = some (t, p') ∧ t.length ≤ 7 ∧ wds t = wds l := by
  induction d with
  | zero =>
    intro k b p c l h hl hc hk
    obtain ⟨k, rfl⟩ : ∃ m, k = m + 1 := ⟨k - 1, by omega⟩
    obtain ⟨v, e, h0, h1, _⟩ := pick h (by omega) 2 k (by omega)
    have hv := h1 (by omega)
    rw [spec_l13AnySegs.l0, e, Option.bind_some]
    dsimp only
    rw [w64 (x := 6 + v) (by omega) (by omega), if_neg (by omega)]
    exact ⟨l, _, rfl, by omega, rfl⟩
  | succ d ih =>
    intro k b p c l h hl hc hk
    obtain ⟨k, rfl⟩ : ∃ m, k = m + 1 := ⟨k - 1, by omega⟩
    obtain ⟨v, e, h0, h1, _⟩ := pick h (by omega) 2 k (by omega)
    have hv := h1 (by omega)
    rw [spec_l13AnySegs.l0, e, Option.bind_some]
    dsimp only
    rw [w64 (x := 6 + v) (by omega) (by omega)]
    by_cases hlt : (l.length : Int) < 6 + v
    · rw [if_pos hlt, if_pos (by omega)]
      obtain ⟨t, p', e2, h2, h3⟩ := ih k b (p + 1) (c - 1) (l ++ [(⟨#[]⟩ : ByteArray)]) (h.at (by omega) (by omega)) (by simp; omega) (by simp; omega) (by omega)
      refine ⟨t, p', e2, h2, ?_⟩
      rw [h3, wds_app, show wds [(⟨#[]⟩ : ByteArray)] = 0 from by decide, Int.add_zero]
    · rw [if_neg hlt]
      exact ⟨l, _, rfl, by omega, rfl⟩
theorem any_ {b : List Int} {p c : Int} (h : Rd b p c) (hc : 200 ≤ c) (k : Nat) (hk : 3000 < k) : ∃ t p', spec_l13AnySegs.f k b p = some (t, p') ∧ t.length ≤ 7 ∧ wds t ≤ 10000 := by
  obtain ⟨l, p1, e, h1, h2, h3⟩ := segs_ h (by omega) k (by omega)
  obtain ⟨v, e1, g0, g1, _⟩ := pick (h.at (p' := p1) (c' := 100) (by omega) (by omega)) (by omega) 16 k (by omega)
  have hv := g1 (by omega)
  have hw := h3.wds
  unfold spec_l13AnySegs.f
  rw [e, Option.bind_some]
  dsimp only
  rw [e1, Option.bind_some]
  dsimp only
  by_cases c0 : v = 0
  · rw [if_pos c0, if_pos (by omega)]
    refine ⟨_, _, rfl, by simp; omega, ?_⟩
    rw [wds_app]
    have : wds [(⟨#[111, 100, 100]⟩ : ByteArray)] = 0 := by decide
    omega
  · rw [if_neg c0]
    by_cases c1 : v = 1
    · rw [if_pos c1]
      obtain ⟨t, p', e2, h2, h3⟩ := any_loop (7 - l.length) k b (p1 + 1) 50 l (h.at (by omega) (by omega)) (by omega) (by omega) (by omega)
      exact ⟨t, p', e2, h2, by omega⟩
    · rw [if_neg c1]
      by_cases c2 : v = 2
      · rw [if_pos c2]
        obtain ⟨u, e2, u0, u1, _⟩ := pick (h.at (p' := p1 + 1) (c' := 50) (by omega) (by omega)) (by omega) 2 k (by omega)
        have hu := u1 (by omega)
        obtain ⟨n, hn⟩ : ∃ n : Nat, 8 * (200 + u) = n := ⟨(8 * (200 + u)).toNat, by omega⟩
        have z1 : (⟨#[0]⟩ : ByteArray).size = 1 := rfl
        obtain ⟨t, e3, hz⟩ := many (⟨#[0]⟩ : ByteArray) n k (by omega) (by rw [z1]; omega) (by omega)
        rw [e2, Option.bind_some]
        dsimp only
        rw [w64 (x := 200 + u) (by omega) (by omega), w64 (x := 8 * (200 + u)) (by omega) (by omega), hn, e3, Option.bind_some]
        refine ⟨_, _, rfl, by simp, ?_⟩
        rw [z1] at hz
        have : wds [t] = (t.size : Int) / 8 := by simp [wds]
        omega
      · rw [if_neg c2]
        by_cases c3 : v = 3
        · rw [if_pos c3]; exact ⟨_, _, rfl, by simp, by simp [wds]⟩
        · rw [if_neg c3]; exact ⟨_, _, rfl, by omega, by omega⟩
theorem drawPut (l0 : List Int) (hw : ∀ x ∈ l0, (Lit.int .u8 x).wf = true) (k : Nat) (hk : 3000 < k) : ∃ a, spec_DrawFramePut.f k l0 = some a ∧ a.length ≤ 7 ∧ wds a ≤ 10000 := by
  obtain ⟨b, e0, hb, hl⟩ := open_ l0 hw
  have h : Rd b 0 1000 := ⟨hb, hl, by omega, by omega⟩
  obtain ⟨t, p', e, h1, h2⟩ := any_ h (by omega) k hk
  unfold spec_DrawFramePut.f
  rw [e0, Option.bind_some]
  dsimp only
  rw [e, Option.bind_some]
  exact ⟨t, rfl, h1, h2⟩
end Go.Proofs.YtfkjjmhbljlbkaaDoor.Q
