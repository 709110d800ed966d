/- A code that is opened; segments that are put. -/
import Derived.Test.YtfkjjmhbljlbkaaDoorQDrawFnPipeAll
import Derived.OpenShut
namespace Go.Proofs.YtfkjjmhbljlbkaaDoor.Q
open Go.RowKit Go.Proofs.YtfkjjmhbljlbkaaDoor.P Go.Proofs.YtfkjjmhbljlbkaaDoorW.PrintWords Go.Proofs.YtfkjjmhbljlbkaaDoorW.PrintLast Go.Proofs.YtfkjjmhbljlbkaaDoorW.PrintMore
set_option linter.unusedVariables false
set_option linter.unusedSimpArgs false

theorem open_ (l : List Int) (h : ∀ x ∈ l, (Lit.int .u8 x).wf = true) : ∃ b, spec_l1Open.f l = some (b, 0) ∧ (∀ x ∈ b, 0 ≤ x ∧ x ≤ 255) ∧ b.length ≤ 2000 := by
  have hw : ∀ x ∈ l, 0 ≤ x ∧ x ≤ 255 := fun x hx => bounds_u8 (h x hx)
  unfold spec_l1Open.f
  by_cases h1 : (l.length : Int) > 2000
  · rw [if_pos h1, if_pos (by omega)]
    exact ⟨_, rfl, fun x hx => hw x (List.mem_of_mem_take hx), by rw [List.length_take]; omega⟩
  · rw [if_neg h1]
    exact ⟨_, rfl, hw, by omega⟩
theorem segs_put {b : List Int} {p c : Int} (h : Rd b p c) (hc : 60 ≤ c) (k : Nat) (hk : 100 < k) : ∃ l p', spec_l13Segs.f k b p = some (l, p') ∧ p ≤ p' ∧ p' ≤ p + 60 ∧ spec_FramePut.f k l = some (putG l) ∧ (putG l).size ≤ 1640 := by
  obtain ⟨l, p1, e, h1, h2, h3⟩ := segs_ h hc k (by omega)
  have hw := h3.wds
  exact ⟨l, p1, e, h1, h2, spec_put l (by omega) (by omega) k (by omega), putG_size l⟩
end Go.Proofs.YtfkjjmhbljlbkaaDoor.Q
