/- Part of the proof of a statement about the given program: EvPrim. No condition of its own. -/
import Derived.Test.YtfkjjmhbljlbkaaDoorEvProg
import Derived.Sort.Grow
import Derived.Deep.Draws
namespace Go.Ev
open Go.Sort
set_option linter.unusedVariables false
variable {C : Ctx}

/-- A function by a contract that says: it returns what reads as r, and the world has but grown. -/
theorem pure_grow {f : FuncId} {args : List AV} {r : AV} (hen : ∀ (vs : Array Value) (w : World), (callFunc f vs).run C.P w = .ok (.enter f vs) w)
    (h : ∀ (G : Gh) (w : World) (vs : Array Value), (∀ i g, G.T i g = none) → Inv G w .empty → CtxOk C G w → vs.size = args.length → (∀ (j : Nat) v a, vs[j]? = some v → args[j]? = some a → Rep G v a) →
      Calls C.P f vs w fun e w' => ∃ v, e = .returned v ∧ (∀ G, Rep G v r) ∧ w'.os = w.os ∧ w'.tape = w.tape ∧ w'.output = w.output ∧ w.heap.size ≤ w'.heap.size ∧ ∀ k, k < w.heap.size → w'.heap[k]? = w.heap[k]?) : PureOk C f args r := by
  refine ⟨hen, fun G w vs hT hi hc hsz hr => (h G w vs hT hi hc hsz hr).mono ?_⟩
  rintro e w' ⟨v, rfl, hv, h1, h2, h3, h4, h5⟩
  refine ⟨v, G, rfl, hT, hv G, ⟨fun b j u hu => ?_, fun id b tot ap h => (by rw [hT] at h; cases h), fun id id' b x y h => (by rw [hT] at h; cases h), fun id g x h => (by rw [hT] at h; cases h)⟩, ⟨fun _ => List.prefix_refl _, fun _ _ _ h => h, h1, h2, h3, h4, fun b hb _ => ⟨h5 b hb, rfl⟩, fun id g b x h => (by rw [hT] at h; cases h)⟩⟩
  have hc' := hi.okM b j u hu
  have hlt : b < w.heap.size := by
    rcases Nat.lt_or_ge b w.heap.size with hb | hb
    · exact hb
    · exfalso
      simp only [World.cell?] at hc'
      rw [Array.getElem?_eq_none hb] at hc'
      cases hc'
  simp only [World.cell?] at hc' ⊢
  rw [h5 b hlt]
  exact hc'

theorem grown {w : World} {k : Nat} {os : Array Obj} : (grow (w.drewN k) os).os = w.os ∧ (grow (w.drewN k) os).tape = w.tape ∧ (grow (w.drewN k) os).output = w.output ∧ w.heap.size ≤ (grow (w.drewN k) os).heap.size ∧ ∀ i, i < w.heap.size → (grow (w.drewN k) os).heap[i]? = w.heap[i]? := by
  refine ⟨rfl, rfl, rfl, ?_, fun i hi => ?_⟩
  · show w.heap.size ≤ (w.heap ++ os).size
    rw [Array.size_append]
    omega
  · show (w.heap ++ os)[i]? = w.heap[i]?
    rw [Array.getElem?_append_left hi]
end Go.Ev
