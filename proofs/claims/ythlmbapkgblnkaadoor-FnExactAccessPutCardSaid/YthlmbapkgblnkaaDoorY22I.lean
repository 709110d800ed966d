/- Part of the proof of a statement about the given program: Y22I. No condition of its own. -/
import Derived.Test.YthlmbapkgblnkaaDoorY21I
namespace Go.Ev.Tryd
open Go.Proofs
set_option maxRecDepth 10000
set_option linter.unusedSimpArgs false
set_option linter.unusedVariables false

/-- What is measured is what the reference says. -/
def SameM (n : Nod) : Prop := ∀ left : Int,
  (∀ b : Int × Nat, meas n left = some b → b.2 = wrd n ∧ ∀ deep : Int, 0 ≤ deep → (ok4 n deep = true ↔ b.1 ≤ deep)) ∧
  (0 ≤ left → ∀ deep : Int, deep ≤ left → ok4 n deep = true → ∃ b, meas n left = some b)
theorem measP_some (left : Int) : ∀ (l : List Nod), (∀ x ∈ l, ∃ b, meas x left = some b) → ∀ a, ∃ b, measP l left a = some b
  | [], _, a => ⟨a, measP_nil _ _⟩
  | x :: l, h, a => by
    obtain ⟨b, hb⟩ := h x (by simp)
    rw [measP_cons, hb]
    exact measP_some left l (fun y hy => h y (by simp [hy])) _
theorem measI_some (left : Int) : ∀ (l : List Nod), (∀ x ∈ l, ∃ b, meas x left = some b) → ∀ a, ∃ b, measI l left a = some b
  | [], _, a => ⟨a, measI_nil _ _⟩
  | x :: l, h, a => by
    obtain ⟨b, hb⟩ := h x (by simp)
    rw [measI_cons, hb]
    exact measI_some left l (fun y hy => h y (by simp [hy])) _
theorem measI_each (left : Int) : ∀ (l : List Nod) (a b : Int × Nat), measI l left a = some b → ∀ x ∈ l, ∃ e, meas x left = some e
  | [], a, b, h, x, hx => by cases hx
  | y :: l, a, b, h, x, hx => by
    rw [measI_cons] at h
    cases hm : meas y left with
    | none => rw [hm] at h; cases h
    | some e =>
      rw [hm] at h
      rcases List.mem_cons.1 hx with rfl | hx
      · exact ⟨e, hm⟩
      · exact measI_each left l _ b h x hx
theorem measP_val (left : Int) : ∀ (l : List Nod), (∀ x ∈ l, SameM x) → ∀ (a b : Int × Nat), measP l left a = some b → b.2 = a.2 + wrdL l ∧ ∀ t : Int, 0 ≤ t → (b.1 ≤ t ↔ a.1 ≤ t ∧ ∀ x ∈ l, ok4 x t = true)
  | [], _, a, b, h => by
    rw [measP_nil] at h
    cases h
    exact ⟨by rw [wrdL]; rfl, fun t _ => ⟨fun h => ⟨h, fun x hx => by cases hx⟩, fun h => h.1⟩⟩
  | x :: l, hs, a, b, h => by
    rw [measP_cons] at h
    cases hm : meas x left with
    | none => rw [hm] at h; cases h
    | some e =>
      rw [hm] at h
      obtain ⟨h1, h2⟩ := measP_val left l (fun y hy => hs y (by simp [hy])) _ b h
      obtain ⟨g1, g2⟩ := (hs x (by simp) left).1 e hm
      simp only at h1 h2
      refine ⟨by rw [wrdL, h1, g1]; omega, fun t ht => ?_⟩
      rw [h2 t ht]
      have g3 := g2 t ht
      constructor
      · rintro ⟨p1, p2⟩
        refine ⟨by omega, fun y hy => ?_⟩
        rcases List.mem_cons.1 hy with rfl | hy
        · exact g3.2 (by omega)
        · exact p2 y hy
      · rintro ⟨p1, p2⟩
        have := g3.1 (p2 x (by simp))
        exact ⟨by omega, fun y hy => p2 y (by simp [hy])⟩
theorem measI_val (left : Int) : ∀ (l : List Nod), (∀ x ∈ l, SameM x) → ∀ (a b : Int × Nat), measI l left a = some b → b.2 = a.2 + wrdL l ∧ ∀ t : Int, 0 ≤ t → (b.1 ≤ t ↔ a.1 ≤ t ∧ ∀ x ∈ l, ok4 x (t + 1) = true)
  | [], _, a, b, h => by
    rw [measI_nil] at h
    cases h
    exact ⟨by rw [wrdL]; rfl, fun t _ => ⟨fun h => ⟨h, fun x hx => by cases hx⟩, fun h => h.1⟩⟩
  | x :: l, hs, a, b, h => by
    rw [measI_cons] at h
    cases hm : meas x left with
    | none => rw [hm] at h; cases h
    | some e =>
      rw [hm] at h
      obtain ⟨h1, h2⟩ := measI_val left l (fun y hy => hs y (by simp [hy])) _ b h
      obtain ⟨g1, g2⟩ := (hs x (by simp) left).1 e hm
      simp only at h1 h2
      refine ⟨by rw [wrdL, h1, g1]; omega, fun t ht => ?_⟩
      rw [h2 t ht]
      have g3 := g2 (t + 1) (by omega)
      constructor
      · rintro ⟨p1, p2⟩
        refine ⟨by omega, fun y hy => ?_⟩
        rcases List.mem_cons.1 hy with rfl | hy
        · exact g3.2 (by omega)
        · exact p2 y hy
      · rintro ⟨p1, p2⟩
        have := g3.1 (p2 x (by simp))
        exact ⟨by omega, fun y hy => p2 y (by simp [hy])⟩
theorem struct_items {x : Nod} (h : structB x = true) : x.kind = 1 ∧ x.items = [] ∧ x.data.size % 8 = 0 := by
  unfold structB at h
  simp only [Bool.and_eq_true, decide_eq_true_eq] at h
  exact ⟨h.1, List.eq_nil_of_length_eq_zero h.2.2.2.2, h.2.1⟩
theorem struct_ok {x : Nod} (h : structB x = true) (deep : Int) (hd : 1 ≤ deep) : (ok4 x deep = true ↔ ∀ y ∈ x.ptrs, ok4 y (deep - 1) = true) := by
  obtain ⟨hk, hi, _⟩ := struct_items h
  obtain ⟨k, d, p, s, c, i⟩ := x
  have hk : k = 1 := hk
  have hi : i = [] := hi
  rw [ok4_mk, if_neg (by omega : ¬ k = 0), if_neg (by omega), h, Bool.true_or, Bool.true_and, hi, List.all_nil, Bool.and_true, List.all_eq_true]
  exact Iff.rfl
theorem struct_wrd {x : Nod} (h : structB x = true) : wrd x = x.data.size / 8 + x.ptrs.length + wrdL x.ptrs := by
  obtain ⟨hk, hi, _⟩ := struct_items h
  obtain ⟨k, d, p, s, c, i⟩ := x
  have hk' : k = 1 := hk
  have hi : i = [] := hi
  rw [wrd_mk, hi, wrdI]
  unfold own4
  rw [if_pos (show (Nod.mk k d p s c []).kind = 1 from hk')]
  simp only [Nod.data, Nod.ptrs]
  omega
theorem structs_wrd : ∀ (l : List Nod), (∀ x ∈ l, structB x = true) → wrdL l = itW l + wrdI l
  | [], _ => by rw [wrdL, itW, wrdI]
  | x :: l, h => by
    have h1 := struct_wrd (h x (by simp))
    have h2 := structs_wrd l fun y hy => h y (by simp [hy])
    rw [wrdL, itW, wrdI_cons, h1, h2]
    omega
end Go.Ev.Tryd
