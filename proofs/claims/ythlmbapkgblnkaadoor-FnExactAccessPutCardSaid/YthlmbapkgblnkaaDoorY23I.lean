/- Part of the proof of a statement about the given program: Y23I. No condition of its own. -/
import Derived.Test.YthlmbapkgblnkaaDoorY22I
namespace Go.Ev.Tryd
open Go.Proofs
set_option maxRecDepth 10000
set_option linter.unusedSimpArgs false
set_option linter.unusedVariables false

theorem like_kind : ∀ (l : List Nod), likeB l = true → ∀ x ∈ l, x.kind = 1
  | [], _, x, hx => by cases hx
  | a :: l, h, x, hx => by
    unfold likeB at h
    have h1 := List.all_eq_true.1 h x hx
    simp only [Bool.and_eq_true, decide_eq_true_eq] at h1
    exact h1.1
theorem bare_lists {n : Nod} (h : bareB n = true) : n.ptrs = [] ∧ n.items = [] := by
  unfold bareB at h
  simp only [Bool.and_eq_true, decide_eq_true_eq] at h
  exact ⟨List.eq_nil_of_length_eq_zero h.1, List.eq_nil_of_length_eq_zero h.2⟩
/-- What a form says of a node that is something. -/
theorem shape_says {n : Nod} (h : nshape n = true) (h0 : n.kind ≠ 0) :
    (n.kind = 1 ∨ n.kind = 2) ∧ (∀ x ∈ n.items, x.kind = 1) ∧ ownW n + itW n.items = own4 n := by
  unfold nshape at h
  rw [if_neg h0] at h
  split at h
  · rename_i h1
    simp only [Bool.and_eq_true, decide_eq_true_eq] at h
    obtain ⟨g1, g2, g3, g4⟩ := h
    have hi := List.eq_nil_of_length_eq_zero g2
    refine ⟨.inl h1, fun x hx => by (rw [hi] at hx; cases hx), ?_⟩
    unfold own4 ownW
    rw [if_pos h1, hi, itW, g3, if_neg (by omega)]
    omega
  · rename_i h1
    split at h
    · rename_i h2
      split at h
      · split at h
        · rename_i h5
          simp only [Bool.and_eq_true] at h
          obtain ⟨hp, hi⟩ := bare_lists h.1
          refine ⟨.inr h2, fun x hx => by (rw [hi] at hx; cases hx), ?_⟩
          unfold own4 ownW
          rw [if_neg h1, if_pos h2, if_neg (by omega), if_neg (by omega), if_neg (by omega), hi, hp, itW]
          simp only [List.length_nil]
          omega
        · split at h
          · rename_i h6
            simp only [Bool.and_eq_true, decide_eq_true_eq] at h
            obtain ⟨g1, g2, g3⟩ := h
            have hi := List.eq_nil_of_length_eq_zero g2
            refine ⟨.inr h2, fun x hx => by (rw [hi] at hx; cases hx), ?_⟩
            unfold own4 ownW
            rw [if_neg h1, if_pos h2, if_neg (by omega), if_neg (by omega), if_pos h6, hi, itW, g1]
            show (0 + 7) / 8 + _ + 0 + 0 = _
            omega
          · split at h
            · rename_i h7
              simp only [Bool.and_eq_true, decide_eq_true_eq] at h
              obtain ⟨g1, g2, g3, g4⟩ := h
              refine ⟨.inr h2, like_kind _ g4, ?_⟩
              unfold own4 ownW
              rw [if_neg h1, if_pos h2, if_pos h7, if_pos h7, g1, g2]
              show (0 + 7) / 8 + 0 + 1 + _ = _
              omega
            · cases h
      · cases h
    · cases h
theorem shape_form {n : Nod} (h : nshape n = true) (h0 : n.kind ≠ 0) (hs : ∀ x ∈ n.items, x.kind = 1 → structB x = true) : (structB n || listB n) = true := by
  rcases (shape_says h h0).1 with h1 | h2
  · rw [← struct_shape h1, h, Bool.true_or]
  · rw [list_shape h2 (likeS_B _ hs), h, Bool.or_true]
theorem form_shape {n : Nod} (h : (structB n || listB n) = true) : n.kind ≠ 0 ∧ nshape n = true ∧ ∀ x ∈ n.items, structB x = true := by
  rw [Bool.or_eq_true] at h
  rcases h with h | h
  · obtain ⟨g1, g2, _⟩ := struct_items h
    exact ⟨by omega, by rw [struct_shape g1, h], fun x hx => by (rw [g2] at hx; cases hx)⟩
  · have hk : n.kind = 2 := by
      unfold listB at h
      split at h
      · assumption
      · cases h
    have hs : ∀ x ∈ n.items, structB x = true := by
      have h' := h
      unfold listB at h'
      rw [if_pos hk] at h'
      split at h'
      · split at h'
        · split at h'
          · simp only [Bool.and_eq_true, decide_eq_true_eq] at h'
            have hi := List.eq_nil_of_length_eq_zero h'.2.2
            intro x hx
            rw [hi] at hx
            cases hx
          · split at h'
            · simp only [Bool.and_eq_true, decide_eq_true_eq] at h'
              have hl := h'.1
              intro x hx
              cases hi : n.items with
              | nil => rw [hi] at hx; cases hx
              | cons a l =>
                rw [hi] at hl hx
                unfold likeS at hl
                have h2 := List.all_eq_true.1 hl x hx
                unfold okI at h2
                rw [Bool.and_eq_true] at h2
                exact h2.1
            · simp only [Bool.and_eq_true, decide_eq_true_eq] at h'
              have hi := List.eq_nil_of_length_eq_zero h'.2.1
              intro x hx
              rw [hi] at hx
              cases hx
        · cases h'
      · cases h'
    exact ⟨by omega, by rw [← list_shape hk (likeS_B _ fun x hx _ => hs x hx), h], hs⟩
theorem meas_shape {x : Nod} {left : Int} {e : Int × Nat} (h : meas x left = some e) : nshape x = true ∧ 0 ≤ left := by
  obtain ⟨k, d, p, s, c, i⟩ := x
  rw [meas_mk] at h
  split at h
  · assumption
  · cases h
theorem none_shape {n : Nod} (h0 : n.kind = 0) : nshape n = noneB n := by
  unfold nshape noneB bareB
  rw [if_pos h0]
  cases decide (n.data = ⟨#[]⟩) <;> cases decide (n.ptrs.length = 0) <;> cases decide (n.items.length = 0) <;> rfl
theorem sameM : ∀ n : Nod, SameM n := by
  intro n
  induction n using Nod.ind with
  | h k d p s c i ih1 ih2 =>
  intro left
  by_cases h0 : k = 0
  · have hn : nshape (.mk k d p s c i) = noneB (.mk k d p s c i) := none_shape h0
    constructor
    · intro b hb
      rw [meas_mk] at hb
      split at hb
      · rename_i hc
        cases hb
        have he := hc.1
        rw [hn] at he
        have hl : p = [] ∧ i = [] := by
          have h2 := he
          unfold noneB at h2
          simp only [Bool.and_eq_true, decide_eq_true_eq] at h2
          exact ⟨List.eq_nil_of_length_eq_zero h2.2.1, List.eq_nil_of_length_eq_zero h2.2.2.1⟩
        refine ⟨?_, fun deep hd => ?_⟩
        · show 0 = _
          rw [wrd_mk, hl.1, hl.2, wrdL, wrdI]
          unfold own4
          rw [if_neg (show ¬ (Nod.mk k d [] s c []).kind = 1 by show ¬ k = 1; omega), if_neg (show ¬ (Nod.mk k d [] s c []).kind = 2 by show ¬ k = 2; omega)]
        · rw [ok4_mk, if_pos h0, he]
          exact ⟨fun _ => hd, fun _ => rfl⟩
      · cases hb
    · intro hl deep hd hok
      rw [ok4_mk, if_pos h0] at hok
      exact ⟨(0, 0), by rw [meas_mk, if_pos ⟨by rw [hn, hok], hl⟩, if_pos h0]⟩
  · constructor
    · intro b hb
      rw [meas_mk] at hb
      split at hb
      · rename_i hc
        cases h1 : measP p (left - 1) (0, ownW (.mk k d p s c i)) with
        | none => rw [h1] at hb; cases hb
        | some a =>
          rw [h1] at hb
          simp only at hb
          cases h2 : measI i left a with
          | none => rw [h2] at hb; cases hb
          | some e =>
            rw [h2] at hb
            simp only [Option.some.injEq] at hb
            subst hb
            obtain ⟨s1, s2, s3⟩ := shape_says hc.1 h0
            have hst : ∀ x ∈ i, structB x = true := by
              intro x hx
              obtain ⟨f, hf⟩ := measI_each left i a e h2 x hx
              rw [← struct_shape (s2 x hx)]
              exact (meas_shape hf).1
            have hform := shape_form hc.1 h0 fun x hx _ => hst x hx
            obtain ⟨v1, v2⟩ := measP_val (left - 1) p ih1 _ a h1
            obtain ⟨u1, u2⟩ := measI_val left i ih2 a e h2
            have p1 := (measP_le p _ _ _ h1).1
            have q1 := (measI_le i _ _ _ h2).1
            simp only at v1 v2 p1
            refine ⟨?_, fun deep hd => ?_⟩
            · show e.2 = _
              rw [wrd_mk, u1, v1, structs_wrd i hst]
              have : ownW (.mk k d p s c i) + itW i = own4 (.mk k d p s c i) := s3
              omega
            · show _ ↔ e.1 + 1 ≤ deep
              rw [ok4_mk, if_neg h0]
              by_cases hdp : deep < 1
              · rw [if_pos hdp]
                exact ⟨fun h => (by cases h), fun h => by omega⟩
              · rw [if_neg hdp, hform, Bool.true_and, Bool.and_eq_true, List.all_eq_true, List.all_eq_true]
                have g1 := v2 (deep - 1) (by omega)
                have g2 := u2 (deep - 1) (by omega)
                have g3 : (∀ x ∈ i, (x.ptrs.all fun y => ok4 y (deep - 1)) = true) ↔ ∀ x ∈ i, ok4 x (deep - 1 + 1) = true := by
                  have e1 : deep - 1 + 1 = deep := by omega
                  rw [e1]
                  constructor
                  · intro h x hx
                    exact (struct_ok (hst x hx) deep (by omega)).2 (List.all_eq_true.1 (h x hx))
                  · intro h x hx
                    exact List.all_eq_true.2 ((struct_ok (hst x hx) deep (by omega)).1 (h x hx))
                rw [g3]
                constructor
                · rintro ⟨w1, w2⟩
                  have := g2.2 ⟨g1.2 ⟨by omega, w1⟩, w2⟩
                  omega
                · intro w
                  have w2 := g2.1 (by omega)
                  exact ⟨(g1.1 w2.1).2, w2.2⟩
      · cases hb
    · intro hl deep hd hok
      rw [ok4_mk, if_neg h0] at hok
      split at hok
      · cases hok
      · rename_i hdp
        rw [Bool.and_eq_true, Bool.and_eq_true, List.all_eq_true, List.all_eq_true] at hok
        obtain ⟨o1, o2, o3⟩ := hok
        obtain ⟨_, f2, f3⟩ := form_shape o1
        have f3 : ∀ x ∈ i, structB x = true := f3
        rw [meas_mk, if_pos ⟨f2, hl⟩, if_neg h0]
        obtain ⟨a, ha⟩ := measP_some (left - 1) p (fun x hx => (ih1 x hx (left - 1)).2 (by omega) (deep - 1) (by omega) (o2 x hx)) (0, ownW (.mk k d p s c i))
        rw [ha]
        simp only
        obtain ⟨e, he⟩ := measI_some left i (fun x hx => (ih2 x hx left).2 hl deep hd ((struct_ok (f3 x hx) deep (by omega)).2 (List.all_eq_true.1 (o3 x hx)))) a
        rw [he]
        exact ⟨_, rfl⟩
/-- Both sides say the same of a node. -/
theorem nodeOk_same (n : Nod) : nodeOk n = nodeOk4 n := by
  unfold nodeOk nodeOk4
  cases h : meas n 8 with
  | none =>
    simp only
    cases ho : ok4 n 8 with
    | false => rfl
    | true =>
      obtain ⟨b, hb⟩ := (sameM n 8).2 (by omega) 8 (by omega) ho
      rw [h] at hb
      cases hb
  | some b =>
    simp only
    obtain ⟨h1, h2⟩ := (sameM n 8).1 b h
    have h3 := h2 8 (by omega)
    rw [h1]
    congr 1
    rw [Bool.eq_iff_iff, decide_eq_true_eq]
    exact h3.symm
end Go.Ev.Tryd
