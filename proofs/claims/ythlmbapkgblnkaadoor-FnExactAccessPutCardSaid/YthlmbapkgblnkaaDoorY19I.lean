/- Part of the proof of a statement about the given program: Y19I. No condition of its own. -/
import Derived.Test.YthlmbapkgblnkaaDoorY18I
namespace Go.Ev.Tryd
open Go.Proofs
set_option maxRecDepth 10000
set_option linter.unusedSimpArgs false
set_option linter.unusedVariables false
attribute [local congr] comes_congr bB_congr gK_congr gdK_congr

mutual
/-- The words of a node, with all within, as the reference counts. -/
def wrd : Nod → Nat
  | .mk k d p s c i => own4 (.mk k d p s c i) + (wrdL p + wrdI i)
def wrdL : List Nod → Nat
  | [] => 0
  | x :: l => wrd x + wrdL l
def wrdI : List Nod → Nat
  | [] => 0
  | .mk _ _ p _ _ _ :: l => wrdL p + wrdI l
end
theorem wrdL_app : ∀ (a b : List Nod), wrdL (a ++ b) = wrdL a + wrdL b
  | [], b => by rw [List.nil_append, wrdL]; omega
  | x :: a, b => by rw [List.cons_append, wrdL, wrdL, wrdL_app a b]; omega
theorem wrdI_cons (x : Nod) (l : List Nod) : wrdI (x :: l) = wrdL x.ptrs + wrdI l := by
  obtain ⟨k, d, p, s, c, i⟩ := x
  rw [wrdI]
  rfl
theorem wrdI_app : ∀ (a b : List Nod), wrdI (a ++ b) = wrdI a + wrdI b
  | [], b => by rw [List.nil_append, wrdI]; omega
  | x :: a, b => by rw [List.cons_append, wrdI_cons, wrdI_cons, wrdI_app a b]; omega
theorem wrdL_take {l : List Nod} {j : Nat} (hj : j < l.length) : wrdL (l.take (j + 1)) = wrdL (l.take j) + wrd l[j] := by
  rw [List.take_succ_eq_append_getElem hj, wrdL_app, wrdL, wrdL]
  omega
theorem wrdI_take {l : List Nod} {j : Nat} (hj : j < l.length) : wrdI (l.take (j + 1)) = wrdI (l.take j) + wrdL l[j].ptrs := by
  rw [List.take_succ_eq_append_getElem hj, wrdI_app, wrdI_cons, wrdI]
  omega
theorem wrdL_part (l : List Nod) (j : Nat) : wrdL (l.take j) ≤ wrdL l := by
  have := wrdL_app (l.take j) (l.drop j)
  rw [List.take_append_drop] at this
  omega
theorem wrdI_part (l : List Nod) (j : Nat) : wrdI (l.take j) ≤ wrdI l := by
  have := wrdI_app (l.take j) (l.drop j)
  rw [List.take_append_drop] at this
  omega
theorem own4_le (n : Nod) : own4 n ≤ 1 + n.data.size + n.ptrs.length + itW n.items := by
  unfold own4
  by_cases k1 : n.kind = 1
  · rw [if_pos k1]; omega
  · rw [if_neg k1]
    by_cases k2 : n.kind = 2
    · rw [if_pos k2]
      by_cases h7 : n.size = 7
      · rw [if_pos h7]; omega
      · rw [if_neg h7]
        by_cases h6 : n.size = 6
        · rw [if_pos h6]; omega
        · rw [if_neg h6]; omega
    · rw [if_neg k2]; omega
theorem wrd_le : ∀ (n : Nod), wrd n ≤ 2 + 3 * szN n ∧ wrdL n.ptrs ≤ 2 * n.ptrs.length + 3 * szNL n.ptrs := by
  intro n
  induction n using Nod.ind with
  | h k d p s c i ih1 ih2 =>
  have kp : ∀ l : List Nod, (∀ x ∈ l, wrd x ≤ 2 + 3 * szN x) → wrdL l ≤ 2 * l.length + 3 * szNL l := by
    intro l
    induction l with
    | nil => intro _; rw [wrdL]; omega
    | cons x l ih =>
      intro h
      have h1 := h x (by simp)
      have h2 := ih fun y hy => h y (by simp [hy])
      rw [wrdL, szNL_cons, List.length_cons]
      omega
  have ki : ∀ l : List Nod, (∀ x ∈ l, wrdL x.ptrs ≤ 2 * x.ptrs.length + 3 * szNL x.ptrs) → itW l + wrdI l ≤ 3 * szNL l := by
    intro l
    induction l with
    | nil => intro _; rw [wrdI, itW]; omega
    | cons x l ih =>
      intro h
      have h1 := h x (by simp)
      have h2 := ih fun y hy => h y (by simp [hy])
      rw [wrdI_cons, szNL_cons, itW]
      obtain ⟨xk, xd, xp, xs, xc, xi⟩ := x
      rw [szN_mk]
      simp only [Nod.ptrs, Nod.data] at *
      omega
  have h1 := kp p fun x hx => (ih1 x hx).1
  have h2 := ki i fun x hx => (ih2 x hx).2
  refine ⟨?_, h1⟩
  have h3 := own4_le (.mk k d p s c i)
  simp only [Nod.data, Nod.ptrs, Nod.items] at h3
  rw [wrd, szN_mk]
  omega
theorem wrd_mk (k : Int) (d : ByteArray) (p : List Nod) (s c : Int) (i : List Nod) : wrd (.mk k d p s c i) = own4 (.mk k d p s c i) + (wrdL p + wrdI i) := by rw [wrd]
/-- What is ok has as many pointers as it counts; its parts are ok. -/
theorem ok4_in {n : Nod} {deep : Int} (h : ok4 n deep = true) : (n.kind = 2 → n.size = 6 → n.count = (n.ptrs.length : Int)) ∧ (∀ x ∈ n.ptrs, ok4 x (deep - 1) = true) ∧ ∀ x ∈ n.items, ∀ y ∈ x.ptrs, ok4 y (deep - 1) = true := by
  obtain ⟨k, d, p, s, c, i⟩ := n
  rw [ok4_mk] at h
  show (k = 2 → s = 6 → c = (p.length : Int)) ∧ (∀ x ∈ p, ok4 x (deep - 1) = true) ∧ ∀ x ∈ i, ∀ y ∈ x.ptrs, ok4 y (deep - 1) = true
  by_cases k0 : k = 0
  · rw [if_pos k0] at h
    have h' : (decide (d = ⟨#[]⟩) && (decide (p.length = 0) && (decide (i.length = 0) && (decide (s = 0) && decide (c = 0))))) = true := h
    simp only [Bool.and_eq_true, decide_eq_true_eq] at h'
    have hp : p = [] := List.eq_nil_of_length_eq_zero h'.2.1
    have hi : i = [] := List.eq_nil_of_length_eq_zero h'.2.2.1
    subst hp hi
    exact ⟨fun h2 _ => by omega, (fun x hx => by cases hx), (fun x hx => by cases hx)⟩
  · rw [if_neg k0] at h
    by_cases hd : deep < 1
    · rw [if_pos hd] at h; cases h
    · rw [if_neg hd] at h
      simp only [Bool.and_eq_true, List.all_eq_true] at h
      refine ⟨fun h2 h6 => ?_, h.2.1, h.2.2⟩
      have hl := h.1
      have hs : structB (.mk k d p s c i) = false := by
        show (decide (k = 1) && _) = false
        rw [decide_eq_false (by omega : ¬ k = 1), Bool.false_and]
      rw [hs, Bool.false_or] at hl
      have hl' : (if k = 2 then
          if 0 ≤ s ∧ s ≤ 7 then
            if 0 ≤ c ∧ c ≤ 12800 then
              if s = 6 then decide (d = ⟨#[]⟩) && (decide (p.length = c.toNat) && decide (i.length = 0))
              else if s = 7 then likeS i && (decide (d = ⟨#[]⟩) && (decide (p.length = 0) && decide (i.length = c.toNat)))
              else decide (p.length = 0) && (decide (i.length = 0) && plainB (.mk k d p s c i))
            else false
          else false
        else false) = true := hl
      rw [if_pos h2, if_pos (by omega)] at hl'
      by_cases hc : 0 ≤ c ∧ c ≤ 12800
      · rw [if_pos hc, if_pos h6] at hl'
        simp only [Bool.and_eq_true, decide_eq_true_eq] at hl'
        omega
      · rw [if_neg hc] at hl'; cases hl'
end Go.Ev.Tryd
