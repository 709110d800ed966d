/- Part of the proof of a statement about the given program: Y13I. No condition of its own. -/
import Derived.Test.YthlmbapkgblnkaaDoorY12I
namespace Go.Ev.Tryd
open Go.Proofs
set_option maxRecDepth 10000
set_option linter.unusedSimpArgs false
set_option linter.unusedVariables false
attribute [local congr] comes_congr bB_congr gK_congr gdK_congr

/-- The words of a node, without what is within. -/
def ownW (n : Nod) : Nat := (n.data.size + 7) / 8 + n.ptrs.length + (if n.size = 7 then 1 else 0)
theorem ownW_le (n : Nod) : ownW n ≤ n.data.size + n.ptrs.length + 2 := by
  unfold ownW
  by_cases h : n.size = 7
  · rw [if_pos h]; omega
  · rw [if_neg h]; omega
mutual
/-- How deep a node is, and how many words it takes; none, if it is not as it should be. -/
def meas : Nod → Int → Option (Int × Nat)
  | .mk k d p s c i, left => if nshape (.mk k d p s c i) = true ∧ 0 ≤ left then
      if k = 0 then some (0, 0)
      else match measP p (left - 1) (0, ownW (.mk k d p s c i)) with
        | none => none
        | some a => match measI i left a with
          | none => none
          | some b => some (b.1 + 1, b.2)
    else none
def measP : List Nod → Int → Int × Nat → Option (Int × Nat)
  | [], _, a => some a
  | x :: l, left, a => match meas x left with
    | none => none
    | some b => measP l left (max a.1 b.1, a.2 + b.2)
def measI : List Nod → Int → Int × Nat → Option (Int × Nat)
  | [], _, a => some a
  | x :: l, left, a => match meas x left with
    | none => none
    | some b => measI l left (max a.1 (b.1 - 1), a.2 + b.2)
end
theorem measP_nil (left : Int) (a : Int × Nat) : measP [] left a = some a := by rw [measP]
theorem measI_nil (left : Int) (a : Int × Nat) : measI [] left a = some a := by rw [measI]
theorem measP_cons (x : Nod) (l : List Nod) (left : Int) (a : Int × Nat) : measP (x :: l) left a = match meas x left with
    | none => none
    | some b => measP l left (max a.1 b.1, a.2 + b.2) := by rw [measP]
theorem measI_cons (x : Nod) (l : List Nod) (left : Int) (a : Int × Nat) : measI (x :: l) left a = match meas x left with
    | none => none
    | some b => measI l left (max a.1 (b.1 - 1), a.2 + b.2) := by rw [measI]
theorem measP_take : ∀ (l : List Nod) (left : Int) (a : Int × Nat) (i : Nat) (hi : i < l.length), measP (l.take (i + 1)) left a = (measP (l.take i) left a).bind fun b => (meas l[i] left).map fun c => (max b.1 c.1, b.2 + c.2)
  | x :: l, left, a, 0, hi => by
    simp only [List.take_succ_cons, List.take_zero, measP_cons, measP_nil, List.getElem_cons_zero]
    cases meas x left <;> rfl
  | x :: l, left, a, i + 1, hi => by
    rw [List.take_succ_cons, List.take_succ_cons, measP_cons, measP_cons]
    cases h : meas x left with
    | none => rfl
    | some b =>
      simp only [List.getElem_cons_succ]
      exact measP_take l left _ i (by simpa using hi)
theorem measI_take : ∀ (l : List Nod) (left : Int) (a : Int × Nat) (i : Nat) (hi : i < l.length), measI (l.take (i + 1)) left a = (measI (l.take i) left a).bind fun b => (meas l[i] left).map fun c => (max b.1 (c.1 - 1), b.2 + c.2)
  | x :: l, left, a, 0, hi => by
    simp only [List.take_succ_cons, List.take_zero, measI_cons, measI_nil, List.getElem_cons_zero]
    cases meas x left <;> rfl
  | x :: l, left, a, i + 1, hi => by
    rw [List.take_succ_cons, List.take_succ_cons, measI_cons, measI_cons]
    cases h : meas x left with
    | none => rfl
    | some b =>
      simp only [List.getElem_cons_succ]
      exact measI_take l left _ i (by simpa using hi)
theorem measP_stop : ∀ (l : List Nod) (left : Int) (a : Int × Nat) (i : Nat), measP (l.take i) left a = none → measP l left a = none
  | [], left, a, i, h => by rw [List.take_nil] at h; exact h
  | x :: l, left, a, 0, h => by rw [List.take_zero, measP_nil] at h; cases h
  | x :: l, left, a, i + 1, h => by
    rw [List.take_succ_cons, measP_cons] at h
    rw [measP_cons]
    cases hm : meas x left with
    | none => rfl
    | some b =>
      rw [hm] at h
      exact measP_stop l left _ i h
theorem measI_stop : ∀ (l : List Nod) (left : Int) (a : Int × Nat) (i : Nat), measI (l.take i) left a = none → measI l left a = none
  | [], left, a, i, h => by rw [List.take_nil] at h; exact h
  | x :: l, left, a, 0, h => by rw [List.take_zero, measI_nil] at h; cases h
  | x :: l, left, a, i + 1, h => by
    rw [List.take_succ_cons, measI_cons] at h
    rw [measI_cons]
    cases hm : meas x left with
    | none => rfl
    | some b =>
      rw [hm] at h
      exact measI_stop l left _ i h
/-- What is measured is bounded by the size. -/
theorem meas_le : ∀ (n : Nod) (left : Int) (d : Int) (w : Nat), meas n left = some (d, w) → 0 ≤ d ∧ d ≤ ndep n ∧ w ≤ 2 + 3 * szN n := by
  intro n
  induction n using Nod.ind with
  | h k d p s c i ih1 ih2 =>
  intro left dd w h
  have kp : ∀ (l : List Nod), (∀ x ∈ l, ∀ (left : Int) (d : Int) (w : Nat), meas x left = some (d, w) → 0 ≤ d ∧ d ≤ ndep x ∧ w ≤ 2 + 3 * szN x) → ∀ (left : Int) (a b : Int × Nat), measP l left a = some b → a.1 ≤ b.1 ∧ b.1 ≤ max a.1 (((l.map ndep).foldr max 0 : Nat) : Int) ∧ b.2 ≤ a.2 + (2 * l.length + 3 * szNL l) := by
    intro l
    induction l with
    | nil =>
      intro _ left a b hb
      rw [measP_nil] at hb
      cases hb
      exact ⟨Int.le_refl _, by omega, by omega⟩
    | cons x l ih =>
      intro hx left a b hb
      rw [measP_cons] at hb
      cases hm : meas x left with
      | none => rw [hm] at hb; cases hb
      | some e =>
        rw [hm] at hb
        obtain ⟨e1, e2⟩ := e
        obtain ⟨g1, g2, g3⟩ := hx x (by simp) left e1 e2 hm
        obtain ⟨h1, h2, h3⟩ := ih (fun y hy => hx y (by simp [hy])) left _ b hb
        simp only [List.map_cons, List.foldr_cons, szNL_cons, List.length_cons] at h1 h2 h3 ⊢
        exact ⟨by omega, by omega, by omega⟩
  have ki : ∀ (l : List Nod), (∀ x ∈ l, ∀ (left : Int) (d : Int) (w : Nat), meas x left = some (d, w) → 0 ≤ d ∧ d ≤ ndep x ∧ w ≤ 2 + 3 * szN x) → ∀ (left : Int) (a b : Int × Nat), measI l left a = some b → a.1 ≤ b.1 ∧ b.1 ≤ max a.1 (((l.map ndep).foldr max 0 : Nat) : Int) ∧ b.2 ≤ a.2 + (2 * l.length + 3 * szNL l) := by
    intro l
    induction l with
    | nil =>
      intro _ left a b hb
      rw [measI_nil] at hb
      cases hb
      exact ⟨Int.le_refl _, by omega, by omega⟩
    | cons x l ih =>
      intro hx left a b hb
      rw [measI_cons] at hb
      cases hm : meas x left with
      | none => rw [hm] at hb; cases hb
      | some e =>
        rw [hm] at hb
        obtain ⟨e1, e2⟩ := e
        obtain ⟨g1, g2, g3⟩ := hx x (by simp) left e1 e2 hm
        obtain ⟨h1, h2, h3⟩ := ih (fun y hy => hx y (by simp [hy])) left _ b hb
        simp only [List.map_cons, List.foldr_cons, szNL_cons, List.length_cons] at h1 h2 h3 ⊢
        exact ⟨by omega, by omega, by omega⟩
  rw [meas] at h
  split at h
  · split at h
    · cases h
      exact ⟨Int.le_refl _, by omega, by omega⟩
    · cases h1 : measP p (left - 1) (0, ownW (.mk k d p s c i)) with
      | none => rw [h1] at h; cases h
      | some a =>
        rw [h1] at h
        simp only at h
        cases h2 : measI i left a with
        | none => rw [h2] at h; cases h
        | some b =>
          rw [h2] at h
          simp only [Option.some.injEq, Prod.mk.injEq] at h
          obtain ⟨rfl, rfl⟩ := h
          obtain ⟨p1, p2, p3⟩ := kp p ih1 _ _ _ h1
          obtain ⟨q1, q2, q3⟩ := ki i ih2 _ _ _ h2
          have hw : ownW (.mk k d p s c i) ≤ d.size + p.length + 2 := by
            have := ownW_le (.mk k d p s c i)
            simp only [Nod.data, Nod.ptrs] at this
            exact this
          rw [ndep_mk, szN_mk]
          simp only at p1 p2 p3
          exact ⟨by omega, by omega, by omega⟩
  · cases h
theorem measP_le : ∀ (l : List Nod) (left : Int) (a b : Int × Nat), measP l left a = some b → a.1 ≤ b.1 ∧ b.1 ≤ max a.1 (((l.map ndep).foldr max 0 : Nat) : Int) ∧ b.2 ≤ a.2 + (2 * l.length + 3 * szNL l)
  | [], left, a, b, hb => by
    rw [measP_nil] at hb
    cases hb
    exact ⟨Int.le_refl _, by omega, by omega⟩
  | x :: l, left, a, b, hb => by
    rw [measP_cons] at hb
    cases hm : meas x left with
    | none => rw [hm] at hb; cases hb
    | some e =>
      rw [hm] at hb
      obtain ⟨e1, e2⟩ := e
      obtain ⟨g1, g2, g3⟩ := meas_le x left e1 e2 hm
      obtain ⟨h1, h2, h3⟩ := measP_le l left _ b hb
      simp only [List.map_cons, List.foldr_cons, szNL_cons, List.length_cons] at h1 h2 h3 ⊢
      exact ⟨by omega, by omega, by omega⟩
theorem measI_le : ∀ (l : List Nod) (left : Int) (a b : Int × Nat), measI l left a = some b → a.1 ≤ b.1 ∧ b.1 ≤ max a.1 (((l.map ndep).foldr max 0 : Nat) : Int) ∧ b.2 ≤ a.2 + (2 * l.length + 3 * szNL l)
  | [], left, a, b, hb => by
    rw [measI_nil] at hb
    cases hb
    exact ⟨Int.le_refl _, by omega, by omega⟩
  | x :: l, left, a, b, hb => by
    rw [measI_cons] at hb
    cases hm : meas x left with
    | none => rw [hm] at hb; cases hb
    | some e =>
      rw [hm] at hb
      obtain ⟨e1, e2⟩ := e
      obtain ⟨g1, g2, g3⟩ := meas_le x left e1 e2 hm
      obtain ⟨h1, h2, h3⟩ := measI_le l left _ b hb
      simp only [List.map_cons, List.foldr_cons, szNL_cons, List.length_cons] at h1 h2 h3 ⊢
      exact ⟨by omega, by omega, by omega⟩
/-- What measured returns. -/
def measA (o : Option (Int × Nat)) : AV := match o with
  | none => .tup [.int .i64 0, .int .i64 0, .bool false]
  | some b => .tup [.int .i64 b.1, .int .i64 (b.2 : Int), .bool true]
theorem ownW_mk (k : Int) (d : ByteArray) (p : List Nod) (s c : Int) (i : List Nod) : ownW (.mk k d p s c i) = (d.size + 7) / 8 + p.length + (if s = 7 then 1 else 0) := rfl
theorem meas_mk (k : Int) (d : ByteArray) (p : List Nod) (s c : Int) (i : List Nod) (left : Int) : meas (.mk k d p s c i) left = if nshape (.mk k d p s c i) = true ∧ 0 ≤ left then
      if k = 0 then some (0, 0)
      else match measP p (left - 1) (0, ownW (.mk k d p s c i)) with
        | none => none
        | some a => match measI i left a with
          | none => none
          | some b => some (b.1 + 1, b.2)
    else none := by rw [meas]
theorem foldr_dep (l : List Nod) (H : Nat) (h : ∀ x ∈ l, ndep x ≤ H) : (l.map ndep).foldr max 0 ≤ H := by
  induction l with
  | nil => exact Nat.zero_le _
  | cons x l ih =>
    simp only [List.map_cons, List.foldr_cons]
    exact Nat.max_le.2 ⟨h x (by simp), ih fun y hy => h y (by simp [hy])⟩
end Go.Ev.Tryd
