/- Part of the proof of a statement about the given program: Q1F. No condition of its own. -/
import Derived.Test.YtjjebjackjeneaaDoorP3aF
namespace Go.Ev.Tryd
open Go.Proofs
set_option maxRecDepth 10000
set_option linter.unusedSimpArgs false
set_option linter.unusedVariables false

open Classical in
/-- The paths at which two data differ. -/
noncomputable def df : Nat → Dat → Dat → List (List ByteArray)
  | 0, _, _ => []
  | n + 1, a, b => if a = b then [] else if a.kind = b.kind ∧ (a.kind = 3 ∨ a.kind = 4) ∧ a.steps = b.steps then ((a.steps.zip (a.list.zip b.list)).map fun x => (df n x.2.1 x.2.2).map (x.1 :: ·)).flatten else [[]]
theorem df_same (n : Nat) (a : Dat) : df n a a = [] := by
  cases n with
  | zero => rfl
  | succ n =>
    unfold df
    rw [if_pos rfl]
theorem zip_flip {α β γ : Type} (f : α → β → β → γ) (hf : ∀ x y z, f x y z = f x z y) : ∀ (l : List α) (a b : List β), (l.zip (a.zip b)).map (fun x => f x.1 x.2.1 x.2.2) = (l.zip (b.zip a)).map (fun x => f x.1 x.2.1 x.2.2)
  | [], _, _ => rfl
  | x :: l, [], [] => rfl
  | x :: l, [], _ :: _ => rfl
  | x :: l, _ :: _, [] => rfl
  | x :: l, y :: a, z :: b => by
    simp only [List.zip_cons_cons, List.map_cons]
    rw [hf x y z, zip_flip f hf l a b]
theorem df_flip : ∀ (n : Nat) (a b : Dat), df n a b = df n b a
  | 0, _, _ => rfl
  | n + 1, a, b => by
    unfold df
    by_cases h : a = b
    · rw [if_pos h, if_pos h.symm]
    · rw [if_neg h, if_neg (fun e : b = a => h e.symm)]
      by_cases h2 : a.kind = b.kind ∧ (a.kind = 3 ∨ a.kind = 4) ∧ a.steps = b.steps
      · have h3 : b.kind = a.kind ∧ (b.kind = 3 ∨ b.kind = 4) ∧ b.steps = a.steps := ⟨h2.1.symm, h2.1 ▸ h2.2.1, h2.2.2.symm⟩
        rw [if_pos h2, if_pos h3, h2.2.2]
        congr 1
        exact zip_flip (fun s x y => (df n x y).map (s :: ·)) (fun s x y => by rw [df_flip n x y]) _ _ _
      · have h3 : ¬ (b.kind = a.kind ∧ (b.kind = 3 ∨ b.kind = 4) ∧ b.steps = a.steps) := fun h3 => h2 ⟨h3.1.symm, h3.1 ▸ h3.2.1, h3.2.2.symm⟩
        rw [if_neg h2, if_neg h3]
theorem df_short : ∀ (n : Nat) (a b : Dat), ∀ p ∈ df n a b, p.length ≤ n
  | 0, a, b, p, h => by cases h
  | n + 1, a, b, p, h => by
    unfold df at h
    split at h
    · cases h
    · split at h
      · simp only [List.mem_flatten, List.mem_map] at h
        obtain ⟨_, ⟨x, _, rfl⟩, h⟩ := h
        obtain ⟨r, hr, rfl⟩ := List.mem_map.1 h
        have := df_short n _ _ r hr
        simp only [List.length_cons]
        omega
      · simp only [List.mem_singleton] at h
        subst h
        exact Nat.zero_le _
theorem steps_list {n : Nat} {d : Dat} (hw : writ (n + 1) d = true) (hk : d.kind = 3 ∨ d.kind = 4) : d.steps.length = d.list.length := by
  obtain ⟨k, m, t, l, ns⟩ := d
  simp only [writ, Bool.and_eq_true] at hw
  have := shaped_kind hw.1
  by_cases h4 : k = 4
  · subst h4
    have h5 : l.length = ns.length := by
      rcases this with ⟨h, _⟩ | ⟨h, _⟩ | ⟨h, _⟩ | ⟨h, _⟩ | ⟨_, _, h⟩
      all_goals omega
    simp [Dat.steps, Dat.kind, Dat.names, Dat.list, h5]
  · simp [Dat.steps, Dat.kind, Dat.list, h4, nums_len]
/-- What is written of a list or a tree is its parts. -/
theorem parts_eq {n : Nat} {a b : Dat} (ha : writ (n + 1) a = true) (hb : writ (n + 1) b = true) (hk : a.kind = b.kind) (hk2 : a.kind = 3 ∨ a.kind = 4) (hs : a.steps = b.steps) (hl : a.list = b.list) : a = b := by
  obtain ⟨k, m, t, l, ns⟩ := a
  obtain ⟨k', m', t', l', ns'⟩ := b
  simp only [Dat.kind, Dat.list] at hk hk2 hl
  subst hk hl
  simp only [writ, Bool.and_eq_true, Dat.names, Dat.list] at ha hb
  have h1 := ha.1
  have h2 := hb.1
  simp only [shaped] at h1 h2
  rcases hk2 with rfl | rfl
  · simp at h1 h2
    obtain ⟨rfl, rfl, rfl, _⟩ := h1
    obtain ⟨rfl, rfl, rfl, _⟩ := h2
    rfl
  · simp at h1 h2
    simp only [Dat.steps, Dat.kind, Dat.names, if_true] at hs
    subst hs
    obtain ⟨rfl, rfl, _⟩ := h1
    obtain ⟨rfl, rfl, _⟩ := h2
    rfl
theorem df_tells : ∀ (n : Nat) (a b : Dat), writ n a = true → writ n b = true → df n a b = [] → a = b
  | 0, a, b, h, _, _ => by cases h
  | n + 1, a, b, ha, hb, h => by
    unfold df at h
    split at h
    · assumption
    · split at h
      · rename_i _ hk
        refine parts_eq ha hb hk.1 hk.2.1 hk.2.2 ?_
        have h1 := steps_list ha hk.2.1
        have h2 := steps_list hb (hk.1 ▸ hk.2.1)
        have h3 : a.list.length = b.list.length := by rw [← h1, ← h2, hk.2.2]
        refine List.ext_getElem h3 fun i hi hi' => ?_
        refine df_tells n _ _ (writ_elem0 n ha (List.getElem_mem hi)) (writ_elem0 n hb (List.getElem_mem hi')) ?_
        have h4 := List.flatten_eq_nil_iff.1 h ((df n a.list[i] b.list[i]).map (a.steps[i]'(by omega) :: ·)) (List.mem_map.2 ⟨(a.steps[i]'(by omega), a.list[i], b.list[i]), by
          refine List.mem_iff_getElem.2 ⟨i, by simp; omega, ?_⟩
          simp [List.getElem_zip], rfl⟩)
        simpa using h4
      · cases h
theorem df_apart : ∀ (n : Nat) (a b : Dat), writ n a = true → writ n b = true → ∀ q ∈ df n a b, ∃ x y, getP a q = some x ∧ getP b q = some y ∧ x ≠ y
  | 0, a, b, h, _, _, _ => by cases h
  | n + 1, a, b, ha, hb, q, h => by
    unfold df at h
    split at h
    · cases h
    · rename_i hne
      split at h
      · rename_i hk
        have h1 := steps_list ha hk.2.1
        have h2 := steps_list hb (hk.1 ▸ hk.2.1)
        simp only [List.mem_flatten, List.mem_map] at h
        obtain ⟨_, ⟨y, hy, rfl⟩, h⟩ := h
        obtain ⟨r, hr, rfl⟩ := List.mem_map.1 h
        obtain ⟨i, hi, he⟩ := List.mem_iff_getElem.1 hy
        simp only [List.length_zip] at hi
        have hi1 : i < a.steps.length := by omega
        have hi2 : i < a.list.length := by omega
        have hi3 : i < b.list.length := by omega
        simp only [List.getElem_zip] at he
        subst he
        obtain ⟨x, y, g1, g2, g3⟩ := df_apart n a.list[i] b.list[i] (writ_elem0 n ha (List.getElem_mem hi2)) (writ_elem0 n hb (List.getElem_mem hi3)) r hr
        refine ⟨x, y, ?_, ?_, g3⟩
        · show (a.step a.steps[i]).bind _ = _
          rw [step_at n a ha hk.2.1 i hi2 _ (List.getElem?_eq_getElem hi1)]
          exact g1
        · show (b.step a.steps[i]).bind _ = _
          rw [step_at n b hb (hk.1 ▸ hk.2.1) i hi3 _ (by rw [← hk.2.2]; exact List.getElem?_eq_getElem hi1)]
          exact g2
      · simp only [List.mem_singleton] at h
        subst h
        exact ⟨a, b, rfl, rfl, hne⟩
end Go.Ev.Tryd
