/- Part of the proof of a statement about the given program: P3aF. No condition of its own. -/
import Derived.Test.YtjjebjackjeneaaDoorP2F
namespace Go.Ev.Tryd
open Go.Proofs
set_option maxRecDepth 10000
set_option linter.unusedSimpArgs false
set_option linter.unusedVariables false
attribute [local congr] comes_congr bB_congr gK_congr gdK_congr

theorem dec_inj : ∀ i j : Fin 20, dec (i.val : Int) = dec (j.val : Int) → i = j := by decide +kernel
theorem step_at (n : Nat) (d : Dat) (hw : writ (n + 1) d = true) (hk : d.kind = 3 ∨ d.kind = 4) (i : Nat) (hi : i < d.list.length) (x : ByteArray) (hx : d.steps[i]? = some x) : d.step x = some d.list[i] := by
  have key : firstI (fun y => decide (y = x)) d.steps = i := by
    obtain ⟨hi', rfl⟩ := List.getElem?_eq_some_iff.1 hx
    refine firstI_some hi' (by simp) (fun j hji => ?_)
    simp only [decide_eq_false_iff_not]
    obtain ⟨k, m, t, l, ns⟩ := d
    simp only [writ, Bool.and_eq_true, Dat.names] at hw
    by_cases h4 : k = 4
    · subst h4
      have hs : Dat.steps (.mk 4 m t l ns) = ns := by simp [Dat.steps, Dat.kind, Dat.names]
      have h1 := hw.2.1
      rw [namesOk_split, Bool.and_eq_true, allNew_iff] at h1
      have hi2 : i < ns.length := by rw [hs] at hi'; exact hi'
      have h2 := (newIn_iff hi2).1 (h1.1 i hi2) j hji
      simpa [hs] using h2
    · have h3 : k = 3 := hk.resolve_right h4
      subst h3
      have hs : Dat.steps (.mk 3 m t l ns) = nums l.length := by simp [Dat.steps, Dat.kind, Dat.list]
      have hl : l.length ≤ 20 := by
        rcases shaped_kind hw.1 with ⟨h, _⟩ | ⟨h, _⟩ | ⟨h, _⟩ | ⟨_, h⟩ | ⟨h, _⟩
        all_goals first
          | exact h
          | omega
      have hi3 : i < l.length := hi
      simp only [hs, nums, List.getElem_map, List.getElem_range]
      intro e
      have := dec_inj ⟨j, by omega⟩ ⟨i, by omega⟩ e
      simp only [Fin.mk.injEq] at this
      omega
  unfold Dat.step
  rw [key, if_neg (by omega), Int.toNat_natCast, List.getElem?_eq_getElem hi]
theorem leaf_no : ∀ (n : Nat) (d : Dat), writ n d = true → ∀ q ∈ lv n d, ∃ x, getP d q = some x ∧ ¬ x.kind = 3 ∧ ¬ x.kind = 4
  | 0, d, h, _, _ => by cases h
  | n + 1, d, hw, q, hq => by
    unfold lv at hq
    split at hq
    · rename_i hk
      simp only [List.mem_flatten, List.mem_map] at hq
      obtain ⟨_, ⟨y, hy, rfl⟩, hq⟩ := hq
      obtain ⟨r, hr, rfl⟩ := List.mem_map.1 hq
      obtain ⟨i, hi, he⟩ := List.mem_iff_getElem.1 hy
      have hi2 : i < d.list.length := by rw [List.length_zip] at hi; omega
      have hi1 : i < d.steps.length := by rw [List.length_zip] at hi; omega
      rw [List.getElem_zip] at he
      subst he
      obtain ⟨x, hx, h3⟩ := leaf_no n d.list[i] (writ_elem0 n hw (List.getElem_mem hi2)) r hr
      refine ⟨x, ?_, h3⟩
      show (d.step d.steps[i]).bind _ = _
      rw [step_at n d hw hk i hi2 _ (List.getElem?_eq_getElem hi1)]
      exact hx
    · rename_i hk
      simp only [List.mem_singleton] at hq
      subst hq
      exact ⟨d, rfl, fun h => hk (.inl h), fun h => hk (.inr h)⟩
def pathAll (d : Dat) : List (List ByteArray) := if writ 8 d = true then lv 8 d else []

theorem specPathAll_eq (d : Dat) (hd : d.Sane) : fnA CC PR 15 [d.av] = some (pathsA (pathAll d)) := by
  have hok := l10Ok_eq 8 d (by omega) hd
  have c8 : ((8 : Nat) : Int) = 8 := rfl
  rw [c8] at hok
  unfold pathAll
  cases hw : writ 8 d
  all_goals rw [hw] at hok
  · obtain ⟨k, n, t, l, ns⟩ := d
    rw [Dat.av_mk] at hok ⊢
    apply comes_eq.1
    refine fnA_wp (rs := [.tmp 2]) Tryd.func15 rfl rfl (Nat.le_of_ble_eq_true rfl) rfl ?_
    simp +decide only [go_sem, Nat.reduceAdd, Nat.reduceMul, Nat.reduceSub, Nat.reduceLT, Nat.reduceLeDiff, Nat.reduceEqDiff, Nat.add_assoc, Int.reduceAdd, Int.reduceSub, Int.reduceMul, Int.reduceLT, Int.reduceLE, Int.reduceEq, Int.reduceNeg, strOp_add, hok]
    rfl
  · have hl := l11All_eq 8 d [] (Nat.le_refl _) hd hw (by simp)
    rw [if_pos rfl]
    have e : (lv 8 d).map (([] : List ByteArray) ++ ·) = lv 8 d := by simp
    rw [e] at hl
    generalize lv 8 d = ps at hl ⊢
    unfold pathsA strsA at *
    obtain ⟨k, n, t, l, ns⟩ := d
    rw [Dat.av_mk] at hok hl ⊢
    simp only [List.map_nil] at hl
    apply comes_eq.1
    refine fnA_wp (rs := [.tmp 2]) Tryd.func15 rfl rfl (Nat.le_of_ble_eq_true rfl) rfl ?_
    simp +decide only [go_sem, Nat.reduceAdd, Nat.reduceMul, Nat.reduceSub, Nat.reduceLT, Nat.reduceLeDiff, Nat.reduceEqDiff, Nat.add_assoc, Int.reduceAdd, Int.reduceSub, Int.reduceMul, Int.reduceLT, Int.reduceLE, Int.reduceEq, Int.reduceNeg, strOp_add, hok, hl]

end Go.Ev.Tryd
