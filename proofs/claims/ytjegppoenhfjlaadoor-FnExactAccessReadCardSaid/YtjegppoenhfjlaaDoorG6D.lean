/- Part of the proof of a statement about the given program: G6D. No condition of its own. -/
import Derived.Test.YtjegppoenhfjlaaDoorG5D
namespace Go.Ev.Tryd
open Go.Proofs
set_option maxRecDepth 10000
set_option linter.unusedSimpArgs false
set_option linter.unusedVariables false
attribute [local congr] comes_congr bB_congr gK_congr gdK_congr
/-- Words with blanks between. -/
def catW : List (List UInt8) → List UInt8
  | [] => []
  | [w] => w
  | w :: x :: r => w ++ 32 :: catW (x :: r)
theorem cut_cat : ∀ (w : List UInt8) (r pre : List (List UInt8)), (∀ x ∈ w :: r, ∀ c ∈ x, c ≠ 32) → (cutF (pre, []) (catW (w :: r))).1 ++ [(cutF (pre, []) (catW (w :: r))).2] = pre ++ (w :: r)
  | w, [], pre, h => by
    rw [catW, cutF_none w (pre, []) (h w (by simp))]
    simp
  | w, x :: r, pre, h => by
    have h1 := cut_cat x r (pre ++ [w]) fun y hy => h y (by simp at hy ⊢; right; exact hy)
    have e : cutF (pre, []) (catW (w :: x :: r)) = cutF (pre ++ [w], []) (catW (x :: r)) := by
      rw [catW, cutF_app, cutF_none w (pre, []) (h w (by simp))]
      rfl
    rw [e, h1]
    simp
theorem cut_of {s : ByteArray} {w : ByteArray} {r : List ByteArray} (h : s.data.toList = catW ((w :: r).map (·.data.toList))) (hb : ∀ x ∈ w :: r, ∀ c ∈ x.data.toList, c ≠ 32) : cut s = w :: r := by
  unfold cut cutL
  rw [h, List.map_cons, cut_cat _ _ [] (by
    intro x hx
    rw [← List.map_cons (f := fun b : ByteArray => b.data.toList)] at hx
    obtain ⟨y, hy, rfl⟩ := List.mem_map.1 hx
    exact hb y hy), List.nil_append, ← List.map_cons (f := fun b : ByteArray => b.data.toList), List.map_map]
  conv => rhs; rw [← List.map_id (w :: r)]
  exact List.map_congr_left fun x _ => by simp
theorem dec_list (n : Int) : (dec n).data.toList = Lib.itoa n := by simp [dec]
def tagW (a : Acc) : List ByteArray := if 0 ≤ a.tag then [⟨#[105, 102]⟩, dec a.tag, ⟨#[116, 101, 108, 108, 115]⟩, dec a.place] else []
def wordsA (a : Acc) : List ByteArray := a.name :: ⟨#[105, 115]⟩ :: ((if a.k = 1 then [⟨#[98, 105, 116]⟩, dec a.at_, ⟨#[116, 117, 114, 110, 101, 100]⟩, dec a.turn] else if a.k = 2 then [⟨#[98, 121, 116, 101, 115]⟩, dec a.at_, ⟨#[115, 105, 122, 101]⟩, dec a.size, ⟨#[116, 117, 114, 110, 101, 100]⟩, dec a.turn] else [⟨#[112, 111, 105, 110, 116, 101, 114]⟩, dec a.at_]) ++ tagW a)
theorem text_cat (a : Acc) : a.text.data.toList = catW ((wordsA a).map (·.data.toList)) := by
  unfold Acc.text accText wordsA tagW
  by_cases h1 : a.k = 1
  · by_cases h3 : 0 ≤ a.tag
    · simp [h1, h3, catW]
    · simp [h1, h3, catW]
  · by_cases h2 : a.k = 2
    · by_cases h3 : 0 ≤ a.tag
      · simp [h1, h2, h3, catW]
      · simp [h1, h2, h3, catW]
    · by_cases h3 : 0 ≤ a.tag
      · simp [h1, h2, h3, catW]
      · simp [h1, h2, h3, catW]
theorem name_noblank {s : ByteArray} (h : isName s = true) : ∀ c ∈ s.data.toList, c ≠ 32 := by
  intro c hc e
  subst e
  obtain ⟨i, hi, hi2⟩ := List.mem_iff_getElem.1 hc
  have hi' : i < s.size := by simpa using hi
  have h1 := ((isName_iff s).1 h).2.2 i hi'
  have h2 := sget_list hi'
  rw [List.getElem?_eq_getElem hi, hi2] at h2
  rw [Option.some.injEq] at h2
  rw [nameAt, ← h2] at h1
  cases h1
theorem words_noblank {a : Acc} (h : a.ok = true) : ∀ x ∈ wordsA a, ∀ c ∈ x.data.toList, c ≠ 32 := by
  have hn : isName a.name = true := by
    simp only [Acc.ok, accOk, Bool.and_eq_true] at h
    exact h.1
  have hd : ∀ n : Int, ∀ c ∈ (dec n).data.toList, c ≠ 32 := fun n => by rw [dec_list]; exact itoa_noblank n
  unfold wordsA tagW
  intro x hx
  have key : x = a.name ∨ (∃ n, x = dec n) ∨ x = ⟨#[105, 115]⟩ ∨ x = ⟨#[98, 105, 116]⟩ ∨ x = ⟨#[116, 117, 114, 110, 101, 100]⟩ ∨ x = ⟨#[98, 121, 116, 101, 115]⟩ ∨ x = ⟨#[115, 105, 122, 101]⟩ ∨ x = ⟨#[112, 111, 105, 110, 116, 101, 114]⟩ ∨ x = ⟨#[105, 102]⟩ ∨ x = ⟨#[116, 101, 108, 108, 115]⟩ := by
    rcases List.mem_cons.1 hx with hx | hx
    · exact .inl hx
    rcases List.mem_cons.1 hx with hx | hx
    · simp [hx]
    rcases List.mem_append.1 hx with hx | hx
    · split at hx
      · simp only [List.mem_cons, List.mem_nil_iff, or_false] at hx
        rcases hx with rfl | rfl | rfl | rfl <;> first | exact .inr (.inl ⟨_, rfl⟩) | simp
      · split at hx
        · simp only [List.mem_cons, List.mem_nil_iff, or_false] at hx
          rcases hx with rfl | rfl | rfl | rfl | rfl | rfl <;> first | exact .inr (.inl ⟨_, rfl⟩) | simp
        · simp only [List.mem_cons, List.mem_nil_iff, or_false] at hx
          rcases hx with rfl | rfl <;> first | exact .inr (.inl ⟨_, rfl⟩) | simp
    · split at hx
      · simp only [List.mem_cons, List.mem_nil_iff, or_false] at hx
        rcases hx with rfl | rfl | rfl | rfl <;> first | exact .inr (.inl ⟨_, rfl⟩) | simp
      · cases hx
  rcases key with rfl | ⟨n, rfl⟩ | rfl | rfl | rfl | rfl | rfl | rfl | rfl | rfl
  · exact name_noblank hn
  · exact hd n
  all_goals decide
theorem cut_text {a : Acc} (h : a.ok = true) : cut a.text = wordsA a := cut_of (text_cat a) (words_noblank h)
theorem nW (n : Int) (h0 : -999999999999999999 ≤ n) (h1 : n ≤ 999999999999999999) : numW (dec n).data.toList = (n, true) := by rw [dec_list]; exact numW_itoa n h0 h1
theorem nS (n : Int) (h0 : -999999999999999999 ≤ n) (h1 : n ≤ 999999999999999999) : numS (dec n).data.toList = (n, false) := by rw [dec_list]; exact numS_itoa n h0 h1
theorem acc_facts {a : Acc} (h : a.ok = true) : (0 ≤ a.at_ ∧ a.at_ ≤ 12799) ∧ (-999999999999999999 ≤ a.turn ∧ a.turn ≤ 999999999999999999) ∧ (0 ≤ a.size ∧ a.size ≤ 8) ∧ (a.tag = -1 ∧ a.place = 0 ∨ (0 ≤ a.tag ∧ a.tag ≤ 1598) ∧ 0 ≤ a.place ∧ a.place ≤ 65535) ∧ (a.k = 1 ∧ a.size = 0 ∨ a.k = 2 ∨ a.k = 3 ∧ a.size = 0 ∧ a.turn = 0) := by
  obtain ⟨x0, x1, x2, x3, x4, x5, x6⟩ := a
  simp only [Acc.ok, accOk, Bool.and_eq_true, decide_eq_true_eq] at h
  obtain ⟨_, ht, hx2, hk⟩ := h
  simp only [tagB, Bool.and_eq_true, Bool.or_eq_true, decide_eq_true_eq] at ht
  dsimp only
  by_cases h1 : x1 = 1
  · rw [if_pos h1] at hk
    simp only [Bool.and_eq_true, decide_eq_true_eq] at hk
    omega
  · rw [if_neg h1] at hk
    by_cases h2 : x1 = 2
    · rw [if_pos h2] at hk
      simp only [Bool.and_eq_true, decide_eq_true_eq, isShort] at hk
      have := isSize_iff.1 hk.1
      omega
    · rw [if_neg h2] at hk
      by_cases h3 : x1 = 3
      · rw [if_pos h3] at hk
        simp only [Bool.and_eq_true, decide_eq_true_eq] at hk
        omega
      · rw [if_neg h3] at hk
        cases hk
theorem readA_text {a : Acc} (h : a.ok = true) : readA a.text = some a := by
  have hc := cut_text h
  obtain ⟨f1, f2, f3, f4, f5⟩ := acc_facts h
  have ht : told a.text a = some a := by
    unfold told
    rw [if_pos h, if_pos rfl]
  have n1 := nW a.at_ (by omega) (by omega)
  have n2 := nW a.turn (by omega) (by omega)
  have n3 := nW a.size (by omega) (by omega)
  have n4 := nW a.tag (by omega) (by omega)
  have n5 := nW a.place (by omega) (by omega)
  have key : (wordsA a).length % 2 = 0 ∧ readP ((wordsA a).drop 2) (acc0 (wAt (wordsA a) 0) (-1)) = some a := by
    obtain ⟨x0, x1, x2, x3, x4, x5, x6⟩ := a
    dsimp only at *
    rcases f5 with ⟨rfl, rfl⟩ | rfl | ⟨rfl, rfl, rfl⟩
    all_goals rcases f4 with ⟨rfl, rfl⟩ | ⟨g1, g2⟩
    all_goals
      simp_all [wordsA, tagW, readP, stepA, wAt, acc0]
  unfold readA
  rw [hc, if_pos key.1, key.2]
  exact ht
theorem readS_text {a : Acc} (h : a.ok = true) : readS a.text = some a := by
  have hc := cut_text h
  obtain ⟨f1, f2, f3, f4, f5⟩ := acc_facts h
  have n1 := nS a.at_ (by omega) (by omega)
  have n2 := nS a.turn (by omega) (by omega)
  have n3 := nS a.size (by omega) (by omega)
  have n4 := nS a.tag (by omega) (by omega)
  have n5 := nS a.place (by omega) (by omega)
  have key : tailS (wordsA a) (headS (wordsA a)) = (a, false) := by
    obtain ⟨x0, x1, x2, x3, x4, x5, x6⟩ := a
    dsimp only at *
    rcases f5 with ⟨rfl, rfl⟩ | rfl | ⟨rfl, rfl, rfl⟩
    all_goals rcases f4 with ⟨rfl, rfl⟩ | ⟨g1, g2⟩
    all_goals
      simp_all [wordsA, tagW, headS, tailS, nmS, notS, wAt]
  unfold readS
  rw [hc, key]
  simp [h]
theorem read_same (s : ByteArray) : readA s = readS s := by
  have h1 : ∀ a, readA s = some a → a.ok = true ∧ a.text = s := by
    intro a ha
    unfold readA at ha
    split at ha
    · rename_i hev
      rw [Option.bind_eq_some_iff] at ha
      obtain ⟨b, hb, ha⟩ := ha
      unfold told at ha
      cases hok : b.ok
      · rw [hok] at ha
        simp only [Bool.false_eq_true, if_false] at ha
        split at ha
        · rename_i ht
          rw [← ht] at hev
          exact absurd hev (by decide)
        · cases ha
      · rw [hok, if_pos rfl] at ha
        split at ha
        · rename_i ht
          rw [Option.some.injEq] at ha
          subst ha
          exact ⟨hok, ht⟩
        · cases ha
    · cases ha
  have h2 : ∀ a, readS s = some a → a.ok = true ∧ a.text = s := by
    intro a ha
    unfold readS at ha
    split at ha
    · cases ha
    · split at ha
      · split at ha
        · rename_i hok ht
          rw [Option.some.injEq] at ha
          subst ha
          exact ⟨hok, ht⟩
        · cases ha
      · cases ha
  cases hA : readA s with
  | some a =>
    obtain ⟨k1, k2⟩ := h1 a hA
    have := readS_text k1
    rw [k2] at this
    exact this.symm
  | none =>
    cases hS : readS s with
    | none => rfl
    | some a =>
      obtain ⟨k1, k2⟩ := h2 a hS
      have := readA_text k1
      rw [k2, hA] at this
      exact this
theorem eqAccess_eq (a : Acc) : fnA CC PR 6 [.agg a.cs, .agg a.cs] = some (.bool true) := by
  unfold Acc.cs
  apply comes_eq.1
  refine fnA_wp (rs := [.tmp 4]) Tryd.func6 rfl rfl (Nat.le_of_ble_eq_true rfl) rfl ?_
  simp +decide only [go_sem, Nat.reduceAdd, Nat.reduceMul, Nat.reduceSub, Nat.reduceLT, Nat.reduceLeDiff, Nat.reduceEqDiff, Nat.add_assoc, Int.reduceAdd, Int.reduceSub, Int.reduceMul, Int.reduceLT, Int.reduceLE, Int.reduceEq, Int.reduceNeg, strOp_add]
theorem law_FnExactAccessRead (s : ByteArray) (hs : s.size ≤ 140737488351232) : fnA CC PR 3 [.str s] = some (.bool true) := by
  apply comes_eq.1
  refine fnA_wp (rs := [.tmp 2]) Tryd.func3 rfl rfl (Nat.le_of_ble_eq_true rfl) rfl ?_
  by_cases hz : s.size ≤ 1048576
  · have e1 := specRead_eq s hz
    have e2 := AccessRead_eq s hz
    rw [read_same] at e2
    have hc : ¬ ((1048576 : Int) < (s.size : Int)) := by omega
    cases hR : readS s with
    | none =>
      rw [hR] at e1 e2
      have e3 := eqAccess_eq (acc0 ⟨#[]⟩ 0)
      unfold resA at e1 e2
      unfold acc0 Acc.cs at e1 e2 e3
      dsimp only at e1 e2 e3
      simp +decide only [go_sem, Nat.reduceAdd, Nat.reduceMul, Nat.reduceSub, Nat.reduceLT, Nat.reduceLeDiff, Nat.reduceEqDiff, Nat.add_assoc, Int.reduceAdd, Int.reduceSub, Int.reduceMul, Int.reduceLT, Int.reduceLE, Int.reduceEq, Int.reduceNeg, strOp_add, hc, e1, e2, e3]
    | some a =>
      rw [hR] at e1 e2
      have e3 := eqAccess_eq a
      unfold resA at e1 e2
      unfold Acc.cs at e1 e2 e3
      dsimp only at e1 e2 e3
      simp +decide only [go_sem, Nat.reduceAdd, Nat.reduceMul, Nat.reduceSub, Nat.reduceLT, Nat.reduceLeDiff, Nat.reduceEqDiff, Nat.add_assoc, Int.reduceAdd, Int.reduceSub, Int.reduceMul, Int.reduceLT, Int.reduceLE, Int.reduceEq, Int.reduceNeg, strOp_add, hc, e1, e2, e3]
  · have hc : (1048576 : Int) < (s.size : Int) := by omega
    simp +decide only [go_sem, Nat.reduceAdd, Nat.reduceMul, Nat.reduceSub, Nat.reduceLT, Nat.reduceLeDiff, Nat.reduceEqDiff, Nat.add_assoc, Int.reduceAdd, Int.reduceSub, Int.reduceMul, Int.reduceLT, Int.reduceLE, Int.reduceEq, Int.reduceNeg, strOp_add, hc]
end Go.Ev.Tryd
