/- Part of the proof of a statement about the given program: G4D. No condition of its own. -/
import Derived.Test.YtjegppoenhfjlaaDoorG3D
namespace Go.Ev.Tryd
open Go.Proofs
set_option maxRecDepth 10000
set_option linter.unusedSimpArgs false
set_option linter.unusedVariables false
attribute [local congr] comes_congr bB_congr gK_congr gdK_congr
/-- An access. -/
structure Acc where
  name : ByteArray
  k : Int
  at_ : Int
  size : Int
  turn : Int
  tag : Int
  place : Int
def Acc.cs (a : Acc) : List AV := [.str a.name, .int .i64 a.k, .int .i64 a.at_, .int .i64 a.size, .int .i64 a.turn, .int .i64 a.tag, .int .i64 a.place]
def Acc.ok (a : Acc) : Bool := accOk a.name a.k a.at_ a.size a.turn a.tag a.place
def Acc.text (a : Acc) : ByteArray := accText a.name a.k a.at_ a.size a.turn a.tag a.place
def Acc.In (a : Acc) : Prop := i64 a.at_ ∧ i64 a.size ∧ i64 a.turn ∧ i64 a.tag ∧ i64 a.place
def acc0 (x : ByteArray) (t : Int) : Acc := ⟨x, 0, 0, 0, 0, t, 0⟩
def stepA (a : Acc) (w : ByteArray) (n : Int) : Acc :=
  if w = ⟨#[98, 105, 116]⟩ then { a with k := 1, at_ := n }
  else if w = ⟨#[98, 121, 116, 101, 115]⟩ then { a with k := 2, at_ := n }
  else if w = ⟨#[112, 111, 105, 110, 116, 101, 114]⟩ then { a with k := 3, at_ := n }
  else if w = ⟨#[115, 105, 122, 101]⟩ then { a with size := n }
  else if w = ⟨#[116, 117, 114, 110, 101, 100]⟩ then { a with turn := n }
  else if w = ⟨#[105, 102]⟩ then { a with tag := n }
  else if w = ⟨#[116, 101, 108, 108, 115]⟩ then { a with place := n }
  else a
def readP : List ByteArray → Acc → Option Acc
  | w :: x :: r, a => if (numW x.data.toList).2 = true then readP r (stepA a w (numW x.data.toList).1) else none
  | _, a => some a
def told (s : ByteArray) (a : Acc) : Option Acc := if (if a.ok = true then a.text else ⟨#[]⟩) = s then some a else none
/-- What the program reads. -/
def readA (s : ByteArray) : Option Acc := if (cut s).length % 2 = 0 then (readP ((cut s).drop 2) (acc0 (wAt (cut s) 0) (-1))).bind (told s) else none
def resA : Option Acc → AV
  | some a => .tup [.agg a.cs, .bool true]
  | none => .tup [.agg (acc0 ⟨#[]⟩ 0).cs, .bool false]
theorem wAt_get {ws : List ByteArray} {k : Nat} (h : k < ws.length) : wAt ws k = ws[k] := by simp [wAt, h]
theorem cutF_small (M : Nat) : ∀ (a : List UInt8) (p : List (List UInt8) × List UInt8), (∀ w ∈ p.1, w.length ≤ M) → p.2.length + a.length ≤ M → (∀ w ∈ (cutF p a).1, w.length ≤ M) ∧ (cutF p a).2.length ≤ M
  | [], p, h1, h2 => ⟨h1, by simpa [cutF] using h2⟩
  | c :: a, p, h1, h2 => by
    show (∀ w ∈ (cutF (cutStep p c) a).1, w.length ≤ M) ∧ (cutF (cutStep p c) a).2.length ≤ M
    simp only [List.length_cons] at h2
    refine cutF_small M a (cutStep p c) ?_ ?_
    · unfold cutStep
      split
      · intro w hw
        rcases List.mem_append.1 hw with hw | hw
        · exact h1 w hw
        · rw [List.mem_singleton.1 hw]
          omega
      · exact h1
    · unfold cutStep
      split
      · simp; omega
      · simp; omega
theorem cut_small (s : ByteArray) : ∀ w ∈ cut s, w.size ≤ s.size := by
  intro w hw
  unfold cut cutL at hw
  obtain ⟨l, hl, rfl⟩ := List.mem_map.1 hw
  obtain ⟨h1, h2⟩ := cutF_small s.size s.data.toList ([], []) (by simp) (by simp)
  show l.toArray.size ≤ _
  rcases List.mem_append.1 hl with hl | hl
  · simpa using h1 l hl
  · rw [List.mem_singleton.1 hl]
    simpa using h2
theorem cut_len (s : ByteArray) : (cut s).length ≤ s.size + 1 := by
  unfold cut cutL
  rw [List.length_map, List.length_append, cutF_len]
  have := List.length_filter_le (fun c : UInt8 => decide (c = 32)) s.data.toList
  simp at this ⊢
  omega
theorem cut_pos (s : ByteArray) : 1 ≤ (cut s).length := by
  unfold cut cutL
  simp
theorem wAt_small (s : ByteArray) (k : Nat) : (wAt (cut s) k).size ≤ s.size := by
  by_cases hk : k < (cut s).length
  · unfold wAt
    rw [List.getD_eq_getElem?_getD, List.getElem?_eq_getElem hk]
    exact cut_small s _ (List.getElem_mem hk)
  · rw [wAt_out hk]
    exact Nat.zero_le _
theorem parse_ok : ∀ (l : List UInt8) (acc u : Nat), acc < 18446744073709551616 → Lib.parseUint10 acc l = .ok u → u < 18446744073709551616 := Lib.parseUint10_lt
theorem numW_i64 (l : List UInt8) : i64 (numW l).1 := by
  unfold numW
  rcases ends (Lib.atoiAll l) with ⟨v, h⟩ | h | h
  · rw [h]
    unfold i64
    simp only
    unfold Lib.atoiAll at h
    cases l with
    | nil => cases h
    | cons c r =>
      simp only at h
      split at h
      · cases h
      · cases h
      · rename_i u hu
        split at h
        · cases h
        · split at h
          · cases h
          · rename_i h1 h2
            have hv := Lib.NumEnd.ok.inj h
            subst hv
            by_cases hc : c.toNat = 45
            · simp only [hc, true_and] at h2 ⊢
              simp
              omega
            · simp only [hc, not_false_eq_true, true_and] at h1 ⊢
              simp
              omega
  · rw [h]
    unfold i64 Lib.atoiSat
    simp only
    split <;> omega
  · rw [h]
    show i64 0
    unfold i64
    omega
theorem numberOf_eq (x : ByteArray) (h : x.size ≤ 281474976710656) : fnA CC PR 15 [.str x] = some (.tup [.int .i64 (numW x.data.toList).1, .bool (numW x.data.toList).2]) := fnA_prim CC PR (by simp [PR, h])
theorem stepA_in {a : Acc} {w : ByteArray} {n : Int} (h : a.In) (hn : i64 n) : (stepA a w n).In := by
  obtain ⟨h1, h2, h3, h4, h5⟩ := h
  unfold stepA
  repeat' split
  all_goals exact ⟨by first | exact hn | exact h1, by first | exact hn | exact h2, by first | exact hn | exact h3, by first | exact hn | exact h4, by first | exact hn | exact h5⟩
set_option maxHeartbeats 8000000 in
theorem AccessRead_eq (s : ByteArray) (hs : s.size ≤ 1048576) : fnA CC PR 5 [.str s] = some (resA (readA s)) := by
  have hsp := Split_eq s (by omega)
  have hlen := cut_len s
  have hpos := cut_pos s
  have hsm := wAt_small s
  unfold readA
  generalize cut s = ws at *
  apply comes_eq.1
  refine fnA_wp (rs := [.cell 2 23, .tmp 3]) Tryd.func5 rfl rfl (Nat.le_of_ble_eq_true rfl) rfl ?_
  have r1 : Int.tmod (ws.length : Int) 2 = ((ws.length % 2 : Nat) : Int) := by
    rw [Int.tmod_eq_emod_of_nonneg (by omega)]
    omega
  by_cases hev : ws.length % 2 = 0
  · rw [if_pos hev]
    rw [hev] at r1
    have hp0 : (0 : Int) < (ws.length : Int) := by omega
    have hp1 : (ws.map AV.str)[0]? = some (.str (wAt ws 0)) := wAt_in (by omega)
    simp +decide only [go_sem, Nat.reduceAdd, Nat.reduceMul, Nat.reduceSub, Nat.reduceLT, Nat.reduceLeDiff, Nat.reduceEqDiff, Nat.add_assoc, Int.reduceAdd, Int.reduceSub, Int.reduceMul, Int.reduceLT, Int.reduceLE, Int.reduceEq, Int.reduceNeg, strOp_add, hsp, List.length_map, r1, hp0, hp1]
    obtain ⟨R, hR⟩ : ∃ R, R = readP (ws.drop 2) (acc0 (wAt ws 0) (-1)) := ⟨_, rfl⟩
    rw [← hR]
    obtain ⟨K, hK⟩ : ∃ K, ws.length = 2 + 2 * K := ⟨ws.length / 2 - 1, by omega⟩
    refine comes_upto K (fun j st => st.env 0 = .str s ∧ st.env 2 = .ptr 0 0 0 ∧ st.env 3 = .bool false ∧ st.env 4 = strsA ws ∧ st.env 5 = .ptr 1 0 0 ∧ st.env 6 = .int .i64 ((2 + 2 * j : Nat) : Int) ∧ 2 ≤ st.nid ∧ st.sto 0 = ⟨(acc0 ⟨#[]⟩ 0).cs, 0, false, some (23, true)⟩ ∧ ∃ a : Acc, a.In ∧ st.sto 1 = ⟨a.cs, 0, false, some (23, true)⟩ ∧ readP (ws.drop (2 + 2 * j)) a = R) ?_ ?_ _ ?_
    · rintro j st hj ⟨e0, e2, e3, e4, e5, e6, en, s0, a, ha, s1, hRa⟩
      unfold acc0 Acc.cs at s0
      unfold Acc.cs at s1
      dsimp only at s0
      have h1 : 2 + 2 * j < ws.length := by omega
      have h2 : 2 + 2 * j + 1 < ws.length := by omega
      have hw := wAt_in h1
      have hx := wAt_in h2
      have hdr : ws.drop (2 + 2 * j) = wAt ws (2 + 2 * j) :: wAt ws (2 + 2 * j + 1) :: ws.drop (2 + 2 * (j + 1)) := by
        have d1 := List.drop_eq_getElem_cons h1
        have d2 := List.drop_eq_getElem_cons h2
        rw [d1, d2, wAt_get h1, wAt_get h2]
        rfl
      rw [hdr, readP] at hRa
      have hxs := hsm (2 + 2 * j + 1)
      have hq := numberOf_eq (wAt ws (2 + 2 * j + 1)) (by omega)
      have hn64 := numW_i64 (wAt ws (2 + 2 * j + 1)).data.toList
      generalize (numW (wAt ws (2 + 2 * j + 1)).data.toList).1 = n at hq hRa hn64
      generalize (numW (wAt ws (2 + 2 * j + 1)).data.toList).2 = b at hq hRa
      generalize wAt ws (2 + 2 * j + 1) = x at hx hq
      generalize wAt ws (2 + 2 * j) = w at hw hRa
      obtain ⟨I, hI⟩ : ∃ I, I = 2 + 2 * j := ⟨_, rfl⟩
      have hI2 : 2 + 2 * (j + 1) = I + 2 := by omega
      rw [hI2] at hRa ⊢
      rw [← hI] at e6 h1 h2 hw hx
      have w1 : IntKind.wrap .i64 ((I : Int) + 1) = ((I + 1 : Nat) : Int) := wrap_succ (by omega)
      have w2 : IntKind.wrap .i64 ((I : Int) + 2) = ((I + 2 : Nat) : Int) := by
        rw [show (I : Int) + 2 = ((I + 2 : Nat) : Int) by omega]
        exact wrap_nat (by omega)
      have y1 : ((I : Int) < (ws.length : Int)) = True := eq_true (by omega)
      have y2 : (((I + 1 : Nat) : Int) < (ws.length : Int)) = True := eq_true (by omega)
      have y3 : (0 ≤ (I : Int)) = True := eq_true (by omega)
      have y4 : (0 ≤ ((I + 1 : Nat) : Int)) = True := eq_true (by omega)
      simp +decide only [go_sem, Nat.reduceAdd, Nat.reduceMul, Nat.reduceSub, Nat.reduceLT, Nat.reduceLeDiff, Nat.reduceEqDiff, Nat.add_assoc, Int.reduceAdd, Int.reduceSub, Int.reduceMul, Int.reduceLT, Int.reduceLE, Int.reduceEq, Int.reduceNeg, strOp_add, e0, e2, e3, e4, e5, e6, s0, s1, h1, h2, hw, hx, hq, w1, y1, y2, y3, y4, Int.toNat_natCast, List.length_map]
      cases b
      · simp only [Bool.false_eq_true, if_false] at hRa
        simp +decide only [go_sem, Nat.reduceAdd, Nat.reduceMul, Nat.reduceSub, Nat.reduceLT, Nat.reduceLeDiff, Nat.reduceEqDiff, Nat.add_assoc, Int.reduceAdd, Int.reduceSub, Int.reduceMul, Int.reduceLT, Int.reduceLE, Int.reduceEq, Int.reduceNeg, strOp_add, e0, e2, e3, e4, e5, e6, s0, s1]
        rw [← hRa]
        rfl
      · simp only [if_true] at hRa
        simp +decide only [go_sem, Nat.reduceAdd, Nat.reduceMul, Nat.reduceSub, Nat.reduceLT, Nat.reduceLeDiff, Nat.reduceEqDiff, Nat.add_assoc, Int.reduceAdd, Int.reduceSub, Int.reduceMul, Int.reduceLT, Int.reduceLE, Int.reduceEq, Int.reduceNeg, strOp_add, e0, e2, e3, e4, e5, e6, s0, s1, h1, h2, hw, hx, w1, w2, y1, y2, y3, y4, Int.toNat_natCast, List.length_map]
        refine bB_split (fun c0 => ?_) (fun c0 => ?_)
        · simp only [decide_eq_true_eq] at c0
          simp +decide only [go_sem, Nat.reduceAdd, Nat.reduceMul, Nat.reduceSub, Nat.reduceLT, Nat.reduceLeDiff, Nat.reduceEqDiff, Nat.add_assoc, Int.reduceAdd, Int.reduceSub, Int.reduceMul, Int.reduceLT, Int.reduceLE, Int.reduceEq, Int.reduceNeg, strOp_add, e0, e2, e4, e3, e5, e6, s0, s1, w2]
          exact ⟨en, rfl, stepA a w n, stepA_in ha hn64, by simp [Acc.cs, stepA, c0], hRa⟩
        · simp only [decide_eq_false_iff_not] at c0
          simp +decide only [go_sem, Nat.reduceAdd, Nat.reduceMul, Nat.reduceSub, Nat.reduceLT, Nat.reduceLeDiff, Nat.reduceEqDiff, Nat.add_assoc, Int.reduceAdd, Int.reduceSub, Int.reduceMul, Int.reduceLT, Int.reduceLE, Int.reduceEq, Int.reduceNeg, strOp_add, e0, e2, e4, e3, e5, e6, s0, s1, w2]
          refine bB_split (fun c1 => ?_) (fun c1 => ?_)
          · simp only [decide_eq_true_eq] at c1
            simp +decide only [go_sem, Nat.reduceAdd, Nat.reduceMul, Nat.reduceSub, Nat.reduceLT, Nat.reduceLeDiff, Nat.reduceEqDiff, Nat.add_assoc, Int.reduceAdd, Int.reduceSub, Int.reduceMul, Int.reduceLT, Int.reduceLE, Int.reduceEq, Int.reduceNeg, strOp_add, e0, e2, e4, e3, e5, e6, s0, s1, w2]
            exact ⟨en, rfl, stepA a w n, stepA_in ha hn64, by simp [Acc.cs, stepA, c1, c0], hRa⟩
          · simp only [decide_eq_false_iff_not] at c1
            simp +decide only [go_sem, Nat.reduceAdd, Nat.reduceMul, Nat.reduceSub, Nat.reduceLT, Nat.reduceLeDiff, Nat.reduceEqDiff, Nat.add_assoc, Int.reduceAdd, Int.reduceSub, Int.reduceMul, Int.reduceLT, Int.reduceLE, Int.reduceEq, Int.reduceNeg, strOp_add, e0, e2, e4, e3, e5, e6, s0, s1, w2]
            refine bB_split (fun c2 => ?_) (fun c2 => ?_)
            · simp only [decide_eq_true_eq] at c2
              simp +decide only [go_sem, Nat.reduceAdd, Nat.reduceMul, Nat.reduceSub, Nat.reduceLT, Nat.reduceLeDiff, Nat.reduceEqDiff, Nat.add_assoc, Int.reduceAdd, Int.reduceSub, Int.reduceMul, Int.reduceLT, Int.reduceLE, Int.reduceEq, Int.reduceNeg, strOp_add, e0, e2, e4, e3, e5, e6, s0, s1, w2]
              exact ⟨en, rfl, stepA a w n, stepA_in ha hn64, by simp [Acc.cs, stepA, c2, c0, c1], hRa⟩
            · simp only [decide_eq_false_iff_not] at c2
              simp +decide only [go_sem, Nat.reduceAdd, Nat.reduceMul, Nat.reduceSub, Nat.reduceLT, Nat.reduceLeDiff, Nat.reduceEqDiff, Nat.add_assoc, Int.reduceAdd, Int.reduceSub, Int.reduceMul, Int.reduceLT, Int.reduceLE, Int.reduceEq, Int.reduceNeg, strOp_add, e0, e2, e4, e3, e5, e6, s0, s1, w2]
              refine bB_split (fun c3 => ?_) (fun c3 => ?_)
              · simp only [decide_eq_true_eq] at c3
                simp +decide only [go_sem, Nat.reduceAdd, Nat.reduceMul, Nat.reduceSub, Nat.reduceLT, Nat.reduceLeDiff, Nat.reduceEqDiff, Nat.add_assoc, Int.reduceAdd, Int.reduceSub, Int.reduceMul, Int.reduceLT, Int.reduceLE, Int.reduceEq, Int.reduceNeg, strOp_add, e0, e2, e4, e3, e5, e6, s0, s1, w2]
                exact ⟨en, rfl, stepA a w n, stepA_in ha hn64, by simp [Acc.cs, stepA, c3, c0, c1, c2], hRa⟩
              · simp only [decide_eq_false_iff_not] at c3
                simp +decide only [go_sem, Nat.reduceAdd, Nat.reduceMul, Nat.reduceSub, Nat.reduceLT, Nat.reduceLeDiff, Nat.reduceEqDiff, Nat.add_assoc, Int.reduceAdd, Int.reduceSub, Int.reduceMul, Int.reduceLT, Int.reduceLE, Int.reduceEq, Int.reduceNeg, strOp_add, e0, e2, e4, e3, e5, e6, s0, s1, w2]
                refine bB_split (fun c4 => ?_) (fun c4 => ?_)
                · simp only [decide_eq_true_eq] at c4
                  simp +decide only [go_sem, Nat.reduceAdd, Nat.reduceMul, Nat.reduceSub, Nat.reduceLT, Nat.reduceLeDiff, Nat.reduceEqDiff, Nat.add_assoc, Int.reduceAdd, Int.reduceSub, Int.reduceMul, Int.reduceLT, Int.reduceLE, Int.reduceEq, Int.reduceNeg, strOp_add, e0, e2, e4, e3, e5, e6, s0, s1, w2]
                  exact ⟨en, rfl, stepA a w n, stepA_in ha hn64, by simp [Acc.cs, stepA, c4, c0, c1, c2, c3], hRa⟩
                · simp only [decide_eq_false_iff_not] at c4
                  simp +decide only [go_sem, Nat.reduceAdd, Nat.reduceMul, Nat.reduceSub, Nat.reduceLT, Nat.reduceLeDiff, Nat.reduceEqDiff, Nat.add_assoc, Int.reduceAdd, Int.reduceSub, Int.reduceMul, Int.reduceLT, Int.reduceLE, Int.reduceEq, Int.reduceNeg, strOp_add, e0, e2, e4, e3, e5, e6, s0, s1, w2]
                  refine bB_split (fun c5 => ?_) (fun c5 => ?_)
                  · simp only [decide_eq_true_eq] at c5
                    simp +decide only [go_sem, Nat.reduceAdd, Nat.reduceMul, Nat.reduceSub, Nat.reduceLT, Nat.reduceLeDiff, Nat.reduceEqDiff, Nat.add_assoc, Int.reduceAdd, Int.reduceSub, Int.reduceMul, Int.reduceLT, Int.reduceLE, Int.reduceEq, Int.reduceNeg, strOp_add, e0, e2, e4, e3, e5, e6, s0, s1, w2]
                    exact ⟨en, rfl, stepA a w n, stepA_in ha hn64, by simp [Acc.cs, stepA, c5, c0, c1, c2, c3, c4], hRa⟩
                  · simp only [decide_eq_false_iff_not] at c5
                    simp +decide only [go_sem, Nat.reduceAdd, Nat.reduceMul, Nat.reduceSub, Nat.reduceLT, Nat.reduceLeDiff, Nat.reduceEqDiff, Nat.add_assoc, Int.reduceAdd, Int.reduceSub, Int.reduceMul, Int.reduceLT, Int.reduceLE, Int.reduceEq, Int.reduceNeg, strOp_add, e0, e2, e4, e3, e5, e6, s0, s1, w2]
                    refine bB_split (fun c6 => ?_) (fun c6 => ?_)
                    · simp only [decide_eq_true_eq] at c6
                      simp +decide only [go_sem, Nat.reduceAdd, Nat.reduceMul, Nat.reduceSub, Nat.reduceLT, Nat.reduceLeDiff, Nat.reduceEqDiff, Nat.add_assoc, Int.reduceAdd, Int.reduceSub, Int.reduceMul, Int.reduceLT, Int.reduceLE, Int.reduceEq, Int.reduceNeg, strOp_add, e0, e2, e4, e3, e5, e6, s0, s1, w2]
                      exact ⟨en, rfl, stepA a w n, stepA_in ha hn64, by simp [Acc.cs, stepA, c6, c0, c1, c2, c3, c4, c5], hRa⟩
                    · simp only [decide_eq_false_iff_not] at c6
                      simp +decide only [go_sem, Nat.reduceAdd, Nat.reduceMul, Nat.reduceSub, Nat.reduceLT, Nat.reduceLeDiff, Nat.reduceEqDiff, Nat.add_assoc, Int.reduceAdd, Int.reduceSub, Int.reduceMul, Int.reduceLT, Int.reduceLE, Int.reduceEq, Int.reduceNeg, strOp_add, e0, e2, e4, e3, e5, e6, s0, s1, w2]
                      exact ⟨en, rfl, stepA a w n, stepA_in ha hn64, by simp [Acc.cs, stepA, c0, c1, c2, c3, c4, c5, c6], hRa⟩
    · rintro st ⟨e0, e2, e3, e4, e5, e6, en, s0, a, ha, s1, hRa⟩
      rw [List.drop_of_length_le (by omega)] at hRa
      rw [← hRa]
      unfold acc0 Acc.cs at s0
      unfold Acc.cs at s1
      dsimp only at s0
      have ht := accText_eq a.name a.k a.at_ a.size a.turn a.tag a.place ha.1 ha.2.1 ha.2.2.1 ha.2.2.2.1 ha.2.2.2.2
      have y1 : ¬ (((2 + 2 * K : Nat) : Int) < (ws.length : Int)) := by omega
      simp +decide only [go_sem, Nat.reduceAdd, Nat.reduceMul, Nat.reduceSub, Nat.reduceLT, Nat.reduceLeDiff, Nat.reduceEqDiff, Nat.add_assoc, Int.reduceAdd, Int.reduceSub, Int.reduceMul, Int.reduceLT, Int.reduceLE, Int.reduceEq, Int.reduceNeg, strOp_add, e0, e2, e3, e4, e5, e6, s0, s1, y1, ht, hK, List.length_map]
      refine bB_split (fun hB => ?_) (fun hB => ?_)
      · have hB' := of_decide_eq_true hB
        simp +decide only [go_sem, Nat.reduceAdd, Nat.reduceMul, Nat.reduceSub, Nat.reduceLT, Nat.reduceLeDiff, Nat.reduceEqDiff, Nat.add_assoc, Int.reduceAdd, Int.reduceSub, Int.reduceMul, Int.reduceLT, Int.reduceLE, Int.reduceEq, Int.reduceNeg, strOp_add, e0, e2, e3, e4, e5, e6, s0, s1]
        have : told s a = some a := if_pos hB'
        change _ = resA (told s a)
        rw [this]
        rfl
      · have hB' := of_decide_eq_false hB
        simp +decide only [go_sem, Nat.reduceAdd, Nat.reduceMul, Nat.reduceSub, Nat.reduceLT, Nat.reduceLeDiff, Nat.reduceEqDiff, Nat.add_assoc, Int.reduceAdd, Int.reduceSub, Int.reduceMul, Int.reduceLT, Int.reduceLE, Int.reduceEq, Int.reduceNeg, strOp_add, e0, e2, e3, e4, e5, e6, s0, s1]
        have : told s a = none := if_neg hB'
        change _ = resA (told s a)
        rw [this]
        rfl
    · simp +decide only [go_sem, Nat.reduceAdd, Nat.reduceMul, Nat.reduceSub, Nat.reduceLT, Nat.reduceLeDiff, Nat.reduceEqDiff, Nat.add_assoc, Int.reduceAdd, Int.reduceSub, Int.reduceMul, Int.reduceLT, Int.reduceLE, Int.reduceEq, Int.reduceNeg, strOp_add]
      exact ⟨rfl, rfl, acc0 (wAt ws 0) (-1), by unfold acc0 Acc.In i64; simp, rfl, hR.symm⟩
  · rw [if_neg hev]
    have hev' : ¬ ((ws.length % 2 : Nat) : Int) = 0 := by omega
    simp +decide only [go_sem, Nat.reduceAdd, Nat.reduceMul, Nat.reduceSub, Nat.reduceLT, Nat.reduceLeDiff, Nat.reduceEqDiff, Nat.add_assoc, Int.reduceAdd, Int.reduceSub, Int.reduceMul, Int.reduceLT, Int.reduceLE, Int.reduceEq, Int.reduceNeg, strOp_add, hsp, List.length_map, r1, hev']
    rfl
end Go.Ev.Tryd
