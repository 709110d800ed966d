/- Part of the proof of a statement about the given program: Y11I. No condition of its own. -/
import Derived.Test.YthlmbapkgblnkaaDoorY1I
namespace Go.Ev.Tryd
open Go.Proofs
set_option maxRecDepth 10000
set_option linter.unusedSimpArgs false
set_option linter.unusedVariables false
attribute [local congr] comes_congr bB_congr gK_congr gdK_congr

/-- The first place at which something holds, or -1. -/
def firstI {α : Type} (p : α → Bool) (l : List α) : Int := match l.findIdx? p with | some i => i | none => -1
theorem firstI_none {α : Type} {p : α → Bool} {l : List α} (h : ∀ i, (hi : i < l.length) → p l[i] = false) : firstI p l = -1 := by
  unfold firstI
  have : l.findIdx? p = none := by
    rw [List.findIdx?_eq_none_iff]
    intro x hx
    obtain ⟨i, hi, rfl⟩ := List.mem_iff_getElem.1 hx
    exact h i hi
  rw [this]
theorem firstI_some {α : Type} {p : α → Bool} {l : List α} {i : Nat} (hi : i < l.length) (h : p l[i] = true) (hb : ∀ j, (hj : j < i) → p (l[j]'(by omega)) = false) : firstI p l = i := by
  unfold firstI
  have : l.findIdx? p = some i := by
    rw [List.findIdx?_eq_some_iff_getElem]
    exact ⟨hi, h, fun j hj => by simp [hb j hj]⟩
  rw [this]
theorem firstI_ge {α : Type} {p : α → Bool} {l : List α} : (0 ≤ firstI p l) ↔ l.any p = true := by
  unfold firstI
  cases h : l.findIdx? p with
  | none =>
    rw [List.findIdx?_eq_none_iff] at h
    simp only [List.any_eq_true]
    constructor
    · intro h0; omega
    · rintro ⟨x, hx, hp⟩
      rw [h x hx] at hp
      cases hp
  | some i =>
    obtain ⟨hi, hp, _⟩ := List.findIdx?_eq_some_iff_getElem.1 h
    simp only [List.any_eq_true]
    exact ⟨fun _ => ⟨_, List.getElem_mem hi, hp⟩, fun _ => by omega⟩
/-- What holds of none, by a function that may look into the caller's memory. -/
theorem IndexFunc_wp (l : List Nod) (f : FuncId) (cap : List AV) (hcap : cap.any AV.loud = true) (p : Nod → Bool) (I : Mem → Prop) (hl : l.length ≤ 1099511627776)
    (hf : ∀ x ∈ l, ∀ m, I m → ∀ Q : AV × Mem → Prop, (∀ m', I m' → Q (.bool (p x), m')) → Comes (fnI CC PR f (x.av :: cap) m) Q) (m : Mem) (hm : I m) (Q : AV × Mem → Prop) (hQ : ∀ m', I m' → Q (.int .i64 (firstI p l), m')) :
    Comes (fnI CC PR 74 [.slice 6 (l.map Nod.av), .fn f cap] m) Q := by
  refine fnI_wp (rs := [.tmp 4]) Tryd.func74 rfl rfl (Nat.le_of_ble_eq_true rfl) rfl rfl ?_
  simp +decide only [go_sem, Nat.reduceAdd, Nat.reduceMul, Nat.reduceSub, Nat.reduceLT, Nat.reduceLeDiff, Nat.reduceEqDiff, Nat.add_assoc, Int.reduceAdd, Int.reduceSub, Int.reduceMul, Int.reduceLT, Int.reduceLE, Int.reduceEq, Int.reduceNeg, strOp_add, List.length_map]
  refine comes_upto l.length (fun i st => st.env 0 = .slice 6 (l.map Nod.av) ∧ st.env 1 = .fn f cap ∧ st.env 7 = .int .i64 l.length ∧ st.env 8 = .int .i64 i ∧ I st.toMem ∧ ∀ j, (hj : j < l.length) → j < i → p l[j] = false) ?_ ?_ _ ?_
  · rintro i st hi ⟨e0, e1, e7, e8, hI, hj⟩
    obtain ⟨cs, hcs, hcl⟩ : ∃ cs, (l[i]).av = .agg cs ∧ cs.length = 6 := ⟨_, nav_eta _, rfl⟩
    have hck : (l[i]).av.cells = cs := by rw [hcs]; rfl
    have htk : cs.take 6 = cs := List.take_of_length_le (by omega)
    have h5 : 6 ≤ cs.length := by omega
    have ha := nav_at hi
    rw [hcs] at ha
    simp +decide only [go_sem, Nat.reduceAdd, Nat.reduceMul, Nat.reduceSub, Nat.reduceLT, Nat.reduceLeDiff, Nat.reduceEqDiff, Nat.add_assoc, Int.reduceAdd, Int.reduceSub, Int.reduceMul, Int.reduceLT, Int.reduceLE, Int.reduceEq, Int.reduceNeg, strOp_add, e0, e1, e7, e8, hi, List.length_map, ha, htk, h5, hcap, AV.cells, or_true]
    rw [← hcs]
    refine hf _ (List.getElem_mem hi) _ hI _ fun m' hm' => ?_
    cases hB : p l[i]
    · simp +decide only [go_sem, Nat.reduceAdd, Nat.reduceMul, Nat.reduceSub, Nat.reduceLT, Nat.reduceLeDiff, Nat.reduceEqDiff, Nat.add_assoc, Int.reduceAdd, Int.reduceSub, Int.reduceMul, Int.reduceLT, Int.reduceLE, Int.reduceEq, Int.reduceNeg, strOp_add, e0, e1, e7, e8, wrap_succ (show i + 1 ≤ 9223372036854775807 by omega)]
      refine ⟨hm', fun j h1 h2 => ?_⟩
      rcases Nat.lt_or_ge j i with h3 | h3
      · exact hj j h1 h3
      · have : j = i := by omega
        subst this
        exact hB
    · simp +decide only [go_sem, Nat.reduceAdd, Nat.reduceMul, Nat.reduceSub, Nat.reduceLT, Nat.reduceLeDiff, Nat.reduceEqDiff, Nat.add_assoc, Int.reduceAdd, Int.reduceSub, Int.reduceMul, Int.reduceLT, Int.reduceLE, Int.reduceEq, Int.reduceNeg, strOp_add, e0, e1, e7, e8]
      rw [← firstI_some hi hB (fun j hji => hj j (by omega) hji)]
      exact hQ _ hm'
  · rintro st ⟨e0, e1, e7, e8, hI, hj⟩
    simp +decide only [go_sem, Nat.reduceAdd, Nat.reduceMul, Nat.reduceSub, Nat.reduceLT, Nat.reduceLeDiff, Nat.reduceEqDiff, Nat.add_assoc, Int.reduceAdd, Int.reduceSub, Int.reduceMul, Int.reduceLT, Int.reduceLE, Int.reduceEq, Int.reduceNeg, strOp_add, e0, e1, e7, e8]
    rw [← firstI_none (p := p) (fun i hi => hj i hi hi)]
    exact hQ _ hI
  · simp +decide only [go_sem, Nat.reduceAdd, Nat.reduceMul, Nat.reduceSub, Nat.reduceLT, Nat.reduceLeDiff, Nat.reduceEqDiff, Nat.add_assoc, Int.reduceAdd, Int.reduceSub, Int.reduceMul, Int.reduceLT, Int.reduceLE, Int.reduceEq, Int.reduceNeg, strOp_add]
    simp [hm]
theorem ContainsFunc_wp (l : List Nod) (f : FuncId) (cap : List AV) (hcap : cap.any AV.loud = true) (p : Nod → Bool) (I : Mem → Prop) (hl : l.length ≤ 1099511627776)
    (hf : ∀ x ∈ l, ∀ m, I m → ∀ Q : AV × Mem → Prop, (∀ m', I m' → Q (.bool (p x), m')) → Comes (fnI CC PR f (x.av :: cap) m) Q) (m : Mem) (hm : I m) (Q : AV × Mem → Prop) (hQ : ∀ m', I m' → Q (.bool (l.any p), m')) :
    Comes (fnI CC PR 72 [.slice 6 (l.map Nod.av), .fn f cap] m) Q := by
  have hce : cap.isEmpty = false := by
    cases cap with
    | nil => simp at hcap
    | cons => rfl
  refine fnI_wp (rs := [.tmp 4]) Tryd.func72 rfl rfl (Nat.le_of_ble_eq_true rfl) rfl rfl ?_
  simp +decide only [go_sem, Nat.reduceAdd, Nat.reduceMul, Nat.reduceSub, Nat.reduceLT, Nat.reduceLeDiff, Nat.reduceEqDiff, Nat.add_assoc, Int.reduceAdd, Int.reduceSub, Int.reduceMul, Int.reduceLT, Int.reduceLE, Int.reduceEq, Int.reduceNeg, strOp_add, hcap, hce, or_true]
  refine IndexFunc_wp l f cap hcap p I hl hf _ hm _ fun m' hm' => ?_
  simp +decide only [go_sem, Nat.reduceAdd, Nat.reduceMul, Nat.reduceSub, Nat.reduceLT, Nat.reduceLeDiff, Nat.reduceEqDiff, Nat.add_assoc, Int.reduceAdd, Int.reduceSub, Int.reduceMul, Int.reduceLT, Int.reduceLE, Int.reduceEq, Int.reduceNeg, strOp_add]
  have e : decide (0 ≤ firstI p l) = l.any p := by
    rw [Bool.eq_iff_iff, decide_eq_true_eq]
    exact firstI_ge
  rw [e]
  exact hQ _ hm'
/-- The bits of a size. -/
def bitsN (s : Int) : Nat := match s with
  | 1 => 1
  | 2 => 8
  | 3 => 16
  | 4 => 32
  | 5 => 64
  | 6 => 64
  | _ => 0
theorem dB (k c : Nat) (hk : k ≤ 64) (hc : c ≤ 12800) : IntKind.wrap .i64 ((IntKind.wrap .i64 (IntKind.wrap .i64 ((k : Int) * (c : Int)) + 7)).tdiv 8) = (((k * c + 7) / 8 : Nat) : Int) := by
  have hm : k * c ≤ 64 * 12800 := Nat.mul_le_mul hk hc
  rw [show ((k : Int) * (c : Int)) = ((k * c : Nat) : Int) from (Int.natCast_mul k c).symm]
  generalize k * c = x at *
  rw [wrap_id (x := (x : Int)) (by omega) (by omega), wrap_id (x := (x : Int) + 7) (by omega) (by omega), show ((x : Int) + 7) = ((x + 7 : Nat) : Int) from rfl, show (((x + 7 : Nat) : Int).tdiv 8) = (((x + 7) / 8 : Nat) : Int) from rfl, wrap_id (by omega) (by omega)]
theorem dataBytes_eq (s c : Int) (h : 0 ≤ s ∧ s ≤ 5) (hc : 0 ≤ c ∧ c ≤ 12800) : fnA CC PR 69 [.int .i64 s, .int .i64 c] = some (.int .i64 (((bitsN s * c.toNat + 7) / 8 : Nat) : Int)) := by
  obtain ⟨c, rfl⟩ : ∃ k : Nat, c = k := ⟨c.toNat, by omega⟩
  have hc' : c ≤ 12800 := by omega
  have hs : s = 0 ∨ s = 1 ∨ s = 2 ∨ s = 3 ∨ s = 4 ∨ s = 5 := by omega
  apply comes_eq.1
  refine fnA_wp (rs := [.tmp 4]) Tryd.func69 rfl rfl (Nat.le_of_ble_eq_true rfl) rfl ?_
  rcases hs with rfl | rfl | rfl | rfl | rfl | rfl
  all_goals simp +decide only [go_sem, Nat.reduceAdd, Nat.reduceMul, Nat.reduceSub, Nat.reduceLT, Nat.reduceLeDiff, Nat.reduceEqDiff, Nat.add_assoc, Int.reduceAdd, Int.reduceSub, Int.reduceMul, Int.reduceLT, Int.reduceLE, Int.reduceEq, Int.reduceNeg, strOp_add]
  all_goals congr 1
  · exact dB 0 c (by omega) hc'
  · exact dB 1 c (by omega) hc'
  · exact dB 8 c (by omega) hc'
  · exact dB 16 c (by omega) hc'
  · exact dB 32 c (by omega) hc'
  · exact dB 64 c (by omega) hc'
theorem l4Bytes_eq (s c : Int) (h : 0 ≤ s ∧ s ≤ 5) (hc : 0 ≤ c ∧ c ≤ 12800) : fnA CC PR 73 [.int .i64 s, .int .i64 c] = some (.int .i64 (((bitsN s * c.toNat + 7) / 8 : Nat) : Int)) := by
  obtain ⟨c, rfl⟩ : ∃ k : Nat, c = k := ⟨c.toNat, by omega⟩
  have hc' : c ≤ 12800 := by omega
  have hs : s = 0 ∨ s = 1 ∨ s = 2 ∨ s = 3 ∨ s = 4 ∨ s = 5 := by omega
  have hq : fnA CC PR 75 [.int .i64 s] = some (.int .i64 (bitsN s : Nat)) := by
    apply comes_eq.1
    refine fnA_wp (rs := [.tmp 2]) Tryd.func75 rfl rfl (Nat.le_of_ble_eq_true rfl) rfl ?_
    rcases hs with rfl | rfl | rfl | rfl | rfl | rfl
    all_goals simp +decide only [go_sem, Nat.reduceAdd, Nat.reduceMul, Nat.reduceSub, Nat.reduceLT, Nat.reduceLeDiff, Nat.reduceEqDiff, Nat.add_assoc, Int.reduceAdd, Int.reduceSub, Int.reduceMul, Int.reduceLT, Int.reduceLE, Int.reduceEq, Int.reduceNeg, strOp_add]
    all_goals rfl
  apply comes_eq.1
  refine fnA_wp (rs := [.tmp 4]) Tryd.func73 rfl rfl (Nat.le_of_ble_eq_true rfl) rfl ?_
  simp +decide only [go_sem, Nat.reduceAdd, Nat.reduceMul, Nat.reduceSub, Nat.reduceLT, Nat.reduceLeDiff, Nat.reduceEqDiff, Nat.add_assoc, Int.reduceAdd, Int.reduceSub, Int.reduceMul, Int.reduceLT, Int.reduceLE, Int.reduceEq, Int.reduceNeg, strOp_add, hq]
  congr 1
  exact dB (bitsN s) c (by rcases hs with rfl | rfl | rfl | rfl | rfl | rfl <;> decide) hc'
theorem fd (x k : Nat) : ((x : Int)).fdiv (2 ^ k) = ((x / 2 ^ k : Nat) : Int) := by
  rw [show ((2 : Int) ^ k) = ((2 ^ k : Nat) : Int) from by simp, Int.fdiv_eq_ediv_of_nonneg _ (Int.natCast_nonneg _)]
  rfl
theorem spare_eq (t : ByteArray) (b : Nat) (hb : b ≤ 819200) (h : b % 8 ≠ 0 → 1 ≤ t.size) (ht : t.size ≤ 1048576) : fnA CC PR 70 [.str t, .int .i64 b] = some (.bool (decide (b % 8 = 0) || decide ((sget t (t.size - 1)).toNat / 2 ^ (b % 8) = 0))) := by
  apply comes_eq.1
  refine fnA_wp (rs := [.tmp 4]) Tryd.func70 rfl rfl (Nat.le_of_ble_eq_true rfl) rfl ?_
  have m1 : ((b : Int).tmod 8) = ((b % 8 : Nat) : Int) := rfl
  have m2 : IntKind.wrap .i64 ((b % 8 : Nat) : Int) = ((b % 8 : Nat) : Int) := wrap_id (by omega) (by omega)
  by_cases h0 : b % 8 = 0
  · have m3 : (((b % 8 : Nat) : Int) = 0) = True := eq_true (by omega)
    simp +decide only [go_sem, Nat.reduceAdd, Nat.reduceMul, Nat.reduceSub, Nat.reduceLT, Nat.reduceLeDiff, Nat.reduceEqDiff, Nat.add_assoc, Int.reduceAdd, Int.reduceSub, Int.reduceMul, Int.reduceLT, Int.reduceLE, Int.reduceEq, Int.reduceNeg, strOp_add, m1, m2, m3]
    simp [h0]
  · have m3 : (((b % 8 : Nat) : Int) = 0) = False := eq_false (by omega)
    have ht1 := h h0
    have w1 : IntKind.wrap .i64 ((t.size : Int) - 1) = ((t.size - 1 : Nat) : Int) := by rw [wrap_id (by omega) (by omega)]; omega
    have l1 : t.size - 1 < t.size := by omega
    have m4 : (((b % 8 : Nat) : Int) < 0) = False := eq_false (by omega)
    have m5 : min (b % 8) 8 = b % 8 := Nat.min_eq_left (by omega)
    have m6 := fd (sget t (t.size - 1)).toNat (b % 8)
    have m7 : decide ((((sget t (t.size - 1)).toNat / 2 ^ (b % 8) : Nat) : Int) = 0) = (decide (b % 8 = 0) || decide ((sget t (t.size - 1)).toNat / 2 ^ (b % 8) = 0)) := by
      rw [decide_eq_false h0, Bool.false_or]
      congr 1
      exact propext ⟨fun e => by omega, fun e => by omega⟩
    simp +decide only [go_sem, Nat.reduceAdd, Nat.reduceMul, Nat.reduceSub, Nat.reduceLT, Nat.reduceLeDiff, Nat.reduceEqDiff, Nat.add_assoc, Int.reduceAdd, Int.reduceSub, Int.reduceMul, Int.reduceLT, Int.reduceLE, Int.reduceEq, Int.reduceNeg, strOp_add, m1, m2, m3, w1, l1, s_at l1, m4, m5, m6]
    exact congrArg AV.bool m7
end Go.Ev.Tryd
