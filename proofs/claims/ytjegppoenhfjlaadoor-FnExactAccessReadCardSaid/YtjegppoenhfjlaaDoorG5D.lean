/- Part of the proof of a statement about the given program: G5D. No condition of its own. -/
import Derived.Test.YtjegppoenhfjlaaDoorG4D
namespace Go.Ev.Tryd
open Go.Proofs
set_option maxRecDepth 10000
set_option linter.unusedSimpArgs false
set_option linter.unusedVariables false
attribute [local congr] comes_congr bB_congr gK_congr gdK_congr
theorem acc_in {a : Acc} (h : a.ok = true) : a.In ∧ a.name.size ≤ 10 := by
  refine ⟨?_, accOk_size h⟩
  obtain ⟨x0, x1, x2, x3, x4, x5, x6⟩ := a
  simp only [Acc.ok, accOk, Bool.and_eq_true, decide_eq_true_eq] at h
  obtain ⟨_, ht, hx2, hk⟩ := h
  simp only [tagB, Bool.and_eq_true, Bool.or_eq_true, decide_eq_true_eq] at ht
  unfold Acc.In i64
  dsimp only
  by_cases h1 : x1 = 1
  · rw [if_pos h1] at hk
    simp only [Bool.and_eq_true, decide_eq_true_eq] at hk
    omega
  · rw [if_neg h1] at hk
    by_cases h2 : x1 = 2
    · rw [if_pos h2] at hk
      simp only [Bool.and_eq_true, decide_eq_true_eq, isShort] at hk
      have := isSize_iff.1 hk.1
      omega
    · rw [if_neg h2] at hk
      by_cases h3 : x1 = 3
      · rw [if_pos h3] at hk
        simp only [Bool.and_eq_true, decide_eq_true_eq] at hk
        omega
      · rw [if_neg h3] at hk
        cases hk
/-- The reference's number at a place. -/
def nmS (ws : List ByteArray) (k : Nat) : Int × Bool := numS (wAt ws k).data.toList
def notS (ws : List ByteArray) (k : Nat) (x : ByteArray) : Bool := decide (¬ wAt ws k = x)
def headS (ws : List ByteArray) : Acc × Nat × Bool :=
  if wAt ws 2 = ⟨#[98, 105, 116]⟩ then (⟨wAt ws 0, 1, (nmS ws 3).1, 0, (nmS ws 5).1, -1, 0⟩, 6, ((notS ws 1 ⟨#[105, 115]⟩ || (nmS ws 3).2) || notS ws 4 ⟨#[116, 117, 114, 110, 101, 100]⟩) || (nmS ws 5).2)
  else if wAt ws 2 = ⟨#[98, 121, 116, 101, 115]⟩ then (⟨wAt ws 0, 2, (nmS ws 3).1, (nmS ws 5).1, (nmS ws 7).1, -1, 0⟩, 8, ((((notS ws 1 ⟨#[105, 115]⟩ || (nmS ws 3).2) || notS ws 4 ⟨#[115, 105, 122, 101]⟩) || (nmS ws 5).2) || notS ws 6 ⟨#[116, 117, 114, 110, 101, 100]⟩) || (nmS ws 7).2)
  else if wAt ws 2 = ⟨#[112, 111, 105, 110, 116, 101, 114]⟩ then (⟨wAt ws 0, 3, (nmS ws 3).1, 0, 0, -1, 0⟩, 4, notS ws 1 ⟨#[105, 115]⟩ || (nmS ws 3).2)
  else (⟨wAt ws 0, 0, 0, 0, 0, -1, 0⟩, 3, notS ws 1 ⟨#[105, 115]⟩)
def tailS (ws : List ByteArray) (p : Acc × Nat × Bool) : Acc × Bool :=
  if wAt ws p.2.1 = ⟨#[105, 102]⟩ then ({ p.1 with tag := (nmS ws (p.2.1 + 1)).1, place := (nmS ws (p.2.1 + 3)).1 }, ((p.2.2 || (nmS ws (p.2.1 + 1)).2) || notS ws (p.2.1 + 2) ⟨#[116, 101, 108, 108, 115]⟩) || (nmS ws (p.2.1 + 3)).2)
  else (p.1, p.2.2)
/-- What the reference reads. -/
def readS (s : ByteArray) : Option Acc := if (tailS (cut s) (headS (cut s))).2 = true then none else if (tailS (cut s) (headS (cut s))).1.ok = true then (if (tailS (cut s) (headS (cut s))).1.text = s then some (tailS (cut s) (headS (cut s))).1 else none) else none
/-- The state of the reading. -/
def SpI (A : Nat) (ws : List ByteArray) (a : Acc) (k : Nat) (bad : Bool) (m : Mem) : Prop := WRd m 1 ws k bad ∧ 2 ≤ A ∧ A < m.nid ∧ m.sto A = ⟨a.cs, 0, false, some (23, true)⟩ ∧ m.sto 0 = ⟨(acc0 ⟨#[]⟩ 0).cs, 0, false, some (23, true)⟩
theorem SpI.fr {A : Nat} {ws : List ByteArray} {a : Acc} {k k' : Nat} {bad bad' : Bool} {m m' : Mem} (h : SpI A ws a k bad m) (h1 : WRd m' 1 ws k' bad') (h2 : FrW m m' 1) : SpI A ws a k' bad' m' :=
  ⟨h1, h.2.1, by have := h.2.2.1; have := h2.1; omega, by rw [h2.2 A h.2.2.1 (by have := h.2.1; omega)]; exact h.2.2.2.1, by rw [h2.2 0 (by have := h.2.1; have := h.2.2.1; omega) (by omega)]; exact h.2.2.2.2⟩
theorem SpI.put {A : Nat} {ws : List ByteArray} {a a' : Acc} {k : Nat} {bad : Bool} {m : Mem} (h : SpI A ws a k bad m) : SpI A ws a' k bad ⟨upd m.sto A ⟨a'.cs, 0, false, some (23, true)⟩, m.nid⟩ := by
  obtain ⟨⟨h1, ty, h2⟩, h3, h4, h5, h6⟩ := h
  exact ⟨⟨h1, ty, by show upd _ _ _ _ = _; rw [upd_miss _ _ _ _ (by omega)]; exact h2⟩, h3, h4, upd_hit _ _ _, by show upd _ _ _ _ = _; rw [upd_miss _ _ _ _ (by omega)]; exact h6⟩
set_option maxHeartbeats 8000000 in
theorem specRead_eq (s : ByteArray) (hs : s.size ≤ 1048576) : fnA CC PR 4 [.str s] = some (resA (readS s)) := by
  have hsp := l8Cut_eq s (by omega)
  have hsm := wAt_small s
  unfold readS
  generalize cut s = ws at *
  apply comes_eq.1
  refine fnA_wp (rs := [.cell 2 23, .tmp 3]) Tryd.func4 rfl rfl (Nat.le_of_ble_eq_true rfl) rfl ?_
  simp +decide only [go_sem, Nat.reduceAdd, Nat.reduceMul, Nat.reduceSub, Nat.reduceLT, Nat.reduceLeDiff, Nat.reduceEqDiff, Nat.add_assoc, Int.reduceAdd, Int.reduceSub, Int.reduceMul, Int.reduceLT, Int.reduceLE, Int.reduceEq, Int.reduceNeg, strOp_add, hsp]
  refine next_wp _ 1 ws 0 false ⟨Nat.lt_succ_self _, none, rfl⟩ (by omega) _ fun m1 h1 h2 => ?_
  have n1 : 2 ≤ m1.nid := h2.1
  have f0 := h2.2 0 (by show 0 < 2; omega) (by omega)
  have f0' : m1.sto 0 = ⟨(acc0 ⟨#[]⟩ 0).cs, 0, false, some (23, true)⟩ := by
    rw [f0]
    dsimp only
    simp (disch := omega) only [upd_hit, upd_miss]
    rfl
  simp +decide (disch := first | decide | omega) only [go_sem, Nat.reduceAdd, Nat.reduceMul, Nat.reduceSub, Nat.reduceLT, Nat.reduceLeDiff, Nat.reduceEqDiff, Nat.add_assoc, Int.reduceAdd, Int.reduceSub, Int.reduceMul, Int.reduceLT, Int.reduceLE, Int.reduceEq, Int.reduceNeg, strOp_add, f0']
  obtain ⟨A, hA⟩ : ∃ A, A = m1.nid := ⟨_, rfl⟩
  have S0 : SpI A ws (acc0 (wAt ws 0) (-1)) 1 false ⟨upd (upd m1.sto m1.nid ⟨(acc0 ⟨#[]⟩ 0).cs, 0, false, some (23, true)⟩) m1.nid ⟨(acc0 (wAt ws 0) (-1)).cs, 0, false, some (23, true)⟩, m1.nid + 1⟩ := by
    obtain ⟨k1, ty, k2⟩ := h1
    refine ⟨⟨by show 1 < m1.nid + 1; omega, ty, ?_⟩, by omega, by show A < m1.nid + 1; omega, ?_, ?_⟩
    · dsimp only
      simp (disch := omega) only [upd_hit, upd_miss]
      exact k2
    · rw [hA]
      exact upd_hit _ _ _
    · dsimp only
      simp (disch := omega) only [upd_hit, upd_miss]
      exact f0'
  rw [← hA] at S0 ⊢
  clear f0 f0' h1 h2
  refine must_wp ⟨#[105, 115]⟩ _ 1 ws (1) _ S0.1 (by omega) _ fun m101 h101 g101 => ?_
  have S101 := S0.fr h101 g101
  change SpI A ws (⟨wAt ws 0, 0, 0, 0, 0, -1, 0⟩ : Acc) (1 + 1) (false || notS ws (1) ⟨#[105, 115]⟩) _ at S101
  clear h101 g101
  simp +decide (disch := first | decide | omega) only [go_sem, Nat.reduceAdd, Nat.reduceMul, Nat.reduceSub, Nat.reduceLT, Nat.reduceLeDiff, Nat.reduceEqDiff, Nat.add_assoc, Int.reduceAdd, Int.reduceSub, Int.reduceMul, Int.reduceLT, Int.reduceLE, Int.reduceEq, Int.reduceNeg, strOp_add]
  refine next_wp _ 1 ws (2) _ S101.1 (by omega) _ fun m102 h102 g102 => ?_
  have S102 := S101.fr h102 g102
  clear h102 g102
  simp +decide (disch := first | decide | omega) only [go_sem, Nat.reduceAdd, Nat.reduceMul, Nat.reduceSub, Nat.reduceLT, Nat.reduceLeDiff, Nat.reduceEqDiff, Nat.add_assoc, Int.reduceAdd, Int.reduceSub, Int.reduceMul, Int.reduceLT, Int.reduceLE, Int.reduceEq, Int.reduceNeg, strOp_add]
  refine bB_merge (fun r => ∃ s', r = (Ex.normal, s') ∧ s'.env 0 = .str s ∧ s'.env 2 = .ptr 0 0 0 ∧ s'.env 4 = .ptr 1 0 0 ∧ s'.env 5 = .ptr A 0 0 ∧ SpI A ws (headS ws).1 (headS ws).2.1 (headS ws).2.2 s'.toMem) (fun hB => ?_) (fun hB => ?_) ?_
  · have q1 := of_decide_eq_true hB
    have c103 := S102.2.2.2.1
    dsimp only [Acc.cs] at c103
    simp +decide (disch := first | decide | omega) only [go_sem, Nat.reduceAdd, Nat.reduceMul, Nat.reduceSub, Nat.reduceLT, Nat.reduceLeDiff, Nat.reduceEqDiff, Nat.add_assoc, Int.reduceAdd, Int.reduceSub, Int.reduceMul, Int.reduceLT, Int.reduceLE, Int.reduceEq, Int.reduceNeg, strOp_add, c103]
    have T103 := S102.put (a' := (⟨wAt ws 0, 1, 0, 0, 0, -1, 0⟩ : Acc))
    refine num_wp _ 1 ws (3) _ T103.1 (by omega) (by have := hsm (3); omega) _ fun m104 h104 g104 => ?_
    have S104 := T103.fr h104 g104
    have c104 := S104.2.2.2.1
    dsimp only [Acc.cs] at c104
    clear h104 g104
    simp +decide (disch := first | decide | omega) only [go_sem, Nat.reduceAdd, Nat.reduceMul, Nat.reduceSub, Nat.reduceLT, Nat.reduceLeDiff, Nat.reduceEqDiff, Nat.add_assoc, Int.reduceAdd, Int.reduceSub, Int.reduceMul, Int.reduceLT, Int.reduceLE, Int.reduceEq, Int.reduceNeg, strOp_add, c104]
    have T104 := S104.put (a' := (⟨wAt ws 0, 1, (nmS ws (3)).1, 0, 0, -1, 0⟩ : Acc))
    change SpI A ws (⟨wAt ws 0, 1, (nmS ws (3)).1, 0, 0, -1, 0⟩ : Acc) (3 + 1) ((false || notS ws (1) ⟨#[105, 115]⟩) || (nmS ws (3)).2) _ at T104
    refine must_wp ⟨#[116, 117, 114, 110, 101, 100]⟩ _ 1 ws (4) _ T104.1 (by omega) _ fun m105 h105 g105 => ?_
    have S105 := T104.fr h105 g105
    change SpI A ws (⟨wAt ws 0, 1, (nmS ws (3)).1, 0, 0, -1, 0⟩ : Acc) (4 + 1) (((false || notS ws (1) ⟨#[105, 115]⟩) || (nmS ws (3)).2) || notS ws (4) ⟨#[116, 117, 114, 110, 101, 100]⟩) _ at S105
    clear h105 g105
    simp +decide (disch := first | decide | omega) only [go_sem, Nat.reduceAdd, Nat.reduceMul, Nat.reduceSub, Nat.reduceLT, Nat.reduceLeDiff, Nat.reduceEqDiff, Nat.add_assoc, Int.reduceAdd, Int.reduceSub, Int.reduceMul, Int.reduceLT, Int.reduceLE, Int.reduceEq, Int.reduceNeg, strOp_add]
    refine num_wp _ 1 ws (5) _ S105.1 (by omega) (by have := hsm (5); omega) _ fun m106 h106 g106 => ?_
    have S106 := S105.fr h106 g106
    have c106 := S106.2.2.2.1
    dsimp only [Acc.cs] at c106
    clear h106 g106
    simp +decide (disch := first | decide | omega) only [go_sem, Nat.reduceAdd, Nat.reduceMul, Nat.reduceSub, Nat.reduceLT, Nat.reduceLeDiff, Nat.reduceEqDiff, Nat.add_assoc, Int.reduceAdd, Int.reduceSub, Int.reduceMul, Int.reduceLT, Int.reduceLE, Int.reduceEq, Int.reduceNeg, strOp_add, c106]
    have T106 := S106.put (a' := (⟨wAt ws 0, 1, (nmS ws (3)).1, 0, (nmS ws (5)).1, -1, 0⟩ : Acc))
    change SpI A ws (⟨wAt ws 0, 1, (nmS ws (3)).1, 0, (nmS ws (5)).1, -1, 0⟩ : Acc) (5 + 1) ((((false || notS ws (1) ⟨#[105, 115]⟩) || (nmS ws (3)).2) || notS ws (4) ⟨#[116, 117, 114, 110, 101, 100]⟩) || (nmS ws (5)).2) _ at T106
    refine ⟨_, rfl, ?_⟩
    simp +decide only [go_sem, Nat.reduceAdd, Nat.reduceMul, Nat.reduceSub, Nat.reduceLT, Nat.reduceLeDiff, Nat.reduceEqDiff, Nat.add_assoc, Int.reduceAdd, Int.reduceSub, Int.reduceMul, Int.reduceLT, Int.reduceLE, Int.reduceEq, Int.reduceNeg, strOp_add]
    have hH : headS ws = ((⟨wAt ws 0, 1, (nmS ws (3)).1, 0, (nmS ws (5)).1, -1, 0⟩ : Acc), 6, ((((false || notS ws (1) ⟨#[105, 115]⟩) || (nmS ws (3)).2) || notS ws (4) ⟨#[116, 117, 114, 110, 101, 100]⟩) || (nmS ws (5)).2)) := by simp [headS, q1]
    rw [hH]
    exact T106
  · have q1 := of_decide_eq_false hB
    simp +decide (disch := first | decide | omega) only [go_sem, Nat.reduceAdd, Nat.reduceMul, Nat.reduceSub, Nat.reduceLT, Nat.reduceLeDiff, Nat.reduceEqDiff, Nat.add_assoc, Int.reduceAdd, Int.reduceSub, Int.reduceMul, Int.reduceLT, Int.reduceLE, Int.reduceEq, Int.reduceNeg, strOp_add]
    refine bB_split (fun hB2 => ?_) (fun hB2 => ?_)
    · have q2 := of_decide_eq_true hB2
      have c107 := S102.2.2.2.1
      dsimp only [Acc.cs] at c107
      simp +decide (disch := first | decide | omega) only [go_sem, Nat.reduceAdd, Nat.reduceMul, Nat.reduceSub, Nat.reduceLT, Nat.reduceLeDiff, Nat.reduceEqDiff, Nat.add_assoc, Int.reduceAdd, Int.reduceSub, Int.reduceMul, Int.reduceLT, Int.reduceLE, Int.reduceEq, Int.reduceNeg, strOp_add, c107]
      have T107 := S102.put (a' := (⟨wAt ws 0, 2, 0, 0, 0, -1, 0⟩ : Acc))
      refine num_wp _ 1 ws (3) _ T107.1 (by omega) (by have := hsm (3); omega) _ fun m108 h108 g108 => ?_
      have S108 := T107.fr h108 g108
      have c108 := S108.2.2.2.1
      dsimp only [Acc.cs] at c108
      clear h108 g108
      simp +decide (disch := first | decide | omega) only [go_sem, Nat.reduceAdd, Nat.reduceMul, Nat.reduceSub, Nat.reduceLT, Nat.reduceLeDiff, Nat.reduceEqDiff, Nat.add_assoc, Int.reduceAdd, Int.reduceSub, Int.reduceMul, Int.reduceLT, Int.reduceLE, Int.reduceEq, Int.reduceNeg, strOp_add, c108]
      have T108 := S108.put (a' := (⟨wAt ws 0, 2, (nmS ws (3)).1, 0, 0, -1, 0⟩ : Acc))
      change SpI A ws (⟨wAt ws 0, 2, (nmS ws (3)).1, 0, 0, -1, 0⟩ : Acc) (3 + 1) ((false || notS ws (1) ⟨#[105, 115]⟩) || (nmS ws (3)).2) _ at T108
      refine must_wp ⟨#[115, 105, 122, 101]⟩ _ 1 ws (4) _ T108.1 (by omega) _ fun m109 h109 g109 => ?_
      have S109 := T108.fr h109 g109
      change SpI A ws (⟨wAt ws 0, 2, (nmS ws (3)).1, 0, 0, -1, 0⟩ : Acc) (4 + 1) (((false || notS ws (1) ⟨#[105, 115]⟩) || (nmS ws (3)).2) || notS ws (4) ⟨#[115, 105, 122, 101]⟩) _ at S109
      clear h109 g109
      simp +decide (disch := first | decide | omega) only [go_sem, Nat.reduceAdd, Nat.reduceMul, Nat.reduceSub, Nat.reduceLT, Nat.reduceLeDiff, Nat.reduceEqDiff, Nat.add_assoc, Int.reduceAdd, Int.reduceSub, Int.reduceMul, Int.reduceLT, Int.reduceLE, Int.reduceEq, Int.reduceNeg, strOp_add]
      refine num_wp _ 1 ws (5) _ S109.1 (by omega) (by have := hsm (5); omega) _ fun m110 h110 g110 => ?_
      have S110 := S109.fr h110 g110
      have c110 := S110.2.2.2.1
      dsimp only [Acc.cs] at c110
      clear h110 g110
      simp +decide (disch := first | decide | omega) only [go_sem, Nat.reduceAdd, Nat.reduceMul, Nat.reduceSub, Nat.reduceLT, Nat.reduceLeDiff, Nat.reduceEqDiff, Nat.add_assoc, Int.reduceAdd, Int.reduceSub, Int.reduceMul, Int.reduceLT, Int.reduceLE, Int.reduceEq, Int.reduceNeg, strOp_add, c110]
      have T110 := S110.put (a' := (⟨wAt ws 0, 2, (nmS ws (3)).1, (nmS ws (5)).1, 0, -1, 0⟩ : Acc))
      change SpI A ws (⟨wAt ws 0, 2, (nmS ws (3)).1, (nmS ws (5)).1, 0, -1, 0⟩ : Acc) (5 + 1) ((((false || notS ws (1) ⟨#[105, 115]⟩) || (nmS ws (3)).2) || notS ws (4) ⟨#[115, 105, 122, 101]⟩) || (nmS ws (5)).2) _ at T110
      refine must_wp ⟨#[116, 117, 114, 110, 101, 100]⟩ _ 1 ws (6) _ T110.1 (by omega) _ fun m111 h111 g111 => ?_
      have S111 := T110.fr h111 g111
      change SpI A ws (⟨wAt ws 0, 2, (nmS ws (3)).1, (nmS ws (5)).1, 0, -1, 0⟩ : Acc) (6 + 1) (((((false || notS ws (1) ⟨#[105, 115]⟩) || (nmS ws (3)).2) || notS ws (4) ⟨#[115, 105, 122, 101]⟩) || (nmS ws (5)).2) || notS ws (6) ⟨#[116, 117, 114, 110, 101, 100]⟩) _ at S111
      clear h111 g111
      simp +decide (disch := first | decide | omega) only [go_sem, Nat.reduceAdd, Nat.reduceMul, Nat.reduceSub, Nat.reduceLT, Nat.reduceLeDiff, Nat.reduceEqDiff, Nat.add_assoc, Int.reduceAdd, Int.reduceSub, Int.reduceMul, Int.reduceLT, Int.reduceLE, Int.reduceEq, Int.reduceNeg, strOp_add]
      refine num_wp _ 1 ws (7) _ S111.1 (by omega) (by have := hsm (7); omega) _ fun m112 h112 g112 => ?_
      have S112 := S111.fr h112 g112
      have c112 := S112.2.2.2.1
      dsimp only [Acc.cs] at c112
      clear h112 g112
      simp +decide (disch := first | decide | omega) only [go_sem, Nat.reduceAdd, Nat.reduceMul, Nat.reduceSub, Nat.reduceLT, Nat.reduceLeDiff, Nat.reduceEqDiff, Nat.add_assoc, Int.reduceAdd, Int.reduceSub, Int.reduceMul, Int.reduceLT, Int.reduceLE, Int.reduceEq, Int.reduceNeg, strOp_add, c112]
      have T112 := S112.put (a' := (⟨wAt ws 0, 2, (nmS ws (3)).1, (nmS ws (5)).1, (nmS ws (7)).1, -1, 0⟩ : Acc))
      change SpI A ws (⟨wAt ws 0, 2, (nmS ws (3)).1, (nmS ws (5)).1, (nmS ws (7)).1, -1, 0⟩ : Acc) (7 + 1) ((((((false || notS ws (1) ⟨#[105, 115]⟩) || (nmS ws (3)).2) || notS ws (4) ⟨#[115, 105, 122, 101]⟩) || (nmS ws (5)).2) || notS ws (6) ⟨#[116, 117, 114, 110, 101, 100]⟩) || (nmS ws (7)).2) _ at T112
      refine ⟨_, rfl, ?_⟩
      simp +decide only [go_sem, Nat.reduceAdd, Nat.reduceMul, Nat.reduceSub, Nat.reduceLT, Nat.reduceLeDiff, Nat.reduceEqDiff, Nat.add_assoc, Int.reduceAdd, Int.reduceSub, Int.reduceMul, Int.reduceLT, Int.reduceLE, Int.reduceEq, Int.reduceNeg, strOp_add]
      have hH : headS ws = ((⟨wAt ws 0, 2, (nmS ws (3)).1, (nmS ws (5)).1, (nmS ws (7)).1, -1, 0⟩ : Acc), 8, ((((((false || notS ws (1) ⟨#[105, 115]⟩) || (nmS ws (3)).2) || notS ws (4) ⟨#[115, 105, 122, 101]⟩) || (nmS ws (5)).2) || notS ws (6) ⟨#[116, 117, 114, 110, 101, 100]⟩) || (nmS ws (7)).2)) := by simp [headS, q1, q2]
      rw [hH]
      exact T112
    · have q2 := of_decide_eq_false hB2
      simp +decide (disch := first | decide | omega) only [go_sem, Nat.reduceAdd, Nat.reduceMul, Nat.reduceSub, Nat.reduceLT, Nat.reduceLeDiff, Nat.reduceEqDiff, Nat.add_assoc, Int.reduceAdd, Int.reduceSub, Int.reduceMul, Int.reduceLT, Int.reduceLE, Int.reduceEq, Int.reduceNeg, strOp_add]
      refine bB_split (fun hB3 => ?_) (fun hB3 => ?_)
      · have q3 := of_decide_eq_true hB3
        have c113 := S102.2.2.2.1
        dsimp only [Acc.cs] at c113
        simp +decide (disch := first | decide | omega) only [go_sem, Nat.reduceAdd, Nat.reduceMul, Nat.reduceSub, Nat.reduceLT, Nat.reduceLeDiff, Nat.reduceEqDiff, Nat.add_assoc, Int.reduceAdd, Int.reduceSub, Int.reduceMul, Int.reduceLT, Int.reduceLE, Int.reduceEq, Int.reduceNeg, strOp_add, c113]
        have T113 := S102.put (a' := (⟨wAt ws 0, 3, 0, 0, 0, -1, 0⟩ : Acc))
        refine num_wp _ 1 ws (3) _ T113.1 (by omega) (by have := hsm (3); omega) _ fun m114 h114 g114 => ?_
        have S114 := T113.fr h114 g114
        have c114 := S114.2.2.2.1
        dsimp only [Acc.cs] at c114
        clear h114 g114
        simp +decide (disch := first | decide | omega) only [go_sem, Nat.reduceAdd, Nat.reduceMul, Nat.reduceSub, Nat.reduceLT, Nat.reduceLeDiff, Nat.reduceEqDiff, Nat.add_assoc, Int.reduceAdd, Int.reduceSub, Int.reduceMul, Int.reduceLT, Int.reduceLE, Int.reduceEq, Int.reduceNeg, strOp_add, c114]
        have T114 := S114.put (a' := (⟨wAt ws 0, 3, (nmS ws (3)).1, 0, 0, -1, 0⟩ : Acc))
        change SpI A ws (⟨wAt ws 0, 3, (nmS ws (3)).1, 0, 0, -1, 0⟩ : Acc) (3 + 1) ((false || notS ws (1) ⟨#[105, 115]⟩) || (nmS ws (3)).2) _ at T114
        refine ⟨_, rfl, ?_⟩
        simp +decide only [go_sem, Nat.reduceAdd, Nat.reduceMul, Nat.reduceSub, Nat.reduceLT, Nat.reduceLeDiff, Nat.reduceEqDiff, Nat.add_assoc, Int.reduceAdd, Int.reduceSub, Int.reduceMul, Int.reduceLT, Int.reduceLE, Int.reduceEq, Int.reduceNeg, strOp_add]
        have hH : headS ws = ((⟨wAt ws 0, 3, (nmS ws (3)).1, 0, 0, -1, 0⟩ : Acc), 4, ((false || notS ws (1) ⟨#[105, 115]⟩) || (nmS ws (3)).2)) := by simp [headS, q1, q2, q3]
        rw [hH]
        exact T114
      · have q3 := of_decide_eq_false hB3
        simp +decide (disch := first | decide | omega) only [go_sem, Nat.reduceAdd, Nat.reduceMul, Nat.reduceSub, Nat.reduceLT, Nat.reduceLeDiff, Nat.reduceEqDiff, Nat.add_assoc, Int.reduceAdd, Int.reduceSub, Int.reduceMul, Int.reduceLT, Int.reduceLE, Int.reduceEq, Int.reduceNeg, strOp_add]
        refine ⟨_, rfl, ?_⟩
        simp +decide only [go_sem, Nat.reduceAdd, Nat.reduceMul, Nat.reduceSub, Nat.reduceLT, Nat.reduceLeDiff, Nat.reduceEqDiff, Nat.add_assoc, Int.reduceAdd, Int.reduceSub, Int.reduceMul, Int.reduceLT, Int.reduceLE, Int.reduceEq, Int.reduceNeg, strOp_add]
        have hH : headS ws = ((⟨wAt ws 0, 0, 0, 0, 0, -1, 0⟩ : Acc), 3, (false || notS ws (1) ⟨#[105, 115]⟩)) := by simp [headS, q1, q2, q3]
        rw [hH]
        exact S102
  · rintro _ ⟨s', rfl, e0, e2, e4, e5, S⟩
    have hk8 : (headS ws).2.1 ≤ 8 := by
      unfold headS
      repeat' split
      all_goals simp
    have hn1 : (headS ws).1.name = wAt ws 0 := by
      unfold headS
      repeat' split
      all_goals rfl
    generalize headS ws = p at S hk8 hn1 ⊢
    obtain ⟨a, k, bad⟩ := p
    dsimp only at S hk8 hn1
    have hn2 : (tailS ws (a, k, bad)).1.name = wAt ws 0 := by
      unfold tailS
      split
      · exact hn1
      · exact hn1
    simp +decide (disch := first | decide | omega) only [go_sem, Nat.reduceAdd, Nat.reduceMul, Nat.reduceSub, Nat.reduceLT, Nat.reduceLeDiff, Nat.reduceEqDiff, Nat.add_assoc, Int.reduceAdd, Int.reduceSub, Int.reduceMul, Int.reduceLT, Int.reduceLE, Int.reduceEq, Int.reduceNeg, strOp_add, e0, e2, e4, e5]
    refine peek_wp _ 1 ws k bad S.1 _ fun m1' h1 h2 => ?_
    have Sp : SpI A ws a k bad m1' := S.fr (by obtain ⟨⟨w1, ty, w2⟩, _⟩ := S; exact ⟨by omega, ty, by rw [h1]; exact w2⟩) ⟨h2, fun j _ _ => by rw [h1]⟩
    clear h1 h2 S
    simp +decide (disch := first | decide | omega) only [go_sem, Nat.reduceAdd, Nat.reduceMul, Nat.reduceSub, Nat.reduceLT, Nat.reduceLeDiff, Nat.reduceEqDiff, Nat.add_assoc, Int.reduceAdd, Int.reduceSub, Int.reduceMul, Int.reduceLT, Int.reduceLE, Int.reduceEq, Int.reduceNeg, strOp_add, e0, e2, e4, e5]
    refine bB_merge (fun r => ∃ s', r = (Ex.normal, s') ∧ s'.env 0 = .str s ∧ s'.env 2 = .ptr 0 0 0 ∧ s'.env 4 = .ptr 1 0 0 ∧ s'.env 5 = .ptr A 0 0 ∧ ∃ kk, SpI A ws (tailS ws (a, k, bad)).1 kk (tailS ws (a, k, bad)).2 s'.toMem) (fun hB => ?_) (fun hB => ?_) ?_
    · have q1 := of_decide_eq_true hB
      simp +decide (disch := first | decide | omega) only [go_sem, Nat.reduceAdd, Nat.reduceMul, Nat.reduceSub, Nat.reduceLT, Nat.reduceLeDiff, Nat.reduceEqDiff, Nat.add_assoc, Int.reduceAdd, Int.reduceSub, Int.reduceMul, Int.reduceLT, Int.reduceLE, Int.reduceEq, Int.reduceNeg, strOp_add, e0, e2, e4, e5]
      refine next_wp _ 1 ws (k) _ Sp.1 (by omega) _ fun m115 h115 g115 => ?_
      have S115 := Sp.fr h115 g115
      clear h115 g115
      simp +decide (disch := first | decide | omega) only [go_sem, Nat.reduceAdd, Nat.reduceMul, Nat.reduceSub, Nat.reduceLT, Nat.reduceLeDiff, Nat.reduceEqDiff, Nat.add_assoc, Int.reduceAdd, Int.reduceSub, Int.reduceMul, Int.reduceLT, Int.reduceLE, Int.reduceEq, Int.reduceNeg, strOp_add, e0, e2, e4, e5]
      refine num_wp _ 1 ws (k + 1) _ S115.1 (by omega) (by have := hsm (k + 1); omega) _ fun m116 h116 g116 => ?_
      have S116 := S115.fr h116 g116
      have c116 := S116.2.2.2.1
      dsimp only [Acc.cs] at c116
      clear h116 g116
      simp +decide (disch := first | decide | omega) only [go_sem, Nat.reduceAdd, Nat.reduceMul, Nat.reduceSub, Nat.reduceLT, Nat.reduceLeDiff, Nat.reduceEqDiff, Nat.add_assoc, Int.reduceAdd, Int.reduceSub, Int.reduceMul, Int.reduceLT, Int.reduceLE, Int.reduceEq, Int.reduceNeg, strOp_add, e0, e2, e4, e5, c116]
      have T116 := S116.put (a' := (⟨a.name, a.k, a.at_, a.size, a.turn, (nmS ws (k + 1)).1, a.place⟩ : Acc))
      change SpI A ws (⟨a.name, a.k, a.at_, a.size, a.turn, (nmS ws (k + 1)).1, a.place⟩ : Acc) (k + 1 + 1) (bad || (nmS ws (k + 1)).2) _ at T116
      refine must_wp ⟨#[116, 101, 108, 108, 115]⟩ _ 1 ws (k + 1 + 1) _ T116.1 (by omega) _ fun m117 h117 g117 => ?_
      have S117 := T116.fr h117 g117
      change SpI A ws (⟨a.name, a.k, a.at_, a.size, a.turn, (nmS ws (k + 1)).1, a.place⟩ : Acc) (k + 1 + 1 + 1) ((bad || (nmS ws (k + 1)).2) || notS ws (k + 1 + 1) ⟨#[116, 101, 108, 108, 115]⟩) _ at S117
      clear h117 g117
      simp +decide (disch := first | decide | omega) only [go_sem, Nat.reduceAdd, Nat.reduceMul, Nat.reduceSub, Nat.reduceLT, Nat.reduceLeDiff, Nat.reduceEqDiff, Nat.add_assoc, Int.reduceAdd, Int.reduceSub, Int.reduceMul, Int.reduceLT, Int.reduceLE, Int.reduceEq, Int.reduceNeg, strOp_add, e0, e2, e4, e5]
      refine num_wp _ 1 ws (k + 1 + 1 + 1) _ S117.1 (by omega) (by have := hsm (k + 1 + 1 + 1); omega) _ fun m118 h118 g118 => ?_
      have S118 := S117.fr h118 g118
      have c118 := S118.2.2.2.1
      dsimp only [Acc.cs] at c118
      clear h118 g118
      simp +decide (disch := first | decide | omega) only [go_sem, Nat.reduceAdd, Nat.reduceMul, Nat.reduceSub, Nat.reduceLT, Nat.reduceLeDiff, Nat.reduceEqDiff, Nat.add_assoc, Int.reduceAdd, Int.reduceSub, Int.reduceMul, Int.reduceLT, Int.reduceLE, Int.reduceEq, Int.reduceNeg, strOp_add, e0, e2, e4, e5, c118]
      have T118 := S118.put (a' := (⟨a.name, a.k, a.at_, a.size, a.turn, (nmS ws (k + 1)).1, (nmS ws (k + 1 + 1 + 1)).1⟩ : Acc))
      change SpI A ws (⟨a.name, a.k, a.at_, a.size, a.turn, (nmS ws (k + 1)).1, (nmS ws (k + 1 + 1 + 1)).1⟩ : Acc) (k + 1 + 1 + 1 + 1) (((bad || (nmS ws (k + 1)).2) || notS ws (k + 1 + 1) ⟨#[116, 101, 108, 108, 115]⟩) || (nmS ws (k + 1 + 1 + 1)).2) _ at T118
      refine ⟨_, rfl, ?_⟩
      simp +decide only [go_sem, Nat.reduceAdd, Nat.reduceMul, Nat.reduceSub, Nat.reduceLT, Nat.reduceLeDiff, Nat.reduceEqDiff, Nat.add_assoc, Int.reduceAdd, Int.reduceSub, Int.reduceMul, Int.reduceLT, Int.reduceLE, Int.reduceEq, Int.reduceNeg, strOp_add, e0, e2, e4, e5]
      have hH : tailS ws (a, k, bad) = ((⟨a.name, a.k, a.at_, a.size, a.turn, (nmS ws (k + 1)).1, (nmS ws (k + 1 + 1 + 1)).1⟩ : Acc), (((bad || (nmS ws (k + 1)).2) || notS ws (k + 1 + 1) ⟨#[116, 101, 108, 108, 115]⟩) || (nmS ws (k + 1 + 1 + 1)).2)) := by
        unfold tailS
        rw [if_pos q1]
      rw [hH]
      exact ⟨_, T118⟩
    · have q1 := of_decide_eq_false hB
      simp +decide (disch := first | decide | omega) only [go_sem, Nat.reduceAdd, Nat.reduceMul, Nat.reduceSub, Nat.reduceLT, Nat.reduceLeDiff, Nat.reduceEqDiff, Nat.add_assoc, Int.reduceAdd, Int.reduceSub, Int.reduceMul, Int.reduceLT, Int.reduceLE, Int.reduceEq, Int.reduceNeg, strOp_add, e0, e2, e4, e5]
      refine ⟨_, rfl, ?_⟩
      simp +decide only [go_sem, Nat.reduceAdd, Nat.reduceMul, Nat.reduceSub, Nat.reduceLT, Nat.reduceLeDiff, Nat.reduceEqDiff, Nat.add_assoc, Int.reduceAdd, Int.reduceSub, Int.reduceMul, Int.reduceLT, Int.reduceLE, Int.reduceEq, Int.reduceNeg, strOp_add, e0, e2, e4, e5]
      have hH : tailS ws (a, k, bad) = (a, bad) := by
        unfold tailS
        rw [if_neg q1]
      rw [hH]
      exact ⟨_, Sp⟩
    · clear Sp e0 e2 e4 e5
      rintro _ ⟨s2, rfl, e0, e2, e4, e5, kk, S⟩
      generalize tailS ws (a, k, bad) = q at S hn2 ⊢
      obtain ⟨b, bd⟩ := q
      dsimp only at S hn2 ⊢
      obtain ⟨⟨w1, ty, w2⟩, hA2, hAn, hAs, h0s⟩ := S
      unfold Acc.cs at hAs
      unfold acc0 Acc.cs at h0s
      dsimp only at h0s
      have hsz := hsm 0
      rw [← hn2] at hsz
      have hok := specAcc_eq b.name b.k b.at_ b.size b.turn b.tag b.place (by omega)
      cases bd
      · cases hb : accOk b.name b.k b.at_ b.size b.turn b.tag b.place
        · rw [hb] at hok
          simp +decide (disch := first | decide | omega) only [go_sem, Nat.reduceAdd, Nat.reduceMul, Nat.reduceSub, Nat.reduceLT, Nat.reduceLeDiff, Nat.reduceEqDiff, Nat.add_assoc, Int.reduceAdd, Int.reduceSub, Int.reduceMul, Int.reduceLT, Int.reduceLE, Int.reduceEq, Int.reduceNeg, strOp_add, e0, e2, e4, e5, w2, hAs, h0s, hok]
          have hb' : ¬ b.ok = true := by
            unfold Acc.ok
            rw [hb]
            simp
          rw [if_neg hb']
          rfl
        · rw [hb] at hok
          have hb' : b.ok = true := hb
          obtain ⟨⟨i2, i3, i4, i5, i6⟩, hz⟩ := acc_in hb'
          have ht := l12Text_eq b.name b.k b.at_ b.size b.turn b.tag b.place (by omega) i2 i3 i4 i5 i6
          simp +decide (disch := first | decide | omega) only [go_sem, Nat.reduceAdd, Nat.reduceMul, Nat.reduceSub, Nat.reduceLT, Nat.reduceLeDiff, Nat.reduceEqDiff, Nat.add_assoc, Int.reduceAdd, Int.reduceSub, Int.reduceMul, Int.reduceLT, Int.reduceLE, Int.reduceEq, Int.reduceNeg, strOp_add, e0, e2, e4, e5, w2, hAs, h0s, hok, ht]
          rw [if_pos hb']
          refine bB_split (fun hB => ?_) (fun hB => ?_)
          · have hB' := of_decide_eq_true hB
            simp +decide (disch := first | decide | omega) only [go_sem, Nat.reduceAdd, Nat.reduceMul, Nat.reduceSub, Nat.reduceLT, Nat.reduceLeDiff, Nat.reduceEqDiff, Nat.add_assoc, Int.reduceAdd, Int.reduceSub, Int.reduceMul, Int.reduceLT, Int.reduceLE, Int.reduceEq, Int.reduceNeg, strOp_add, e0, e2, e4, e5, w2, hAs, h0s]
            rw [if_pos (show b.text = s from hB')]
            rfl
          · have hB' := of_decide_eq_false hB
            simp +decide (disch := first | decide | omega) only [go_sem, Nat.reduceAdd, Nat.reduceMul, Nat.reduceSub, Nat.reduceLT, Nat.reduceLeDiff, Nat.reduceEqDiff, Nat.add_assoc, Int.reduceAdd, Int.reduceSub, Int.reduceMul, Int.reduceLT, Int.reduceLE, Int.reduceEq, Int.reduceNeg, strOp_add, e0, e2, e4, e5, w2, hAs, h0s]
            rw [if_neg (show ¬ b.text = s from hB')]
            rfl
      · simp +decide (disch := first | decide | omega) only [go_sem, Nat.reduceAdd, Nat.reduceMul, Nat.reduceSub, Nat.reduceLT, Nat.reduceLeDiff, Nat.reduceEqDiff, Nat.add_assoc, Int.reduceAdd, Int.reduceSub, Int.reduceMul, Int.reduceLT, Int.reduceLE, Int.reduceEq, Int.reduceNeg, strOp_add, e0, e2, e4, e5, w2, hAs, h0s]
        rfl
end Go.Ev.Tryd
