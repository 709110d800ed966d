/- Part of the proof of a statement about the given program: BdD. No condition of its own. -/
import Derived.Test.YtfkjjmhbljlbkaaDoorBD
namespace Go.Ev.Tryd
open Go.Proofs
set_option maxRecDepth 10000
set_option linter.unusedSimpArgs false
set_option linter.unusedVariables false
attribute [local congr] comes_congr bB_congr gK_congr gdK_congr

/-- A builder: its block, its buffer's block, its bytes. -/
def BldAt (m : Mem) (id : Nat) (b : Option Nat) (S : ByteArray) : Prop :=
  id < m.nid ∧ match b with
  | none => S = ⟨#[]⟩ ∧ ∃ p, (p = .nilp ∨ p = .ptr id 0 0) ∧ m.sto id = ⟨[p, .nils 1], 0, false, some (96, true)⟩
  | some k => k ≠ id ∧ k < m.nid ∧ ∃ g, m.sto id = ⟨[.ptr id 0 0, .arr k g 0 S.size 1 true], 0, false, some (96, true)⟩ ∧ m.sto k = ⟨strBytes S, g, false, some (5, false)⟩
/-- What a write leaves alone. -/
def BldFr (m m' : Mem) (id : Nat) (b b' : Option Nat) : Prop :=
  m.nid ≤ m'.nid ∧ (∀ j, j < m.nid → j ≠ id → b ≠ some j → m'.sto j = m.sto j) ∧ (∀ k, b = some k → b' = some k) ∧ (b = none → ∀ k, b' = some k → m.nid ≤ k)
theorem strBytes_len (s : ByteArray) : (strBytes s).length = s.size := by simp [strBytes]
theorem strBytes_app (a b : ByteArray) : strBytes a ++ strBytes b = strBytes (a ++ b) := by
  unfold strBytes
  rw [← List.map_append]
  congr 1
theorem size_app (a b : ByteArray) : (a ++ b).size = a.size + b.size := by simp
theorem check_fresh {sto : Nat → Blk} {nid id : Nat} {x : AV} (h : sto id = ⟨[.nilp, x], 0, false, some (96, true)⟩) : fnI CC PR 128 [.ptr id 0 0] ⟨sto, nid⟩ = some (.tup [], ⟨upd sto id ⟨[.ptr id 0 0, x], 0, false, some (96, true)⟩, nid⟩) :=
  fnI_prim CC PR (by simp [PI, checkI, h])
theorem check_used {sto : Nat → Blk} {nid id : Nat} {x : AV} (h : sto id = ⟨[.ptr id 0 0, x], 0, false, some (96, true)⟩) : fnI CC PR 128 [.ptr id 0 0] ⟨sto, nid⟩ = some (.tup [], ⟨sto, nid⟩) :=
  fnI_prim CC PR (by simp [PI, checkI, h])
theorem grow_eq {sto : Nat → Blk} {nid id : Nat} {x : AV} {n : Int} (h : sto id = ⟨[x, .nils 1], 0, false, some (96, true)⟩) (h0 : 0 ≤ n) (h1 : n ≤ 281474976710656) : fnI CC PR 159 [.ptr id 0 0, .int .i64 n] ⟨sto, nid⟩ = some (.tup [], ⟨upd (upd sto nid ⟨[], 0, false, some (5, false)⟩) id ⟨[x, .arr nid 0 0 0 1 true], 0, false, some (96, true)⟩, nid + 1⟩) :=
  fnI_prim CC PR (by simp [PI, growI, h, h0, h1])
theorem empty_app (s : ByteArray) : (⟨#[]⟩ : ByteArray) ++ s = s := by
  apply ByteArray.ext
  simp
theorem app_empty (S s : ByteArray) (h : s.size = 0) : S ++ s = S := by
  have : s = ⟨#[]⟩ := by
    apply ByteArray.ext
    have h' : s.data.size = 0 := h
    exact Array.eq_empty_of_size_eq_zero h'
  subst this
  apply ByteArray.ext
  simp
theorem WriteString_wp (s S : ByteArray) (m : Mem) (id : Nat) (b : Option Nat) (h : BldAt m id b S) (hs : S.size + s.size ≤ 1099511627776) (Q : AV × Mem → Prop)
    (hQ : ∀ m' b', BldAt m' id b' (S ++ s) → BldFr m m' id b b' → (b = none → s.size = 0 → b' = none) → Q (.tup [.int .i64 s.size, .nili], m')) :
    Comes (fnI CC PR 65 [.ptr id 0 0, .str s] m) Q := by
  refine fnI_wp (rs := [.tmp 4, .tmp 5]) Tryd.func65 rfl rfl (Nat.le_of_ble_eq_true rfl) rfl ?_
  obtain ⟨hid, h⟩ := h
  have hmost : s.size ≤ most := by simp [most]; omega
  have hmost2 : S.size + s.size ≤ most := by simp [most]; omega
  cases b with
  | none =>
    obtain ⟨rfl, p, hp, hm⟩ := h
    have f1 : (id = m.nid) = False := by simp; omega
    have f2 : (m.nid = id) = False := by simp; omega
    by_cases hs0 : s.size = 0
    · rcases hp with rfl | rfl
      · simp +decide only [go_sem, Nat.reduceAdd, Nat.reduceMul, Nat.reduceSub, Nat.reduceLT, Nat.reduceLeDiff, Nat.reduceEqDiff, Nat.add_assoc, Int.reduceAdd, Int.reduceSub, Int.reduceMul, Int.reduceLT, Int.reduceLE, Int.reduceEq, Int.reduceNeg, strOp_add, check_fresh hm, hs0, hmost, f1, f2]
        rw [hs0] at hQ
        refine hQ _ none ⟨hid, by rw [app_empty _ _ hs0], .ptr id 0 0, .inr rfl, by simp [upd]⟩ ⟨Nat.le_refl _, fun j hj h1 _ => by simp [upd, h1], by simp, by simp⟩ (fun _ _ => rfl)
      · simp +decide only [go_sem, Nat.reduceAdd, Nat.reduceMul, Nat.reduceSub, Nat.reduceLT, Nat.reduceLeDiff, Nat.reduceEqDiff, Nat.add_assoc, Int.reduceAdd, Int.reduceSub, Int.reduceMul, Int.reduceLT, Int.reduceLE, Int.reduceEq, Int.reduceNeg, strOp_add, check_used hm, hm, hs0, hmost, f1, f2]
        rw [hs0] at hQ
        refine hQ _ none ⟨hid, by rw [app_empty _ _ hs0], .ptr id 0 0, .inr rfl, by simp [upd]⟩ ⟨Nat.le_refl _, fun j hj h1 _ => by simp [upd, h1], by simp, by simp⟩ (fun _ _ => rfl)
    · rcases hp with rfl | rfl
      · simp +decide only [go_sem, Nat.reduceAdd, Nat.reduceMul, Nat.reduceSub, Nat.reduceLT, Nat.reduceLeDiff, Nat.reduceEqDiff, Nat.add_assoc, Int.reduceAdd, Int.reduceSub, Int.reduceMul, Int.reduceLT, Int.reduceLE, Int.reduceEq, Int.reduceNeg, strOp_add, check_fresh hm, hs0, hmost, f1, f2]
        refine hQ _ (some m.nid) ⟨by simp; omega, by omega, by simp, 0, ?_, ?_⟩ ⟨by simp, fun j hj h1 _ => ?_, by simp, by simp⟩ (fun _ h => absurd h hs0)
        · simp [upd, empty_app]
        · simp [upd, f2, empty_app]
        · have : ¬ j = m.nid := by omega
          simp [upd, h1, this]
      · simp +decide only [go_sem, Nat.reduceAdd, Nat.reduceMul, Nat.reduceSub, Nat.reduceLT, Nat.reduceLeDiff, Nat.reduceEqDiff, Nat.add_assoc, Int.reduceAdd, Int.reduceSub, Int.reduceMul, Int.reduceLT, Int.reduceLE, Int.reduceEq, Int.reduceNeg, strOp_add, check_used hm, hm, hs0, hmost, f1, f2]
        refine hQ _ (some m.nid) ⟨by simp; omega, by omega, by simp, 0, ?_, ?_⟩ ⟨by simp, fun j hj h1 _ => ?_, by simp, by simp⟩ (fun _ h => absurd h hs0)
        · simp [upd, empty_app]
        · simp [upd, f2, empty_app]
        · have : ¬ j = m.nid := by omega
          simp [upd, h1, this]
  | some k =>
    obtain ⟨hk1, hk2, g, hm, hk⟩ := h
    have f3 : (k = id) = False := by simp [hk1]
    have f4 : (id = k) = False := by simp [Ne.symm hk1]
    simp +decide only [go_sem, Nat.reduceAdd, Nat.reduceMul, Nat.reduceSub, Nat.reduceLT, Nat.reduceLeDiff, Nat.reduceEqDiff, Nat.add_assoc, Int.reduceAdd, Int.reduceSub, Int.reduceMul, Int.reduceLT, Int.reduceLE, Int.reduceEq, Int.reduceNeg, strOp_add, check_used hm, hm, hk, f3, f4, hmost2, strBytes_len]
    refine hQ _ (some k) ⟨hid, hk1, hk2, g + 1, ?_, ?_⟩ ⟨Nat.le_refl _, fun j hj h1 h2 => ?_, by simp, by simp⟩ (fun h => by cases h)
    · simp [upd]
    · simp [upd, f3, strBytes_app]
    · have : ¬ j = k := fun e => h2 (by rw [e])
      simp [upd, h1, this]
theorem strBytes_push (S : ByteArray) (c : UInt8) : strBytes S ++ [.int .u8 c.toNat] = strBytes (S.push c) := by
  simp [strBytes, ByteArray.push]
theorem push_size (S : ByteArray) (c : UInt8) : (S.push c).size = S.size + 1 := ByteArray.size_push ..
theorem push_empty_size (c : UInt8) : ((⟨#[]⟩ : ByteArray).push c).size = 1 := rfl
theorem strBytes_one (c : UInt8) : strBytes ((⟨#[]⟩ : ByteArray).push c) = [.int .u8 c.toNat] := rfl
theorem WriteByte_wp (c : UInt8) (S : ByteArray) (m : Mem) (id : Nat) (b : Option Nat) (h : BldAt m id b S) (hs : S.size < 1099511627776) (Q : AV × Mem → Prop)
    (hQ : ∀ m' b', BldAt m' id b' (S.push c) → BldFr m m' id b b' → Q (.nili, m')) :
    Comes (fnI CC PR 198 [.ptr id 0 0, .int .u8 c.toNat] m) Q := by
  refine fnI_wp (rs := [.tmp 4]) Tryd.func198 rfl rfl (Nat.le_of_ble_eq_true rfl) rfl ?_
  obtain ⟨hid, h⟩ := h
  have hmost : 1 ≤ most := by simp [most]
  have hmost2 : S.size + 1 ≤ most := by simp [most]; omega
  have e1 : ∀ k, (id = m.nid + k) = False := fun k => by simp; omega
  have e2 : ∀ k, (m.nid + k = id) = False := fun k => by simp; omega
  have f1 : (id = m.nid) = False := by simp; omega
  have f2 : (m.nid = id) = False := by simp; omega
  cases b with
  | none =>
    obtain ⟨rfl, p, hp, hm⟩ := h
    rcases hp with rfl | rfl
    · simp +decide only [go_sem, Nat.reduceAdd, Nat.reduceMul, Nat.reduceSub, Nat.reduceLT, Nat.reduceLeDiff, Nat.reduceEqDiff, Nat.add_assoc, Int.reduceAdd, Int.reduceSub, Int.reduceMul, Int.reduceLT, Int.reduceLE, Int.reduceEq, Int.reduceNeg, strOp_add, check_fresh hm, hmost, f1, f2, e1, e2]
      refine hQ _ (some (m.nid + 1)) ⟨by simp; omega, by omega, by simp, 0, ?_, ?_⟩ ⟨by simp, fun j hj h1 _ => ?_, by simp, by simp⟩
      · simp [upd, push_empty_size]
        try rfl
      · simp [upd, e2, strBytes_one]
      · have h2 : ¬ j = m.nid := by omega
        have h3 : ¬ j = m.nid + 1 := by omega
        simp [upd, h1, h2, h3]
    · simp +decide only [go_sem, Nat.reduceAdd, Nat.reduceMul, Nat.reduceSub, Nat.reduceLT, Nat.reduceLeDiff, Nat.reduceEqDiff, Nat.add_assoc, Int.reduceAdd, Int.reduceSub, Int.reduceMul, Int.reduceLT, Int.reduceLE, Int.reduceEq, Int.reduceNeg, strOp_add, check_used hm, hm, hmost, f1, f2, e1, e2]
      refine hQ _ (some (m.nid + 1)) ⟨by simp; omega, by omega, by simp, 0, ?_, ?_⟩ ⟨by simp, fun j hj h1 _ => ?_, by simp, by simp⟩
      · simp [upd, push_empty_size]
        try rfl
      · simp [upd, e2, strBytes_one]
      · have h2 : ¬ j = m.nid := by omega
        have h3 : ¬ j = m.nid + 1 := by omega
        simp [upd, h1, h2, h3]
  | some k =>
    obtain ⟨hk1, hk2, g, hm, hk⟩ := h
    have f3 : (k = id) = False := by simp [hk1]
    have f4 : (id = k) = False := by simp [Ne.symm hk1]
    have f5 : (k = m.nid) = False := by simp; omega
    have f6 : (m.nid = k) = False := by simp; omega
    simp +decide only [go_sem, Nat.reduceAdd, Nat.reduceMul, Nat.reduceSub, Nat.reduceLT, Nat.reduceLeDiff, Nat.reduceEqDiff, Nat.add_assoc, Int.reduceAdd, Int.reduceSub, Int.reduceMul, Int.reduceLT, Int.reduceLE, Int.reduceEq, Int.reduceNeg, strOp_add, check_used hm, hm, hk, f1, f2, f3, f4, f5, f6, hmost2, strBytes_len]
    refine hQ _ (some k) ⟨by simp; omega, hk1, by simp; omega, g + 1, ?_, ?_⟩ ⟨by simp, fun j hj h1 h2 => ?_, by simp, by simp⟩
    · simp [upd, push_size]
    · simp [upd, f3, strBytes_push]
    · have h3 : ¬ j = m.nid := by omega
      have h4 : ¬ j = k := fun e => h2 (by rw [e])
      simp [upd, h1, h3, h4]
theorem bytesStr_str (s : ByteArray) : bytesStr (strBytes s) = some s.data.toList := by
  unfold strBytes
  generalize s.data.toList = l
  induction l with
  | nil => rfl
  | cons x l ih =>
    simp only [List.map_cons, bytesStr, ih, Option.map_some]
    simp
theorem str_back (s : ByteArray) : (⟨s.data.toList.toArray⟩ : ByteArray) = s := by
  apply ByteArray.ext
  simp
theorem String_wp (S : ByteArray) (m : Mem) (id : Nat) (b : Option Nat) (h : BldAt m id b S) (hs : S.size ≤ 1099511627776) (hne : 0 < S.size ∨ b = none) (Q : AV × Mem → Prop)
    (hQ : ∀ m', m.nid ≤ m'.nid → (∀ j, j < m.nid → j ≠ id → b ≠ some j → m'.sto j = m.sto j) → Q (.str S, m')) :
    Comes (fnI CC PR 68 [.ptr id 0 0] m) Q := by
  refine fnI_wp (rs := [.tmp 2]) Tryd.func68 rfl rfl (Nat.le_of_ble_eq_true rfl) rfl ?_
  obtain ⟨hid, h⟩ := h
  simp +decide only [go_sem, Nat.reduceAdd, Nat.reduceMul, Nat.reduceSub, Nat.reduceLT, Nat.reduceLeDiff, Nat.reduceEqDiff, Nat.add_assoc, Int.reduceAdd, Int.reduceSub, Int.reduceMul, Int.reduceLT, Int.reduceLE, Int.reduceEq, Int.reduceNeg, strOp_add]
  refine (d_plan (ord := [0, 1, 2, 3, 4, 5, 6, 7, 8, 9, 10, 11]) (prs := [(3, 8), (4, 8)]) (by kernel_rfl)).2 ?_
  cases b with
  | none =>
    obtain ⟨rfl, p, hp, hm⟩ := h
    simp +decide only [go_sem, Nat.reduceAdd, Nat.reduceMul, Nat.reduceSub, Nat.reduceLT, Nat.reduceLeDiff, Nat.reduceEqDiff, Nat.add_assoc, Int.reduceAdd, Int.reduceSub, Int.reduceMul, Int.reduceLT, Int.reduceLE, Int.reduceEq, Int.reduceNeg, strOp_add, hm]
    exact hQ _ (by simp) (fun _ _ _ _ => rfl)
  | some k =>
    obtain ⟨hk1, hk2, g, hm, hk⟩ := h
    have f3 : (k = id) = False := by simp [hk1]
    have f4 : (id = k) = False := by simp [Ne.symm hk1]
    have h0 : 0 < S.size := hne.resolve_right (by simp)
    have h0' : (0 : Int) < (S.size : Int) := by omega
    have hm1 : (S.size : Int) ≤ (most : Int) := by show (S.size : Int) ≤ ((1099511627776 : Nat) : Int); omega
    have ht : (strBytes S).take S.size = strBytes S := List.take_of_length_le (by rw [strBytes_len]; omega)
    simp +decide only [go_sem, Nat.reduceAdd, Nat.reduceMul, Nat.reduceSub, Nat.reduceLT, Nat.reduceLeDiff, Nat.reduceEqDiff, Nat.add_assoc, Int.reduceAdd, Int.reduceSub, Int.reduceMul, Int.reduceLT, Int.reduceLE, Int.reduceEq, Int.reduceNeg, strOp_add, hm, hk, f3, f4, h0, h0', hm1, strBytes_len, ht, bytesStr_str, Nat.le_refl, str_back]
    refine hQ _ ?_ (fun j hj h1 h2 => ?_)
    · exact Nat.le_add_right _ _
    · have h4 : ¬ j = k := fun e => h2 (by rw [e])
      simp [upd, h4]
/-- A new builder that is made to have room. -/
theorem Grow_wp (n : Int) (m : Mem) (id : Nat) (h : BldAt m id none ⟨#[]⟩) (h0 : 0 ≤ n) (h1 : n ≤ 281474976710656) (Q : AV × Mem → Prop)
    (hQ : ∀ m' b', BldAt m' id b' ⟨#[]⟩ → BldFr m m' id none b' → (n = 0 → b' = none) → Q (.tup [], m')) :
    Comes (fnI CC PR 126 [.ptr id 0 0, .int .i64 n] m) Q := by
  refine fnI_wp (rs := []) Tryd.func126 rfl rfl (Nat.le_of_ble_eq_true rfl) rfl ?_
  obtain ⟨hid, _, p, hp, hm⟩ := h
  have f1 : (id = m.nid) = False := by simp; omega
  have f2 : (m.nid = id) = False := by simp; omega
  have hn : (n < 0) = False := by simp; omega
  rcases hp with rfl | rfl
  · simp +decide only [go_sem, Nat.reduceAdd, Nat.reduceMul, Nat.reduceSub, Nat.reduceLT, Nat.reduceLeDiff, Nat.reduceEqDiff, Nat.add_assoc, Int.reduceAdd, Int.reduceSub, Int.reduceMul, Int.reduceLT, Int.reduceLE, Int.reduceEq, Int.reduceNeg, strOp_add, check_fresh hm, f1, f2, hn]
    refine (d_plan (ord := [0, 1, 2, 3, 4, 5, 6, 7, 8, 9, 10, 11, 12]) (prs := [(3, 8), (4, 8)]) (by kernel_rfl)).2 ?_
    simp +decide only [go_sem, Nat.reduceAdd, Nat.reduceMul, Nat.reduceSub, Nat.reduceLT, Nat.reduceLeDiff, Nat.reduceEqDiff, Nat.add_assoc, Int.reduceAdd, Int.reduceSub, Int.reduceMul, Int.reduceLT, Int.reduceLE, Int.reduceEq, Int.reduceNeg, strOp_add, check_fresh hm, f1, f2, hn]
    refine bB_split (fun hB => ?_) (fun hB => ?_)
    · simp only [decide_eq_true_eq] at hB
      simp +decide only [go_sem, Nat.reduceAdd, Nat.reduceMul, Nat.reduceSub, Nat.reduceLT, Nat.reduceLeDiff, Nat.reduceEqDiff, Nat.add_assoc, Int.reduceAdd, Int.reduceSub, Int.reduceMul, Int.reduceLT, Int.reduceLE, Int.reduceEq, Int.reduceNeg, strOp_add, grow_eq (x := .ptr id 0 0) (n := n), h0, h1]
      refine hQ _ (some (m.nid + 13)) ?_ ?_ (fun h => by omega)
      · refine ⟨by dsimp only; omega, by omega, by dsimp only; omega, 0, ?_, ?_⟩
        · simp [upd]
          try rfl
        · have : ¬ m.nid + 13 = id := by omega
          simp [upd, this]
          try rfl
      · refine ⟨by dsimp only; omega, fun j hj h1 _ => ?_, by simp, ?_⟩
        · have : ¬ j = m.nid + 13 := by omega
          simp [upd, h1, this]
        · intro _ k hk
          simp at hk
          omega
    · simp only [decide_eq_false_iff_not] at hB
      simp +decide only [go_sem, Nat.reduceAdd, Nat.reduceMul, Nat.reduceSub, Nat.reduceLT, Nat.reduceLeDiff, Nat.reduceEqDiff, Nat.add_assoc, Int.reduceAdd, Int.reduceSub, Int.reduceMul, Int.reduceLT, Int.reduceLE, Int.reduceEq, Int.reduceNeg, strOp_add]
      refine hQ _ none ?_ ?_ (fun _ => rfl)
      · exact ⟨by dsimp only; omega, rfl, .ptr id 0 0, .inr rfl, by simp [upd, hm]⟩
      · exact ⟨by dsimp only; omega, fun j hj h1 _ => by simp [upd, h1], by simp, by simp⟩
  · simp +decide only [go_sem, Nat.reduceAdd, Nat.reduceMul, Nat.reduceSub, Nat.reduceLT, Nat.reduceLeDiff, Nat.reduceEqDiff, Nat.add_assoc, Int.reduceAdd, Int.reduceSub, Int.reduceMul, Int.reduceLT, Int.reduceLE, Int.reduceEq, Int.reduceNeg, strOp_add, check_used hm, f1, f2, hn]
    refine (d_plan (ord := [0, 1, 2, 3, 4, 5, 6, 7, 8, 9, 10, 11, 12]) (prs := [(3, 8), (4, 8)]) (by kernel_rfl)).2 ?_
    simp +decide only [go_sem, Nat.reduceAdd, Nat.reduceMul, Nat.reduceSub, Nat.reduceLT, Nat.reduceLeDiff, Nat.reduceEqDiff, Nat.add_assoc, Int.reduceAdd, Int.reduceSub, Int.reduceMul, Int.reduceLT, Int.reduceLE, Int.reduceEq, Int.reduceNeg, strOp_add, check_used hm, hm, f1, f2, hn]
    refine bB_split (fun hB => ?_) (fun hB => ?_)
    · simp only [decide_eq_true_eq] at hB
      simp +decide only [go_sem, Nat.reduceAdd, Nat.reduceMul, Nat.reduceSub, Nat.reduceLT, Nat.reduceLeDiff, Nat.reduceEqDiff, Nat.add_assoc, Int.reduceAdd, Int.reduceSub, Int.reduceMul, Int.reduceLT, Int.reduceLE, Int.reduceEq, Int.reduceNeg, strOp_add, hm, grow_eq (x := .ptr id 0 0) (n := n), h0, h1]
      refine hQ _ (some (m.nid + 13)) ?_ ?_ (fun h => by omega)
      · refine ⟨by dsimp only; omega, by omega, by dsimp only; omega, 0, ?_, ?_⟩
        · simp [upd]
          try rfl
        · have : ¬ m.nid + 13 = id := by omega
          simp [upd, this]
          try rfl
      · refine ⟨by dsimp only; omega, fun j hj h1 _ => ?_, by simp, ?_⟩
        · have : ¬ j = m.nid + 13 := by omega
          simp [upd, h1, this]
        · intro _ k hk
          simp at hk
          omega
    · simp only [decide_eq_false_iff_not] at hB
      simp +decide only [go_sem, Nat.reduceAdd, Nat.reduceMul, Nat.reduceSub, Nat.reduceLT, Nat.reduceLeDiff, Nat.reduceEqDiff, Nat.add_assoc, Int.reduceAdd, Int.reduceSub, Int.reduceMul, Int.reduceLT, Int.reduceLE, Int.reduceEq, Int.reduceNeg, strOp_add]
      refine hQ _ none ?_ ?_ (fun _ => rfl)
      · exact ⟨by dsimp only; omega, rfl, .ptr id 0 0, .inr rfl, by simp [upd, hm]⟩
      · exact ⟨by dsimp only; omega, fun j hj h1 _ => by simp [upd, h1], by simp, by simp⟩
end Go.Ev.Tryd
