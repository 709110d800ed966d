/- Part of the proof of a statement about the given program: G3D. No condition of its own. -/
import Derived.Test.YtjegppoenhfjlaaDoorG2D
namespace Go.Ev.Tryd
open Go.Proofs
set_option maxRecDepth 10000
set_option linter.unusedSimpArgs false
set_option linter.unusedVariables false
attribute [local congr] comes_congr bB_congr gK_congr gdK_congr
theorem share_tail {c : St → Option (Ex × St)} {K : Ex × St → Prop} {G : Prop} (I : St → Prop) (main : (∀ st, I st → Comes (lpL c st) K) → G) (tail : ∀ st, I st → Comes (lpL c st) K) : G := main tail
theorem abs_s {F : St → Prop} {st : St} (I : St → Prop) (h : I st) (k : ∀ st, I st → F st) : F st := k st h
/-- A reader of words at its place. -/
def WRd (m : Mem) (id : Nat) (ws : List ByteArray) (k : Nat) (bad : Bool) : Prop := id < m.nid ∧ ∃ ty, m.sto id = ⟨[strsA ws, .int .i64 k, .bool bad], 0, false, ty⟩
/-- All but one block stays. -/
def FrW (m m' : Mem) (id : Nat) : Prop := m.nid ≤ m'.nid ∧ ∀ j, j < m.nid → j ≠ id → m'.sto j = m.sto j
/-- The word at a place; nothing behind all. -/
def wAt (ws : List ByteArray) (k : Nat) : ByteArray := ws.getD k ⟨#[]⟩
theorem wAt_in {ws : List ByteArray} {k : Nat} (h : k < ws.length) : (ws.map AV.str)[k]? = some (.str (wAt ws k)) := by simp [wAt, h]
theorem wAt_out {ws : List ByteArray} {k : Nat} (h : ¬ k < ws.length) : wAt ws k = ⟨#[]⟩ := by
  unfold wAt
  rw [List.getD_eq_getElem?_getD, List.getElem?_eq_none (by omega)]
  rfl
theorem peek_wp (m : Mem) (id : Nat) (ws : List ByteArray) (k : Nat) (bad : Bool) (h : WRd m id ws k bad) (Q : AV × Mem → Prop) (hQ : ∀ m', m'.sto = m.sto → m.nid ≤ m'.nid → Q (.str (wAt ws k), m')) : Comes (fnI CC PR 11 [.ptr id 0 0] m) Q := by
  obtain ⟨hid, ty, hs⟩ := h
  refine fnI_wp (rs := [.tmp 2]) Tryd.func11 rfl rfl (Nat.le_of_ble_eq_true rfl) rfl rfl ?_
  simp +decide (disch := first | decide | omega) only [go_sem, Nat.reduceAdd, Nat.reduceMul, Nat.reduceSub, Nat.reduceLT, Nat.reduceLeDiff, Nat.reduceEqDiff, Nat.add_assoc, Int.reduceAdd, Int.reduceSub, Int.reduceMul, Int.reduceLT, Int.reduceLE, Int.reduceEq, Int.reduceNeg, strOp_add, hs]
  refine (d_plan (ord := [0, 1, 2, 3, 4, 5, 6, 7, 8, 9]) (prs := [(3, 7)]) (by kernel_rfl)).2 ?_
  simp +decide (disch := first | decide | omega) only [go_sem, Nat.reduceAdd, Nat.reduceMul, Nat.reduceSub, Nat.reduceLT, Nat.reduceLeDiff, Nat.reduceEqDiff, Nat.add_assoc, Int.reduceAdd, Int.reduceSub, Int.reduceMul, Int.reduceLT, Int.reduceLE, Int.reduceEq, Int.reduceNeg, strOp_add, hs, List.length_map]
  by_cases hk : k < ws.length
  · simp +decide (disch := first | decide | omega) only [go_sem, Nat.reduceAdd, Nat.reduceMul, Nat.reduceSub, Nat.reduceLT, Nat.reduceLeDiff, Nat.reduceEqDiff, Nat.add_assoc, Int.reduceAdd, Int.reduceSub, Int.reduceMul, Int.reduceLT, Int.reduceLE, Int.reduceEq, Int.reduceNeg, strOp_add, hs, hk, List.length_map]
    refine (d_plan (ord := [0, 1, 2, 3, 4, 5, 6, 7, 8, 9, 10]) (prs := [(3, 7)]) (by kernel_rfl)).2 ?_
    simp +decide (disch := first | decide | omega) only [go_sem, Nat.reduceAdd, Nat.reduceMul, Nat.reduceSub, Nat.reduceLT, Nat.reduceLeDiff, Nat.reduceEqDiff, Nat.add_assoc, Int.reduceAdd, Int.reduceSub, Int.reduceMul, Int.reduceLT, Int.reduceLE, Int.reduceEq, Int.reduceNeg, strOp_add, hs, hk, wAt_in hk, List.length_map]
    exact hQ _ rfl (Nat.le_add_right _ _)
  · rw [wAt_out hk] at hQ
    simp +decide (disch := first | decide | omega) only [go_sem, Nat.reduceAdd, Nat.reduceMul, Nat.reduceSub, Nat.reduceLT, Nat.reduceLeDiff, Nat.reduceEqDiff, Nat.add_assoc, Int.reduceAdd, Int.reduceSub, Int.reduceMul, Int.reduceLT, Int.reduceLE, Int.reduceEq, Int.reduceNeg, strOp_add, hs, hk, List.length_map]
    exact hQ _ rfl (Nat.le_add_right _ _)
theorem next_wp (m : Mem) (id : Nat) (ws : List ByteArray) (k : Nat) (bad : Bool) (h : WRd m id ws k bad) (hk : k ≤ 1099511627776) (Q : AV × Mem → Prop) (hQ : ∀ m', WRd m' id ws (k + 1) bad → FrW m m' id → Q (.str (wAt ws k), m')) : Comes (fnI CC PR 8 [.ptr id 0 0] m) Q := by
  have hid := h.1
  refine fnI_wp (rs := [.tmp 2]) Tryd.func8 rfl rfl (Nat.le_of_ble_eq_true rfl) rfl rfl ?_
  simp +decide only [go_sem, Nat.reduceAdd, Nat.reduceMul, Nat.reduceSub, Nat.reduceLT, Nat.reduceLeDiff, Nat.reduceEqDiff, Nat.add_assoc, Int.reduceAdd, Int.reduceSub, Int.reduceMul, Int.reduceLT, Int.reduceLE, Int.reduceEq, Int.reduceNeg, strOp_add]
  refine peek_wp m id ws k bad h _ fun m1 h1 h2 => ?_
  obtain ⟨_, ty, hs⟩ := h
  have hs1 := (congrFun h1 id).trans hs
  have w1 : IntKind.wrap .i64 ((k : Int) + 1) = ((k + 1 : Nat) : Int) := wrap_succ (by omega)
  simp +decide (disch := first | decide | omega) only [go_sem, Nat.reduceAdd, Nat.reduceMul, Nat.reduceSub, Nat.reduceLT, Nat.reduceLeDiff, Nat.reduceEqDiff, Nat.add_assoc, Int.reduceAdd, Int.reduceSub, Int.reduceMul, Int.reduceLT, Int.reduceLE, Int.reduceEq, Int.reduceNeg, strOp_add, hs1, w1]
  refine hQ _ ⟨by show id < m1.nid; omega, ty, upd_hit _ _ _⟩ ⟨by show m.nid ≤ m1.nid; omega, fun j c1 c2 => ?_⟩
  show upd _ _ _ _ = _
  rw [upd_miss _ _ _ _ c2, h1]
theorem must_wp (x : ByteArray) (m : Mem) (id : Nat) (ws : List ByteArray) (k : Nat) (bad : Bool) (h : WRd m id ws k bad) (hk : k ≤ 1099511627776) (Q : AV × Mem → Prop) (hQ : ∀ m', WRd m' id ws (k + 1) (bad || decide (¬ wAt ws k = x)) → FrW m m' id → Q (.tup [], m')) : Comes (fnI CC PR 9 [.ptr id 0 0, .str x] m) Q := by
  refine fnI_wp (rs := []) Tryd.func9 rfl rfl (Nat.le_of_ble_eq_true rfl) rfl rfl ?_
  simp +decide only [go_sem, Nat.reduceAdd, Nat.reduceMul, Nat.reduceSub, Nat.reduceLT, Nat.reduceLeDiff, Nat.reduceEqDiff, Nat.add_assoc, Int.reduceAdd, Int.reduceSub, Int.reduceMul, Int.reduceLT, Int.reduceLE, Int.reduceEq, Int.reduceNeg, strOp_add]
  refine next_wp m id ws k bad h hk _ fun m1 h1 h2 => ?_
  have h1c := h1
  obtain ⟨hid, ty, hs⟩ := h1c
  simp +decide (disch := first | decide | omega) only [go_sem, Nat.reduceAdd, Nat.reduceMul, Nat.reduceSub, Nat.reduceLT, Nat.reduceLeDiff, Nat.reduceEqDiff, Nat.add_assoc, Int.reduceAdd, Int.reduceSub, Int.reduceMul, Int.reduceLT, Int.reduceLE, Int.reduceEq, Int.reduceNeg, strOp_add, hs]
  refine bB_split (fun hB => ?_) (fun hB => ?_)
  · simp only [decide_eq_true_eq] at hB
    simp +decide (disch := first | decide | omega) only [go_sem, Nat.reduceAdd, Nat.reduceMul, Nat.reduceSub, Nat.reduceLT, Nat.reduceLeDiff, Nat.reduceEqDiff, Nat.add_assoc, Int.reduceAdd, Int.reduceSub, Int.reduceMul, Int.reduceLT, Int.reduceLE, Int.reduceEq, Int.reduceNeg, strOp_add, hs]
    refine hQ _ ?_ h2
    simpa [hB] using h1
  · simp only [decide_eq_false_iff_not] at hB
    simp +decide (disch := first | decide | omega) only [go_sem, Nat.reduceAdd, Nat.reduceMul, Nat.reduceSub, Nat.reduceLT, Nat.reduceLeDiff, Nat.reduceEqDiff, Nat.add_assoc, Int.reduceAdd, Int.reduceSub, Int.reduceMul, Int.reduceLT, Int.reduceLE, Int.reduceEq, Int.reduceNeg, strOp_add, hs]
    refine hQ _ ⟨hid, ty, ?_⟩ ⟨h2.1, fun j c1 c2 => (upd_miss _ _ _ _ c2).trans (h2.2 j c1 c2)⟩
    simp [hB, upd_hit]
/-- The word without a minus, and whether there was one. -/
def bare (w : ByteArray) : ByteArray := if 1 < w.size ∧ (sget w 0).toNat = 45 then w.extract 1 w.size else w
theorem bare_list (w : ByteArray) : (bare w).data.toList = if 1 < w.data.toList.length ∧ w.data.toList.head? = some 45 then w.data.toList.tail else w.data.toList := by
  have h0 : ∀ h : 0 < w.size, w.data.toList.head? = some (sget w 0) := fun h => by rw [List.head?_eq_getElem?]; exact sget_list h
  have hl : w.data.toList.length = w.size := by simp
  have h45 : ∀ c : UInt8, c.toNat = 45 ↔ c = 45 := fun c => ⟨fun h => UInt8.toNat_inj.1 h, fun h => by rw [h]; rfl⟩
  unfold bare
  by_cases h1 : 1 < w.size
  · have := h0 (by omega)
    by_cases h2 : (sget w 0).toNat = 45
    · rw [if_pos ⟨h1, h2⟩, if_pos ⟨by omega, by rw [this, (h45 _).1 h2]⟩, ext_list, List.take_of_length_le (by rw [List.length_drop, hl]; exact Nat.le_refl _), List.drop_one]
    · rw [if_neg fun h => h2 h.2, if_neg fun h => h2 ((h45 _).2 (by rw [this] at h; simpa using h.2))]
  · rw [if_neg fun h => h1 h.1, if_neg fun h => h1 (by omega)]
theorem val_lt : ∀ (l : List UInt8) (a : Nat), l.all isFig = true → l.foldl (fun a c => a * 10 + (c.toNat - 48)) a + 1 ≤ (a + 1) * 10 ^ l.length
  | [], a, _ => by simp
  | c :: l, a, h => by
    simp only [List.all_cons, Bool.and_eq_true] at h
    have hc := h.1
    simp only [isFig, Bool.and_eq_true, decide_eq_true_eq] at hc
    have := val_lt l (a * 10 + (c.toNat - 48)) h.2
    rw [List.foldl_cons, List.length_cons, Nat.pow_succ]
    refine Nat.le_trans this ?_
    rw [Nat.mul_comm (10 ^ l.length) 10, ← Nat.mul_assoc]
    exact Nat.mul_le_mul_right _ (by omega)
theorem valD_lt {l : List UInt8} (h : l.all isFig = true) : valD l < 10 ^ l.length := by
  have := val_lt l 0 h
  unfold valD
  omega
theorem all_snoc {l : List UInt8} {c : UInt8} (h : l.all isFig = true) (hc : isFig c = true) : (l ++ [c]).all isFig = true := by simp [h, hc]
theorem not_all {l : List UInt8} {i : Nat} {c : UInt8} (h : l[i]? = some c) (hc : isFig c = false) : l.all isFig = false := by
  rw [Bool.eq_false_iff]
  intro ha
  have := List.all_eq_true.1 ha c (List.mem_of_getElem? h)
  rw [hc] at this
  cases this
set_option maxHeartbeats 16000000 in
theorem num_wp (m : Mem) (id : Nat) (ws : List ByteArray) (k : Nat) (bad : Bool) (h : WRd m id ws k bad) (hk : k ≤ 1099511627776) (hsz : (wAt ws k).size ≤ 1099511627776) (Q : AV × Mem → Prop) (hQ : ∀ m', WRd m' id ws (k + 1) (bad || (numS (wAt ws k).data.toList).2) → FrW m m' id → Q (.int .i64 (numS (wAt ws k).data.toList).1, m')) : Comes (fnI CC PR 10 [.ptr id 0 0] m) Q := by
  refine fnI_wp (rs := [.tmp 2]) Tryd.func10 rfl rfl (Nat.le_of_ble_eq_true rfl) rfl rfl ?_
  simp +decide only [go_sem, Nat.reduceAdd, Nat.reduceMul, Nat.reduceSub, Nat.reduceLT, Nat.reduceLeDiff, Nat.reduceEqDiff, Nat.add_assoc, Int.reduceAdd, Int.reduceSub, Int.reduceMul, Int.reduceLT, Int.reduceLE, Int.reduceEq, Int.reduceNeg, strOp_add]
  refine next_wp m id ws k bad h hk _ fun m1 h1 h2 => ?_
  generalize wAt ws k = w at hQ hsz
  have h1c := h1
  obtain ⟨hid, ty, hs⟩ := h1c
  have hs0 : 0 < w.size → w[0]? = some (sget w 0) := fun h => s_at h
  have hl : w.data.toList.length = w.size := by simp
  simp +decide (disch := first | decide | omega) only [go_sem, Nat.reduceAdd, Nat.reduceMul, Nat.reduceSub, Nat.reduceLT, Nat.reduceLeDiff, Nat.reduceEqDiff, Nat.add_assoc, Int.reduceAdd, Int.reduceSub, Int.reduceMul, Int.reduceLT, Int.reduceLE, Int.reduceEq, Int.reduceNeg, strOp_add, hs]
  have h0 : ∀ h : 0 < w.size, w.data.toList.head? = some (sget w 0) := fun h => by rw [List.head?_eq_getElem?]; exact sget_list h
  have h45 : ∀ c : UInt8, c.toNat = 45 ↔ c = 45 := fun c => ⟨fun h => UInt8.toNat_inj.1 h, fun h => by rw [h]; rfl⟩
  have hbl := bare_list w
  apply share_tail (fun st => ∃ mi : Bool, (mi = true ↔ (1 < w.data.toList.length ∧ w.data.toList.head? = some 45)) ∧ st.toMem = m1 ∧ st.env 0 = .ptr id 0 0 ∧ st.env 3 = .str (bare w) ∧ st.env 4 = .bool mi ∧ st.env 5 = .int .i64 0 ∧ st.env 6 = .int .i64 0)
  · intro key
    by_cases p : (1 : Int) < (w.size : Int)
    · have p2 : (1 : Int) ≤ (w.size : Int) := by omega
      have p4 : 1 ≤ w.size := by omega
      have p5 : (0 : Int) < (w.size : Int) := by omega
      have p6 : w[0]? = some (sget w 0) := s_at (by omega)
      by_cases q : ((sget w 0).toNat : Int) = 45
      · have hbw : bare w = w.extract 1 w.size := if_pos ⟨by omega, by omega⟩
        have hc : 1 < w.data.toList.length ∧ w.data.toList.head? = some 45 := ⟨by omega, by rw [h0 (by omega), (h45 (sget w 0)).1 (by omega)]⟩
        simp +decide only [go_sem, Nat.reduceAdd, Nat.reduceMul, Nat.reduceSub, Nat.reduceLT, Nat.reduceLeDiff, Nat.reduceEqDiff, Nat.add_assoc, Int.reduceAdd, Int.reduceSub, Int.reduceMul, Int.reduceLT, Int.reduceLE, Int.reduceEq, Int.reduceNeg, strOp_add, hs, p, q, p6, p2, p4, p5, and_false, if_false]
        refine key _ ⟨true, ⟨fun _ => hc, fun _ => rfl⟩, ?_⟩
        simp +decide only [go_sem, Nat.reduceAdd, Nat.reduceMul, Nat.reduceSub, Nat.reduceLT, Nat.reduceLeDiff, Nat.reduceEqDiff, Nat.add_assoc, Int.reduceAdd, Int.reduceSub, Int.reduceMul, Int.reduceLT, Int.reduceLE, Int.reduceEq, Int.reduceNeg, strOp_add, hbw]
      · have hbw : bare w = w := if_neg (by omega)
        have hc : ¬ (1 < w.data.toList.length ∧ w.data.toList.head? = some 45) := fun h => by
          rw [h0 (by omega)] at h
          have := (h45 (sget w 0)).2 (by simpa using h.2)
          omega
        simp +decide only [go_sem, Nat.reduceAdd, Nat.reduceMul, Nat.reduceSub, Nat.reduceLT, Nat.reduceLeDiff, Nat.reduceEqDiff, Nat.add_assoc, Int.reduceAdd, Int.reduceSub, Int.reduceMul, Int.reduceLT, Int.reduceLE, Int.reduceEq, Int.reduceNeg, strOp_add, hs, p, q, p5, p6, and_false, if_false]
        refine key _ ⟨false, by simp only [Bool.false_eq_true, false_iff]; exact hc, ?_⟩
        simp +decide only [go_sem, Nat.reduceAdd, Nat.reduceMul, Nat.reduceSub, Nat.reduceLT, Nat.reduceLeDiff, Nat.reduceEqDiff, Nat.add_assoc, Int.reduceAdd, Int.reduceSub, Int.reduceMul, Int.reduceLT, Int.reduceLE, Int.reduceEq, Int.reduceNeg, strOp_add, hbw]
    · have hbw : bare w = w := if_neg (by omega)
      have hc : ¬ (1 < w.data.toList.length ∧ w.data.toList.head? = some 45) := fun h => by omega
      simp +decide only [go_sem, Nat.reduceAdd, Nat.reduceMul, Nat.reduceSub, Nat.reduceLT, Nat.reduceLeDiff, Nat.reduceEqDiff, Nat.add_assoc, Int.reduceAdd, Int.reduceSub, Int.reduceMul, Int.reduceLT, Int.reduceLE, Int.reduceEq, Int.reduceNeg, strOp_add, hs, p]
      refine key _ ⟨false, by simp only [Bool.false_eq_true, false_iff]; exact hc, ?_⟩
      simp +decide only [go_sem, Nat.reduceAdd, Nat.reduceMul, Nat.reduceSub, Nat.reduceLT, Nat.reduceLeDiff, Nat.reduceEqDiff, Nat.add_assoc, Int.reduceAdd, Int.reduceSub, Int.reduceMul, Int.reduceLT, Int.reduceLE, Int.reduceEq, Int.reduceNeg, strOp_add, hbw]
  · clear h0 h45 hs0
    rintro st0 ⟨mi, hmi, rfl, a0, a3, a4, a5, a6⟩
    have hN : numS w.data.toList = if (bare w).data.toList.all isFig = false then (0, true) else if (bare w).data.toList.length < 1 ∨ 18 < (bare w).data.toList.length ∨ (1 < (bare w).data.toList.length ∧ (bare w).data.toList.head? = some 48) ∨ (mi = true ∧ valD (bare w).data.toList = 0) then (0, true) else (if mi = true then -(valD (bare w).data.toList : Int) else valD (bare w).data.toList, false) := by
      unfold numS
      rw [hbl]
      simp only [hmi]
      split <;> simp_all
    have husz : (bare w).size ≤ 1099511627776 := by
      unfold bare
      split
      · rw [ext_size]
        omega
      · exact hsz
    generalize bare w = u at hN a3 husz
    have hul : u.data.toList.length = u.size := by simp
    rw [hul] at hN
    refine comes_upto u.size (fun i st => st.toMem = st0.toMem ∧ st.env 0 = .ptr id 0 0 ∧ st.env 3 = .str u ∧ st.env 4 = .bool mi ∧ st.env 6 = .int .i64 i ∧ (u.data.toList.take i).all isFig = true ∧ ∃ n : Int, st.env 5 = .int .i64 n ∧ (u.size ≤ 18 → n = (valD (u.data.toList.take i) : Int))) ?_ ?_ _ ?_
    · rintro i st hi ⟨hm, e0, e3, e4, e6, hall, n, e5, hn⟩
      have hcs := sget_list hi
      have htk := take_snoc hcs
      have hst : st.sto id = ⟨[strsA ws, .int .i64 ((k + 1 : Nat) : Int), .bool bad], 0, false, ty⟩ := by
        have : st.sto = st0.sto := congrArg Mem.sto hm
        rw [this]
        exact hs
      have w1 : IntKind.wrap .i64 ((i : Int) + 1) = ((i + 1 : Nat) : Int) := wrap_succ (by omega)
      simp +decide only [go_sem, Nat.reduceAdd, Nat.reduceMul, Nat.reduceSub, Nat.reduceLT, Nat.reduceLeDiff, Nat.reduceEqDiff, Nat.add_assoc, Int.reduceAdd, Int.reduceSub, Int.reduceMul, Int.reduceLT, Int.reduceLE, Int.reduceEq, Int.reduceNeg, strOp_add, e0, e3, e4, e5, e6, hi, s_at hi, w1]
      have hbadQ : isFig (sget u i) = false → Q (.int .i64 0, ⟨upd st.sto id ⟨[strsA ws, .int .i64 ((k + 1 : Nat) : Int), .bool true], 0, false, ty⟩, st.nid⟩) := fun hf => by
        rw [if_pos (not_all hcs hf)] at hN
        rw [hN] at hQ
        have hsto : st.sto = st0.sto := congrArg Mem.sto hm
        have hnid : st.nid = st0.nid := congrArg Mem.nid hm
        refine hQ _ ⟨by show id < st.nid; omega, ty, by simp [upd_hit]⟩ ⟨by have := h2.1; show m.nid ≤ st.nid; omega, fun j c1 c2 => ?_⟩
        show upd _ _ _ _ = _
        rw [upd_miss _ _ _ _ c2, hsto]
        exact h2.2 j c1 c2
      refine bB_split (fun hB => ?_) (fun hB => ?_)
      · simp only [decide_eq_true_eq] at hB
        simp +decide only [go_sem, Nat.reduceAdd, Nat.reduceMul, Nat.reduceSub, Nat.reduceLT, Nat.reduceLeDiff, Nat.reduceEqDiff, Nat.add_assoc, Int.reduceAdd, Int.reduceSub, Int.reduceMul, Int.reduceLT, Int.reduceLE, Int.reduceEq, Int.reduceNeg, strOp_add, e0, e3, e4, e5, e6, hst, hB]
        exact hbadQ (by simp [isFig]; omega)
      · simp only [decide_eq_false_iff_not] at hB
        simp +decide only [go_sem, Nat.reduceAdd, Nat.reduceMul, Nat.reduceSub, Nat.reduceLT, Nat.reduceLeDiff, Nat.reduceEqDiff, Nat.add_assoc, Int.reduceAdd, Int.reduceSub, Int.reduceMul, Int.reduceLT, Int.reduceLE, Int.reduceEq, Int.reduceNeg, strOp_add, e0, e3, e4, e5, e6, hi, s_at hi, hB]
        refine bB_split (fun hB2 => ?_) (fun hB2 => ?_)
        · simp only [decide_eq_true_eq] at hB2
          simp +decide only [go_sem, Nat.reduceAdd, Nat.reduceMul, Nat.reduceSub, Nat.reduceLT, Nat.reduceLeDiff, Nat.reduceEqDiff, Nat.add_assoc, Int.reduceAdd, Int.reduceSub, Int.reduceMul, Int.reduceLT, Int.reduceLE, Int.reduceEq, Int.reduceNeg, strOp_add, e0, e3, e4, e5, e6, hst, hB2]
          exact hbadQ (by simp [isFig]; omega)
        · simp only [decide_eq_false_iff_not] at hB2
          have hf : isFig (sget u i) = true := by simp [isFig]; omega
          simp +decide only [go_sem, Nat.reduceAdd, Nat.reduceMul, Nat.reduceSub, Nat.reduceLT, Nat.reduceLeDiff, Nat.reduceEqDiff, Nat.add_assoc, Int.reduceAdd, Int.reduceSub, Int.reduceMul, Int.reduceLT, Int.reduceLE, Int.reduceEq, Int.reduceNeg, strOp_add, e0, e3, e4, e5, e6, hi, s_at hi, w1]
          refine ⟨hm, by rw [htk]; exact all_snoc hall hf, _, rfl, fun h18 => ?_⟩
          have hv := valD_lt hall
          rw [List.length_take, hul, Nat.min_eq_left (by omega)] at hv
          have hp : (10 : Nat) ^ i ≤ 10 ^ 17 := Nat.pow_le_pow_right (by omega) (by omega)
          have hp2 : (10 : Nat) ^ 17 = 100000000000000000 := by decide
          rw [htk, valD_snoc, hn h18]
          have u0 : IntKind.wrap .u8 (((sget u i).toNat : Int) - 48) = ((sget u i).toNat : Int) - 48 := by
            unfold IntKind.wrap
            simp [IntKind.bits, IntKind.signed]
            omega
          have u2 : IntKind.wrap .i64 (((sget u i).toNat : Int) - 48) = ((sget u i).toNat : Int) - 48 := wrap_id (by omega) (by omega)
          have u3 : IntKind.wrap .i64 ((valD (u.data.toList.take i) : Int) * 10) = (valD (u.data.toList.take i) : Int) * 10 := wrap_id (by omega) (by omega)
          simp only [u0, u2, u3]
          rw [wrap_id (by omega) (by omega)]
          omega
    · rintro st ⟨hm, e0, e3, e4, e6, hall, n, e5, hn⟩
      rw [List.take_of_length_le (by rw [hul]; exact Nat.le_refl _)] at hall hn
      rw [if_neg (by rw [hall]; simp)] at hN
      have hsto : st.sto = st0.sto := congrArg Mem.sto hm
      have hnid : st.nid = st0.nid := congrArg Mem.nid hm
      have hst : st.sto id = ⟨[strsA ws, .int .i64 ((k + 1 : Nat) : Int), .bool bad], 0, false, ty⟩ := by rw [hsto]; exact hs
      have hbadQ : (u.size < 1 ∨ 18 < u.size ∨ 1 < u.size ∧ u.data.toList.head? = some 48 ∨ mi = true ∧ valD u.data.toList = 0) → Q (.int .i64 0, ⟨upd st.sto id ⟨[strsA ws, .int .i64 ((k + 1 : Nat) : Int), .bool true], 0, false, ty⟩, st.nid⟩) := fun hf => by
        rw [if_pos hf] at hN
        rw [hN] at hQ
        refine hQ _ ⟨by show id < st.nid; omega, ty, by simp [upd_hit]⟩ ⟨by have := h2.1; show m.nid ≤ st.nid; omega, fun j c1 c2 => ?_⟩
        show upd _ _ _ _ = _
        rw [upd_miss _ _ _ _ c2, hsto]
        exact h2.2 j c1 c2
      have hgoodQ : ¬ (u.size < 1 ∨ 18 < u.size ∨ 1 < u.size ∧ u.data.toList.head? = some 48 ∨ mi = true ∧ valD u.data.toList = 0) → Q (.int .i64 (if mi = true then -(valD u.data.toList : Int) else valD u.data.toList), ⟨st.sto, st.nid⟩) := fun hf => by
        rw [if_neg hf] at hN
        rw [hN] at hQ
        refine hQ _ ⟨by show id < st.nid; omega, ty, by simpa using hst⟩ ⟨by have := h2.1; show m.nid ≤ st.nid; omega, fun j c1 c2 => ?_⟩
        show st.sto j = _
        rw [hsto]
        exact h2.2 j c1 c2
      by_cases z : u.size < 1 ∨ 18 < u.size
      · have hq := hbadQ (by omega)
        have z1 : (decide ((1 : Int) ≤ (u.size : Int)) && decide ((u.size : Int) ≤ 18)) = false := by
          rw [Bool.eq_false_iff]
          intro h
          simp only [Bool.and_eq_true, decide_eq_true_eq] at h
          omega
        simp +decide only [go_sem, Nat.reduceAdd, Nat.reduceMul, Nat.reduceSub, Nat.reduceLT, Nat.reduceLeDiff, Nat.reduceEqDiff, Nat.add_assoc, Int.reduceAdd, Int.reduceSub, Int.reduceMul, Int.reduceLT, Int.reduceLE, Int.reduceEq, Int.reduceNeg, strOp_add, e0, e3, e4, e5, e6, hst, z1]
        exact hq
      · have z1 : (decide ((1 : Int) ≤ (u.size : Int)) && decide ((u.size : Int) ≤ 18)) = true := by
          simp only [Bool.and_eq_true, decide_eq_true_eq]
          omega
        have z2 : (0 : Int) < (u.size : Int) := by omega
        have z3 := s_at (s := u) (i := 0) (by omega)
        have z4 : u.data.toList.head? = some (sget u 0) := by rw [List.head?_eq_getElem?]; exact sget_list (by omega)
        have z5 : u.data.toList.head? = some 48 ↔ ((sget u 0).toNat : Int) = 48 := by
          rw [z4, Option.some.injEq, ← UInt8.toNat_inj]
          have : (48 : UInt8).toNat = 48 := rfl
          omega
        have hn := hn (by omega)
        have hv := valD_lt hall
        rw [hul] at hv
        have hp : (10 : Nat) ^ u.size ≤ 10 ^ 18 := Nat.pow_le_pow_right (by omega) (by omega)
        have hp2 : (10 : Nat) ^ 18 = 1000000000000000000 := by decide
        rw [z5] at hbadQ hgoodQ
        subst hn
        generalize valD u.data.toList = V at *
        have w3 : IntKind.wrap .i64 (-(V : Int)) = -(V : Int) := wrap_id (by omega) (by omega)
        by_cases y1 : (1 : Int) < (u.size : Int)
        · by_cases y2 : ((sget u 0).toNat : Int) = 48
          · have hq := hbadQ (.inr (.inr (.inl ⟨by omega, y2⟩)))
            simp +decide only [go_sem, Nat.reduceAdd, Nat.reduceMul, Nat.reduceSub, Nat.reduceLT, Nat.reduceLeDiff, Nat.reduceEqDiff, Nat.add_assoc, Int.reduceAdd, Int.reduceSub, Int.reduceMul, Int.reduceLT, Int.reduceLE, Int.reduceEq, Int.reduceNeg, strOp_add, e0, e3, e4, e5, e6, hst, z1, z2, z3, y1, y2]
            exact hq
          · by_cases y3 : (V : Int) = 0
            · cases mi
              · have hq := hgoodQ (by
                  rintro (h | h | h | h)
                  · omega
                  · omega
                  · exact y2 h.2
                  · cases h.1)
                have hV : V = 0 := by omega
                subst hV
                simp +decide only [go_sem, Nat.reduceAdd, Nat.reduceMul, Nat.reduceSub, Nat.reduceLT, Nat.reduceLeDiff, Nat.reduceEqDiff, Nat.add_assoc, Int.reduceAdd, Int.reduceSub, Int.reduceMul, Int.reduceLT, Int.reduceLE, Int.reduceEq, Int.reduceNeg, strOp_add, e0, e3, e4, e5, e6, hst, z1, z2, z3, y1, y2]
                simpa using hq
              · have hq := hbadQ (.inr (.inr (.inr ⟨rfl, by omega⟩)))
                simp +decide only [go_sem, Nat.reduceAdd, Nat.reduceMul, Nat.reduceSub, Nat.reduceLT, Nat.reduceLeDiff, Nat.reduceEqDiff, Nat.add_assoc, Int.reduceAdd, Int.reduceSub, Int.reduceMul, Int.reduceLT, Int.reduceLE, Int.reduceEq, Int.reduceNeg, strOp_add, e0, e3, e4, e5, e6, hst, z1, z2, z3, y1, y2, y3]
                exact hq
            · have hq := hgoodQ (by
                rintro (h | h | h | h)
                · omega
                · omega
                · exact y2 h.2
                · exact y3 (by omega))
              cases mi
              · simp +decide only [go_sem, Nat.reduceAdd, Nat.reduceMul, Nat.reduceSub, Nat.reduceLT, Nat.reduceLeDiff, Nat.reduceEqDiff, Nat.add_assoc, Int.reduceAdd, Int.reduceSub, Int.reduceMul, Int.reduceLT, Int.reduceLE, Int.reduceEq, Int.reduceNeg, strOp_add, e0, e3, e4, e5, e6, hst, z1, z2, z3, y1, y2, y3]
                simpa using hq
              · simp +decide only [go_sem, Nat.reduceAdd, Nat.reduceMul, Nat.reduceSub, Nat.reduceLT, Nat.reduceLeDiff, Nat.reduceEqDiff, Nat.add_assoc, Int.reduceAdd, Int.reduceSub, Int.reduceMul, Int.reduceLT, Int.reduceLE, Int.reduceEq, Int.reduceNeg, strOp_add, e0, e3, e4, e5, e6, hst, z1, z2, z3, y1, y2, y3]
                rw [Int.zero_sub, w3]
                simpa using hq
        · by_cases y3 : (V : Int) = 0
          · cases mi
            · have hq := hgoodQ (by
                rintro (h | h | h | h)
                · omega
                · omega
                · omega
                · cases h.1)
              have hV : V = 0 := by omega
              subst hV
              simp +decide only [go_sem, Nat.reduceAdd, Nat.reduceMul, Nat.reduceSub, Nat.reduceLT, Nat.reduceLeDiff, Nat.reduceEqDiff, Nat.add_assoc, Int.reduceAdd, Int.reduceSub, Int.reduceMul, Int.reduceLT, Int.reduceLE, Int.reduceEq, Int.reduceNeg, strOp_add, e0, e3, e4, e5, e6, hst, z1, z2, z3, y1]
              simpa using hq
            · have hq := hbadQ (.inr (.inr (.inr ⟨rfl, by omega⟩)))
              simp +decide only [go_sem, Nat.reduceAdd, Nat.reduceMul, Nat.reduceSub, Nat.reduceLT, Nat.reduceLeDiff, Nat.reduceEqDiff, Nat.add_assoc, Int.reduceAdd, Int.reduceSub, Int.reduceMul, Int.reduceLT, Int.reduceLE, Int.reduceEq, Int.reduceNeg, strOp_add, e0, e3, e4, e5, e6, hst, z1, z2, z3, y1, y3]
              exact hq
          · have hq := hgoodQ (by
              rintro (h | h | h | h)
              · omega
              · omega
              · omega
              · exact y3 (by omega))
            cases mi
            · simp +decide only [go_sem, Nat.reduceAdd, Nat.reduceMul, Nat.reduceSub, Nat.reduceLT, Nat.reduceLeDiff, Nat.reduceEqDiff, Nat.add_assoc, Int.reduceAdd, Int.reduceSub, Int.reduceMul, Int.reduceLT, Int.reduceLE, Int.reduceEq, Int.reduceNeg, strOp_add, e0, e3, e4, e5, e6, hst, z1, z2, z3, y1, y3]
              simpa using hq
            · simp +decide only [go_sem, Nat.reduceAdd, Nat.reduceMul, Nat.reduceSub, Nat.reduceLT, Nat.reduceLeDiff, Nat.reduceEqDiff, Nat.add_assoc, Int.reduceAdd, Int.reduceSub, Int.reduceMul, Int.reduceLT, Int.reduceLE, Int.reduceEq, Int.reduceNeg, strOp_add, e0, e3, e4, e5, e6, hst, z1, z2, z3, y1, y3]
              rw [Int.zero_sub, w3]
              simpa using hq
    · simp +decide only [go_sem, Nat.reduceAdd, Nat.reduceMul, Nat.reduceSub, Nat.reduceLT, Nat.reduceLeDiff, Nat.reduceEqDiff, Nat.add_assoc, Int.reduceAdd, Int.reduceSub, Int.reduceMul, Int.reduceLT, Int.reduceLE, Int.reduceEq, Int.reduceNeg, strOp_add, a0, a3, a4, a5, a6]
      exact ⟨rfl, 0, rfl, fun _ => rfl⟩
end Go.Ev.Tryd
