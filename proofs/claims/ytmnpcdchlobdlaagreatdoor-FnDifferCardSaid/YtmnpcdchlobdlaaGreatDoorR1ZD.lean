/- Part of the proof of a statement about the given program: R1ZD. No condition of its own. -/
import Derived.Test.YtmnpcdchlobdlaaGreatDoorD12ZD
namespace Go.Ev.Tryz
open Go.Proofs
set_option maxRecDepth 10000
set_option linter.unusedSimpArgs false
set_option linter.unusedVariables false
attribute [local congr] comes_congr bB_congr gK_congr gdK_congr

/-- The reader's block: its bytes, and a place that is no further than P. -/
def RdAt (m : Mem) (id : Nat) (bs : List Int) (P : Nat) : Prop :=
  id < m.nid ∧ ∃ p : Nat, p ≤ P ∧ m.sto id = ⟨[.slice 1 (bs.map (.int .u8 ·)), .int .i64 p], 0, false, none⟩
/-- All but one block stays. -/
def Fr (m m' : Mem) (id : Nat) : Prop := m.nid ≤ m'.nid ∧ ∀ j, j < m.nid → j ≠ id → m'.sto j = m.sto j
theorem Fr.refl (m : Mem) (id : Nat) : Fr m m id := ⟨Nat.le_refl _, fun _ _ _ => rfl⟩
theorem Fr.trans {a b c : Mem} {id : Nat} (h : Fr a b id) (k : Fr b c id) : Fr a c id :=
  ⟨Nat.le_trans h.1 k.1, fun j hj hn => (k.2 j (Nat.lt_of_lt_of_le hj h.1) hn).trans (h.2 j hj hn)⟩
def Bytes (bs : List Int) : Prop := bs.length ≤ 2000 ∧ ∀ b ∈ bs, 0 ≤ b ∧ b ≤ 255
theorem xor_ok (x : Nat) (h : x < 4611686018427387904) : ∃ y : Nat, bitsI .i64 (· ^^^ ·) (x : Int) ((x / 64 : Nat) : Int) = .int .i64 y ∧ y < 4611686018427387904 := by
  have e1 : (BitVec.ofInt IntKind.i64.bits (x : Int)).toNat = x := by
    show (BitVec.ofInt 64 (x : Int)).toNat = x
    simp
    omega
  have e2 : (BitVec.ofInt IntKind.i64.bits ((x / 64 : Nat) : Int)).toNat = x / 64 := by
    show (BitVec.ofInt 64 ((x / 64 : Nat) : Int)).toNat = x / 64
    simp
    omega
  refine ⟨x ^^^ (x / 64), ?_, ?_⟩
  · unfold bitsI
    rw [BitVec.toNat_xor, e1, e2]
    have : x ^^^ (x / 64) < 2 ^ 62 := Nat.xor_lt_two_pow (by omega) (by omega)
    rw [wrap_nat (by omega)]
  · exact Nat.xor_lt_two_pow (n := 62) (by omega) (by omega)
theorem tmod_nat (a b : Nat) : (a : Int).tmod b = ((a % b : Nat) : Int) := (Int.ofNat_tmod a b).symm
theorem tdiv_nat (a b : Nat) : (a : Int).tdiv b = ((a / b : Nat) : Int) := (Int.ofNat_tdiv a b).symm
theorem wrap_of {x : Int} {a : Nat} (h : x = a) (h' : a ≤ 9223372036854775807) : IntKind.wrap .i64 x = a := by rw [h, wrap_nat h']
theorem u8_at {bs : List Int} {i : Nat} (h : i < bs.length) : (bs.map (AV.int .u8 ·))[i]? = some (.int .u8 bs[i]) := by simp [h]
theorem pick_wp (n : Nat) (m : Mem) (id : Nat) (bs : List Int) (P : Nat) (h : RdAt m id bs P) (hb : Bytes bs) (hP : P ≤ 1000000000000000) (hn1 : 1 ≤ n) (hn2 : n ≤ 1099511627776) (Q : AV × Mem → Prop)
    (hQ : ∀ (k : Nat) m', k < n → RdAt m' id bs (P + 1) → Fr m m' id → Q (.int .i64 k, m')) :
    Comes (fnI CC PR 13 [.ptr id 0 0, .int .i64 n] m) Q := by
  obtain ⟨hid, p, hp, hs⟩ := h
  have hn0 : ¬ ((n : Int) < 1) := by omega
  refine fnI_wp (rs := [.tmp 4]) Tryz.func13 rfl rfl (Nat.le_of_ble_eq_true rfl) rfl rfl ?_
  have fin : ∀ m' : Mem, m.nid ≤ m'.nid → m'.sto = upd m.sto id ⟨[.slice 1 (bs.map (.int .u8 ·)), .int .i64 ((p + 1 : Nat) : Int)], 0, false, none⟩ → RdAt m' id bs (P + 1) ∧ Fr m m' id := by
    intro m' h1 h2
    refine ⟨⟨by omega, p + 1, by omega, by rw [h2]; exact upd_hit _ _ _⟩, by omega, fun j _ hj => by rw [h2]; exact upd_miss _ _ _ _ hj⟩
  rcases Nat.eq_zero_or_pos bs.length with hL | hL
  · have hL0 : bs = [] := List.eq_nil_of_length_eq_zero hL
    subst hL0
    rw [List.map_nil] at hs fin
    simp +decide (disch := first | decide | omega) only [go_sem, Nat.reduceAdd, Nat.reduceMul, Nat.reduceSub, Nat.reduceLT, Nat.reduceLeDiff, Nat.reduceEqDiff, Nat.add_assoc, Int.reduceAdd, Int.reduceSub, Int.reduceMul, Int.reduceLT, Int.reduceLE, Int.reduceEq, Int.reduceNeg, strOp_add, hs, hn0, wrap_succ (show p + 1 ≤ 9223372036854775807 by omega)]
    obtain ⟨f1, f2⟩ := fin ⟨upd m.sto id _, m.nid⟩ (Nat.le_refl _) rfl
    exact hQ 0 _ (by omega) f1 f2
  · have hLi : ¬ ((bs.length : Int) = 0) := by omega
    have w0 : IntKind.wrap .i64 (((p + 1 : Nat) : Int) - 1) = p := by rw [wrap_id (by omega) (by omega)]; omega
    have hnz : ¬ ((n : Int) = 0) := by omega
    obtain ⟨fR, fF⟩ := fin ⟨upd m.sto id _, m.nid⟩ (Nat.le_refl _) rfl
    by_cases hk : p < bs.length
    · have hbb := hb.2 _ (List.getElem_mem hk)
      obtain ⟨c, hc⟩ := Int.eq_ofNat_of_zero_le hbb.1
      have wc : IntKind.wrap .i64 bs[p] = (c : Int) := wrap_of hc (by omega)
      simp +decide only [go_sem, Nat.reduceAdd, Nat.reduceMul, Nat.reduceSub, Nat.reduceLT, Nat.reduceLeDiff, Nat.reduceEqDiff, Nat.add_assoc, Int.reduceAdd, Int.reduceSub, Int.reduceMul, Int.reduceLT, Int.reduceLE, Int.reduceEq, Int.reduceNeg, strOp_add, hs, hn0, hLi, List.length_map, wrap_succ (show p + 1 ≤ 9223372036854775807 by omega), w0, hk, u8_at hk, hnz, wc, tmod_nat]
      exact hQ _ _ (Nat.mod_lt _ (by omega)) fR fF
    · have hi1 : p % bs.length < bs.length := Nat.mod_lt _ (by omega)
      obtain ⟨a1, ha1⟩ : ∃ a1, a1 = p * 7 := ⟨_, rfl⟩
      obtain ⟨a2, ha2⟩ : ∃ a2, a2 = a1 + 3 := ⟨_, rfl⟩
      have hi2 : a2 % bs.length < bs.length := Nat.mod_lt _ (by omega)
      have v1 : IntKind.wrap .i64 ((p : Int) * 7) = a1 := wrap_of (by omega) (by omega)
      have v2 : IntKind.wrap .i64 ((a1 : Int) + 3) = a2 := wrap_of (by omega) (by omega)
      have hb1 := hb.2 _ (List.getElem_mem hi1)
      obtain ⟨c1, hc1⟩ := Int.eq_ofNat_of_zero_le hb1.1
      have hb2 := hb.2 _ (List.getElem_mem hi2)
      obtain ⟨c2, hc2⟩ := Int.eq_ofNat_of_zero_le hb2.1
      have wc1 : IntKind.wrap .i64 bs[p % bs.length] = (c1 : Int) := wrap_of hc1 (by omega)
      have wc2 : IntKind.wrap .i64 bs[a2 % bs.length] = (c2 : Int) := wrap_of hc2 (by omega)
      obtain ⟨d1, hd1⟩ : ∃ d1, d1 = c1 * 131 := ⟨_, rfl⟩
      obtain ⟨d2, hd2⟩ : ∃ d2, d2 = c2 * 1117 := ⟨_, rfl⟩
      obtain ⟨d3, hd3⟩ : ∃ d3, d3 = d1 + d2 := ⟨_, rfl⟩
      obtain ⟨d4, hd4⟩ : ∃ d4, d4 = p * 29 := ⟨_, rfl⟩
      obtain ⟨d5, hd5⟩ : ∃ d5, d5 = d3 + d4 := ⟨_, rfl⟩
      obtain ⟨q, hq⟩ : ∃ q, q = p / bs.length := ⟨_, rfl⟩
      have hqp : q ≤ p := by rw [hq]; exact Nat.div_le_self _ _
      obtain ⟨d6, hd6⟩ : ∃ d6, d6 = q * 53 := ⟨_, rfl⟩
      obtain ⟨x, hx⟩ : ∃ x, x = d5 + d6 := ⟨_, rfl⟩
      have v3 : IntKind.wrap .i64 ((c1 : Int) * 131) = d1 := wrap_of (by omega) (by omega)
      have v4 : IntKind.wrap .i64 ((c2 : Int) * 1117) = d2 := wrap_of (by omega) (by omega)
      have v5 : IntKind.wrap .i64 ((d1 : Int) + d2) = d3 := wrap_of (by omega) (by omega)
      have v6 : IntKind.wrap .i64 ((p : Int) * 29) = d4 := wrap_of (by omega) (by omega)
      have v7 : IntKind.wrap .i64 ((d3 : Int) + d4) = d5 := wrap_of (by omega) (by omega)
      have v8 : IntKind.wrap .i64 ((p : Int).tdiv (bs.length : Int)) = q := wrap_of (by rw [tdiv_nat, hq]) (by omega)
      have v9 : IntKind.wrap .i64 ((q : Int) * 53) = d6 := wrap_of (by omega) (by omega)
      have v10 : IntKind.wrap .i64 ((d5 : Int) + d6) = x := wrap_of (by omega) (by omega)
      have v11 : IntKind.wrap .i64 ((x : Int).tdiv 64) = ((x / 64 : Nat) : Int) := wrap_of (tdiv_nat x 64) (by omega)
      obtain ⟨y, hy, hy2⟩ := xor_ok x (by omega)
      simp +decide only [go_sem, Nat.reduceAdd, Nat.reduceMul, Nat.reduceSub, Nat.reduceLT, Nat.reduceLeDiff, Nat.reduceEqDiff, Nat.add_assoc, Int.reduceAdd, Int.reduceSub, Int.reduceMul, Int.reduceLT, Int.reduceLE, Int.reduceEq, Int.reduceNeg, strOp_add, hs, hn0, hLi, List.length_map, wrap_succ (show p + 1 ≤ 9223372036854775807 by omega), w0, hk]
      refine (d_plan (ord := [0, 1, 2, 3, 4, 5, 6, 7, 8, 9, 10, 11, 12, 13, 14, 15, 16, 17, 18, 19, 20, 21, 22, 23, 24, 25, 26, 27, 28, 29, 30, 31, 32, 33, 34, 35, 36, 37, 38, 39, 40, 41, 42, 43, 44, 45]) (prs := [(3, 8), (3, 18), (8, 18), (12, 18), (13, 18), (3, 25), (8, 25), (12, 25), (13, 25), (18, 25), (3, 29), (8, 29), (12, 29), (13, 29), (3, 30), (8, 30), (12, 30), (13, 30), (3, 40), (8, 40), (12, 40), (13, 40), (18, 40), (25, 40), (29, 40), (30, 40)]) (by kernel_rfl)).2 ?_
      simp +decide only [go_sem, Nat.reduceAdd, Nat.reduceMul, Nat.reduceSub, Nat.reduceLT, Nat.reduceLeDiff, Nat.reduceEqDiff, Nat.add_assoc, Int.reduceAdd, Int.reduceSub, Int.reduceMul, Int.reduceLT, Int.reduceLE, Int.reduceEq, Int.reduceNeg, strOp_add, hs, hLi, List.length_map, hi1, hi2, u8_at hi1, u8_at hi2, tmod_nat, v1, v2, wc1, wc2, v3, v4, v5, v6, v7, v8, v9, v10, v11]
      obtain ⟨fR, fF⟩ := fin ⟨upd m.sto id _, m.nid + 46⟩ (Nat.le_add_right _ _) rfl
      erw [hy]
      simp +decide only [go_sem, Nat.reduceAdd, Nat.reduceMul, Nat.reduceSub, Nat.reduceLT, Nat.reduceLeDiff, Nat.reduceEqDiff, Nat.add_assoc, Int.reduceAdd, Int.reduceSub, Int.reduceMul, Int.reduceLT, Int.reduceLE, Int.reduceEq, Int.reduceNeg, strOp_add, hnz, tmod_nat]
      exact hQ _ _ (Nat.mod_lt _ (by omega)) fR fF
theorem one_wp (l : List Int) (m : Mem) (id : Nat) (bs : List Int) (P : Nat) (h : RdAt m id bs P) (hb : Bytes bs) (hP : P ≤ 1000000000000000) (hn1 : 1 ≤ l.length) (hn2 : l.length ≤ 1099511627776) (Q : AV × Mem → Prop)
    (hQ : ∀ x m', x ∈ l → RdAt m' id bs (P + 1) → Fr m m' id → Q (.int .i64 x, m')) :
    Comes (fnI CC PR 36 [.ptr id 0 0, .slice 1 (l.map (.int .i64 ·))] m) Q := by
  refine fnI_wp (rs := [.tmp 4]) Tryz.func36 rfl rfl (Nat.le_of_ble_eq_true rfl) rfl rfl ?_
  simp +decide only [go_sem, Nat.reduceAdd, Nat.reduceMul, Nat.reduceSub, Nat.reduceLT, Nat.reduceLeDiff, Nat.reduceEqDiff, Nat.add_assoc, Int.reduceAdd, Int.reduceSub, Int.reduceMul, Int.reduceLT, Int.reduceLE, Int.reduceEq, Int.reduceNeg, strOp_add, List.length_map]
  refine pick_wp l.length _ id bs P h hb hP hn1 hn2 _ fun k m' hk h1 h2 => ?_
  have hat : (l.map (AV.int .i64 ·))[k]? = some (.int .i64 l[k]) := by simp [hk]
  simp +decide only [go_sem, Nat.reduceAdd, Nat.reduceMul, Nat.reduceSub, Nat.reduceLT, Nat.reduceLeDiff, Nat.reduceEqDiff, Nat.add_assoc, Int.reduceAdd, Int.reduceSub, Int.reduceMul, Int.reduceLT, Int.reduceLE, Int.reduceEq, Int.reduceNeg, strOp_add, List.length_map, hk, hat]
  exact hQ _ _ (List.getElem_mem hk) h1 h2
theorem of_wp (l : List ByteArray) (m : Mem) (id : Nat) (bs : List Int) (P : Nat) (h : RdAt m id bs P) (hb : Bytes bs) (hP : P ≤ 1000000000000000) (hn1 : 1 ≤ l.length) (hn2 : l.length ≤ 1099511627776) (Q : AV × Mem → Prop)
    (hQ : ∀ x m', x ∈ l → RdAt m' id bs (P + 1) → Fr m m' id → Q (.str x, m')) :
    Comes (fnI CC PR 34 [.ptr id 0 0, strsA l] m) Q := by
  refine fnI_wp (rs := [.tmp 4]) Tryz.func34 rfl rfl (Nat.le_of_ble_eq_true rfl) rfl rfl ?_
  simp +decide only [go_sem, Nat.reduceAdd, Nat.reduceMul, Nat.reduceSub, Nat.reduceLT, Nat.reduceLeDiff, Nat.reduceEqDiff, Nat.add_assoc, Int.reduceAdd, Int.reduceSub, Int.reduceMul, Int.reduceLT, Int.reduceLE, Int.reduceEq, Int.reduceNeg, strOp_add, List.length_map]
  refine pick_wp l.length _ id bs P h hb hP hn1 hn2 _ fun k m' hk h1 h2 => ?_
  simp +decide only [go_sem, Nat.reduceAdd, Nat.reduceMul, Nat.reduceSub, Nat.reduceLT, Nat.reduceLeDiff, Nat.reduceEqDiff, Nat.add_assoc, Int.reduceAdd, Int.reduceSub, Int.reduceMul, Int.reduceLT, Int.reduceLE, Int.reduceEq, Int.reduceNeg, strOp_add, List.length_map, hk, strs_at hk]
  exact hQ _ _ (List.getElem_mem hk) h1 h2
theorem drop_head {α : Type} {l : List α} {k : Nat} (h : k < l.length) : (l.drop k).head? = some l[k] := by simp [List.head?_drop, h]
theorem oneA_wp (l : List Int) (m : Mem) (id : Nat) (bs : List Int) (P : Nat) (lid g : Nat) (app fz : Bool) (ty : Option (TypeId × Bool)) (hl : m.sto lid = ⟨l.map (.int .i64 ·), g, fz, ty⟩) (hlid : lid < m.nid) (hne : lid ≠ id) (h : RdAt m id bs P) (hb : Bytes bs) (hP : P ≤ 1000000000000000) (hn1 : 1 ≤ l.length) (hn2 : l.length ≤ 1099511627776) (Q : AV × Mem → Prop)
    (hQ : ∀ x m', x ∈ l → RdAt m' id bs (P + 1) → Fr m m' id → Q (.int .i64 x, m')) :
    Comes (fnI CC PR 36 [.ptr id 0 0, .arr lid g 0 l.length 1 app] m) Q := by
  refine fnI_wp (rs := [.tmp 4]) Tryz.func36 rfl rfl (Nat.le_of_ble_eq_true rfl) rfl rfl ?_
  simp +decide only [go_sem, Nat.reduceAdd, Nat.reduceMul, Nat.reduceSub, Nat.reduceLT, Nat.reduceLeDiff, Nat.reduceEqDiff, Nat.add_assoc, Int.reduceAdd, Int.reduceSub, Int.reduceMul, Int.reduceLT, Int.reduceLE, Int.reduceEq, Int.reduceNeg, strOp_add]
  refine pick_wp l.length _ id bs P h hb hP hn1 hn2 _ fun k m' hk h1 h2 => ?_
  have hl' : m'.sto lid = ⟨l.map (.int .i64 ·), g, fz, ty⟩ := by rw [h2.2 _ hlid hne]; exact hl
  have hat : ((l.map (AV.int .i64 ·)).drop k).head? = some (.int .i64 l[k]) := by rw [drop_head (by simpa using hk)]; simp
  simp +decide only [go_sem, Nat.reduceAdd, Nat.reduceMul, Nat.reduceSub, Nat.reduceLT, Nat.reduceLeDiff, Nat.reduceEqDiff, Nat.add_assoc, Int.reduceAdd, Int.reduceSub, Int.reduceMul, Int.reduceLT, Int.reduceLE, Int.reduceEq, Int.reduceNeg, strOp_add, hk, hl', hat, Nat.mul_one, Nat.zero_add]
  exact hQ _ _ (List.getElem_mem hk) h1 h2
theorem ofA_wp (l : List ByteArray) (m : Mem) (id : Nat) (bs : List Int) (P : Nat) (lid g : Nat) (app fz : Bool) (ty : Option (TypeId × Bool)) (hl : m.sto lid = ⟨l.map AV.str, g, fz, ty⟩) (hlid : lid < m.nid) (hne : lid ≠ id) (h : RdAt m id bs P) (hb : Bytes bs) (hP : P ≤ 1000000000000000) (hn1 : 1 ≤ l.length) (hn2 : l.length ≤ 1099511627776) (Q : AV × Mem → Prop)
    (hQ : ∀ x m', x ∈ l → RdAt m' id bs (P + 1) → Fr m m' id → Q (.str x, m')) :
    Comes (fnI CC PR 34 [.ptr id 0 0, .arr lid g 0 l.length 1 app] m) Q := by
  refine fnI_wp (rs := [.tmp 4]) Tryz.func34 rfl rfl (Nat.le_of_ble_eq_true rfl) rfl rfl ?_
  simp +decide only [go_sem, Nat.reduceAdd, Nat.reduceMul, Nat.reduceSub, Nat.reduceLT, Nat.reduceLeDiff, Nat.reduceEqDiff, Nat.add_assoc, Int.reduceAdd, Int.reduceSub, Int.reduceMul, Int.reduceLT, Int.reduceLE, Int.reduceEq, Int.reduceNeg, strOp_add]
  refine pick_wp l.length _ id bs P h hb hP hn1 hn2 _ fun k m' hk h1 h2 => ?_
  have hl' : m'.sto lid = ⟨l.map AV.str, g, fz, ty⟩ := by rw [h2.2 _ hlid hne]; exact hl
  have hat : ((l.map AV.str).drop k).head? = some (.str l[k]) := by rw [drop_head (by simpa using hk)]; simp
  simp +decide only [go_sem, Nat.reduceAdd, Nat.reduceMul, Nat.reduceSub, Nat.reduceLT, Nat.reduceLeDiff, Nat.reduceEqDiff, Nat.add_assoc, Int.reduceAdd, Int.reduceSub, Int.reduceMul, Int.reduceLT, Int.reduceLE, Int.reduceEq, Int.reduceNeg, strOp_add, hk, hl', hat, Nat.mul_one, Nat.zero_add]
  exact hQ _ _ (List.getElem_mem hk) h1 h2
theorem Open_wp (bs : List Int) (m : Mem) (hb : ∀ b ∈ bs, 0 ≤ b ∧ b ≤ 255) (Q : AV × Mem → Prop)
    (hQ : ∀ m', RdAt m' m.nid (bs.take 2000) 0 → m.nid ≤ m'.nid → Q (.ptr m.nid 0 0, m')) :
    Comes (fnI CC PR 11 [.slice 1 (bs.map (.int .u8 ·))] m) Q := by
  refine fnI_wp (rs := [.tmp 2]) Tryz.func11 rfl rfl (Nat.le_of_ble_eq_true rfl) rfl rfl ?_
  simp +decide only [go_sem, Nat.reduceAdd, Nat.reduceMul, Nat.reduceSub, Nat.reduceLT, Nat.reduceLeDiff, Nat.reduceEqDiff, Nat.add_assoc, Int.reduceAdd, Int.reduceSub, Int.reduceMul, Int.reduceLT, Int.reduceLE, Int.reduceEq, Int.reduceNeg, strOp_add, List.length_map]
  refine bB_split (fun hB => ?_) (fun hB => ?_)
  · simp only [decide_eq_true_eq] at hB
    have h1 : (2000 : Int) ≤ (bs.length : Int) := by omega
    simp +decide only [go_sem, Nat.reduceAdd, Nat.reduceMul, Nat.reduceSub, Nat.reduceLT, Nat.reduceLeDiff, Nat.reduceEqDiff, Nat.add_assoc, Int.reduceAdd, Int.reduceSub, Int.reduceMul, Int.reduceLT, Int.reduceLE, Int.reduceEq, Int.reduceNeg, strOp_add, List.length_map, h1]
    exact hQ _ ⟨Nat.lt_succ_self _, 0, Nat.le_refl _, (upd_hit _ _ _).trans (by simp [List.map_take])⟩ (Nat.le_succ _)
  · simp only [decide_eq_false_iff_not] at hB
    simp +decide only [go_sem, Nat.reduceAdd, Nat.reduceMul, Nat.reduceSub, Nat.reduceLT, Nat.reduceLeDiff, Nat.reduceEqDiff, Nat.add_assoc, Int.reduceAdd, Int.reduceSub, Int.reduceMul, Int.reduceLT, Int.reduceLE, Int.reduceEq, Int.reduceNeg, strOp_add, List.length_map]
    have : bs.take 2000 = bs := List.take_of_length_le (by omega)
    rw [this] at hQ
    exact hQ _ ⟨Nat.lt_succ_self _, 0, Nat.le_refl _, (upd_hit _ _ _).trans (by simp [List.map_take])⟩ (Nat.le_succ _)
end Go.Ev.Tryz
