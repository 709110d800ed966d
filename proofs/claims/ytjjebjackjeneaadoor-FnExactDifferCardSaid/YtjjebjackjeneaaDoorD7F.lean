/- Part of the proof of a statement about the given program: D7F D8F D9F. No condition of its own. -/
import Derived.Test.YtjjebjackjeneaaDoorD4F
import Derived.Test.YtjjebjackjeneaaDoorSF
section
namespace Go.Ev.Tryd
open Go.Proofs
set_option maxRecDepth 10000
set_option linter.unusedSimpArgs false
set_option linter.unusedVariables false
attribute [local congr] comes_congr bB_congr gK_congr gdK_congr

/-- A list of texts that grows, in a block of the call's own. -/
def StrsAt (m : Mem) (lo : Nat) (v : AV) (l : List ByteArray) : Prop :=
  (l = [] ∧ v = .nils 1) ∨ ∃ id g, lo ≤ id ∧ id < m.nid ∧ v = .arr id g 0 l.length 1 true ∧ ∃ ty, m.sto id = ⟨l.map AV.str, g, false, ty⟩
def nums (n : Nat) : List ByteArray := (List.range n).map fun i => dec (i : Nat)
theorem nums_succ (n : Nat) : nums (n + 1) = nums n ++ [dec (n : Nat)] := by simp [nums, List.range_succ]
theorem nums_len (n : Nat) : (nums n).length = n := by simp [nums]
def Dat.steps (d : Dat) : List ByteArray := if d.kind = 4 then d.names else nums d.list.length


theorem l11Step_eq (d : Dat) (hd : d.Sane) (hs : shaped d = true) (s : ByteArray) : fnA CC PR 54 [d.av, .str s] = some (.int .i64 (firstI (fun x => decide (x = s)) d.steps)) := by
  cases hd with
  | mk k n t l ns hk hn ht hl hns hss h =>
  rw [Dat.av_mk]
  apply comes_eq.1
  refine fnA_wp (rs := [.tmp 4]) Tryd.func54 rfl rfl (Nat.le_of_ble_eq_true rfl) rfl ?_
  simp +decide only [go_sem, Nat.reduceAdd, Nat.reduceMul, Nat.reduceSub, Nat.reduceLT, Nat.reduceLeDiff, Nat.reduceEqDiff, Nat.add_assoc, Int.reduceAdd, Int.reduceSub, Int.reduceMul, Int.reduceLT, Int.reduceLE, Int.reduceEq, Int.reduceNeg, strOp_add, List.length_map]
  have hlen : l.length = (Dat.steps (.mk k n t l ns)).length := by
    by_cases h4 : k = 4
    · subst h4
      simp only [shaped] at hs
      simp at hs
      simp only [Dat.steps, Dat.kind, Dat.names, if_true]
      omega
    · simp [Dat.steps, Dat.kind, Dat.list, h4, nums_len]
  have hkind : l.length ≠ 0 → k = 3 ∨ k = 4 := by
    intro h0
    by_cases h3 : k = 3
    · exact .inl h3
    · by_cases h4 : k = 4
      · exact .inr h4
      · exfalso
        simp only [shaped, if_neg h3, if_neg h4] at hs
        repeat' split at hs
        all_goals first
          | (simp only [Bool.and_eq_true, decide_eq_true_eq] at hs; omega)
          | cases hs
  generalize hL : Dat.steps (.mk k n t l ns) = L at hlen
  refine comes_upto l.length (fun i st => st.env 1 = .str s ∧ st.env 2 = .ptr 0 0 0 ∧ st.env 5 = .int .i64 i ∧ st.sto 0 = ⟨[.int .i64 k, .int .i64 n, .str t, .slice 5 (l.map Dat.av), .slice 1 (ns.map AV.str)], 0, false, none⟩ ∧ ∀ j, (hj : j < L.length) → j < i → ¬ L[j] = s) ?_ ?_ _ ?_
  · rintro i st hi ⟨e1, e2, e5, s0, hj⟩
    have hiL : i < L.length := by omega
    have w1 : IntKind.wrap .i64 ((i : Int) + 1) = ((i + 1 : Nat) : Int) := wrap_succ (by omega)
    have fin : (L[i] = s → firstI (fun x => decide (x = s)) L = i) := fun hB => firstI_some hiL (by simp [hB]) (fun j hji => by simp [hj j (by omega) hji])
    have nxt : ¬ L[i] = s → ∀ j, (hj : j < L.length) → j < i + 1 → ¬ L[j] = s := by
      intro hB j h1 h2
      rcases Nat.lt_or_ge j i with h3 | h3
      · exact hj j h1 h3
      · have : j = i := by omega
        subst this
        exact hB
    rcases hkind (by omega) with rfl | rfl
    · have hLi : L[i] = dec (i : Nat) := by
        have : L = nums l.length := by rw [← hL]; rfl
        subst this
        simp [nums]
      rw [hLi] at fin nxt
      have hq := l1Dec_nat i (by omega)
      simp +decide only [go_sem, Nat.reduceAdd, Nat.reduceMul, Nat.reduceSub, Nat.reduceLT, Nat.reduceLeDiff, Nat.reduceEqDiff, Nat.add_assoc, Int.reduceAdd, Int.reduceSub, Int.reduceMul, Int.reduceLT, Int.reduceLE, Int.reduceEq, Int.reduceNeg, strOp_add, e1, e2, e5, s0, hi, List.length_map, hq, w1]
      refine bB_split (fun hB => ?_) (fun hB => ?_)
      · simp only [decide_eq_true_eq] at hB
        simp +decide only [go_sem, Nat.reduceAdd, Nat.reduceMul, Nat.reduceSub, Nat.reduceLT, Nat.reduceLeDiff, Nat.reduceEqDiff, Nat.add_assoc, Int.reduceAdd, Int.reduceSub, Int.reduceMul, Int.reduceLT, Int.reduceLE, Int.reduceEq, Int.reduceNeg, strOp_add, e1, e2, e5, s0, hi, List.length_map, hq, w1]
        rw [fin hB]
      · simp only [decide_eq_false_iff_not] at hB
        simp +decide only [go_sem, Nat.reduceAdd, Nat.reduceMul, Nat.reduceSub, Nat.reduceLT, Nat.reduceLeDiff, Nat.reduceEqDiff, Nat.add_assoc, Int.reduceAdd, Int.reduceSub, Int.reduceMul, Int.reduceLT, Int.reduceLE, Int.reduceEq, Int.reduceNeg, strOp_add, e1, e2, e5, s0, hi, List.length_map, hq, w1]
        exact nxt hB
    · have hLn : L = ns := by rw [← hL]; rfl
      subst hLn
      simp +decide only [go_sem, Nat.reduceAdd, Nat.reduceMul, Nat.reduceSub, Nat.reduceLT, Nat.reduceLeDiff, Nat.reduceEqDiff, Nat.add_assoc, Int.reduceAdd, Int.reduceSub, Int.reduceMul, Int.reduceLT, Int.reduceLE, Int.reduceEq, Int.reduceNeg, strOp_add, e1, e2, e5, s0, hi, hiL, strs_at hiL, List.length_map, w1]
      refine bB_split (fun hB => ?_) (fun hB => ?_)
      · simp only [decide_eq_true_eq] at hB
        simp +decide only [go_sem, Nat.reduceAdd, Nat.reduceMul, Nat.reduceSub, Nat.reduceLT, Nat.reduceLeDiff, Nat.reduceEqDiff, Nat.add_assoc, Int.reduceAdd, Int.reduceSub, Int.reduceMul, Int.reduceLT, Int.reduceLE, Int.reduceEq, Int.reduceNeg, strOp_add, e1, e2, e5, s0, hi, List.length_map, w1, hB]
        rw [fin hB]
      · simp only [decide_eq_false_iff_not] at hB
        simp +decide only [go_sem, Nat.reduceAdd, Nat.reduceMul, Nat.reduceSub, Nat.reduceLT, Nat.reduceLeDiff, Nat.reduceEqDiff, Nat.add_assoc, Int.reduceAdd, Int.reduceSub, Int.reduceMul, Int.reduceLT, Int.reduceLE, Int.reduceEq, Int.reduceNeg, strOp_add, e1, e2, e5, s0, hi, List.length_map, w1, hB]
        exact nxt hB
  · rintro st ⟨e1, e2, e5, s0, hj⟩
    simp +decide only [go_sem, Nat.reduceAdd, Nat.reduceMul, Nat.reduceSub, Nat.reduceLT, Nat.reduceLeDiff, Nat.reduceEqDiff, Nat.add_assoc, Int.reduceAdd, Int.reduceSub, Int.reduceMul, Int.reduceLT, Int.reduceLE, Int.reduceEq, Int.reduceNeg, strOp_add, e1, e2, e5, s0, List.length_map]
    rw [firstI_none (fun i hi => by simp [hj i hi (by omega)])]
  · simp +decide only [go_sem, Nat.reduceAdd, Nat.reduceMul, Nat.reduceSub, Nat.reduceLT, Nat.reduceLeDiff, Nat.reduceEqDiff, Nat.add_assoc, Int.reduceAdd, Int.reduceSub, Int.reduceMul, Int.reduceLT, Int.reduceLE, Int.reduceEq, Int.reduceNeg, strOp_add]
    simp
end Go.Ev.Tryd
end
section
namespace Go.Ev.Tryd
open Go.Proofs
set_option maxRecDepth 10000
set_option linter.unusedSimpArgs false
set_option linter.unusedVariables false
attribute [local congr] comes_congr bB_congr gK_congr gdK_congr

def figs : ByteArray := ⟨#[48, 49, 50, 51, 52, 53, 54, 55, 56, 57, 97, 98, 99, 100, 101, 102]⟩
/-- A byte in two figures. -/
def hex2 (c : UInt8) : ByteArray := ⟨#[sget figs (c.toNat / 16), sget figs (c.toNat % 16)]⟩
theorem nib_and (c : UInt8) : bitsI .u8 (· &&& ·) (c.toNat : Int) 15 = .int .u8 ((c.toNat % 16 : Nat) : Int) := by
  have h : ∀ n : Fin 256, IntKind.wrap .u8 ((BitVec.ofInt IntKind.u8.bits (n.1 : Int) &&& BitVec.ofInt IntKind.u8.bits 15).toNat : Int) = ((n.1 % 16 : Nat) : Int) := by decide
  have := h ⟨c.toNat, c.toNat_lt⟩
  unfold bitsI
  rw [← this]
theorem nib_and' {k : IntKind} (hk : k = .u8) (c : UInt8) : bitsI k (· &&& ·) (c.toNat : Int) 15 = .int k ((c.toNat % 16 : Nat) : Int) := by
  subst hk
  exact nib_and c
theorem nib_div (c : UInt8) : ((c.toNat : Int).fdiv (2 ^ min 4 8)) = ((c.toNat / 16 : Nat) : Int) := by
  rw [show ((2 : Int) ^ min 4 8) = 16 from rfl, Int.fdiv_eq_ediv_of_nonneg _ (by omega)]
  omega
theorem Encode_wp (c : UInt8) (id : Nat) (m : Mem) (h : m.sto id = ⟨[.int .u8 0, .int .u8 0], 0, false, none⟩) (hid : id < m.nid) (Q : AV × Mem → Prop)
    (hQ : ∀ m', m'.sto id = ⟨[.int .u8 (sget figs (c.toNat / 16)).toNat, .int .u8 (sget figs (c.toNat % 16)).toNat], 0, false, none⟩ → Q (.int .i64 2, m')) :
    Comes (fnI CC PR 96 [.arr id 0 0 2 1 true, .slice 1 [.int .u8 c.toNat]] m) Q := by
  refine fnI_wp (rs := [.tmp 4]) Tryd.func96 rfl rfl (Nat.le_of_ble_eq_true rfl) rfl rfl ?_
  have c1 : ((1 : Nat) : Int) = 1 := rfl
  simp +decide only [go_sem, Nat.reduceAdd, Nat.reduceMul, Nat.reduceSub, Nat.reduceLT, Nat.reduceLeDiff, Nat.reduceEqDiff, Nat.add_assoc, Int.reduceAdd, Int.reduceSub, Int.reduceMul, Int.reduceLT, Int.reduceLE, Int.reduceEq, Int.reduceNeg, strOp_add, c1]
  refine comes_upto 1 (fun i st => st.env 0 = .arr id 0 0 2 1 true ∧ st.env 1 = .slice 1 [.int .u8 c.toNat] ∧ st.env 8 = .slice 1 [.int .u8 c.toNat] ∧ st.env 9 = .int .i64 1 ∧ st.env 10 = .int .i64 i ∧ (i = 0 → st.env 5 = .int .i64 0 ∧ st.sto id = ⟨[.int .u8 0, .int .u8 0], 0, false, none⟩) ∧ (i = 1 → st.sto id = ⟨[.int .u8 (sget figs (c.toNat / 16)).toNat, .int .u8 (sget figs (c.toNat % 16)).toNat], 0, false, none⟩)) ?_ ?_ _ ?_
  · rintro i st hi ⟨e0, e1, e8, e9, e10, h0, h1⟩
    obtain rfl : i = 0 := by omega
    obtain ⟨e5, hs⟩ := h0 rfl
    have c0 : ((0 : Nat) : Int) = 0 := rfl
    have hq : c.toNat / 16 < 16 := by have := c.toNat_lt; omega
    have hr : c.toNat % 16 < 16 := by omega
    have f1 := s_at (s := figs) (i := c.toNat / 16) hq
    have f2 := s_at (s := figs) (i := c.toNat % 16) hr
    unfold figs at f1 f2
    simp +decide (disch := first | decide | omega) only [go_sem, Nat.reduceAdd, Nat.reduceMul, Nat.reduceSub, Nat.reduceLT, Nat.reduceLeDiff, Nat.reduceEqDiff, Nat.add_assoc, Int.reduceAdd, Int.reduceSub, Int.reduceMul, Int.reduceLT, Int.reduceLE, Int.reduceEq, Int.reduceNeg, strOp_add, e0, e1, e5, e8, e9, e10, hs, c0, c1, nib_div, nib_and' (rfl : IntKind.u8 = .u8) c, hq, hr, f1, f2]
    erw [nib_and c]
    simp +decide (disch := first | decide | omega) only [go_sem, Nat.reduceAdd, Nat.reduceMul, Nat.reduceSub, Nat.reduceLT, Nat.reduceLeDiff, Nat.reduceEqDiff, Nat.add_assoc, Int.reduceAdd, Int.reduceSub, Int.reduceMul, Int.reduceLT, Int.reduceLE, Int.reduceEq, Int.reduceNeg, strOp_add, e0, e1, e5, e8, e9, e10, hs, c0, c1, nib_div, hq, hr, f1, f2]
    exact ⟨fun h => h.elim, fun _ => rfl⟩
  · rintro st ⟨e0, e1, e8, e9, e10, h0, h1⟩
    have hs := h1 rfl
    simp +decide (disch := first | decide | omega) only [go_sem, Nat.reduceAdd, Nat.reduceMul, Nat.reduceSub, Nat.reduceLT, Nat.reduceLeDiff, Nat.reduceEqDiff, Nat.add_assoc, Int.reduceAdd, Int.reduceSub, Int.reduceMul, Int.reduceLT, Int.reduceLE, Int.reduceEq, Int.reduceNeg, strOp_add, e0, e1, e8, e9, e10, c1]
    exact hQ _ hs
  · simp +decide (disch := first | decide | omega) only [go_sem, Nat.reduceAdd, Nat.reduceMul, Nat.reduceSub, Nat.reduceLT, Nat.reduceLeDiff, Nat.reduceEqDiff, Nat.add_assoc, Int.reduceAdd, Int.reduceSub, Int.reduceMul, Int.reduceLT, Int.reduceLE, Int.reduceEq, Int.reduceNeg, strOp_add, h]
    simp
theorem EncLen_eq : fnA CC PR 95 [.int .i64 1] = some (.int .i64 2) := by
  apply comes_eq.1
  refine fnA_wp (rs := [.tmp 2]) Tryd.func95 rfl rfl (Nat.le_of_ble_eq_true rfl) rfl ?_
  have w : IntKind.wrap .i64 2 = 2 := wrap_id (by omega) (by omega)
  simp +decide only [go_sem, Nat.reduceAdd, Nat.reduceMul, Nat.reduceSub, Nat.reduceLT, Nat.reduceLeDiff, Nat.reduceEqDiff, Nat.add_assoc, Int.reduceAdd, Int.reduceSub, Int.reduceMul, Int.reduceLT, Int.reduceLE, Int.reduceEq, Int.reduceNeg, strOp_add, w]
theorem EncodeTo_eq (c : UInt8) : fnA CC PR 87 [.slice 1 [.int .u8 c.toNat]] = some (.str (hex2 c)) := by
  apply comes_eq.1
  refine fnA_wp (rs := [.tmp 2]) Tryd.func87 rfl rfl (Nat.le_of_ble_eq_true rfl) rfl ?_
  have c1 : ((1 : Nat) : Int) = 1 := rfl
  simp +decide (disch := first | decide | omega) only [go_sem, Nat.reduceAdd, Nat.reduceMul, Nat.reduceSub, Nat.reduceLT, Nat.reduceLeDiff, Nat.reduceEqDiff, Nat.add_assoc, Int.reduceAdd, Int.reduceSub, Int.reduceMul, Int.reduceLT, Int.reduceLE, Int.reduceEq, Int.reduceNeg, strOp_add, c1, EncLen_eq]
  refine Encode_wp c 0 _ rfl (by show 0 < 1; omega) _ fun m' hm' => ?_
  simp +decide (disch := first | decide | omega) only [go_sem, Nat.reduceAdd, Nat.reduceMul, Nat.reduceSub, Nat.reduceLT, Nat.reduceLeDiff, Nat.reduceEqDiff, Nat.add_assoc, Int.reduceAdd, Int.reduceSub, Int.reduceMul, Int.reduceLT, Int.reduceLE, Int.reduceEq, Int.reduceNeg, strOp_add, hm']
  simp [hex2]
theorem Hex_eq (c : UInt8) : fnA CC PR 80 [.str ⟨#[c]⟩] = some (.str (hex2 c)) := by
  apply comes_eq.1
  refine fnA_wp (rs := [.tmp 2]) Tryd.func80 rfl rfl (Nat.le_of_ble_eq_true rfl) rfl ?_
  have hb : strBytes ⟨#[c]⟩ = [.int .u8 c.toNat] := rfl
  simp +decide only [go_sem, Nat.reduceAdd, Nat.reduceMul, Nat.reduceSub, Nat.reduceLT, Nat.reduceLeDiff, Nat.reduceEqDiff, Nat.add_assoc, Int.reduceAdd, Int.reduceSub, Int.reduceMul, Int.reduceLT, Int.reduceLE, Int.reduceEq, Int.reduceNeg, strOp_add, hb, EncodeTo_eq]
end Go.Ev.Tryd
end
section
namespace Go.Ev.Tryd
open Go.Proofs
set_option maxRecDepth 10000
set_option linter.unusedSimpArgs false
set_option linter.unusedVariables false
attribute [local congr] comes_congr bB_congr gK_congr gdK_congr

theorem hex2_size (c : UInt8) : (hex2 c).size = 2 := rfl
theorem bytes_at {t : ByteArray} {i : Nat} (h : i < t.size) : ((strBytes t).drop i).head? = some (.int .u8 (sget t i).toNat) := by
  have h' : i < t.data.size := h
  simp only [strBytes, sget, Array.getD, List.head?_drop]
  rw [List.getElem?_map, Array.getElem?_toList, Array.getElem?_eq_getElem h', dif_pos h']
  rfl
theorem BldAt.more {sto : Nat → Blk} {nid id : Nat} {b : Option Nat} {S : ByteArray} (h : BldAt ⟨sto, nid⟩ id b S) (x : Blk) : BldAt ⟨upd sto nid x, nid + 1⟩ id b S := by
  obtain ⟨h0, h1⟩ := h
  have h0' : id < nid := h0
  have e : upd sto nid x id = sto id := upd_miss _ _ _ _ (by omega)
  refine ⟨Nat.lt_succ_of_lt h0', ?_⟩
  cases b with
  | none =>
    obtain ⟨h2, p, h3, h4⟩ := h1
    exact ⟨h2, p, h3, by show upd sto nid x id = _; rw [e]; exact h4⟩
  | some k =>
    obtain ⟨h2, h3, g, h4, h5⟩ := h1
    have h3' : k < nid := h3
    have e2 : upd sto nid x k = sto k := upd_miss _ _ _ _ (by omega)
    exact ⟨h2, Nat.lt_succ_of_lt h3', g, by show upd sto nid x id = _; rw [e]; exact h4, by show upd sto nid x k = _; rw [e2]; exact h5⟩
theorem BldFr.less {sto : Nat → Blk} {nid id : Nat} {b b' : Option Nat} {m : Mem} {x : Blk} (h : BldFr ⟨upd sto nid x, nid + 1⟩ m id b b') : BldFr ⟨sto, nid⟩ m id b b' := by
  obtain ⟨q1, q2, q3, q4⟩ := h
  have q1' : nid + 1 ≤ m.nid := q1
  refine ⟨by show nid ≤ m.nid; omega, fun j hj h1 h2 => ?_, q3, fun hb k hk => ?_⟩
  · have hj' : j < nid := hj
    rw [q2 j (Nat.lt_succ_of_lt hj') h1 h2]
    exact upd_miss _ _ _ _ (by omega)
  · have : nid + 1 ≤ k := q4 hb k hk
    show nid ≤ k
    omega
theorem quoted_ok (t : ByteArray) (ht : t.size ≤ 100) : ∃ s, fnA CC PR 67 [.str t] = some (.str s) ∧ 2 ≤ s.size ∧ s.size ≤ 302 := by
  have key : Comes (fnA CC PR 67 [.str t]) (fun b => ∃ s, b = .str s ∧ 2 ≤ s.size ∧ s.size ≤ 302) := by
    refine fnA_wp (rs := [.tmp 2]) Tryd.func67 rfl rfl (Nat.le_of_ble_eq_true rfl) rfl ?_
    simp +decide only [go_sem, Nat.reduceAdd, Nat.reduceMul, Nat.reduceSub, Nat.reduceLT, Nat.reduceLeDiff, Nat.reduceEqDiff, Nat.add_assoc, Int.reduceAdd, Int.reduceSub, Int.reduceMul, Int.reduceLT, Int.reduceLE, Int.reduceEq, Int.reduceNeg, strOp_add]
    refine WriteByte_wp 34 ⟨#[]⟩ _ 0 none ⟨by show 0 < 1; omega, rfl, .nilp, .inl rfl, rfl⟩ (by show 0 < 1099511627776; omega) _ fun m1 b1 k1 k2 => ?_
    simp +decide only [go_sem, Nat.reduceAdd, Nat.reduceMul, Nat.reduceSub, Nat.reduceLT, Nat.reduceLeDiff, Nat.reduceEqDiff, Nat.add_assoc, Int.reduceAdd, Int.reduceSub, Int.reduceMul, Int.reduceLT, Int.reduceLE, Int.reduceEq, Int.reduceNeg, strOp_add]
    have hn1 : 1 ≤ m1.nid := k2.1
    refine comes_upto t.size (fun i st => st.env 3 = .ptr 0 0 0 ∧ st.env 8 = .arr m1.nid 0 0 t.size 1 false ∧ st.env 9 = .int .i64 t.size ∧ st.env 10 = .int .i64 i ∧ m1.nid < st.nid ∧ st.sto m1.nid = ⟨strBytes t, 0, false, none⟩ ∧ ∃ b S, BldAt st.toMem 0 b S ∧ b ≠ some m1.nid ∧ S.size ≤ 3 * i + 1 ∧ 1 ≤ S.size) ?_ ?_ _ ?_
    · rintro i st hi ⟨e3, e8, e9, e10, en, hs, b, S, hb, hne, hS, hS1⟩
      have hat := bytes_at hi
      have w1 : IntKind.wrap .i64 ((i : Int) + 1) = ((i + 1 : Nat) : Int) := wrap_succ (by omega)
      have hz1 : (⟨#[92]⟩ : ByteArray).size = 1 := rfl
      generalize hc : sget t i = c at hat
      have fin : ∀ (m2 : Mem) (b2 : Option Nat) (S2 : ByteArray), BldAt m2 0 b2 S2 → BldFr ⟨st.sto, st.nid⟩ m2 0 b b2 → S2.size ≤ S.size + 3 → S.size ≤ S2.size → m1.nid < m2.nid ∧ m2.sto m1.nid = ⟨strBytes t, 0, false, none⟩ ∧ ∃ b S, BldAt m2 0 b S ∧ b ≠ some m1.nid ∧ S.size ≤ 3 * (i + 1) + 1 ∧ 1 ≤ S.size := by
        intro m2 b2 S2 h1 h2 h3 h4
        obtain ⟨q1, q2, q3, q4⟩ := h2
        refine ⟨Nat.lt_of_lt_of_le en q1, ?_, b2, S2, h1, ?_, by omega, by omega⟩
        · rw [q2 _ en (by omega) hne]
          exact hs
        · intro hb2
          cases hbb : b with
          | none =>
            have h5 : st.nid ≤ m1.nid := q4 hbb _ hb2
            omega
          | some k =>
            have h5 := q3 k hbb
            rw [hb2] at h5
            rw [hbb] at hne
            exact hne h5.symm
      (simp +decide (disch := first | decide | omega) only [go_sem, Nat.reduceAdd, Nat.reduceMul, Nat.reduceSub, Nat.reduceLT, Nat.reduceLeDiff, Nat.reduceEqDiff, Nat.add_assoc, Int.reduceAdd, Int.reduceSub, Int.reduceMul, Int.reduceLT, Int.reduceLE, Int.reduceEq, Int.reduceNeg, strOp_add, e3, e8, e9, e10, hi, hs, hat, w1, UInt8.ofNat_toNat, Hex_eq, hex2_size, hz1]); repeat' (refine bB_split (fun hB => ?_) (fun hB => ?_) <;> (try simp only [Bool.and_eq_true, Bool.or_eq_false_iff, decide_eq_true_eq, decide_eq_false_iff_not] at hB) <;> simp +decide (disch := first | decide | omega) only [go_sem, Nat.reduceAdd, Nat.reduceMul, Nat.reduceSub, Nat.reduceLT, Nat.reduceLeDiff, Nat.reduceEqDiff, Nat.add_assoc, Int.reduceAdd, Int.reduceSub, Int.reduceMul, Int.reduceLT, Int.reduceLE, Int.reduceEq, Int.reduceNeg, strOp_add, hB, e3, e8, e9, e10, hi, hs, hat, w1, UInt8.ofNat_toNat, Hex_eq, hex2_size, hz1])
      all_goals first
        | (refine WriteString_wp _ _ _ 0 b (hb.more _) (by rw [size_app, hex2_size, hz1]; omega) _ fun m2 b2 k3 k4 _ => ?_
           simp +decide only [go_sem, Nat.reduceAdd, Nat.reduceMul, Nat.reduceSub, Nat.reduceLT, Nat.reduceLeDiff, Nat.reduceEqDiff, Nat.add_assoc, Int.reduceAdd, Int.reduceSub, Int.reduceMul, Int.reduceLT, Int.reduceLE, Int.reduceEq, Int.reduceNeg, strOp_add, e3, e8, e9, e10, w1]
           exact fin _ _ _ k3 k4.less (by rw [size_app, size_app, hex2_size, hz1]; omega) (by rw [size_app, size_app]; omega))
        | (refine WriteByte_wp c _ _ 0 b hb (by omega) _ fun m2 b2 k3 k4 => ?_
           simp +decide only [go_sem, Nat.reduceAdd, Nat.reduceMul, Nat.reduceSub, Nat.reduceLT, Nat.reduceLeDiff, Nat.reduceEqDiff, Nat.add_assoc, Int.reduceAdd, Int.reduceSub, Int.reduceMul, Int.reduceLT, Int.reduceLE, Int.reduceEq, Int.reduceNeg, strOp_add, e3, e8, e9, e10, w1]
           exact fin _ _ _ k3 k4 (by rw [push_size]; omega) (by rw [push_size]; omega))
    · rintro st ⟨e3, e8, e9, e10, en, hs, b, S, hb, hne, hS, hS1⟩
      simp +decide only [go_sem, Nat.reduceAdd, Nat.reduceMul, Nat.reduceSub, Nat.reduceLT, Nat.reduceLeDiff, Nat.reduceEqDiff, Nat.add_assoc, Int.reduceAdd, Int.reduceSub, Int.reduceMul, Int.reduceLT, Int.reduceLE, Int.reduceEq, Int.reduceNeg, strOp_add, e3, e8, e9, e10]
      refine WriteByte_wp 34 S _ 0 b hb (by omega) _ fun m2 b2 k3 k4 => ?_
      simp +decide only [go_sem, Nat.reduceAdd, Nat.reduceMul, Nat.reduceSub, Nat.reduceLT, Nat.reduceLeDiff, Nat.reduceEqDiff, Nat.add_assoc, Int.reduceAdd, Int.reduceSub, Int.reduceMul, Int.reduceLT, Int.reduceLE, Int.reduceEq, Int.reduceNeg, strOp_add, e3]
      refine String_wp _ _ 0 b2 k3 (by rw [push_size]; omega) (.inl (by rw [push_size]; omega)) _ fun m3 h1 h2 => ?_
      simp +decide only [go_sem, Nat.reduceAdd, Nat.reduceMul, Nat.reduceSub, Nat.reduceLT, Nat.reduceLeDiff, Nat.reduceEqDiff, Nat.add_assoc, Int.reduceAdd, Int.reduceSub, Int.reduceMul, Int.reduceLT, Int.reduceLE, Int.reduceEq, Int.reduceNeg, strOp_add]
      exact ⟨_, rfl, by rw [push_size]; omega, by rw [push_size]; omega⟩
    · simp +decide only [go_sem, Nat.reduceAdd, Nat.reduceMul, Nat.reduceSub, Nat.reduceLT, Nat.reduceLeDiff, Nat.reduceEqDiff, Nat.add_assoc, Int.reduceAdd, Int.reduceSub, Int.reduceMul, Int.reduceLT, Int.reduceLE, Int.reduceEq, Int.reduceNeg, strOp_add]
      refine ⟨rfl, b1, _, k1.more _, fun e => ?_, Nat.le_refl _, Nat.le_refl _⟩
      subst e
      exact Nat.lt_irrefl _ k1.2.2.1
  obtain ⟨a, ha, s, rfl, h⟩ := key
  exact ⟨s, ha, h⟩
end Go.Ev.Tryd
end
