/- Part of the proof of a statement about the given program: V1F. No condition of its own. -/
import Derived.Test.YtjjebjackjeneaaDoorD12F
import Derived.Test.YtjjebjackjeneaaDoorX1F
namespace Go.Ev.Tryd
open Go.Proofs
set_option maxRecDepth 10000
set_option linter.unusedSimpArgs false
set_option linter.unusedVariables false
attribute [local congr] comes_congr bB_congr gK_congr gdK_congr

/-- Of no more than memory can hold. -/
inductive Dat.Wide : Dat → Prop
  | mk (k n : Int) (t : ByteArray) (l : List Dat) (ns : List ByteArray) (hk : i64 k) (hn : i64 n) (ht : t.size ≤ 9223372036854775807) (hl : l.length ≤ 9223372036854775807) (hns : ns.length ≤ 9223372036854775807) (hss : ∀ s ∈ ns, s.size ≤ 9223372036854775807) (h : ∀ x ∈ l, Dat.Wide x) : Dat.Wide (.mk k n t l ns)
/-- What is left after so much. -/
def lft (left n : Nat) : Int := if n ≤ left then ((left - n : Nat) : Int) else -1
theorem lft_le {left n : Nat} (h : n ≤ left) : lft left n = ((left - n : Nat) : Int) := if_pos h
theorem lft_no {left n : Nat} (h : ¬ n ≤ left) : lft left n = -1 := if_neg h
/-- The bytes of texts. -/
def szS : List ByteArray → Nat
  | [] => 0
  | s :: l => s.size + szS l
theorem szS_app : ∀ (a b : List ByteArray), szS (a ++ b) = szS a + szS b
  | [], b => (Nat.zero_add _).symm
  | s :: a, b => by rw [List.cons_append, szS, szS, szS_app a b]; omega
theorem szS_take {ns : List ByteArray} {i : Nat} (hi : i < ns.length) : szS (ns.take (i + 1)) = szS (ns.take i) + ns[i].size := by
  rw [List.take_succ_eq_append_getElem hi, szS_app]
  rfl
theorem szS_le (ns : List ByteArray) (i : Nat) : szS (ns.take i) ≤ szS ns := by
  have := szS_app (ns.take i) (ns.drop i)
  rw [List.take_append_drop] at this
  omega
/-- The size of data: texts' bytes, parts, names. -/
def szD : Dat → Nat
  | .mk _ _ t l ns => t.size + (l.length + (l.map szD).foldr (· + ·) 0) + (ns.length + szS ns)
def szL (l : List Dat) : Nat := (l.map szD).foldr (· + ·) 0
theorem szD_mk (k n : Int) (t : ByteArray) (l : List Dat) (ns : List ByteArray) : szD (.mk k n t l ns) = t.size + (l.length + szL l) + (ns.length + szS ns) := by
  rw [szD]
  rfl
theorem szL_cons (d : Dat) (l : List Dat) : szL (d :: l) = szD d + szL l := rfl
theorem szL_app : ∀ (a b : List Dat), szL (a ++ b) = szL a + szL b
  | [], b => (Nat.zero_add _).symm
  | s :: a, b => by rw [List.cons_append, szL_cons, szL_cons, szL_app a b]; omega
theorem szL_take {ns : List Dat} {i : Nat} (hi : i < ns.length) : szL (ns.take (i + 1)) = szL (ns.take i) + szD ns[i] := by
  rw [List.take_succ_eq_append_getElem hi, szL_app, szL_cons]
  rfl
theorem szL_le (ns : List Dat) (i : Nat) : szL (ns.take i) ≤ szL ns := by
  have := szL_app (ns.take i) (ns.drop i)
  rw [List.take_append_drop] at this
  omega
theorem szL_mem {l : List Dat} {d : Dat} (h : d ∈ l) : szD d ≤ szL l := by
  induction l with
  | nil => cases h
  | cons x l ih =>
    rw [szL_cons]
    rcases List.mem_cons.1 h with rfl | h
    · omega
    · have := ih h; omega

theorem szStrings_eq (ns : List ByteArray) (left : Nat) (hl : left ≤ 1048576) (hn : ns.length ≤ 9223372036854775807) (hs : ∀ s ∈ ns, s.size ≤ 9223372036854775807) :
    fnA CC PR 17 [.slice 1 (ns.map AV.str), .int .i64 left] = some (.int .i64 (lft left (ns.length + szS ns))) := by
  apply comes_eq.1
  refine fnA_wp (rs := [.tmp 4]) Tryd.func17 rfl rfl (Nat.le_of_ble_eq_true rfl) rfl ?_
  by_cases h0 : ns.length ≤ left
  · have w0 : IntKind.wrap .i64 ((left : Int) - (ns.length : Int)) = ((left - ns.length : Nat) : Int) := by rw [wrap_id (by omega) (by omega)]; omega
    have l0 : (((left - ns.length : Nat) : Int) < 0) = False := eq_false (by omega)
    simp +decide only [go_sem, Nat.reduceAdd, Nat.reduceMul, Nat.reduceSub, Nat.reduceLT, Nat.reduceLeDiff, Nat.reduceEqDiff, Nat.add_assoc, Int.reduceAdd, Int.reduceSub, Int.reduceMul, Int.reduceLT, Int.reduceLE, Int.reduceEq, Int.reduceNeg, strOp_add, List.length_map, w0, l0]
    refine comes_upto ns.length (fun i st => st.env 0 = .slice 1 (ns.map AV.str) ∧ ns.length + szS (ns.take i) ≤ left ∧ st.env 1 = .int .i64 ((left - (ns.length + szS (ns.take i)) : Nat) : Int) ∧ st.env 5 = .int .i64 i) ?_ ?_ _ ?_
    · rintro i st hi ⟨e0, hle, e1, e5⟩
      have hz := szS_take hi
      have hz2 := szS_le ns (i + 1)
      have hsi := hs _ (List.getElem_mem hi)
      have ha := strs_at hi
      have w1 : IntKind.wrap .i64 ((i : Int) + 1) = ((i + 1 : Nat) : Int) := wrap_succ (by omega)
      rw [hz] at hz2 ⊢
      generalize ns[i] = x at *
      generalize szS (ns.take i) = z at *
      by_cases h1 : ns.length + (z + x.size) ≤ left
      · have w2 : IntKind.wrap .i64 (((left - (ns.length + z) : Nat) : Int) - (x.size : Int)) = ((left - (ns.length + (z + x.size)) : Nat) : Int) := by rw [wrap_id (by omega) (by omega)]; omega
        have l2 : (((left - (ns.length + (z + x.size)) : Nat) : Int) < 0) = False := eq_false (by omega)
        simp +decide only [go_sem, Nat.reduceAdd, Nat.reduceMul, Nat.reduceSub, Nat.reduceLT, Nat.reduceLeDiff, Nat.reduceEqDiff, Nat.add_assoc, Int.reduceAdd, Int.reduceSub, Int.reduceMul, Int.reduceLT, Int.reduceLE, Int.reduceEq, Int.reduceNeg, strOp_add, e0, e1, e5, hi, ha, w1, w2, l2, List.length_map]
        exact h1
      · have w2 : IntKind.wrap .i64 (((left - (ns.length + z) : Nat) : Int) - (x.size : Int)) = ((left - (ns.length + z) : Nat) : Int) - (x.size : Int) := wrap_id (by omega) (by omega)
        have l2 : (((left - (ns.length + z) : Nat) : Int) - (x.size : Int) < 0) = True := eq_true (by omega)
        rw [lft_no (by omega)]
        simp +decide only [go_sem, Nat.reduceAdd, Nat.reduceMul, Nat.reduceSub, Nat.reduceLT, Nat.reduceLeDiff, Nat.reduceEqDiff, Nat.add_assoc, Int.reduceAdd, Int.reduceSub, Int.reduceMul, Int.reduceLT, Int.reduceLE, Int.reduceEq, Int.reduceNeg, strOp_add, e0, e1, e5, hi, ha, w1, w2, l2, List.length_map]
    · rintro st ⟨e0, hle, e1, e5⟩
      rw [List.take_length] at hle e1
      rw [lft_le hle]
      simp +decide only [go_sem, Nat.reduceAdd, Nat.reduceMul, Nat.reduceSub, Nat.reduceLT, Nat.reduceLeDiff, Nat.reduceEqDiff, Nat.add_assoc, Int.reduceAdd, Int.reduceSub, Int.reduceMul, Int.reduceLT, Int.reduceLE, Int.reduceEq, Int.reduceNeg, strOp_add, e0, e1, e5, List.length_map]
    · simp +decide only [go_sem, Nat.reduceAdd, Nat.reduceMul, Nat.reduceSub, Nat.reduceLT, Nat.reduceLeDiff, Nat.reduceEqDiff, Nat.add_assoc, Int.reduceAdd, Int.reduceSub, Int.reduceMul, Int.reduceLT, Int.reduceLE, Int.reduceEq, Int.reduceNeg, strOp_add]
      exact ⟨h0, rfl, rfl⟩
  · have w0 : IntKind.wrap .i64 ((left : Int) - (ns.length : Int)) = (left : Int) - (ns.length : Int) := wrap_id (by omega) (by omega)
    have l0 : ((left : Int) - (ns.length : Int) < 0) = True := eq_true (by omega)
    rw [lft_no (by omega)]
    simp +decide only [go_sem, Nat.reduceAdd, Nat.reduceMul, Nat.reduceSub, Nat.reduceLT, Nat.reduceLeDiff, Nat.reduceEqDiff, Nat.add_assoc, Int.reduceAdd, Int.reduceSub, Int.reduceMul, Int.reduceLT, Int.reduceLE, Int.reduceEq, Int.reduceNeg, strOp_add, List.length_map, w0, l0]

theorem szDatums_eq (l : List Dat) (ih : ∀ x ∈ l, x.Wide → ∀ left : Nat, left ≤ 1048576 → fnA CC PR 6 [x.av, .int .i64 left] = some (.int .i64 (lft left (szD x)))) (left : Nat) (hl : left ≤ 1048576) (hn : l.length ≤ 9223372036854775807) (hs : ∀ s ∈ l, s.Wide) :
    fnA CC PR 24 [.slice 5 (l.map Dat.av), .int .i64 left] = some (.int .i64 (lft left (l.length + szL l))) := by
  apply comes_eq.1
  refine fnA_wp (rs := [.tmp 4]) Tryd.func24 rfl rfl (Nat.le_of_ble_eq_true rfl) rfl ?_
  by_cases h0 : l.length ≤ left
  · have w0 : IntKind.wrap .i64 ((left : Int) - (l.length : Int)) = ((left - l.length : Nat) : Int) := by rw [wrap_id (by omega) (by omega)]; omega
    have l0 : (((left - l.length : Nat) : Int) < 0) = False := eq_false (by omega)
    simp +decide only [go_sem, Nat.reduceAdd, Nat.reduceMul, Nat.reduceSub, Nat.reduceLT, Nat.reduceLeDiff, Nat.reduceEqDiff, Nat.add_assoc, Int.reduceAdd, Int.reduceSub, Int.reduceMul, Int.reduceLT, Int.reduceLE, Int.reduceEq, Int.reduceNeg, strOp_add, List.length_map, w0, l0]
    refine comes_upto l.length (fun i st => st.env 0 = .slice 5 (l.map Dat.av) ∧ l.length + szL (l.take i) ≤ left ∧ st.env 1 = .int .i64 ((left - (l.length + szL (l.take i)) : Nat) : Int) ∧ st.env 5 = .int .i64 i) ?_ ?_ _ ?_
    · rintro i st hi ⟨e0, hle, e1, e5⟩
      have hz := szL_take hi
      have hz2 := szL_le l (i + 1)
      have hq := ih _ (List.getElem_mem hi) (hs _ (List.getElem_mem hi)) (left - (l.length + szL (l.take i))) (by omega)
      have ha := av_at hi
      have w1 : IntKind.wrap .i64 ((i : Int) + 1) = ((i + 1 : Nat) : Int) := wrap_succ (by omega)
      rw [hz] at hz2 ⊢
      obtain ⟨k2, n2, t2, l2, ns2, hcs⟩ := cells_of l[i]
      rw [hcs] at ha hq
      generalize szD l[i] = x at *
      generalize szL (l.take i) = z at *
      by_cases h1 : l.length + (z + x) ≤ left
      · rw [lft_le (by omega)] at hq
        have w2 : ((left - (l.length + z) - x : Nat) : Int) = ((left - (l.length + (z + x)) : Nat) : Int) := by omega
        have l2 : (((left - (l.length + (z + x)) : Nat) : Int) < 0) = False := eq_false (by omega)
        rw [w2] at hq
        simp +decide only [go_sem, Nat.reduceAdd, Nat.reduceMul, Nat.reduceSub, Nat.reduceLT, Nat.reduceLeDiff, Nat.reduceEqDiff, Nat.add_assoc, Int.reduceAdd, Int.reduceSub, Int.reduceMul, Int.reduceLT, Int.reduceLE, Int.reduceEq, Int.reduceNeg, strOp_add, e0, e1, e5, hi, ha, hq, w1, l2, List.length_map]
        exact h1
      · rw [lft_no (by omega)] at hq ⊢
        simp +decide only [go_sem, Nat.reduceAdd, Nat.reduceMul, Nat.reduceSub, Nat.reduceLT, Nat.reduceLeDiff, Nat.reduceEqDiff, Nat.add_assoc, Int.reduceAdd, Int.reduceSub, Int.reduceMul, Int.reduceLT, Int.reduceLE, Int.reduceEq, Int.reduceNeg, strOp_add, e0, e1, e5, hi, ha, hq, w1, List.length_map]
    · rintro st ⟨e0, hle, e1, e5⟩
      rw [List.take_length] at hle e1
      rw [lft_le hle]
      simp +decide only [go_sem, Nat.reduceAdd, Nat.reduceMul, Nat.reduceSub, Nat.reduceLT, Nat.reduceLeDiff, Nat.reduceEqDiff, Nat.add_assoc, Int.reduceAdd, Int.reduceSub, Int.reduceMul, Int.reduceLT, Int.reduceLE, Int.reduceEq, Int.reduceNeg, strOp_add, e0, e1, e5, List.length_map]
    · simp +decide only [go_sem, Nat.reduceAdd, Nat.reduceMul, Nat.reduceSub, Nat.reduceLT, Nat.reduceLeDiff, Nat.reduceEqDiff, Nat.add_assoc, Int.reduceAdd, Int.reduceSub, Int.reduceMul, Int.reduceLT, Int.reduceLE, Int.reduceEq, Int.reduceNeg, strOp_add]
      exact ⟨h0, rfl, rfl⟩
  · have w0 : IntKind.wrap .i64 ((left : Int) - (l.length : Int)) = (left : Int) - (l.length : Int) := wrap_id (by omega) (by omega)
    have l0 : ((left : Int) - (l.length : Int) < 0) = True := eq_true (by omega)
    rw [lft_no (by omega)]
    simp +decide only [go_sem, Nat.reduceAdd, Nat.reduceMul, Nat.reduceSub, Nat.reduceLT, Nat.reduceLeDiff, Nat.reduceEqDiff, Nat.add_assoc, Int.reduceAdd, Int.reduceSub, Int.reduceMul, Int.reduceLT, Int.reduceLE, Int.reduceEq, Int.reduceNeg, strOp_add, List.length_map, w0, l0]
theorem szDatum_eq : ∀ (d : Dat), d.Wide → ∀ left : Nat, left ≤ 1048576 → fnA CC PR 6 [d.av, .int .i64 left] = some (.int .i64 (lft left (szD d))) := by
  intro d
  induction d using Dat.ind with
  | h k n t l ns ih =>
  intro hd left hle
  cases hd with
  | mk k n t l ns hk hn ht hl hns hss h =>
  have q1 := szDatums_eq l ih
  rw [szD_mk, Dat.av_mk]
  apply comes_eq.1
  refine fnA_wp (rs := [.tmp 4]) Tryd.func6 rfl rfl (Nat.le_of_ble_eq_true rfl) rfl ?_
  by_cases h0 : t.size ≤ left
  · have w0 : IntKind.wrap .i64 ((left : Int) - (t.size : Int)) = ((left - t.size : Nat) : Int) := by rw [wrap_id (by omega) (by omega)]; omega
    have l0 : (((left - t.size : Nat) : Int) < 0) = False := eq_false (by omega)
    have q1 := q1 (left - t.size) (by omega) hl h
    by_cases h1 : l.length + szL l ≤ left - t.size
    · rw [lft_le h1] at q1
      have l1 : (((left - t.size - (l.length + szL l) : Nat) : Int) < 0) = False := eq_false (by omega)
      have q2 := szStrings_eq ns (left - t.size - (l.length + szL l)) (by omega) hns hss
      by_cases h2 : ns.length + szS ns ≤ left - t.size - (l.length + szL l)
      · rw [lft_le h2] at q2
        have l2 : (((left - t.size - (l.length + szL l) - (ns.length + szS ns) : Nat) : Int) < 0) = False := eq_false (by omega)
        rw [lft_le (by omega), show left - (t.size + (l.length + szL l) + (ns.length + szS ns)) = left - t.size - (l.length + szL l) - (ns.length + szS ns) by omega]
        generalize left - t.size - (l.length + szL l) - (ns.length + szS ns) = c at *
        generalize left - t.size - (l.length + szL l) = b at *
        generalize left - t.size = a at *
        simp +decide only [go_sem, Nat.reduceAdd, Nat.reduceMul, Nat.reduceSub, Nat.reduceLT, Nat.reduceLeDiff, Nat.reduceEqDiff, Nat.add_assoc, Int.reduceAdd, Int.reduceSub, Int.reduceMul, Int.reduceLT, Int.reduceLE, Int.reduceEq, Int.reduceNeg, strOp_add, w0, l0, q1, l1, q2, l2]
      · rw [lft_no h2] at q2
        rw [lft_no (by omega)]
        generalize left - t.size - (l.length + szL l) = b at *
        generalize left - t.size = a at *
        simp +decide only [go_sem, Nat.reduceAdd, Nat.reduceMul, Nat.reduceSub, Nat.reduceLT, Nat.reduceLeDiff, Nat.reduceEqDiff, Nat.add_assoc, Int.reduceAdd, Int.reduceSub, Int.reduceMul, Int.reduceLT, Int.reduceLE, Int.reduceEq, Int.reduceNeg, strOp_add, w0, l0, q1, l1, q2]
    · rw [lft_no h1] at q1
      rw [lft_no (by omega)]
      generalize left - t.size = a at *
      simp +decide only [go_sem, Nat.reduceAdd, Nat.reduceMul, Nat.reduceSub, Nat.reduceLT, Nat.reduceLeDiff, Nat.reduceEqDiff, Nat.add_assoc, Int.reduceAdd, Int.reduceSub, Int.reduceMul, Int.reduceLT, Int.reduceLE, Int.reduceEq, Int.reduceNeg, strOp_add, w0, l0, q1]
  · have w0 : IntKind.wrap .i64 ((left : Int) - (t.size : Int)) = (left : Int) - (t.size : Int) := wrap_id (by omega) (by omega)
    have l0 : ((left : Int) - (t.size : Int) < 0) = True := eq_true (by omega)
    rw [lft_no (by omega)]
    simp +decide only [go_sem, Nat.reduceAdd, Nat.reduceMul, Nat.reduceSub, Nat.reduceLT, Nat.reduceLeDiff, Nat.reduceEqDiff, Nat.add_assoc, Int.reduceAdd, Int.reduceSub, Int.reduceMul, Int.reduceLT, Int.reduceLE, Int.reduceEq, Int.reduceNeg, strOp_add, w0, l0]
theorem szS_mem {ns : List ByteArray} {s : ByteArray} (h : s ∈ ns) : s.size ≤ szS ns := by
  induction ns with
  | nil => cases h
  | cons x l ih =>
    rw [szS]
    rcases List.mem_cons.1 h with rfl | h
    · omega
    · have := ih h; omega
/-- What is small is sane. -/
theorem Dat.Wide.sane : ∀ (d : Dat), d.Wide → szD d ≤ 1048576 → d.Sane := by
  intro d
  induction d using Dat.ind with
  | h k n t l ns ih =>
  intro hd hz
  rw [szD_mk] at hz
  cases hd with
  | mk k n t l ns hk hn ht hl hns hss h =>
  refine .mk k n t l ns hk hn (by omega) (by omega) (by omega) (fun s hs => ?_) fun x hx => ih x hx (h x hx) ?_
  · have := szS_mem hs; omega
  · have := szL_mem hx; omega
/-- How deep data is. -/
def dep : Dat → Nat
  | .mk _ _ _ l _ => 1 + (l.map dep).foldr max 0
theorem dep_lt {k n : Int} {t : ByteArray} {l : List Dat} {ns : List ByteArray} {x : Dat} (h : x ∈ l) : dep x < dep (.mk k n t l ns) := by
  rw [dep.eq_1 k n t l ns]
  have := foldr_max dep l x h
  omega
theorem dep_le : ∀ (d : Dat), dep d ≤ szD d + 1 := by
  intro d
  induction d using Dat.ind with
  | h k n t l ns ih =>
  rw [dep.eq_1, szD_mk]
  have key : ∀ l : List Dat, (∀ x ∈ l, dep x ≤ szD x + 1) → (l.map dep).foldr max 0 ≤ l.length + szL l := by
    intro l
    induction l with
    | nil => intro _; exact Nat.zero_le _
    | cons x l ih2 =>
      intro h
      have h1 := h x (by simp)
      have h2 := ih2 fun y hy => h y (by simp [hy])
      simp only [List.map_cons, List.foldr_cons, List.length_cons, szL_cons]
      exact Nat.max_le.2 ⟨by omega, by omega⟩
  have := key l ih
  omega
theorem snap_datE {M : Mem} : ∀ (d : Dat) (q : Nat) {cs : List AV} {B : List Nat}, dep d < q → DatR M d cs B → cs.mapM (snapD M q) = some d.av.cells := by
  intro d
  induction d using Dat.ind with
  | h k n t l ns ih =>
  intro q cs B hq h
  obtain ⟨lv, nv, Bl, Bn, rfl, rfl, h1, h2⟩ := datR_iff.1 h
  have hg : 1 ≤ dep (.mk k n t l ns) := by rw [dep]; omega
  obtain ⟨q, rfl⟩ : ∃ p, q = p + 2 := ⟨q - 2, by omega⟩
  have e1 := snap_strR h1 q
  have e2 : snapD M (q + 2) lv = some (.slice 5 (l.map Dat.av)) := by
    rcases h2 with ⟨rfl, _⟩ | ⟨rfl, rfl, _⟩ | ⟨id, g, app, cs', B', rfl, ⟨q1, q2⟩, q3, rfl⟩
    · rfl
    · rfl
    · have hs := celR_snap (q + 1) l (fun x hx cs B h => ih x hx (q + 1) (by have := dep_lt (k := k) (n := n) (t := t) (ns := ns) hx; omega) h) q3
      have hl := celR_len l q3
      simp only [snapD, q1, q2, List.drop_zero, true_and]
      rw [if_pos (by omega), List.take_of_length_le (by omega), hs]
      simp [elems_datC]
  rw [Dat.av_mk]
  simp only [List.mapM_cons, List.mapM_nil, e1, e2, AV.cells]
  rfl
theorem snap_lstE {M : Mem} {l : List Dat} {v : AV} {B : List Nat} (h : LstR M l v B) (q : Nat) (hq : ∀ x ∈ l, dep x < q + 1) : snapD M (q + 2) v = some (.slice 5 (l.map Dat.av)) := by
  rcases h with ⟨rfl, _⟩ | ⟨rfl, rfl, _⟩ | ⟨id, g, app, cs', B', rfl, ⟨q1, q2⟩, q3, rfl⟩
  · rfl
  · rfl
  · have hs := celR_snap (q + 1) l (fun x hx cs B h => snap_datE x (q + 1) (hq x hx) h) q3
    have hl := celR_len l q3
    simp only [snapD, q1, q2, List.drop_zero, true_and]
    rw [if_pos (by omega), List.take_of_length_le (by omega), hs]
    simp [elems_datC]
/-! ### equal data, texts -/

theorem eqStrings_self (xs : List ByteArray) (h : xs.length ≤ 1099511627776) : fnA CC PR 21 [.slice 1 (xs.map AV.str), .slice 1 (xs.map AV.str)] = some (.bool true) := by
  apply comes_eq.1
  refine fnA_wp (rs := [.tmp 4]) Tryd.func21 rfl rfl (Nat.le_of_ble_eq_true rfl) rfl ?_
  simp +decide only [go_sem, Nat.reduceAdd, Nat.reduceMul, Nat.reduceSub, Nat.reduceLT, Nat.reduceLeDiff, Nat.reduceEqDiff, Nat.add_assoc, Int.reduceAdd, Int.reduceSub, Int.reduceMul, Int.reduceLT, Int.reduceLE, Int.reduceEq, Int.reduceNeg, strOp_add, List.length_map]
  refine comes_upto xs.length (fun i st => st.env 0 = .slice 1 (xs.map AV.str) ∧ st.env 1 = .slice 1 (xs.map AV.str) ∧ st.env 5 = .int .i64 i) ?_ ?_ _ ?_
  · rintro i st hi ⟨e0, e1, e5⟩
    have ha := strs_at hi
    have w1 : IntKind.wrap .i64 ((i : Int) + 1) = ((i + 1 : Nat) : Int) := wrap_succ (by omega)
    simp +decide only [go_sem, Nat.reduceAdd, Nat.reduceMul, Nat.reduceSub, Nat.reduceLT, Nat.reduceLeDiff, Nat.reduceEqDiff, Nat.add_assoc, Int.reduceAdd, Int.reduceSub, Int.reduceMul, Int.reduceLT, Int.reduceLE, Int.reduceEq, Int.reduceNeg, strOp_add, e0, e1, e5, hi, List.length_map, ha, w1]
    refine (d_plan (ord := [0, 1, 2, 3, 4, 5, 6, 7, 8]) (prs := [(3, 7)]) (by kernel_rfl)).2 ?_
    simp +decide only [go_sem, Nat.reduceAdd, Nat.reduceMul, Nat.reduceSub, Nat.reduceLT, Nat.reduceLeDiff, Nat.reduceEqDiff, Nat.add_assoc, Int.reduceAdd, Int.reduceSub, Int.reduceMul, Int.reduceLT, Int.reduceLE, Int.reduceEq, Int.reduceNeg, strOp_add, e0, e1, e5, hi, List.length_map, ha, w1]
  · rintro st ⟨e0, e1, e5⟩
    simp +decide only [go_sem, Nat.reduceAdd, Nat.reduceMul, Nat.reduceSub, Nat.reduceLT, Nat.reduceLeDiff, Nat.reduceEqDiff, Nat.add_assoc, Int.reduceAdd, Int.reduceSub, Int.reduceMul, Int.reduceLT, Int.reduceLE, Int.reduceEq, Int.reduceNeg, strOp_add, e0, e1, e5, List.length_map]
  · simp +decide only [go_sem, Nat.reduceAdd, Nat.reduceMul, Nat.reduceSub, Nat.reduceLT, Nat.reduceLeDiff, Nat.reduceEqDiff, Nat.add_assoc, Int.reduceAdd, Int.reduceSub, Int.reduceMul, Int.reduceLT, Int.reduceLE, Int.reduceEq, Int.reduceNeg, strOp_add]
    rfl
theorem eqDatum_self : ∀ (d : Dat), d.Sane → fnA CC PR 11 [d.av, d.av] = some (.bool true) := by
  intro d
  induction d using Dat.ind with
  | h k n t l ns ih =>
  intro hd
  cases hd with
  | mk k n t l ns hk hn ht hl hns hss h =>
  have hq := eqStrings_self ns hns
  have hq2 : fnA CC PR 30 [.slice 5 (l.map Dat.av), .slice 5 (l.map Dat.av)] = some (.bool true) := by
    apply comes_eq.1
    refine fnA_wp (rs := [.tmp 4]) Tryd.func30 rfl rfl (Nat.le_of_ble_eq_true rfl) rfl ?_
    simp +decide only [go_sem, Nat.reduceAdd, Nat.reduceMul, Nat.reduceSub, Nat.reduceLT, Nat.reduceLeDiff, Nat.reduceEqDiff, Nat.add_assoc, Int.reduceAdd, Int.reduceSub, Int.reduceMul, Int.reduceLT, Int.reduceLE, Int.reduceEq, Int.reduceNeg, strOp_add, List.length_map]
    refine comes_upto l.length (fun i st => st.env 0 = .slice 5 (l.map Dat.av) ∧ st.env 1 = .slice 5 (l.map Dat.av) ∧ st.env 5 = .int .i64 i) ?_ ?_ _ ?_
    · rintro i st hi ⟨e0, e1, e5⟩
      obtain ⟨k2, n2, t2, l2, ns2, hcs⟩ := cells_of l[i]
      have hqq := ih _ (List.getElem_mem hi) (h _ (List.getElem_mem hi))
      have ha := av_at hi
      rw [hcs] at ha hqq
      have w1 : IntKind.wrap .i64 ((i : Int) + 1) = ((i + 1 : Nat) : Int) := wrap_succ (by omega)
      simp +decide only [go_sem, Nat.reduceAdd, Nat.reduceMul, Nat.reduceSub, Nat.reduceLT, Nat.reduceLeDiff, Nat.reduceEqDiff, Nat.add_assoc, Int.reduceAdd, Int.reduceSub, Int.reduceMul, Int.reduceLT, Int.reduceLE, Int.reduceEq, Int.reduceNeg, strOp_add, e0, e1, e5, hi, List.length_map, ha, hqq, w1]
      refine (d_plan (ord := [0, 1, 2, 3, 4, 5, 6, 7, 8, 9]) (prs := [(3, 7)]) (by kernel_rfl)).2 ?_
      simp +decide only [go_sem, Nat.reduceAdd, Nat.reduceMul, Nat.reduceSub, Nat.reduceLT, Nat.reduceLeDiff, Nat.reduceEqDiff, Nat.add_assoc, Int.reduceAdd, Int.reduceSub, Int.reduceMul, Int.reduceLT, Int.reduceLE, Int.reduceEq, Int.reduceNeg, strOp_add, e0, e1, e5, hi, List.length_map, ha, hqq, w1]
    · rintro st ⟨e0, e1, e5⟩
      simp +decide only [go_sem, Nat.reduceAdd, Nat.reduceMul, Nat.reduceSub, Nat.reduceLT, Nat.reduceLeDiff, Nat.reduceEqDiff, Nat.add_assoc, Int.reduceAdd, Int.reduceSub, Int.reduceMul, Int.reduceLT, Int.reduceLE, Int.reduceEq, Int.reduceNeg, strOp_add, e0, e1, e5, List.length_map]
    · simp +decide only [go_sem, Nat.reduceAdd, Nat.reduceMul, Nat.reduceSub, Nat.reduceLT, Nat.reduceLeDiff, Nat.reduceEqDiff, Nat.add_assoc, Int.reduceAdd, Int.reduceSub, Int.reduceMul, Int.reduceLT, Int.reduceLE, Int.reduceEq, Int.reduceNeg, strOp_add]
      rfl
  rw [Dat.av_mk]
  apply comes_eq.1
  refine fnA_wp (rs := [.tmp 4]) Tryd.func11 rfl rfl (Nat.le_of_ble_eq_true rfl) rfl ?_
  simp +decide only [go_sem, Nat.reduceAdd, Nat.reduceMul, Nat.reduceSub, Nat.reduceLT, Nat.reduceLeDiff, Nat.reduceEqDiff, Nat.add_assoc, Int.reduceAdd, Int.reduceSub, Int.reduceMul, Int.reduceLT, Int.reduceLE, Int.reduceEq, Int.reduceNeg, strOp_add, hq, hq2]
end Go.Ev.Tryd
