/- Part of the proof of a statement about the given program: R4ZD R5ZD R6ZD R7ZD. No condition of its own. -/
import Derived.Test.YtmnpcdchlobdlaaGreatDoorR3ZD
section
namespace Go.Ev.Tryz
open Go.Proofs
set_option maxRecDepth 10000
set_option linter.unusedSimpArgs false
set_option linter.unusedVariables false
attribute [local congr] comes_congr bB_congr gK_congr gdK_congr

/-- A struct of a schema, an enum of a schema, as values. -/
def strA (s : ByteArray × List Dcl) : AV := .agg [.str s.1, .slice 6 (s.2.map Dcl.av)]
def enA (e : ByteArray × List ByteArray) : AV := .agg [.str e.1, strsA e.2]
theorem dcl_at {l : List Dcl} {i : Nat} (h : i < l.length) : (l.map Dcl.av)[i]? = some (.agg [.str l[i].name, .int .i64 l[i].ord, .str l[i].base, .bool l[i].list, .bool l[i].choice, .int .i64 l[i].els]) := by simp [h, Dcl.av, Dcl.cells]
theorem str_at {l : List (ByteArray × List Dcl)} {i : Nat} (h : i < l.length) : (l.map strA)[i]? = some (.agg [.str l[i].1, .slice 6 (l[i].2.map Dcl.av)]) := by simp [h, strA]
theorem en_at {l : List (ByteArray × List ByteArray)} {i : Nat} (h : i < l.length) : (l.map enA)[i]? = some (.agg [.str l[i].1, .slice 1 (l[i].2.map AV.str)]) := by simp [h, enA]
theorem l9Decl_eq (n : ByteArray) (l : List Dcl) (hl : l.length ≤ 1000000) (o : Int) : fnA CC PR 28 [.agg [.str n, .slice 6 (l.map Dcl.av)], .int .i64 o] = some (.int .i64 (firstI (fun d => decide (d.ord = o)) l)) := by
  apply comes_eq.1
  refine fnA_wp (rs := [.tmp 4]) Tryz.func28 rfl rfl (Nat.le_of_ble_eq_true rfl) rfl ?_
  simp +decide only [go_sem, Nat.reduceAdd, Nat.reduceMul, Nat.reduceSub, Nat.reduceLT, Nat.reduceLeDiff, Nat.reduceEqDiff, Nat.add_assoc, Int.reduceAdd, Int.reduceSub, Int.reduceMul, Int.reduceLT, Int.reduceLE, Int.reduceEq, Int.reduceNeg, strOp_add]
  refine comes_upto l.length (fun i st => st.env 1 = .int .i64 o ∧ st.env 2 = .ptr 0 0 0 ∧ st.env 5 = .int .i64 i ∧ st.sto 0 = ⟨[.str n, .slice 6 (l.map Dcl.av)], 0, false, none⟩ ∧ ∀ j, (hj : j < l.length) → j < i → ¬ l[j].ord = o) ?_ ?_ _ ?_
  · rintro i st hi ⟨e1, e2, e5, s0, hj⟩
    have w1 : IntKind.wrap .i64 ((i : Int) + 1) = ((i + 1 : Nat) : Int) := wrap_succ (by omega)
    simp +decide only [go_sem, Nat.reduceAdd, Nat.reduceMul, Nat.reduceSub, Nat.reduceLT, Nat.reduceLeDiff, Nat.reduceEqDiff, Nat.add_assoc, Int.reduceAdd, Int.reduceSub, Int.reduceMul, Int.reduceLT, Int.reduceLE, Int.reduceEq, Int.reduceNeg, strOp_add, e1, e2, e5, s0, hi, List.length_map, dcl_at hi, w1]
    refine bB_split (fun hB => ?_) (fun hB => ?_)
    · simp only [decide_eq_true_eq] at hB
      simp +decide only [go_sem, Nat.reduceAdd, Nat.reduceMul, Nat.reduceSub, Nat.reduceLT, Nat.reduceLeDiff, Nat.reduceEqDiff, Nat.add_assoc, Int.reduceAdd, Int.reduceSub, Int.reduceMul, Int.reduceLT, Int.reduceLE, Int.reduceEq, Int.reduceNeg, strOp_add, e1, e2, e5, w1]
      rw [firstI_some hi (by simp [hB]) (fun j hji => by simp [hj j (by omega) hji])]
    · simp only [decide_eq_false_iff_not] at hB
      simp +decide only [go_sem, Nat.reduceAdd, Nat.reduceMul, Nat.reduceSub, Nat.reduceLT, Nat.reduceLeDiff, Nat.reduceEqDiff, Nat.add_assoc, Int.reduceAdd, Int.reduceSub, Int.reduceMul, Int.reduceLT, Int.reduceLE, Int.reduceEq, Int.reduceNeg, strOp_add, e1, e2, e5, s0, w1]
      intro j h1 h2
      rcases Nat.lt_or_ge j i with h3 | h3
      · exact hj j h1 h3
      · have : j = i := by omega
        subst this
        exact hB
  · rintro st ⟨e1, e2, e5, s0, hj⟩
    simp +decide only [go_sem, Nat.reduceAdd, Nat.reduceMul, Nat.reduceSub, Nat.reduceLT, Nat.reduceLeDiff, Nat.reduceEqDiff, Nat.add_assoc, Int.reduceAdd, Int.reduceSub, Int.reduceMul, Int.reduceLT, Int.reduceLE, Int.reduceEq, Int.reduceNeg, strOp_add, e1, e2, e5, s0, List.length_map]
    rw [firstI_none (fun i hi => by simp [hj i hi hi])]
  · simp +decide only [go_sem, Nat.reduceAdd, Nat.reduceMul, Nat.reduceSub, Nat.reduceLT, Nat.reduceLeDiff, Nat.reduceEqDiff, Nat.add_assoc, Int.reduceAdd, Int.reduceSub, Int.reduceMul, Int.reduceLT, Int.reduceLE, Int.reduceEq, Int.reduceNeg, strOp_add]
    simp
theorem l9Struct_eq (ss : List (ByteArray × List Dcl)) (ev : List AV) (hl : ss.length ≤ 1000000) (o : ByteArray) : fnA CC PR 59 [.agg [.slice 2 (ss.map strA), .slice 2 ev], .str o] = some (.int .i64 (firstI (fun d => decide (d.1 = o)) ss)) := by
  apply comes_eq.1
  refine fnA_wp (rs := [.tmp 4]) Tryz.func59 rfl rfl (Nat.le_of_ble_eq_true rfl) rfl ?_
  simp +decide only [go_sem, Nat.reduceAdd, Nat.reduceMul, Nat.reduceSub, Nat.reduceLT, Nat.reduceLeDiff, Nat.reduceEqDiff, Nat.add_assoc, Int.reduceAdd, Int.reduceSub, Int.reduceMul, Int.reduceLT, Int.reduceLE, Int.reduceEq, Int.reduceNeg, strOp_add]
  refine comes_upto ss.length (fun i st => st.env 1 = .str o ∧ st.env 2 = .ptr 0 0 0 ∧ st.env 5 = .int .i64 i ∧ st.sto 0 = ⟨[.slice 2 (ss.map strA), .slice 2 ev], 0, false, none⟩ ∧ ∀ j, (hj : j < ss.length) → j < i → ¬ ss[j].1 = o) ?_ ?_ _ ?_
  · rintro i st hi ⟨e1, e2, e5, s0, hj⟩
    have w1 : IntKind.wrap .i64 ((i : Int) + 1) = ((i + 1 : Nat) : Int) := wrap_succ (by omega)
    simp +decide only [go_sem, Nat.reduceAdd, Nat.reduceMul, Nat.reduceSub, Nat.reduceLT, Nat.reduceLeDiff, Nat.reduceEqDiff, Nat.add_assoc, Int.reduceAdd, Int.reduceSub, Int.reduceMul, Int.reduceLT, Int.reduceLE, Int.reduceEq, Int.reduceNeg, strOp_add, e1, e2, e5, s0, hi, List.length_map, str_at hi, w1]
    refine bB_split (fun hB => ?_) (fun hB => ?_)
    · simp only [decide_eq_true_eq] at hB
      simp +decide only [go_sem, Nat.reduceAdd, Nat.reduceMul, Nat.reduceSub, Nat.reduceLT, Nat.reduceLeDiff, Nat.reduceEqDiff, Nat.add_assoc, Int.reduceAdd, Int.reduceSub, Int.reduceMul, Int.reduceLT, Int.reduceLE, Int.reduceEq, Int.reduceNeg, strOp_add, e1, e2, e5, w1]
      rw [firstI_some hi (by simp [hB]) (fun j hji => by simp [hj j (by omega) hji])]
    · simp only [decide_eq_false_iff_not] at hB
      simp +decide only [go_sem, Nat.reduceAdd, Nat.reduceMul, Nat.reduceSub, Nat.reduceLT, Nat.reduceLeDiff, Nat.reduceEqDiff, Nat.add_assoc, Int.reduceAdd, Int.reduceSub, Int.reduceMul, Int.reduceLT, Int.reduceLE, Int.reduceEq, Int.reduceNeg, strOp_add, e1, e2, e5, s0, w1]
      intro j h1 h2
      rcases Nat.lt_or_ge j i with h3 | h3
      · exact hj j h1 h3
      · have : j = i := by omega
        subst this
        exact hB
  · rintro st ⟨e1, e2, e5, s0, hj⟩
    simp +decide only [go_sem, Nat.reduceAdd, Nat.reduceMul, Nat.reduceSub, Nat.reduceLT, Nat.reduceLeDiff, Nat.reduceEqDiff, Nat.add_assoc, Int.reduceAdd, Int.reduceSub, Int.reduceMul, Int.reduceLT, Int.reduceLE, Int.reduceEq, Int.reduceNeg, strOp_add, e1, e2, e5, s0, List.length_map]
    rw [firstI_none (fun i hi => by simp [hj i hi hi])]
  · simp +decide only [go_sem, Nat.reduceAdd, Nat.reduceMul, Nat.reduceSub, Nat.reduceLT, Nat.reduceLeDiff, Nat.reduceEqDiff, Nat.add_assoc, Int.reduceAdd, Int.reduceSub, Int.reduceMul, Int.reduceLT, Int.reduceLE, Int.reduceEq, Int.reduceNeg, strOp_add]
    simp
theorem l9Enum_eq (es : List (ByteArray × List ByteArray)) (sv : List AV) (hl : es.length ≤ 1000000) (o : ByteArray) : fnA CC PR 60 [.agg [.slice 2 sv, .slice 2 (es.map enA)], .str o] = some (.int .i64 (firstI (fun d => decide (d.1 = o)) es)) := by
  apply comes_eq.1
  refine fnA_wp (rs := [.tmp 4]) Tryz.func60 rfl rfl (Nat.le_of_ble_eq_true rfl) rfl ?_
  simp +decide only [go_sem, Nat.reduceAdd, Nat.reduceMul, Nat.reduceSub, Nat.reduceLT, Nat.reduceLeDiff, Nat.reduceEqDiff, Nat.add_assoc, Int.reduceAdd, Int.reduceSub, Int.reduceMul, Int.reduceLT, Int.reduceLE, Int.reduceEq, Int.reduceNeg, strOp_add]
  refine comes_upto es.length (fun i st => st.env 1 = .str o ∧ st.env 2 = .ptr 0 0 0 ∧ st.env 5 = .int .i64 i ∧ st.sto 0 = ⟨[.slice 2 sv, .slice 2 (es.map enA)], 0, false, none⟩ ∧ ∀ j, (hj : j < es.length) → j < i → ¬ es[j].1 = o) ?_ ?_ _ ?_
  · rintro i st hi ⟨e1, e2, e5, s0, hj⟩
    have w1 : IntKind.wrap .i64 ((i : Int) + 1) = ((i + 1 : Nat) : Int) := wrap_succ (by omega)
    simp +decide only [go_sem, Nat.reduceAdd, Nat.reduceMul, Nat.reduceSub, Nat.reduceLT, Nat.reduceLeDiff, Nat.reduceEqDiff, Nat.add_assoc, Int.reduceAdd, Int.reduceSub, Int.reduceMul, Int.reduceLT, Int.reduceLE, Int.reduceEq, Int.reduceNeg, strOp_add, e1, e2, e5, s0, hi, List.length_map, en_at hi, w1]
    refine bB_split (fun hB => ?_) (fun hB => ?_)
    · simp only [decide_eq_true_eq] at hB
      simp +decide only [go_sem, Nat.reduceAdd, Nat.reduceMul, Nat.reduceSub, Nat.reduceLT, Nat.reduceLeDiff, Nat.reduceEqDiff, Nat.add_assoc, Int.reduceAdd, Int.reduceSub, Int.reduceMul, Int.reduceLT, Int.reduceLE, Int.reduceEq, Int.reduceNeg, strOp_add, e1, e2, e5, w1]
      rw [firstI_some hi (by simp [hB]) (fun j hji => by simp [hj j (by omega) hji])]
    · simp only [decide_eq_false_iff_not] at hB
      simp +decide only [go_sem, Nat.reduceAdd, Nat.reduceMul, Nat.reduceSub, Nat.reduceLT, Nat.reduceLeDiff, Nat.reduceEqDiff, Nat.add_assoc, Int.reduceAdd, Int.reduceSub, Int.reduceMul, Int.reduceLT, Int.reduceLE, Int.reduceEq, Int.reduceNeg, strOp_add, e1, e2, e5, s0, w1]
      intro j h1 h2
      rcases Nat.lt_or_ge j i with h3 | h3
      · exact hj j h1 h3
      · have : j = i := by omega
        subst this
        exact hB
  · rintro st ⟨e1, e2, e5, s0, hj⟩
    simp +decide only [go_sem, Nat.reduceAdd, Nat.reduceMul, Nat.reduceSub, Nat.reduceLT, Nat.reduceLeDiff, Nat.reduceEqDiff, Nat.add_assoc, Int.reduceAdd, Int.reduceSub, Int.reduceMul, Int.reduceLT, Int.reduceLE, Int.reduceEq, Int.reduceNeg, strOp_add, e1, e2, e5, s0, List.length_map]
    rw [firstI_none (fun i hi => by simp [hj i hi hi])]
  · simp +decide only [go_sem, Nat.reduceAdd, Nat.reduceMul, Nat.reduceSub, Nat.reduceLT, Nat.reduceLeDiff, Nat.reduceEqDiff, Nat.add_assoc, Int.reduceAdd, Int.reduceSub, Int.reduceMul, Int.reduceLT, Int.reduceLE, Int.reduceEq, Int.reduceNeg, strOp_add]
    simp
theorem l9Size_ok (o : ByteArray) : ∃ n : Int, fnA CC PR 81 [.str o] = some (.int .i64 n) := by
  have key : Comes (fnA CC PR 81 [.str o]) (fun b => ∃ n, b = .int .i64 n) := by
    refine fnA_wp (rs := [.tmp 2]) Tryz.func81 rfl rfl (Nat.le_of_ble_eq_true rfl) rfl ?_
    (simp +decide only [go_sem, Nat.reduceAdd, Nat.reduceMul, Nat.reduceSub, Nat.reduceLT, Nat.reduceLeDiff, Nat.reduceEqDiff, Nat.add_assoc, Int.reduceAdd, Int.reduceSub, Int.reduceMul, Int.reduceLT, Int.reduceLE, Int.reduceEq, Int.reduceNeg, strOp_add]); repeat' (refine bB_split (fun hB => ?_) (fun hB => ?_) <;> (try simp only [Bool.and_eq_true, Bool.or_eq_false_iff, decide_eq_true_eq, decide_eq_false_iff_not] at hB) <;> simp +decide only [go_sem, Nat.reduceAdd, Nat.reduceMul, Nat.reduceSub, Nat.reduceLT, Nat.reduceLeDiff, Nat.reduceEqDiff, Nat.add_assoc, Int.reduceAdd, Int.reduceSub, Int.reduceMul, Int.reduceLT, Int.reduceLE, Int.reduceEq, Int.reduceNeg, strOp_add, hB])
    all_goals exact ⟨_, rfl⟩
  obtain ⟨a, ha, n, rfl⟩ := key
  exact ⟨n, ha⟩
theorem l10Plain_ok (x : Dcl) (d : Dat) : ∃ b, fnA CC PR 30 [x.av, d.av] = some (.bool b) := by
  obtain ⟨k2, n2, t2, l2, ns2, hcs⟩ := cells_of d
  rw [hcs]
  unfold Dcl.av Dcl.cells
  have key : Comes (fnA CC PR 30 [.agg [.str x.name, .int .i64 x.ord, .str x.base, .bool x.list, .bool x.choice, .int .i64 x.els], .agg [.int .i64 k2, .int .i64 n2, .str t2, .slice 5 l2, .slice 1 ns2]]) (fun b => ∃ n, b = .bool n) := by
    refine fnA_wp (rs := [.tmp 4]) Tryz.func30 rfl rfl (Nat.le_of_ble_eq_true rfl) rfl ?_
    (simp +decide only [go_sem, Nat.reduceAdd, Nat.reduceMul, Nat.reduceSub, Nat.reduceLT, Nat.reduceLeDiff, Nat.reduceEqDiff, Nat.add_assoc, Int.reduceAdd, Int.reduceSub, Int.reduceMul, Int.reduceLT, Int.reduceLE, Int.reduceEq, Int.reduceNeg, strOp_add]); repeat' (refine bB_split (fun hB => ?_) (fun hB => ?_) <;> (try simp only [Bool.and_eq_true, Bool.or_eq_false_iff, decide_eq_true_eq, decide_eq_false_iff_not] at hB) <;> simp +decide only [go_sem, Nat.reduceAdd, Nat.reduceMul, Nat.reduceSub, Nat.reduceLT, Nat.reduceLeDiff, Nat.reduceEqDiff, Nat.add_assoc, Int.reduceAdd, Int.reduceSub, Int.reduceMul, Int.reduceLT, Int.reduceLE, Int.reduceEq, Int.reduceNeg, strOp_add, hB])
    all_goals exact ⟨_, rfl⟩
  obtain ⟨a, ha, n, rfl⟩ := key
  exact ⟨n, ha⟩
end Go.Ev.Tryz
end
section
namespace Go.Ev.Tryz
open Go.Proofs
set_option maxRecDepth 10000
set_option linter.unusedSimpArgs false
set_option linter.unusedVariables false
attribute [local congr] comes_congr bB_congr gK_congr gdK_congr

theorem l9Of_ok (ss : List (ByteArray × List Dcl)) (es : List (ByteArray × List ByteArray)) (h1 : ss.length ≤ 1000000) (h2 : es.length ≤ 1000000) (o : ByteArray) (li : Bool) : ∃ n : Int, fnA CC PR 58 [.agg [.slice 2 (ss.map strA), .slice 2 (es.map enA)], .agg [.str o, .bool li]] = some (.int .i64 n) := by
  obtain ⟨z, hz⟩ := l9Size_ok o
  have e1 := l9Struct_eq ss (es.map enA) h1 o
  have e2 := l9Enum_eq es (ss.map strA) h2 o
  have key : Comes (fnA CC PR 58 [.agg [.slice 2 (ss.map strA), .slice 2 (es.map enA)], .agg [.str o, .bool li]]) (fun b => ∃ n, b = .int .i64 n) := by
    refine fnA_wp (rs := [.tmp 4]) Tryz.func58 rfl rfl (Nat.le_of_ble_eq_true rfl) rfl ?_
    (simp +decide only [go_sem, Nat.reduceAdd, Nat.reduceMul, Nat.reduceSub, Nat.reduceLT, Nat.reduceLeDiff, Nat.reduceEqDiff, Nat.add_assoc, Int.reduceAdd, Int.reduceSub, Int.reduceMul, Int.reduceLT, Int.reduceLE, Int.reduceEq, Int.reduceNeg, strOp_add, e1, e2, hz]); repeat' (refine bB_split (fun hB => ?_) (fun hB => ?_) <;> (try simp only [Bool.and_eq_true, Bool.or_eq_false_iff, decide_eq_true_eq, decide_eq_false_iff_not] at hB) <;> simp +decide only [go_sem, Nat.reduceAdd, Nat.reduceMul, Nat.reduceSub, Nat.reduceLT, Nat.reduceLeDiff, Nat.reduceEqDiff, Nat.add_assoc, Int.reduceAdd, Int.reduceSub, Int.reduceMul, Int.reduceLT, Int.reduceLE, Int.reduceEq, Int.reduceNeg, strOp_add, hB, e1, e2, hz])
    all_goals exact ⟨_, rfl⟩
  obtain ⟨a, ha, n, rfl⟩ := key
  exact ⟨n, ha⟩
/-- A field of a record, as a value. -/
def fldC (f : Int × Bool × Int) : List AV := [.int .i64 f.1, .bool f.2.1, .int .i64 f.2.2]
def fldA (f : Int × Bool × Int) : AV := .agg (fldC f)
def fldsC (l : List (Int × Bool × Int)) : List AV := (l.map fldC).flatten
theorem fldsC_len (l : List (Int × Bool × Int)) : (fldsC l).length = l.length * 3 := by
  induction l with
  | nil => rfl
  | cons d l ih =>
    simp only [fldsC, List.map_cons, List.flatten_cons, List.length_append, List.length_cons] at ih ⊢
    rw [ih]
    simp only [fldC, List.length_cons, List.length_nil]
    omega
theorem still_fldsC (l : List (Int × Bool × Int)) : ∀ c ∈ fldsC l, still c = true := by
  intro c hc
  simp only [fldsC, List.mem_flatten, List.mem_map] at hc
  obtain ⟨_, ⟨d, _, rfl⟩, hc⟩ := hc
  simp only [fldC, List.mem_cons, List.mem_nil_iff, or_false] at hc
  rcases hc with rfl | rfl | rfl <;> rfl
theorem elems_fldsC (l : List (Int × Bool × Int)) : elems 3 l.length (fldsC l) = l.map fldA := by
  have h := elems_flat 3 (by decide) (l.map fldC) (fun c hc => by
    obtain ⟨d, _, rfl⟩ := List.mem_map.1 hc
    rfl)
  rw [List.length_map] at h
  rw [fldsC, h, List.map_map]
  rfl
/-- What stands while fields are told. -/
def FldI (m : Mem) (v : AV) (i : Nat) : Prop := ∃ (fs : List (Int × Bool × Int)) (g : Nat), fs.length = i ∧ v = .arr 2 g 0 i 3 true ∧ ∃ ty, m.sto 2 = ⟨fldsC fs, g, false, ty⟩
set_option maxHeartbeats 2000000 in
theorem l9Fields_ok (ss : List (ByteArray × List Dcl)) (es : List (ByteArray × List ByteArray)) (h1 : ss.length ≤ 1000000) (h2 : es.length ≤ 1000000) (n : ByteArray) (l : List Dcl) (hl : l.length ≤ 1000000) (ho : ∀ o : Nat, o < l.length → ∃ d ∈ l, d.ord = o) :
    ∃ fs : List (Int × Bool × Int), fs.length = l.length ∧ fnA CC PR 27 [.agg [.slice 2 (ss.map strA), .slice 2 (es.map enA)], .agg [.str n, .slice 6 (l.map Dcl.av)]] = some (.slice 3 (fs.map fldA)) := by
  have key : Comes (fnA CC PR 27 [.agg [.slice 2 (ss.map strA), .slice 2 (es.map enA)], .agg [.str n, .slice 6 (l.map Dcl.av)]]) (fun b => ∃ fs : List (Int × Bool × Int), fs.length = l.length ∧ b = .slice 3 (fs.map fldA)) := by
    refine fnA_wp (rs := [.tmp 4]) Tryz.func27 rfl rfl (Nat.le_of_ble_eq_true rfl) rfl ?_
    simp +decide only [go_sem, Nat.reduceAdd, Nat.reduceMul, Nat.reduceSub, Nat.reduceLT, Nat.reduceLeDiff, Nat.reduceEqDiff, Nat.add_assoc, Int.reduceAdd, Int.reduceSub, Int.reduceMul, Int.reduceLT, Int.reduceLE, Int.reduceEq, Int.reduceNeg, strOp_add]
    refine comes_upto l.length (fun i st => st.env 2 = .ptr 0 0 0 ∧ st.env 3 = .ptr 1 0 0 ∧ st.env 6 = .int .i64 i ∧ 3 ≤ st.nid ∧ st.sto 0 = ⟨[.slice 2 (ss.map strA), .slice 2 (es.map enA)], 0, false, none⟩ ∧ st.sto 1 = ⟨[.str n, .slice 6 (l.map Dcl.av)], 0, false, none⟩ ∧ FldI st.toMem (st.env 5) i) ?_ ?_ _ ?_
    · rintro i st hi ⟨e2, e3, e6, en, s0, s1, fs, g, hfs, e5, ty, hs⟩
      have w1 : IntKind.wrap .i64 ((i : Int) + 1) = ((i + 1 : Nat) : Int) := wrap_succ (by omega)
      have hd := l9Decl_eq n l hl i
      rcases firstI_cases (fun d => decide (d.ord = (i : Int))) l with hf | ⟨j, hj, hf⟩
      · exfalso
        obtain ⟨d, hdl, hdo⟩ := ho i hi
        have : (0 : Int) ≤ firstI (fun d => decide (d.ord = (i : Int))) l := firstI_ge.2 (List.any_eq_true.2 ⟨d, hdl, by simp [hdo]⟩)
        omega
      · rw [hf] at hd
        obtain ⟨z, hz⟩ := l9Of_ok ss es h1 h2 l[j].base l[j].list
        have hc1 : i * 3 = (fldsC fs).length := by rw [fldsC_len, hfs]
        have hc2 : i + 1 ≤ most := by simp only [most]; omega
        simp +decide only [go_sem, Nat.reduceAdd, Nat.reduceMul, Nat.reduceSub, Nat.reduceLT, Nat.reduceLeDiff, Nat.reduceEqDiff, Nat.add_assoc, Int.reduceAdd, Int.reduceSub, Int.reduceMul, Int.reduceLT, Int.reduceLE, Int.reduceEq, Int.reduceNeg, strOp_add, e2, e3, e5, e6, s0, s1, hi, List.length_map]
        refine (d_plan (ord := [0, 1, 2, 3, 4, 5, 6, 7, 8]) (prs := [(1, 2), (1, 4), (1, 7), (2, 7), (4, 7), (6, 7)]) (by kernel_rfl)).2 ?_
        simp +decide (disch := first | decide | omega) only [go_sem, Nat.reduceAdd, Nat.reduceMul, Nat.reduceSub, Nat.reduceLT, Nat.reduceLeDiff, Nat.reduceEqDiff, Nat.add_assoc, Int.reduceAdd, Int.reduceSub, Int.reduceMul, Int.reduceLT, Int.reduceLE, Int.reduceEq, Int.reduceNeg, strOp_add, e2, e3, e5, e6, s0, s1, hd, hj, dcl_at hj, List.length_map]
        refine (d_plan (ord := [0, 1, 2, 3, 4, 5, 6, 7, 8, 9, 10, 11, 12]) (prs := [(1, 3), (1, 6), (3, 6), (4, 6), (1, 8), (3, 8), (4, 8), (6, 8)]) (by kernel_rfl)).2 ?_
        simp +decide (disch := first | decide | omega) only [go_sem, Nat.reduceAdd, Nat.reduceMul, Nat.reduceSub, Nat.reduceLT, Nat.reduceLeDiff, Nat.reduceEqDiff, Nat.add_assoc, Int.reduceAdd, Int.reduceSub, Int.reduceMul, Int.reduceLT, Int.reduceLE, Int.reduceEq, Int.reduceNeg, strOp_add, e2, e3, e5, e6, s0, s1, hs, hz, hc1, hc2, w1, List.length_map]
        refine ⟨fs ++ [(z, l[j].choice, l[j].els)], g + 1, by simp [hfs], rfl, grewT 95 ty, ?_⟩
        dsimp only
        rw [upd_hit, show fldsC (fs ++ [(z, l[j].choice, l[j].els)]) = fldsC fs ++ [.int .i64 z, .bool l[j].choice, .int .i64 l[j].els] by simp [fldsC, fldC]]
        rfl
    · rintro st ⟨e2, e3, e6, en, s0, s1, fs, g, hfs, e5, ty, hs⟩
      have htk : (fldsC fs).take (l.length * 3) = fldsC fs := by rw [← hfs, ← fldsC_len, List.take_length]
      have hle : l.length * 3 ≤ (fldsC fs).length := by rw [fldsC_len, hfs]; exact Nat.le_refl _
      have hel : elems 3 l.length (fldsC fs) = fs.map fldA := by rw [← hfs]; exact elems_fldsC fs
      have hsn : ∀ (m : Mem) (k : Nat), (fldsC fs).mapM (snapD m (k + 1)) = some (fldsC fs) := fun m k => snaps_still (still_fldsC fs) m k
      simp +decide only [go_sem, Nat.reduceAdd, Nat.reduceMul, Nat.reduceSub, Nat.reduceLT, Nat.reduceLeDiff, Nat.reduceEqDiff, Nat.add_assoc, Int.reduceAdd, Int.reduceSub, Int.reduceMul, Int.reduceLT, Int.reduceLE, Int.reduceEq, Int.reduceNeg, strOp_add, e2, e3, e5, e6, s0, s1, hs, htk, hle, hsn, hel, List.length_map]
      exact ⟨fs, hfs, rfl⟩
    · simp +decide only [go_sem, Nat.reduceAdd, Nat.reduceMul, Nat.reduceSub, Nat.reduceLT, Nat.reduceLeDiff, Nat.reduceEqDiff, Nat.add_assoc, Int.reduceAdd, Int.reduceSub, Int.reduceMul, Int.reduceLT, Int.reduceLE, Int.reduceEq, Int.reduceNeg, strOp_add]
      exact ⟨rfl, [], 0, rfl, rfl, none, rfl⟩
  obtain ⟨a, ha, fs, h3, rfl⟩ := key
  exact ⟨fs, h3, ha⟩
theorem fld_at {l : List (Int × Bool × Int)} {i : Nat} (h : i < l.length) : (l.map fldA)[i]? = some (.agg [.int .i64 l[i].1, .bool l[i].2.1, .int .i64 l[i].2.2]) := by simp [h, fldA, fldC]
theorem l8Choice_ok (fs : List (Int × Bool × Int)) (n : Nat) (hf : fs.length ≤ 1000000) (hn : n ≤ fs.length) : ∃ k : Nat, k ≤ n ∧ fnA CC PR 26 [.slice 3 (fs.map fldA), .int .i64 n] = some (.int .i64 k) := by
  have key : Comes (fnA CC PR 26 [.slice 3 (fs.map fldA), .int .i64 n]) (fun b => ∃ k : Nat, k ≤ n ∧ b = .int .i64 k) := by
    refine fnA_wp (rs := [.tmp 4]) Tryz.func26 rfl rfl (Nat.le_of_ble_eq_true rfl) rfl ?_
    simp +decide only [go_sem, Nat.reduceAdd, Nat.reduceMul, Nat.reduceSub, Nat.reduceLT, Nat.reduceLeDiff, Nat.reduceEqDiff, Nat.add_assoc, Int.reduceAdd, Int.reduceSub, Int.reduceMul, Int.reduceLT, Int.reduceLE, Int.reduceEq, Int.reduceNeg, strOp_add]
    refine comes_upto n (fun i st => st.env 0 = .slice 3 (fs.map fldA) ∧ st.env 1 = .int .i64 n ∧ st.env 6 = .int .i64 i ∧ ∃ k : Nat, k ≤ i ∧ st.env 5 = .int .i64 k) ?_ ?_ _ ?_
    · rintro i st hi ⟨e0, e1, e6, k, hk, e5⟩
      have hi2 : i < fs.length := by omega
      have w1 : IntKind.wrap .i64 ((i : Int) + 1) = ((i + 1 : Nat) : Int) := wrap_succ (by omega)
      have w2 : IntKind.wrap .i64 ((k : Int) + 1) = ((k + 1 : Nat) : Int) := wrap_succ (by omega)
      simp +decide only [go_sem, Nat.reduceAdd, Nat.reduceMul, Nat.reduceSub, Nat.reduceLT, Nat.reduceLeDiff, Nat.reduceEqDiff, Nat.add_assoc, Int.reduceAdd, Int.reduceSub, Int.reduceMul, Int.reduceLT, Int.reduceLE, Int.reduceEq, Int.reduceNeg, strOp_add, e0, e1, e5, e6, hi, hi2, fld_at hi2, w1, w2, List.length_map]
      refine bB_split (fun hB => ?_) (fun hB => ?_)
      · simp +decide only [go_sem, Nat.reduceAdd, Nat.reduceMul, Nat.reduceSub, Nat.reduceLT, Nat.reduceLeDiff, Nat.reduceEqDiff, Nat.add_assoc, Int.reduceAdd, Int.reduceSub, Int.reduceMul, Int.reduceLT, Int.reduceLE, Int.reduceEq, Int.reduceNeg, strOp_add, e0, e1, e5, e6, w1, w2]
        exact ⟨k + 1, by omega, rfl⟩
      · simp +decide only [go_sem, Nat.reduceAdd, Nat.reduceMul, Nat.reduceSub, Nat.reduceLT, Nat.reduceLeDiff, Nat.reduceEqDiff, Nat.add_assoc, Int.reduceAdd, Int.reduceSub, Int.reduceMul, Int.reduceLT, Int.reduceLE, Int.reduceEq, Int.reduceNeg, strOp_add, e0, e1, e5, e6, w1, w2]
        exact ⟨k, by omega, rfl⟩
    · rintro st ⟨e0, e1, e6, k, hk, e5⟩
      simp +decide only [go_sem, Nat.reduceAdd, Nat.reduceMul, Nat.reduceSub, Nat.reduceLT, Nat.reduceLeDiff, Nat.reduceEqDiff, Nat.add_assoc, Int.reduceAdd, Int.reduceSub, Int.reduceMul, Int.reduceLT, Int.reduceLE, Int.reduceEq, Int.reduceNeg, strOp_add, e0, e1, e5, e6]
      exact ⟨k, hk, rfl⟩
    · simp +decide only [go_sem, Nat.reduceAdd, Nat.reduceMul, Nat.reduceSub, Nat.reduceLT, Nat.reduceLeDiff, Nat.reduceEqDiff, Nat.add_assoc, Int.reduceAdd, Int.reduceSub, Int.reduceMul, Int.reduceLT, Int.reduceLE, Int.reduceEq, Int.reduceNeg, strOp_add]
      exact ⟨rfl, 0, Nat.le_refl _, rfl⟩
  obtain ⟨a, ha, k, h3, rfl⟩ := key
  exact ⟨k, h3, ha⟩
end Go.Ev.Tryz
end
section
namespace Go.Ev.Tryz
open Go.Proofs
set_option maxRecDepth 10000
set_option linter.unusedSimpArgs false
set_option linter.unusedVariables false
attribute [local congr] comes_congr bB_congr gK_congr gdK_congr

theorem l1Many_ok (s : ByteArray) (n : Nat) (h : s.size ≤ 1000) (hn : n ≤ 1000000) : ∃ r, fnA CC PR 61 [.str s, .int .i64 n] = some (.str r) ∧ r.size ≤ 2000000000 := by
  have key : Comes (fnA CC PR 61 [.str s, .int .i64 n]) (fun b => ∃ r, b = .str r ∧ r.size ≤ 2000000000) := by
    have hC : n * s.size ≤ 1000000 * 1000 := Nat.mul_le_mul hn h
    refine fnA_wp (rs := [.tmp 4]) Tryz.func61 rfl rfl (Nat.le_of_ble_eq_true rfl) rfl ?_
    simp +decide only [go_sem, Nat.reduceAdd, Nat.reduceMul, Nat.reduceSub, Nat.reduceLT, Nat.reduceLeDiff, Nat.reduceEqDiff, Nat.add_assoc, Int.reduceAdd, Int.reduceSub, Int.reduceMul, Int.reduceLT, Int.reduceLE, Int.reduceEq, Int.reduceNeg, strOp_add]
    refine comes_while (fun k st => st.env 1 = .int .i64 k ∧ k ≤ 1000000 ∧ ∃ a b : ByteArray, st.env 0 = .str a ∧ st.env 5 = .str b ∧ b.size + k * a.size ≤ 1000000000) ?_ n _ ?_
    · rintro k st ⟨e1, hk, a, b, e0, e5, hs⟩
      rcases Nat.eq_zero_or_pos k with rfl | hpos
      · have c0 : ((0 : Nat) : Int) = 0 := rfl
        simp +decide only [go_sem, Nat.reduceAdd, Nat.reduceMul, Nat.reduceSub, Nat.reduceLT, Nat.reduceLeDiff, Nat.reduceEqDiff, Nat.add_assoc, Int.reduceAdd, Int.reduceSub, Int.reduceMul, Int.reduceLT, Int.reduceLE, Int.reduceEq, Int.reduceNeg, strOp_add, e0, e1, e5, c0]
        exact ⟨b, rfl, by omega⟩
      · have hp : (0 : Int) < (k : Int) := by omega
        have hak : a.size ≤ k * a.size := Nat.le_mul_of_pos_left _ hpos
        have t1 : (k : Int).tmod 2 = ((k % 2 : Nat) : Int) := tmod_nat k 2
        have t2 : IntKind.wrap .i64 ((k : Int).tdiv 2) = ((k / 2 : Nat) : Int) := wrap_of (tdiv_nat k 2) (by omega)
        have z1 : (b.size + a.size ≤ 9223372036854775807) = True := eq_true (by omega)
        have z2 : (a.size + a.size ≤ 9223372036854775807) = True := eq_true (by omega)
        have hdm := Nat.div_add_mod k 2
        have hkk : k * a.size = 2 * (k / 2) * a.size + (k % 2) * a.size := by rw [← Nat.add_mul]; rw [hdm]
        have h2 : 2 * (k / 2) * a.size = (k / 2) * (a.size + a.size) := by rw [Nat.mul_comm 2, Nat.mul_assoc]; congr 1; omega
        simp +decide only [go_sem, Nat.reduceAdd, Nat.reduceMul, Nat.reduceSub, Nat.reduceLT, Nat.reduceLeDiff, Nat.reduceEqDiff, Nat.add_assoc, Int.reduceAdd, Int.reduceSub, Int.reduceMul, Int.reduceLT, Int.reduceLE, Int.reduceEq, Int.reduceNeg, strOp_add, e0, e1, e5, hp, t1, t2, z1, z2]
        refine bB_split (fun hB => ?_) (fun hB => ?_)
        · simp only [decide_eq_true_eq] at hB
          have h1 : k % 2 = 1 := by omega
          simp +decide only [go_sem, Nat.reduceAdd, Nat.reduceMul, Nat.reduceSub, Nat.reduceLT, Nat.reduceLeDiff, Nat.reduceEqDiff, Nat.add_assoc, Int.reduceAdd, Int.reduceSub, Int.reduceMul, Int.reduceLT, Int.reduceLE, Int.reduceEq, Int.reduceNeg, strOp_add, e0, e1, e5, hp, t1, t2, z1, z2]
          refine ⟨k / 2, by omega, rfl, by omega, a ++ a, b ++ a, rfl, rfl, ?_⟩
          rw [size_app, size_app]
          rw [h1, Nat.one_mul] at hkk
          omega
        · simp only [decide_eq_false_iff_not] at hB
          have h1 : k % 2 = 0 := by omega
          simp +decide only [go_sem, Nat.reduceAdd, Nat.reduceMul, Nat.reduceSub, Nat.reduceLT, Nat.reduceLeDiff, Nat.reduceEqDiff, Nat.add_assoc, Int.reduceAdd, Int.reduceSub, Int.reduceMul, Int.reduceLT, Int.reduceLE, Int.reduceEq, Int.reduceNeg, strOp_add, e0, e1, e5, hp, t1, t2, z1, z2]
          refine ⟨k / 2, by omega, rfl, by omega, a ++ a, b, rfl, rfl, ?_⟩
          rw [size_app]
          rw [h1, Nat.zero_mul] at hkk
          omega
    · simp +decide only [go_sem, Nat.reduceAdd, Nat.reduceMul, Nat.reduceSub, Nat.reduceLT, Nat.reduceLeDiff, Nat.reduceEqDiff, Nat.add_assoc, Int.reduceAdd, Int.reduceSub, Int.reduceMul, Int.reduceLT, Int.reduceLE, Int.reduceEq, Int.reduceNeg, strOp_add]
      refine ⟨hn, s, ⟨#[]⟩, rfl, rfl, ?_⟩
      show 0 + _ ≤ _
      omega
  obtain ⟨a, ha, r, rfl, h⟩ := key
  exact ⟨r, ha, h⟩
/-- The plain values of a schema as it is drawn. -/
def plainS (part : Option (List Dcl)) (main : List Dcl) : List (ByteArray × List Dcl) := (match part with | none => [] | some p => [(nPart, p)]) ++ [(nMain, main)]
def plainE (tone : Bool) : List (ByteArray × List ByteArray) := if tone = true then [(nTone, words3)] else []
theorem still_dclC (l : List Dcl) : ∀ c ∈ dclC l, still c = true := by
  intro c hc
  simp only [dclC, List.mem_flatten, List.mem_map] at hc
  obtain ⟨_, ⟨d, _, rfl⟩, hc⟩ := hc
  simp only [Dcl.cells, List.mem_cons, List.mem_nil_iff, or_false] at hc
  rcases hc with rfl | rfl | rfl | rfl | rfl | rfl <;> rfl
theorem elems_dclC (l : List Dcl) : elems 6 l.length (dclC l) = l.map Dcl.av := by
  have h := elems_flat 6 (by decide) (l.map Dcl.cells) (fun c hc => by
    obtain ⟨d, _, rfl⟩ := List.mem_map.1 hc
    rfl)
  rw [List.length_map] at h
  rw [dclC, h, List.map_map]
  rfl
theorem snap_dec {u : Bool} {M : Mem} {lo : Nat} {v : AV} {l : List Dcl} (h : DecAt u M lo v l) (k : Nat) : snapD M (k + 2) v = some (.slice 6 (l.map Dcl.av)) := by
  obtain ⟨d, g, _, _, rfl, hc, hg⟩ := h
  simp only [snapD, hc, hg, List.drop_zero, true_and]
  rw [if_pos (by rw [dclC_len]; exact Nat.le_refl _), ← dclC_len, List.take_length, snaps_still (still_dclC l)]
  simp [elems_dclC]
theorem snap_en {u : Bool} {M : Mem} {lo : Nat} {v : AV} {tone : Bool} (h : EnAt u M lo v tone) (k : Nat) : snapD M (k + 4) v = some (.slice 2 ((plainE tone).map enA)) := by
  unfold EnAt at h
  split at h
  · rename_i ht
    obtain ⟨e, g, w, wg, _, _, _, _, rfl, ⟨h1, h2⟩, h3, h4⟩ := h
    simp [snapD, h1, h2, h3, h4, words3, elems, plainE, ht, enA, nTone]
  · rename_i ht
    subst h
    simp [snapD, plainE, ht]
theorem snap_st {u : Bool} {M : Mem} {lo : Nat} {v : AV} {part : Option (List Dcl)} {main : List Dcl} (h : StAt u M lo v part main) (k : Nat) : snapD M (k + 4) v = some (.slice 2 ((plainS part main).map strA)) := by
  unfold StAt at h
  cases part with
  | none =>
    obtain ⟨s, g, dv, _, _, rfl, ⟨h1, h2⟩, h3⟩ := h
    have := snap_dec h3 (k + 1)
    simp [snapD, h1, h2, this, elems, plainS, strA]
  | some p =>
    obtain ⟨s, g, d1, d2, _, _, rfl, ⟨h1, h2⟩, h3, h4, _⟩ := h
    have e1 := snap_dec h3 (k + 1)
    have e2 := snap_dec h4 (k + 1)
    simp [snapD, h1, h2, e1, e2, elems, plainS, strA]
end Go.Ev.Tryz
end
section
namespace Go.Ev.Tryz
open Go.Proofs
set_option maxRecDepth 10000
set_option linter.unusedSimpArgs false
set_option linter.unusedVariables false
attribute [local congr] comes_congr bB_congr gK_congr gdK_congr

theorem reachD_still {c : AV} (h : still c = true) (m : Mem) (k : Nat) : reachD m k c = [] := by
  cases k with
  | zero => rfl
  | succ k => cases c <;> first | rfl | (simp [still] at h; done)
theorem reachesD_still {cs : List AV} (h : ∀ c ∈ cs, still c = true) (m : Mem) (k : Nat) : (cs.map (reachD m k)).flatten = [] := by
  rw [List.flatten_eq_nil_iff]
  intro l hl
  obtain ⟨c, hc, rfl⟩ := List.mem_map.1 hl
  exact reachD_still (h c hc) m k
theorem reachD_arr {m : Mem} {id g off n sz : Nat} {app : Bool} (h : ∀ c ∈ (m.sto id).cells, still c = true) (k : Nat) : reachD m (k + 1) (.arr id g off n sz app) = [id] := by
  simp only [reachD]
  rw [reachesD_still h]
/-- What freezing does to a block. -/
theorem froz_same (f : Nat → Blk) : ∀ (ids : List Nat) (g : Nat → Blk), (∀ j, Same (g j) (f j)) → ∀ j, Same (updL g (ids.map fun i => (i, { f i with froz := true })) j) (f j) ∧ (j ∉ ids → updL g (ids.map fun i => (i, { f i with froz := true })) j = g j)
  | [], g, h, j => ⟨h j, fun _ => rfl⟩
  | i :: ids, g, h, j => by
    have h' : ∀ j, Same (upd g i { f i with froz := true } j) (f j) := by
      intro j
      by_cases hj : j = i
      · subst hj; rw [upd_hit]; exact ⟨rfl, rfl⟩
      · rw [upd_miss _ _ _ _ hj]; exact h j
    obtain ⟨h1, h2⟩ := froz_same f ids (upd g i { f i with froz := true }) h' j
    refine ⟨h1, fun hn => ?_⟩
    have hni : j ≠ i := fun e => hn (by rw [e]; exact List.mem_cons_self ..)
    exact (h2 fun hm => hn (List.mem_cons_of_mem _ hm)).trans (upd_miss _ _ _ _ hni)
/-- A value whose blocks, of those from lo on, are just B, each leading into B alone; that is so in each memory in which these blocks have these cells. -/
def Shut (M : Mem) (lo k : Nat) (v : AV) (B : List Nat) : Prop :=
  (∀ b ∈ B, lo ≤ b ∧ b < M.nid) ∧ ∀ M' : Mem, (∀ b ∈ B, (M'.sto b).cells = (M.sto b).cells ∧ (M'.sto b).gen = (M.sto b).gen) →
    (reachL M' k v = B ∧ reachD M' k v = B) ∧ ∀ L : List Nat, (∀ b ∈ B, L.contains b = true) → (∀ q, leadsB M' L (q + 1) v = true) ∧ ∀ b ∈ B, ∀ c ∈ (M'.sto b).cells, leadsB M' L 2097152 c = true
theorem dec_shut {u : Bool} {M : Mem} {lo : Nat} {v : AV} {l : List Dcl} (h : DecAt u M lo v l) (k : Nat) : ∃ B, Shut M lo (k + 1) v B := by
  obtain ⟨d, g, h1, h2, rfl, h3, h4⟩ := h
  refine ⟨[d], ⟨fun b hb => ?_, fun M' e => ?_⟩⟩
  · rw [List.mem_singleton.1 hb]; exact ⟨h1, h2⟩
  · obtain ⟨e1, e2⟩ := e d (List.mem_singleton.2 rfl)
    have hst : ∀ c ∈ (M'.sto d).cells, still c = true := by rw [e1, h3]; exact still_dclC l
    refine ⟨⟨reach_arr hst k, reachD_arr hst k⟩, fun L hL => ⟨fun q => ?_, fun b hb c hc => ?_⟩⟩
    · have := hL d (List.mem_singleton.2 rfl)
      simp [leadsB, e2, h4]
      simpa using this
    · rw [List.mem_singleton.1 hb] at hc
      exact leads_still (hst c hc) _ _ _
theorem still_shut {c : AV} (h : still c = true) (M : Mem) (lo k : Nat) : Shut M lo k c [] :=
  ⟨fun b hb => absurd hb List.not_mem_nil, fun M' _ => ⟨⟨reach_still h M' k, reachD_still h M' k⟩, fun L _ => ⟨fun q => leads_still h M' L q, fun b hb => absurd hb List.not_mem_nil⟩⟩⟩
theorem nils_shut (sz : Nat) (M : Mem) (lo k : Nat) : Shut M lo k (.nils sz) [] :=
  ⟨fun b hb => absurd hb List.not_mem_nil, fun M' _ => ⟨⟨by cases k <;> rfl, by cases k <;> rfl⟩, fun L _ => ⟨fun q => rfl, fun b hb => absurd hb List.not_mem_nil⟩⟩⟩
def ShutL (M : Mem) (lo k : Nat) (cs : List AV) (B : List Nat) : Prop :=
  (∀ b ∈ B, lo ≤ b ∧ b < M.nid) ∧ ∀ M' : Mem, (∀ b ∈ B, (M'.sto b).cells = (M.sto b).cells ∧ (M'.sto b).gen = (M.sto b).gen) →
    ((cs.map (reachL M' k)).flatten = B ∧ (cs.map (reachD M' k)).flatten = B) ∧ ∀ L : List Nat, (∀ b ∈ B, L.contains b = true) → (∀ q, ∀ c ∈ cs, leadsB M' L (q + 1) c = true) ∧ ∀ b ∈ B, ∀ c ∈ (M'.sto b).cells, leadsB M' L 2097152 c = true
theorem cells_shut {M : Mem} {lo k : Nat} : ∀ cs : List AV, (∀ c ∈ cs, ∃ B, Shut M lo k c B) → ∃ B, ShutL M lo k cs B
  | [], _ => ⟨[], fun b hb => absurd hb List.not_mem_nil, fun M' _ => ⟨⟨rfl, rfl⟩, fun L _ => ⟨fun q c hc => absurd hc List.not_mem_nil, fun b hb => absurd hb List.not_mem_nil⟩⟩⟩
  | c :: cs, h => by
    obtain ⟨B1, p1, p2⟩ := h c (by simp)
    obtain ⟨B2, q1, q2⟩ := cells_shut cs fun c hc => h c (by simp [hc])
    refine ⟨B1 ++ B2, fun b hb => ?_, fun M' e => ?_⟩
    · rcases List.mem_append.1 hb with hb | hb
      · exact p1 b hb
      · exact q1 b hb
    · obtain ⟨⟨a1, aD⟩, a2⟩ := p2 M' fun b hb => e b (List.mem_append_left _ hb)
      obtain ⟨⟨b1, bD⟩, b2⟩ := q2 M' fun b hb => e b (List.mem_append_right _ hb)
      refine ⟨⟨by rw [List.map_cons, List.flatten_cons, a1, b1], by rw [List.map_cons, List.flatten_cons, aD, bD]⟩, fun L hL => ?_⟩
      obtain ⟨a3, a4⟩ := a2 L fun b hb => hL b (List.mem_append_left _ hb)
      obtain ⟨b3, b4⟩ := b2 L fun b hb => hL b (List.mem_append_right _ hb)
      refine ⟨fun q d hd => ?_, fun b hb => ?_⟩
      · rcases List.mem_cons.1 hd with rfl | hd
        · exact a3 q
        · exact b3 q d hd
      · rcases List.mem_append.1 hb with hb | hb
        · exact a4 b hb
        · exact b4 b hb
theorem arr_shut {u : Bool} {M : Mem} {lo k b g off n sz : Nat} {app : Bool} {cs : List AV} (hc : CellsA u M b g cs) (h1 : lo ≤ b) (h2 : b < M.nid) (h : ∀ c ∈ cs, ∃ B, Shut M lo k c B) : ∃ B, Shut M lo (k + 1) (.arr b g off n sz app) B := by
  obtain ⟨B, p1, p2⟩ := cells_shut cs h
  obtain ⟨hcs, hg, _⟩ := hc
  refine ⟨b :: B, fun x hx => ?_, fun M' e => ?_⟩
  · rcases List.mem_cons.1 hx with rfl | hx
    · exact ⟨h1, h2⟩
    · exact p1 x hx
  · obtain ⟨⟨a1, aD⟩, a2⟩ := p2 M' fun x hx => e x (List.mem_cons_of_mem _ hx)
    obtain ⟨e1, e2⟩ := e b (List.mem_cons_self ..)
    refine ⟨⟨by simp only [reachL]; rw [e1, hcs, a1], by simp only [reachD]; rw [e1, hcs, aD]⟩, fun L hL => ?_⟩
    obtain ⟨a3, a4⟩ := a2 L fun x hx => hL x (List.mem_cons_of_mem _ hx)
    refine ⟨fun q => ?_, fun x hx c hc => ?_⟩
    · have := hL b (List.mem_cons_self ..)
      simp only [leadsB, this, e2, hg, Bool.true_and, beq_self_eq_true]
    · rcases List.mem_cons.1 hx with rfl | hx
      · rw [e1, hcs] at hc
        exact a3 2097151 c hc
      · exact a4 x hx c hc
theorem agg_shut {M : Mem} {lo k : Nat} {cs : List AV} (h : ∀ c ∈ cs, ∃ B, Shut M lo k c B) : ∃ B, (Shut M lo (k + 1) (.agg cs) B ∨ True) ∧ ShutL M lo k cs B := by
  obtain ⟨B, hB⟩ := cells_shut cs h
  exact ⟨B, .inr trivial, hB⟩
/-- A drawn schema's blocks. -/
theorem en_shut {u : Bool} {M : Mem} {lo : Nat} {v : AV} {tone : Bool} (h : EnAt u M lo v tone) (k : Nat) : ∃ B, Shut M lo (k + 3) v B := by
  unfold EnAt at h
  split at h
  · obtain ⟨e, g, w, wg, h1, h2, h3, h4, rfl, h5, h6⟩ := h
    refine arr_shut h5 h1 h2 fun c hc => ?_
    simp only [List.mem_cons, List.mem_nil_iff, or_false] at hc
    rcases hc with rfl | rfl
    · exact ⟨[], still_shut rfl _ _ _⟩
    · exact arr_shut h6 h3 h4 fun c hc => ⟨[], still_shut (still_strs _ c hc) _ _ _⟩
  · subst h
    exact ⟨[], nils_shut _ _ _ _⟩
theorem st_shut {u : Bool} {M : Mem} {lo : Nat} {v : AV} {part : Option (List Dcl)} {main : List Dcl} (h : StAt u M lo v part main) (k : Nat) : ∃ B, Shut M lo (k + 3) v B := by
  unfold StAt at h
  cases part with
  | none =>
    obtain ⟨s, g, dv, h1, h2, rfl, h5, h6⟩ := h
    refine arr_shut h5 h1 h2 fun c hc => ?_
    simp only [List.mem_cons, List.mem_nil_iff, or_false] at hc
    rcases hc with rfl | rfl
    · exact ⟨[], still_shut rfl _ _ _⟩
    · exact dec_shut h6 _
  | some p =>
    obtain ⟨s, g, d1, d2, h1, h2, rfl, h5, h6, h7, _⟩ := h
    refine arr_shut h5 h1 h2 fun c hc => ?_
    simp only [List.mem_cons, List.mem_nil_iff, or_false] at hc
    rcases hc with rfl | rfl | rfl | rfl
    · exact ⟨[], still_shut rfl _ _ _⟩
    · exact dec_shut h6 _
    · exact ⟨[], still_shut rfl _ _ _⟩
    · exact dec_shut h7 _
/-- The blocks of a drawn schema; what they are in a memory in which these have the same cells. -/
theorem sch_shut {u : Bool} {M : Mem} {lo : Nat} {v : AV} {tone : Bool} {part : Option (List Dcl)} {main : List Dcl} (h : SchAt u M lo v tone part main) (k : Nat) : ∃ B, Shut M lo (k + 4) v B := by
  obtain ⟨sv, ev, rfl, h1, h2, _⟩ := h
  obtain ⟨B, p1, p2⟩ := cells_shut [sv, ev] (M := M) (lo := lo) (k := k + 3) fun c hc => by
    simp only [List.mem_cons, List.mem_nil_iff, or_false] at hc
    rcases hc with rfl | rfl
    · exact st_shut h1 k
    · exact en_shut h2 k
  refine ⟨B, p1, fun M' e => ?_⟩
  obtain ⟨⟨a1, aD⟩, a2⟩ := p2 M' e
  refine ⟨⟨a1, aD⟩, fun L hL => ?_⟩
  obtain ⟨a3, a4⟩ := a2 L hL
  refine ⟨fun q => ?_, a4⟩
  have hsv : ∀ q, leadsB M' L q sv = true := by
    intro q
    have := a3 0 sv (by simp)
    unfold StAt at h1
    cases part <;> (simp only at h1; obtain ⟨_, _, _, h⟩ := h1)
    · obtain ⟨_, _, rfl, _⟩ := h
      cases q <;> simpa [leadsB] using this
    · obtain ⟨_, _, _, rfl, _⟩ := h
      cases q <;> simpa [leadsB] using this
  have hev : ∀ q, leadsB M' L q ev = true := by
    intro q
    have := a3 0 ev (by simp)
    unfold EnAt at h2
    split at h2
    · obtain ⟨_, _, _, _, _, _, _, _, rfl, _⟩ := h2
      cases q <;> simpa [leadsB] using this
    · subst h2
      cases q <;> rfl
  simp [leadsB, hsv, hev]
theorem EnAt.same {u : Bool} {M M' : Mem} {lo : Nat} {v : AV} {tone : Bool} (h : EnAt u M lo v tone) (hn : M.nid ≤ M'.nid) (e : ∀ j, lo ≤ j → j < M.nid → Same (M'.sto j) (M.sto j)) : EnAt false M' lo v tone := by
  unfold EnAt at h ⊢
  split
  · rename_i ht
    rw [if_pos ht] at h
    obtain ⟨a, g, w, wg, h1, h2, h3, h4, h5, h6, h7⟩ := h
    exact ⟨a, g, w, wg, h1, Nat.lt_of_lt_of_le h2 hn, h3, Nat.lt_of_lt_of_le h4 hn, h5, h6.same (e a h1 h2), h7.same (e w h3 h4)⟩
  · rename_i ht
    rw [if_neg ht] at h
    exact h
theorem DecAt.same {u : Bool} {M M' : Mem} {lo : Nat} {v : AV} {l : List Dcl} (h : DecAt u M lo v l) (hn : M.nid ≤ M'.nid) (e : ∀ j, lo ≤ j → j < M.nid → Same (M'.sto j) (M.sto j)) : DecAt false M' lo v l := by
  obtain ⟨d, g, h1, h2, h3, h4⟩ := h
  exact ⟨d, g, h1, Nat.lt_of_lt_of_le h2 hn, h3, h4.same (e d h1 h2)⟩
theorem StAt.same {u : Bool} {M M' : Mem} {lo : Nat} {v : AV} {part : Option (List Dcl)} {main : List Dcl} (h : StAt u M lo v part main) (hn : M.nid ≤ M'.nid) (e : ∀ j, lo ≤ j → j < M.nid → Same (M'.sto j) (M.sto j)) : StAt false M' lo v part main := by
  unfold StAt at h ⊢
  cases part with
  | none =>
    obtain ⟨s, g, dv, h1, h2, h3, h4, h5⟩ := h
    exact ⟨s, g, dv, h1, Nat.lt_of_lt_of_le h2 hn, h3, h4.same (e s h1 h2), h5.same hn e⟩
  | some p =>
    obtain ⟨s, g, d1, d2, h1, h2, h3, h4, h5, h6, h7⟩ := h
    exact ⟨s, g, d1, d2, h1, Nat.lt_of_lt_of_le h2 hn, h3, h4.same (e s h1 h2), h5.same hn e, h6.same hn e, h7⟩
theorem SchAt.same {u : Bool} {M M' : Mem} {lo : Nat} {v : AV} {tone : Bool} {part : Option (List Dcl)} {main : List Dcl} (h : SchAt u M lo v tone part main) (hn : M.nid ≤ M'.nid) (e : ∀ j, lo ≤ j → j < M.nid → Same (M'.sto j) (M.sto j)) : SchAt false M' lo v tone part main := by
  obtain ⟨sv, ev, h1, h2, h3, h4⟩ := h
  exact ⟨sv, ev, h1, h2.same hn e, h3.same hn e, h4⟩
/-- All but the reader's block stays; what of the blocks B keeps its cells, but may be frozen. -/
def FrZ (m m' : Mem) (id : Nat) (B : List Nat) : Prop := m.nid ≤ m'.nid ∧ ∀ j, j < m.nid → j ≠ id → (j ∉ B → m'.sto j = m.sto j) ∧ Same (m'.sto j) (m.sto j)
theorem Fr.z {m m' : Mem} {id : Nat} (h : Fr m m' id) (B : List Nat) : FrZ m m' id B := ⟨h.1, fun j hj hn => ⟨fun _ => h.2 j hj hn, by rw [h.2 j hj hn]; exact ⟨rfl, rfl⟩⟩⟩
theorem FrZ.trans {a b c : Mem} {id : Nat} {B : List Nat} (h : FrZ a b id B) (k : FrZ b c id B) : FrZ a c id B :=
  ⟨Nat.le_trans h.1 k.1, fun j hj hn => ⟨fun hB => ((k.2 j (Nat.lt_of_lt_of_le hj h.1) hn).1 hB).trans ((h.2 j hj hn).1 hB), ⟨((k.2 j (Nat.lt_of_lt_of_le hj h.1) hn).2.1).trans (h.2 j hj hn).2.1, ((k.2 j (Nat.lt_of_lt_of_le hj h.1) hn).2.2).trans (h.2 j hj hn).2.2⟩⟩⟩
theorem FrZ.sch {u : Bool} {m m' : Mem} {id lo : Nat} {B : List Nat} {v : AV} {tone : Bool} {part : Option (List Dcl)} {main : List Dcl} (h : FrZ m m' id B) (hid : id < lo) (hs : SchAt u m lo v tone part main) : SchAt false m' lo v tone part main :=
  hs.same h.1 fun j h1 h2 => (h.2 j h2 (by omega)).2
theorem base_ne {tone : Bool} {b : ByteArray} (h : b ∈ basesT tone) : b ≠ nPart ∧ b ≠ nMain := by
  have h0 : ∀ b ∈ basesT false, b ≠ nPart ∧ b ≠ nMain := by decide
  have h1 : ∀ b ∈ basesT true, b ≠ nPart ∧ b ≠ nMain := by decide
  cases tone
  · exact h0 b h
  · exact h1 b h
/-- A plain base is no struct's name. -/
theorem base_none {tone : Bool} {part : Option (List Dcl)} {main : List Dcl} {b : ByteArray} (h : b ∈ basesT tone) : firstI (fun d : ByteArray × List Dcl => decide (d.1 = b)) (plainS part main) = -1 := by
  obtain ⟨h1, h2⟩ := base_ne h
  have h1' : ¬ nPart = b := fun e => h1 e.symm
  have h2' : ¬ nMain = b := fun e => h2 e.symm
  cases part <;> simp [firstI, plainS, List.findIdx?_cons, h1', h2']
end Go.Ev.Tryz
end
