/- Part of the proof of a statement about the given program: SI A1I NI. No condition of its own. -/
import Derived.Test.YthlmbapkgblnkaaDoorBI
import Derived.Test.YthlmbapkgblnkaaDoorEvPrim
import Derived.Lib.LaidTab
import Derived.LaidSub
import Derived.Lib.ItoaLen
section
namespace Go.Ev.Tryd
open Go.Proofs Go.Ev
theorem prog_ok : ProgOk CC.P := progB_ok (by kernel_rfl)
theorem prim_ok (f : FuncId) (args : List AV) (r : AV) (h : PR f args = some r) : PureOk CC f args r := by
  unfold PR at h
  cases h
theorem pI_ok (f : FuncId) (args : List AV) (m : Mem) (r : AV) (m' : Mem) (h : CC.pI f args m = some (r, m')) : ShareOk CC f args m r m' := by
  have h' : PI f args m = some (r, m') := h
  unfold PI at h'
  cases h'
theorem tab_heap {w : World} {name : String} {k : IntKind} {zs : List Int} {g : Nat} (hg : Tryd.prog.globalNamed name = some g) (h : Lib.TabIs Tryd.prog w name k zs) : ∃ t fr, w.heap[g]? = some (.cells (zs.map fun z => Value.int k z).toArray t fr) := by
  unfold Lib.TabIs World.var? at h
  rw [hg] at h
  simp only [Option.bind_some] at h
  split at h
  · rename_i c t fr hh
    simp only [Option.some.injEq] at h
    subst h
    exact ⟨t, fr, hh⟩
  · cases h
theorem ctx_ok {w : World} (h : Lib.TabIs Tryd.prog w "loop.example/quoin/impl.sizeBits" .i64 sizeL) : CtxOk CC (Gh.ofWorld w) w := by
  refine ⟨fun g cs hg => ?_, fun p hp => by simp at hp⟩
  obtain ⟨t, fr, hh⟩ := tab_heap (g := 0) (by kernel_rfl) h
  by_cases hgg : g = 0
  · subst hgg
    rw [glob_sizes] at hg
    simp only [Option.some.injEq] at hg
    subst hg
    have hc : ∀ (j : Nat) v, (sizeL.map fun z => Value.int .i64 z)[j]? = some v → ((Gh.ofWorld w).M 0)[0 + j]? = some v := fun j v hv => by
      rw [Nat.zero_add]
      apply ofWorld_cell
      rw [cell_live hh]
      simpa using hv
    refine .eptr _ _ 0 _ (sizeL.map fun z => Value.int .i64 z) rfl hc fun j v c hv hcc => ?_
    match j with
    | 0 => simp [sizeL] at hv hcc; subst hv hcc; exact .int _ _ _
    | 1 => simp [sizeL] at hv hcc; subst hv hcc; exact .int _ _ _
    | 2 => simp [sizeL] at hv hcc; subst hv hcc; exact .int _ _ _
    | 3 => simp [sizeL] at hv hcc; subst hv hcc; exact .int _ _ _
    | 4 => simp [sizeL] at hv hcc; subst hv hcc; exact .int _ _ _
    | 5 => simp [sizeL] at hv hcc; subst hv hcc; exact .int _ _ _
    | 6 => simp [sizeL] at hv hcc; subst hv hcc; exact .int _ _ _
    | j + 7 => simp at hcc
  · simp [hgg] at hg
end Go.Ev.Tryd
end
section
namespace Go.Ev.Tryd
open Go.Proofs
set_option maxRecDepth 10000
set_option linter.unusedSimpArgs false
set_option linter.unusedVariables false
attribute [local congr] comes_congr bB_congr gK_congr gdK_congr

def isLetter (c : Int) : Bool := decide (97 ≤ c) && decide (c ≤ 122) || decide (65 ≤ c) && decide (c ≤ 90)
def isFigure (c : Int) : Bool := decide (48 ≤ c) && decide (c ≤ 57)
def isName (s : ByteArray) : Bool := decide (1 ≤ s.size) && decide (s.size ≤ 10) && isLetter (sget s 0).toNat && (List.range s.size).all fun i => isLetter (sget s i).toNat || isFigure (sget s i).toNat
theorem all_succ {P : Nat → Prop} {i : Nat} (h : ∀ j, j < i → P j) (hi : P i) : ∀ j, j < i + 1 → P j := fun j hj => by
  rcases Nat.lt_or_ge j i with h1 | h1
  · exact h j h1
  · have : j = i := by omega
    exact this ▸ hi
@[go_sem] theorem letter_eq (c : Int) : fnA CC PR 64 [.int .u8 c] = some (.bool (isLetter c)) := by
  apply comes_eq.1
  refine fnA_wp (rs := [.tmp 2]) Tryd.func64 rfl rfl (Nat.le_of_ble_eq_true rfl) rfl ?_
  (simp +decide only [go_sem, Nat.reduceAdd, Nat.reduceMul, Nat.reduceSub, Nat.reduceLT, Nat.reduceLeDiff, Nat.reduceEqDiff, Nat.add_assoc, Int.reduceAdd, Int.reduceSub, Int.reduceMul, Int.reduceLT, Int.reduceLE, Int.reduceEq, Int.reduceNeg, strOp_add]); repeat' (refine bB_split (fun hB => ?_) (fun hB => ?_) <;> (try simp only [Bool.and_eq_true, Bool.or_eq_false_iff, decide_eq_true_eq, decide_eq_false_iff_not] at hB) <;> simp +decide only [go_sem, Nat.reduceAdd, Nat.reduceMul, Nat.reduceSub, Nat.reduceLT, Nat.reduceLeDiff, Nat.reduceEqDiff, Nat.add_assoc, Int.reduceAdd, Int.reduceSub, Int.reduceMul, Int.reduceLT, Int.reduceLE, Int.reduceEq, Int.reduceNeg, strOp_add, hB])
  all_goals simp [isLetter, *]
@[go_sem] theorem figure_eq (c : Int) : fnA CC PR 65 [.int .u8 c] = some (.bool (isFigure c)) := by
  apply comes_eq.1
  refine fnA_wp (rs := [.tmp 2]) Tryd.func65 rfl rfl (Nat.le_of_ble_eq_true rfl) rfl ?_
  (simp +decide only [go_sem, Nat.reduceAdd, Nat.reduceMul, Nat.reduceSub, Nat.reduceLT, Nat.reduceLeDiff, Nat.reduceEqDiff, Nat.add_assoc, Int.reduceAdd, Int.reduceSub, Int.reduceMul, Int.reduceLT, Int.reduceLE, Int.reduceEq, Int.reduceNeg, strOp_add]); repeat' (refine bB_split (fun hB => ?_) (fun hB => ?_) <;> (try simp only [Bool.and_eq_true, Bool.or_eq_false_iff, decide_eq_true_eq, decide_eq_false_iff_not] at hB) <;> simp +decide only [go_sem, Nat.reduceAdd, Nat.reduceMul, Nat.reduceSub, Nat.reduceLT, Nat.reduceLeDiff, Nat.reduceEqDiff, Nat.add_assoc, Int.reduceAdd, Int.reduceSub, Int.reduceMul, Int.reduceLT, Int.reduceLE, Int.reduceEq, Int.reduceNeg, strOp_add, hB])
  all_goals simp [isFigure, *]
@[go_sem] theorem in_eq (a b c : Int) : fnA CC PR 51 [.int .i64 a, .int .i64 b, .int .i64 c] = some (.bool (decide (b ≤ a) && decide (a ≤ c))) := by
  apply comes_eq.1
  refine fnA_wp (rs := [.tmp 6]) Tryd.func51 rfl rfl (Nat.le_of_ble_eq_true rfl) rfl ?_
  (simp +decide only [go_sem, Nat.reduceAdd, Nat.reduceMul, Nat.reduceSub, Nat.reduceLT, Nat.reduceLeDiff, Nat.reduceEqDiff, Nat.add_assoc, Int.reduceAdd, Int.reduceSub, Int.reduceMul, Int.reduceLT, Int.reduceLE, Int.reduceEq, Int.reduceNeg, strOp_add]); repeat' (refine bB_split (fun hB => ?_) (fun hB => ?_) <;> (try simp only [Bool.and_eq_true, Bool.or_eq_false_iff, decide_eq_true_eq, decide_eq_false_iff_not] at hB) <;> simp +decide only [go_sem, Nat.reduceAdd, Nat.reduceMul, Nat.reduceSub, Nat.reduceLT, Nat.reduceLeDiff, Nat.reduceEqDiff, Nat.add_assoc, Int.reduceAdd, Int.reduceSub, Int.reduceMul, Int.reduceLT, Int.reduceLE, Int.reduceEq, Int.reduceNeg, strOp_add, hB])
  all_goals simp [*]
@[go_sem] theorem l1In_eq (a b c : Int) : fnA CC PR 34 [.int .i64 a, .int .i64 b, .int .i64 c] = some (.bool (decide (b ≤ a) && decide (a ≤ c))) := by
  apply comes_eq.1
  refine fnA_wp (rs := [.tmp 6]) Tryd.func34 rfl rfl (Nat.le_of_ble_eq_true rfl) rfl ?_
  (simp +decide only [go_sem, Nat.reduceAdd, Nat.reduceMul, Nat.reduceSub, Nat.reduceLT, Nat.reduceLeDiff, Nat.reduceEqDiff, Nat.add_assoc, Int.reduceAdd, Int.reduceSub, Int.reduceMul, Int.reduceLT, Int.reduceLE, Int.reduceEq, Int.reduceNeg, strOp_add]); repeat' (refine bB_split (fun hB => ?_) (fun hB => ?_) <;> (try simp only [Bool.and_eq_true, Bool.or_eq_false_iff, decide_eq_true_eq, decide_eq_false_iff_not] at hB) <;> simp +decide only [go_sem, Nat.reduceAdd, Nat.reduceMul, Nat.reduceSub, Nat.reduceLT, Nat.reduceLeDiff, Nat.reduceEqDiff, Nat.add_assoc, Int.reduceAdd, Int.reduceSub, Int.reduceMul, Int.reduceLT, Int.reduceLE, Int.reduceEq, Int.reduceNeg, strOp_add, hB])
  all_goals simp [*]
def nameAt (s : ByteArray) (j : Nat) : Bool := isLetter (sget s j).toNat || isFigure (sget s j).toNat
def nameAt' (s : ByteArray) (j : Nat) : Bool := isLetter (sget s j).toNat || (decide (j ≠ 0) && isFigure (sget s j).toNat)
theorem isName_iff (s : ByteArray) : isName s = true ↔ (1 ≤ s.size ∧ s.size ≤ 10) ∧ isLetter (sget s 0).toNat = true ∧ ∀ j, j < s.size → nameAt s j = true := by
  simp [isName, nameAt, and_assoc]
theorem isName_iff' (s : ByteArray) : isName s = true ↔ (1 ≤ s.size ∧ s.size ≤ 10) ∧ ∀ j, j < s.size → nameAt' s j = true := by
  rw [isName_iff]
  constructor
  · rintro ⟨h, h1, h2⟩
    refine ⟨h, fun j hj => ?_⟩
    have := h2 j hj
    by_cases h0 : j = 0
    · subst h0; simp [nameAt', h1]
    · simpa [nameAt, nameAt', h0] using this
  · rintro ⟨h, h1⟩
    refine ⟨h, ?_, fun j hj => ?_⟩
    · simpa [nameAt'] using h1 0 (by omega)
    · have := h1 j hj
      simp [nameAt'] at this
      simp [nameAt]
      rcases this with h | h
      · exact .inl h
      · exact .inr h.2
theorem bool_eq {a b : Bool} (h : a = true ↔ b = true) : a = b := by cases a <;> cases b <;> simp_all
theorem false_of {a : Bool} (h : ¬ a = true) : a = false := by cases a <;> simp_all
@[go_sem] theorem name_eq (s : ByteArray) : fnA CC PR 52 [.str s] = some (.bool (isName s)) := by
  apply comes_eq.1
  refine fnA_wp (rs := [.tmp 2]) Tryd.func52 rfl rfl (Nat.le_of_ble_eq_true rfl) rfl ?_
  simp +decide only [go_sem, Nat.reduceAdd, Nat.reduceMul, Nat.reduceSub, Nat.reduceLT, Nat.reduceLeDiff, Nat.reduceEqDiff, Nat.add_assoc, Int.reduceAdd, Int.reduceSub, Int.reduceMul, Int.reduceLT, Int.reduceLE, Int.reduceEq, Int.reduceNeg, strOp_add]
  refine bB_split (fun h1 => ?_) (fun h1 => ?_)
  · simp only [Bool.and_eq_true, decide_eq_true_eq] at h1
    have h0 : (0 : Int) < s.size := by omega
    have h0' : 0 < s.size := by omega
    simp +decide only [go_sem, Nat.reduceAdd, Nat.reduceMul, Nat.reduceSub, Nat.reduceLT, Nat.reduceLeDiff, Nat.reduceEqDiff, Nat.add_assoc, Int.reduceAdd, Int.reduceSub, Int.reduceMul, Int.reduceLT, Int.reduceLE, Int.reduceEq, Int.reduceNeg, strOp_add, h1, h0, s_at h0']
    refine bB_split (fun h2 => ?_) (fun h2 => ?_)
    · simp +decide only [go_sem, Nat.reduceAdd, Nat.reduceMul, Nat.reduceSub, Nat.reduceLT, Nat.reduceLeDiff, Nat.reduceEqDiff, Nat.add_assoc, Int.reduceAdd, Int.reduceSub, Int.reduceMul, Int.reduceLT, Int.reduceLE, Int.reduceEq, Int.reduceNeg, strOp_add, h2]
      refine comes_upto s.size (fun i st => st.env 0 = .str s ∧ st.env 16 = .int .i64 i ∧ st.env 15 = .int .i64 s.size ∧ ∀ j, j < i → nameAt s j = true) ?_ ?_ _ ?_
      · rintro i st hi ⟨e0, e1, e2, hj⟩
        (simp +decide only [go_sem, Nat.reduceAdd, Nat.reduceMul, Nat.reduceSub, Nat.reduceLT, Nat.reduceLeDiff, Nat.reduceEqDiff, Nat.add_assoc, Int.reduceAdd, Int.reduceSub, Int.reduceMul, Int.reduceLT, Int.reduceLE, Int.reduceEq, Int.reduceNeg, strOp_add, e0, e1, e2, hi, s_at hi, wrap_succ (show i + 1 ≤ 9223372036854775807 by omega)]); repeat' (refine bB_split (fun hB => ?_) (fun hB => ?_) <;> (try simp only [Bool.and_eq_true, Bool.or_eq_false_iff, decide_eq_true_eq, decide_eq_false_iff_not] at hB) <;> simp +decide only [go_sem, Nat.reduceAdd, Nat.reduceMul, Nat.reduceSub, Nat.reduceLT, Nat.reduceLeDiff, Nat.reduceEqDiff, Nat.add_assoc, Int.reduceAdd, Int.reduceSub, Int.reduceMul, Int.reduceLT, Int.reduceLE, Int.reduceEq, Int.reduceNeg, strOp_add, hB, e0, e1, e2, hi, s_at hi, wrap_succ (show i + 1 ≤ 9223372036854775807 by omega)])
        · exact all_succ hj (by simp [nameAt, *])
        · exact all_succ hj (by simp [nameAt, *])
        · congr 1
          refine (false_of fun hn => ?_).symm
          have := ((isName_iff s).1 hn).2.2 i hi
          simp [nameAt, *] at this
      · rintro st ⟨e0, e1, e2, hj⟩
        simp +decide only [go_sem, Nat.reduceAdd, Nat.reduceMul, Nat.reduceSub, Nat.reduceLT, Nat.reduceLeDiff, Nat.reduceEqDiff, Nat.add_assoc, Int.reduceAdd, Int.reduceSub, Int.reduceMul, Int.reduceLT, Int.reduceLE, Int.reduceEq, Int.reduceNeg, strOp_add, e0, e1, e2]
        congr 1
        exact ((isName_iff s).2 ⟨by omega, h2, hj⟩).symm
      · simp +decide only [go_sem, Nat.reduceAdd, Nat.reduceMul, Nat.reduceSub, Nat.reduceLT, Nat.reduceLeDiff, Nat.reduceEqDiff, Nat.add_assoc, Int.reduceAdd, Int.reduceSub, Int.reduceMul, Int.reduceLT, Int.reduceLE, Int.reduceEq, Int.reduceNeg, strOp_add]
        simp
    · simp +decide only [go_sem, Nat.reduceAdd, Nat.reduceMul, Nat.reduceSub, Nat.reduceLT, Nat.reduceLeDiff, Nat.reduceEqDiff, Nat.add_assoc, Int.reduceAdd, Int.reduceSub, Int.reduceMul, Int.reduceLT, Int.reduceLE, Int.reduceEq, Int.reduceNeg, strOp_add, h2]
      congr 1
      exact (false_of fun hn => by rw [((isName_iff s).1 hn).2.1] at h2; cases h2).symm
  · simp +decide only [go_sem, Nat.reduceAdd, Nat.reduceMul, Nat.reduceSub, Nat.reduceLT, Nat.reduceLeDiff, Nat.reduceEqDiff, Nat.add_assoc, Int.reduceAdd, Int.reduceSub, Int.reduceMul, Int.reduceLT, Int.reduceLE, Int.reduceEq, Int.reduceNeg, strOp_add, h1]
    congr 1
    refine (false_of fun hn => ?_).symm
    have := ((isName_iff s).1 hn).1
    simp at h1
    omega
@[go_sem] theorem l9Name_eq (s : ByteArray) (hs : s.size ≤ 1099511627776) : fnA CC PR 44 [.str s] = some (.bool (isName s)) := by
  apply comes_eq.1
  refine fnA_wp (rs := [.tmp 2]) Tryd.func44 rfl rfl (Nat.le_of_ble_eq_true rfl) rfl ?_
  simp +decide only [go_sem, Nat.reduceAdd, Nat.reduceMul, Nat.reduceSub, Nat.reduceLT, Nat.reduceLeDiff, Nat.reduceEqDiff, Nat.add_assoc, Int.reduceAdd, Int.reduceSub, Int.reduceMul, Int.reduceLT, Int.reduceLE, Int.reduceEq, Int.reduceNeg, strOp_add]
  refine comes_upto s.size (fun i st => st.env 0 = .str s ∧ st.env 3 = .int .i64 i ∧ ∀ j, j < i → nameAt' s j = true) ?_ ?_ _ ?_
  · rintro i st hi ⟨e0, e1, hj⟩
    have no : nameAt' s i = false → AV.bool false = AV.bool (isName s) := fun h => by
      congr 1
      refine (false_of fun hn => ?_).symm
      rw [((isName_iff' s).1 hn).2 i hi] at h
      cases h
    (simp +decide only [go_sem, Nat.reduceAdd, Nat.reduceMul, Nat.reduceSub, Nat.reduceLT, Nat.reduceLeDiff, Nat.reduceEqDiff, Nat.add_assoc, Int.reduceAdd, Int.reduceSub, Int.reduceMul, Int.reduceLT, Int.reduceLE, Int.reduceEq, Int.reduceNeg, strOp_add, e0, e1, hi, s_at hi, wrap_succ (show i + 1 ≤ 9223372036854775807 by omega)]); repeat' (refine bB_split (fun hB => ?_) (fun hB => ?_) <;> (try simp only [Bool.and_eq_true, Bool.or_eq_false_iff, decide_eq_true_eq, decide_eq_false_iff_not] at hB) <;> simp +decide only [go_sem, Nat.reduceAdd, Nat.reduceMul, Nat.reduceSub, Nat.reduceLT, Nat.reduceLeDiff, Nat.reduceEqDiff, Nat.add_assoc, Int.reduceAdd, Int.reduceSub, Int.reduceMul, Int.reduceLT, Int.reduceLE, Int.reduceEq, Int.reduceNeg, strOp_add, hB, e0, e1, hi, s_at hi, wrap_succ (show i + 1 ≤ 9223372036854775807 by omega)])
    all_goals first
      | (refine all_succ hj ?_; simp [nameAt', isLetter, isFigure, *]; done)
      | (refine all_succ hj ?_; simp [nameAt', isLetter, isFigure, *]; omega)
      | (apply no; simp [nameAt', isLetter, isFigure, *]; done)
      | (apply no; simp [nameAt', isLetter, isFigure, *]; omega)
  · rintro st ⟨e0, e1, hj⟩
    simp +decide only [go_sem, Nat.reduceAdd, Nat.reduceMul, Nat.reduceSub, Nat.reduceLT, Nat.reduceLeDiff, Nat.reduceEqDiff, Nat.add_assoc, Int.reduceAdd, Int.reduceSub, Int.reduceMul, Int.reduceLT, Int.reduceLE, Int.reduceEq, Int.reduceNeg, strOp_add, e0, e1]
    congr 1
    apply bool_eq
    rw [isName_iff']
    simp
    constructor
    · intro h; exact ⟨by omega, hj⟩
    · rintro ⟨h, _⟩; omega
  · simp +decide only [go_sem, Nat.reduceAdd, Nat.reduceMul, Nat.reduceSub, Nat.reduceLT, Nat.reduceLeDiff, Nat.reduceEqDiff, Nat.add_assoc, Int.reduceAdd, Int.reduceSub, Int.reduceMul, Int.reduceLT, Int.reduceLE, Int.reduceEq, Int.reduceNeg, strOp_add]
    simp
end Go.Ev.Tryd
end
section
namespace Go.Ev.Tryd
open Go.Proofs
set_option maxRecDepth 10000
set_option linter.unusedSimpArgs false
set_option linter.unusedVariables false
attribute [local congr] comes_congr bB_congr gK_congr gdK_congr
def i64 (n : Int) : Prop := -9223372036854775808 ≤ n ∧ n ≤ 9223372036854775807
def isShort (n : Int) : Bool := decide (-999999999999999999 ≤ n) && decide (n ≤ 999999999999999999)
@[go_sem] theorem short_eq (n : Int) : fnA CC PR 55 [.int .i64 n] = some (.bool (isShort n)) := by
  apply comes_eq.1
  refine fnA_wp (rs := [.tmp 2]) Tryd.func55 rfl rfl (Nat.le_of_ble_eq_true rfl) rfl ?_
  (simp +decide only [go_sem, Nat.reduceAdd, Nat.reduceMul, Nat.reduceSub, Nat.reduceLT, Nat.reduceLeDiff, Nat.reduceEqDiff, Nat.add_assoc, Int.reduceAdd, Int.reduceSub, Int.reduceMul, Int.reduceLT, Int.reduceLE, Int.reduceEq, Int.reduceNeg, strOp_add]); repeat' (refine bB_split (fun hB => ?_) (fun hB => ?_) <;> (try simp only [Bool.and_eq_true, Bool.or_eq_false_iff, decide_eq_true_eq, decide_eq_false_iff_not] at hB) <;> simp +decide only [go_sem, Nat.reduceAdd, Nat.reduceMul, Nat.reduceSub, Nat.reduceLT, Nat.reduceLeDiff, Nat.reduceEqDiff, Nat.add_assoc, Int.reduceAdd, Int.reduceSub, Int.reduceMul, Int.reduceLT, Int.reduceLE, Int.reduceEq, Int.reduceNeg, strOp_add, hB])
  all_goals simp [isShort]
@[go_sem] theorem l9Num_eq (n : Int) : fnA CC PR 47 [.int .i64 n] = some (.bool (isShort n)) := by
  apply comes_eq.1
  refine fnA_wp (rs := [.tmp 2]) Tryd.func47 rfl rfl (Nat.le_of_ble_eq_true rfl) rfl ?_
  (simp +decide only [go_sem, Nat.reduceAdd, Nat.reduceMul, Nat.reduceSub, Nat.reduceLT, Nat.reduceLeDiff, Nat.reduceEqDiff, Nat.add_assoc, Int.reduceAdd, Int.reduceSub, Int.reduceMul, Int.reduceLT, Int.reduceLE, Int.reduceEq, Int.reduceNeg, strOp_add]); repeat' (refine bB_split (fun hB => ?_) (fun hB => ?_) <;> (try simp only [Bool.and_eq_true, Bool.or_eq_false_iff, decide_eq_true_eq, decide_eq_false_iff_not] at hB) <;> simp +decide only [go_sem, Nat.reduceAdd, Nat.reduceMul, Nat.reduceSub, Nat.reduceLT, Nat.reduceLeDiff, Nat.reduceEqDiff, Nat.add_assoc, Int.reduceAdd, Int.reduceSub, Int.reduceMul, Int.reduceLT, Int.reduceLE, Int.reduceEq, Int.reduceNeg, strOp_add, hB])
  all_goals simp [isShort]
end Go.Ev.Tryd
end
