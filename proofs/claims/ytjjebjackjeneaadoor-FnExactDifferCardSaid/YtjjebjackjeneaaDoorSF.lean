/- Part of the proof of a statement about the given program: SF A1F NF BdF. No condition of its own. -/
import Derived.Test.YtjjebjackjeneaaDoorBF
import Derived.Test.YtjjebjackjeneaaDoorEvPrim
import Derived.Lib.LaidTab
import Derived.LaidSub
import Derived.Lib.ItoaLen
section
namespace Go.Ev.Tryd
open Go.Proofs Go.Ev
theorem prog_ok : ProgOk CC.P := progB_ok (by kernel_rfl)
theorem prim_ok (f : FuncId) (args : List AV) (r : AV) (h : PR f args = some r) : PureOk CC f args r := by
  unfold PR at h
  split at h
  · split at h
    · rename_i hn
      simp only [Option.some.injEq] at h
      subst h
      exact itoa_pure rfl prog_ok (G0 := 0) (by kernel_rfl) List.mem_cons_self _ hn.1 hn.2
    · cases h
  · split at h
    · rename_i ht
      simp only [Option.some.injEq] at h
      subst h
      exact contains_pure rfl prog_ok _ _ ht
    · cases h
  · simp only [Option.some.injEq] at h
    subst h
    exact clone_pure rfl prog_ok
  · cases h
theorem pI_ok (f : FuncId) (args : List AV) (m : Mem) (r : AV) (m' : Mem) (h : CC.pI f args m = some (r, m')) : ShareOk CC f args m r m' := by
  have h' : PI f args m = some (r, m') := h
  unfold PI at h'
  split at h'
  · exact check_share rfl prog_ok h'
  · exact grow_share rfl prog_ok h'
  · exact growS_share rfl prog_ok h'
  · cases h'
theorem var_heap {w : World} {name : String} {cs : Array Value} {g : Nat} (hg : Tryd.prog.globalNamed name = some g) (h : w.var? Tryd.prog name = some cs) : ∃ t fr, w.heap[g]? = some (.cells cs t fr) := by
  unfold World.var? at h
  rw [hg] at h
  simp only [Option.bind_some] at h
  split at h
  · rename_i c t fr hh
    simp only [Option.some.injEq] at h
    subst h
    exact ⟨t, fr, hh⟩
  · cases h
theorem tab_heap {w : World} {name : String} {k : IntKind} {zs : List Int} {g : Nat} (hg : Tryd.prog.globalNamed name = some g) (h : Lib.TabIs Tryd.prog w name k zs) : ∃ t fr, w.heap[g]? = some (.cells (zs.map fun z => Value.int k z).toArray t fr) := by
  unfold Lib.TabIs World.var? at h
  rw [hg] at h
  simp only [Option.bind_some] at h
  split at h
  · rename_i c t fr hh
    simp only [Option.some.injEq] at h
    subst h
    exact ⟨t, fr, hh⟩
  · cases h
theorem ctx_ok {w : World} (h : Lib.TabIs Tryd.prog w "internal/strconv.uint64pow10" .u64 Lib.pow10Tab) : CtxOk CC (Gh.ofWorld w) w := by
  refine ⟨fun g cs hg => by simp at hg, fun p hp => ⟨?_, fun id gen x hx => by simp [Gh.ofWorld] at hx⟩⟩
  simp only [List.mem_cons, List.mem_nil_iff, or_false] at hp
  subst hp
  obtain ⟨t, fr, hh⟩ := tab_heap (by kernel_rfl) h
  exact ⟨t, fr, _, hh, rfl⟩
end Go.Ev.Tryd
end
section
namespace Go.Ev.Tryd
open Go.Proofs
set_option maxRecDepth 10000
set_option linter.unusedSimpArgs false
set_option linter.unusedVariables false
attribute [local congr] comes_congr bB_congr gK_congr gdK_congr

def isLetter (c : Int) : Bool := decide (97 ≤ c) && decide (c ≤ 122) || decide (65 ≤ c) && decide (c ≤ 90)
def isFigure (c : Int) : Bool := decide (48 ≤ c) && decide (c ≤ 57)
def isName (s : ByteArray) : Bool := decide (1 ≤ s.size) && decide (s.size ≤ 10) && isLetter (sget s 0).toNat && (List.range s.size).all fun i => isLetter (sget s i).toNat || isFigure (sget s i).toNat
theorem all_succ {P : Nat → Prop} {i : Nat} (h : ∀ j, j < i → P j) (hi : P i) : ∀ j, j < i + 1 → P j := fun j hj => by
  rcases Nat.lt_or_ge j i with h1 | h1
  · exact h j h1
  · have : j = i := by omega
    exact this ▸ hi
@[go_sem] theorem letter_eq (c : Int) : fnA CC PR 74 [.int .u8 c] = some (.bool (isLetter c)) := by
  apply comes_eq.1
  refine fnA_wp (rs := [.tmp 2]) Tryd.func74 rfl rfl (Nat.le_of_ble_eq_true rfl) rfl ?_
  (simp +decide only [go_sem, Nat.reduceAdd, Nat.reduceMul, Nat.reduceSub, Nat.reduceLT, Nat.reduceLeDiff, Nat.reduceEqDiff, Nat.add_assoc, Int.reduceAdd, Int.reduceSub, Int.reduceMul, Int.reduceLT, Int.reduceLE, Int.reduceEq, Int.reduceNeg, strOp_add]); repeat' (refine bB_split (fun hB => ?_) (fun hB => ?_) <;> (try simp only [Bool.and_eq_true, Bool.or_eq_false_iff, decide_eq_true_eq, decide_eq_false_iff_not] at hB) <;> simp +decide only [go_sem, Nat.reduceAdd, Nat.reduceMul, Nat.reduceSub, Nat.reduceLT, Nat.reduceLeDiff, Nat.reduceEqDiff, Nat.add_assoc, Int.reduceAdd, Int.reduceSub, Int.reduceMul, Int.reduceLT, Int.reduceLE, Int.reduceEq, Int.reduceNeg, strOp_add, hB])
  all_goals simp [isLetter, *]
@[go_sem] theorem figure_eq (c : Int) : fnA CC PR 75 [.int .u8 c] = some (.bool (isFigure c)) := by
  apply comes_eq.1
  refine fnA_wp (rs := [.tmp 2]) Tryd.func75 rfl rfl (Nat.le_of_ble_eq_true rfl) rfl ?_
  (simp +decide only [go_sem, Nat.reduceAdd, Nat.reduceMul, Nat.reduceSub, Nat.reduceLT, Nat.reduceLeDiff, Nat.reduceEqDiff, Nat.add_assoc, Int.reduceAdd, Int.reduceSub, Int.reduceMul, Int.reduceLT, Int.reduceLE, Int.reduceEq, Int.reduceNeg, strOp_add]); repeat' (refine bB_split (fun hB => ?_) (fun hB => ?_) <;> (try simp only [Bool.and_eq_true, Bool.or_eq_false_iff, decide_eq_true_eq, decide_eq_false_iff_not] at hB) <;> simp +decide only [go_sem, Nat.reduceAdd, Nat.reduceMul, Nat.reduceSub, Nat.reduceLT, Nat.reduceLeDiff, Nat.reduceEqDiff, Nat.add_assoc, Int.reduceAdd, Int.reduceSub, Int.reduceMul, Int.reduceLT, Int.reduceLE, Int.reduceEq, Int.reduceNeg, strOp_add, hB])
  all_goals simp [isFigure, *]
@[go_sem] theorem in_eq (a b c : Int) : fnA CC PR 73 [.int .i64 a, .int .i64 b, .int .i64 c] = some (.bool (decide (b ≤ a) && decide (a ≤ c))) := by
  apply comes_eq.1
  refine fnA_wp (rs := [.tmp 6]) Tryd.func73 rfl rfl (Nat.le_of_ble_eq_true rfl) rfl ?_
  (simp +decide only [go_sem, Nat.reduceAdd, Nat.reduceMul, Nat.reduceSub, Nat.reduceLT, Nat.reduceLeDiff, Nat.reduceEqDiff, Nat.add_assoc, Int.reduceAdd, Int.reduceSub, Int.reduceMul, Int.reduceLT, Int.reduceLE, Int.reduceEq, Int.reduceNeg, strOp_add]); repeat' (refine bB_split (fun hB => ?_) (fun hB => ?_) <;> (try simp only [Bool.and_eq_true, Bool.or_eq_false_iff, decide_eq_true_eq, decide_eq_false_iff_not] at hB) <;> simp +decide only [go_sem, Nat.reduceAdd, Nat.reduceMul, Nat.reduceSub, Nat.reduceLT, Nat.reduceLeDiff, Nat.reduceEqDiff, Nat.add_assoc, Int.reduceAdd, Int.reduceSub, Int.reduceMul, Int.reduceLT, Int.reduceLE, Int.reduceEq, Int.reduceNeg, strOp_add, hB])
  all_goals simp [*]
@[go_sem] theorem l1In_eq (a b c : Int) : fnA CC PR 59 [.int .i64 a, .int .i64 b, .int .i64 c] = some (.bool (decide (b ≤ a) && decide (a ≤ c))) := by
  apply comes_eq.1
  refine fnA_wp (rs := [.tmp 6]) Tryd.func59 rfl rfl (Nat.le_of_ble_eq_true rfl) rfl ?_
  (simp +decide only [go_sem, Nat.reduceAdd, Nat.reduceMul, Nat.reduceSub, Nat.reduceLT, Nat.reduceLeDiff, Nat.reduceEqDiff, Nat.add_assoc, Int.reduceAdd, Int.reduceSub, Int.reduceMul, Int.reduceLT, Int.reduceLE, Int.reduceEq, Int.reduceNeg, strOp_add]); repeat' (refine bB_split (fun hB => ?_) (fun hB => ?_) <;> (try simp only [Bool.and_eq_true, Bool.or_eq_false_iff, decide_eq_true_eq, decide_eq_false_iff_not] at hB) <;> simp +decide only [go_sem, Nat.reduceAdd, Nat.reduceMul, Nat.reduceSub, Nat.reduceLT, Nat.reduceLeDiff, Nat.reduceEqDiff, Nat.add_assoc, Int.reduceAdd, Int.reduceSub, Int.reduceMul, Int.reduceLT, Int.reduceLE, Int.reduceEq, Int.reduceNeg, strOp_add, hB])
  all_goals simp [*]
def nameAt (s : ByteArray) (j : Nat) : Bool := isLetter (sget s j).toNat || isFigure (sget s j).toNat
def nameAt' (s : ByteArray) (j : Nat) : Bool := isLetter (sget s j).toNat || (decide (j ≠ 0) && isFigure (sget s j).toNat)
theorem isName_iff (s : ByteArray) : isName s = true ↔ (1 ≤ s.size ∧ s.size ≤ 10) ∧ isLetter (sget s 0).toNat = true ∧ ∀ j, j < s.size → nameAt s j = true := by
  simp [isName, nameAt, and_assoc]
theorem isName_iff' (s : ByteArray) : isName s = true ↔ (1 ≤ s.size ∧ s.size ≤ 10) ∧ ∀ j, j < s.size → nameAt' s j = true := by
  rw [isName_iff]
  constructor
  · rintro ⟨h, h1, h2⟩
    refine ⟨h, fun j hj => ?_⟩
    have := h2 j hj
    by_cases h0 : j = 0
    · subst h0; simp [nameAt', h1]
    · simpa [nameAt, nameAt', h0] using this
  · rintro ⟨h, h1⟩
    refine ⟨h, ?_, fun j hj => ?_⟩
    · simpa [nameAt'] using h1 0 (by omega)
    · have := h1 j hj
      simp [nameAt'] at this
      simp [nameAt]
      rcases this with h | h
      · exact .inl h
      · exact .inr h.2
theorem bool_eq {a b : Bool} (h : a = true ↔ b = true) : a = b := by cases a <;> cases b <;> simp_all
theorem false_of {a : Bool} (h : ¬ a = true) : a = false := by cases a <;> simp_all
@[go_sem] theorem name_eq (s : ByteArray) : fnA CC PR 62 [.str s] = some (.bool (isName s)) := by
  apply comes_eq.1
  refine fnA_wp (rs := [.tmp 2]) Tryd.func62 rfl rfl (Nat.le_of_ble_eq_true rfl) rfl ?_
  simp +decide only [go_sem, Nat.reduceAdd, Nat.reduceMul, Nat.reduceSub, Nat.reduceLT, Nat.reduceLeDiff, Nat.reduceEqDiff, Nat.add_assoc, Int.reduceAdd, Int.reduceSub, Int.reduceMul, Int.reduceLT, Int.reduceLE, Int.reduceEq, Int.reduceNeg, strOp_add]
  refine bB_split (fun h1 => ?_) (fun h1 => ?_)
  · simp only [Bool.and_eq_true, decide_eq_true_eq] at h1
    have h0 : (0 : Int) < s.size := by omega
    have h0' : 0 < s.size := by omega
    simp +decide only [go_sem, Nat.reduceAdd, Nat.reduceMul, Nat.reduceSub, Nat.reduceLT, Nat.reduceLeDiff, Nat.reduceEqDiff, Nat.add_assoc, Int.reduceAdd, Int.reduceSub, Int.reduceMul, Int.reduceLT, Int.reduceLE, Int.reduceEq, Int.reduceNeg, strOp_add, h1, h0, s_at h0']
    refine bB_split (fun h2 => ?_) (fun h2 => ?_)
    · simp +decide only [go_sem, Nat.reduceAdd, Nat.reduceMul, Nat.reduceSub, Nat.reduceLT, Nat.reduceLeDiff, Nat.reduceEqDiff, Nat.add_assoc, Int.reduceAdd, Int.reduceSub, Int.reduceMul, Int.reduceLT, Int.reduceLE, Int.reduceEq, Int.reduceNeg, strOp_add, h2]
      refine comes_upto s.size (fun i st => st.env 0 = .str s ∧ st.env 16 = .int .i64 i ∧ st.env 15 = .int .i64 s.size ∧ ∀ j, j < i → nameAt s j = true) ?_ ?_ _ ?_
      · rintro i st hi ⟨e0, e1, e2, hj⟩
        (simp +decide only [go_sem, Nat.reduceAdd, Nat.reduceMul, Nat.reduceSub, Nat.reduceLT, Nat.reduceLeDiff, Nat.reduceEqDiff, Nat.add_assoc, Int.reduceAdd, Int.reduceSub, Int.reduceMul, Int.reduceLT, Int.reduceLE, Int.reduceEq, Int.reduceNeg, strOp_add, e0, e1, e2, hi, s_at hi, wrap_succ (show i + 1 ≤ 9223372036854775807 by omega)]); repeat' (refine bB_split (fun hB => ?_) (fun hB => ?_) <;> (try simp only [Bool.and_eq_true, Bool.or_eq_false_iff, decide_eq_true_eq, decide_eq_false_iff_not] at hB) <;> simp +decide only [go_sem, Nat.reduceAdd, Nat.reduceMul, Nat.reduceSub, Nat.reduceLT, Nat.reduceLeDiff, Nat.reduceEqDiff, Nat.add_assoc, Int.reduceAdd, Int.reduceSub, Int.reduceMul, Int.reduceLT, Int.reduceLE, Int.reduceEq, Int.reduceNeg, strOp_add, hB, e0, e1, e2, hi, s_at hi, wrap_succ (show i + 1 ≤ 9223372036854775807 by omega)])
        · exact all_succ hj (by simp [nameAt, *])
        · exact all_succ hj (by simp [nameAt, *])
        · congr 1
          refine (false_of fun hn => ?_).symm
          have := ((isName_iff s).1 hn).2.2 i hi
          simp [nameAt, *] at this
      · rintro st ⟨e0, e1, e2, hj⟩
        simp +decide only [go_sem, Nat.reduceAdd, Nat.reduceMul, Nat.reduceSub, Nat.reduceLT, Nat.reduceLeDiff, Nat.reduceEqDiff, Nat.add_assoc, Int.reduceAdd, Int.reduceSub, Int.reduceMul, Int.reduceLT, Int.reduceLE, Int.reduceEq, Int.reduceNeg, strOp_add, e0, e1, e2]
        congr 1
        exact ((isName_iff s).2 ⟨by omega, h2, hj⟩).symm
      · simp +decide only [go_sem, Nat.reduceAdd, Nat.reduceMul, Nat.reduceSub, Nat.reduceLT, Nat.reduceLeDiff, Nat.reduceEqDiff, Nat.add_assoc, Int.reduceAdd, Int.reduceSub, Int.reduceMul, Int.reduceLT, Int.reduceLE, Int.reduceEq, Int.reduceNeg, strOp_add]
        simp
    · simp +decide only [go_sem, Nat.reduceAdd, Nat.reduceMul, Nat.reduceSub, Nat.reduceLT, Nat.reduceLeDiff, Nat.reduceEqDiff, Nat.add_assoc, Int.reduceAdd, Int.reduceSub, Int.reduceMul, Int.reduceLT, Int.reduceLE, Int.reduceEq, Int.reduceNeg, strOp_add, h2]
      congr 1
      exact (false_of fun hn => by rw [((isName_iff s).1 hn).2.1] at h2; cases h2).symm
  · simp +decide only [go_sem, Nat.reduceAdd, Nat.reduceMul, Nat.reduceSub, Nat.reduceLT, Nat.reduceLeDiff, Nat.reduceEqDiff, Nat.add_assoc, Int.reduceAdd, Int.reduceSub, Int.reduceMul, Int.reduceLT, Int.reduceLE, Int.reduceEq, Int.reduceNeg, strOp_add, h1]
    congr 1
    refine (false_of fun hn => ?_).symm
    have := ((isName_iff s).1 hn).1
    simp at h1
    omega
@[go_sem] theorem l9Name_eq (s : ByteArray) (hs : s.size ≤ 1099511627776) : fnA CC PR 42 [.str s] = some (.bool (isName s)) := by
  apply comes_eq.1
  refine fnA_wp (rs := [.tmp 2]) Tryd.func42 rfl rfl (Nat.le_of_ble_eq_true rfl) rfl ?_
  simp +decide only [go_sem, Nat.reduceAdd, Nat.reduceMul, Nat.reduceSub, Nat.reduceLT, Nat.reduceLeDiff, Nat.reduceEqDiff, Nat.add_assoc, Int.reduceAdd, Int.reduceSub, Int.reduceMul, Int.reduceLT, Int.reduceLE, Int.reduceEq, Int.reduceNeg, strOp_add]
  refine comes_upto s.size (fun i st => st.env 0 = .str s ∧ st.env 3 = .int .i64 i ∧ ∀ j, j < i → nameAt' s j = true) ?_ ?_ _ ?_
  · rintro i st hi ⟨e0, e1, hj⟩
    have no : nameAt' s i = false → AV.bool false = AV.bool (isName s) := fun h => by
      congr 1
      refine (false_of fun hn => ?_).symm
      rw [((isName_iff' s).1 hn).2 i hi] at h
      cases h
    (simp +decide only [go_sem, Nat.reduceAdd, Nat.reduceMul, Nat.reduceSub, Nat.reduceLT, Nat.reduceLeDiff, Nat.reduceEqDiff, Nat.add_assoc, Int.reduceAdd, Int.reduceSub, Int.reduceMul, Int.reduceLT, Int.reduceLE, Int.reduceEq, Int.reduceNeg, strOp_add, e0, e1, hi, s_at hi, wrap_succ (show i + 1 ≤ 9223372036854775807 by omega)]); repeat' (refine bB_split (fun hB => ?_) (fun hB => ?_) <;> (try simp only [Bool.and_eq_true, Bool.or_eq_false_iff, decide_eq_true_eq, decide_eq_false_iff_not] at hB) <;> simp +decide only [go_sem, Nat.reduceAdd, Nat.reduceMul, Nat.reduceSub, Nat.reduceLT, Nat.reduceLeDiff, Nat.reduceEqDiff, Nat.add_assoc, Int.reduceAdd, Int.reduceSub, Int.reduceMul, Int.reduceLT, Int.reduceLE, Int.reduceEq, Int.reduceNeg, strOp_add, hB, e0, e1, hi, s_at hi, wrap_succ (show i + 1 ≤ 9223372036854775807 by omega)])
    all_goals first
      | (refine all_succ hj ?_; simp [nameAt', isLetter, isFigure, *]; done)
      | (refine all_succ hj ?_; simp [nameAt', isLetter, isFigure, *]; omega)
      | (apply no; simp [nameAt', isLetter, isFigure, *]; done)
      | (apply no; simp [nameAt', isLetter, isFigure, *]; omega)
  · rintro st ⟨e0, e1, hj⟩
    simp +decide only [go_sem, Nat.reduceAdd, Nat.reduceMul, Nat.reduceSub, Nat.reduceLT, Nat.reduceLeDiff, Nat.reduceEqDiff, Nat.add_assoc, Int.reduceAdd, Int.reduceSub, Int.reduceMul, Int.reduceLT, Int.reduceLE, Int.reduceEq, Int.reduceNeg, strOp_add, e0, e1]
    congr 1
    apply bool_eq
    rw [isName_iff']
    simp
    constructor
    · intro h; exact ⟨by omega, hj⟩
    · rintro ⟨h, _⟩; omega
  · simp +decide only [go_sem, Nat.reduceAdd, Nat.reduceMul, Nat.reduceSub, Nat.reduceLT, Nat.reduceLeDiff, Nat.reduceEqDiff, Nat.add_assoc, Int.reduceAdd, Int.reduceSub, Int.reduceMul, Int.reduceLT, Int.reduceLE, Int.reduceEq, Int.reduceNeg, strOp_add]
    simp
end Go.Ev.Tryd
end
section
namespace Go.Ev.Tryd
open Go.Proofs
set_option maxRecDepth 10000
set_option linter.unusedSimpArgs false
set_option linter.unusedVariables false
attribute [local congr] comes_congr bB_congr gK_congr gdK_congr
def i64 (n : Int) : Prop := -9223372036854775808 ≤ n ∧ n ≤ 9223372036854775807
def isShort (n : Int) : Bool := decide (-999999999999999999 ≤ n) && decide (n ≤ 999999999999999999)
@[go_sem] theorem short_eq (n : Int) : fnA CC PR 71 [.int .i64 n] = some (.bool (isShort n)) := by
  apply comes_eq.1
  refine fnA_wp (rs := [.tmp 2]) Tryd.func71 rfl rfl (Nat.le_of_ble_eq_true rfl) rfl ?_
  (simp +decide only [go_sem, Nat.reduceAdd, Nat.reduceMul, Nat.reduceSub, Nat.reduceLT, Nat.reduceLeDiff, Nat.reduceEqDiff, Nat.add_assoc, Int.reduceAdd, Int.reduceSub, Int.reduceMul, Int.reduceLT, Int.reduceLE, Int.reduceEq, Int.reduceNeg, strOp_add]); repeat' (refine bB_split (fun hB => ?_) (fun hB => ?_) <;> (try simp only [Bool.and_eq_true, Bool.or_eq_false_iff, decide_eq_true_eq, decide_eq_false_iff_not] at hB) <;> simp +decide only [go_sem, Nat.reduceAdd, Nat.reduceMul, Nat.reduceSub, Nat.reduceLT, Nat.reduceLeDiff, Nat.reduceEqDiff, Nat.add_assoc, Int.reduceAdd, Int.reduceSub, Int.reduceMul, Int.reduceLT, Int.reduceLE, Int.reduceEq, Int.reduceNeg, strOp_add, hB])
  all_goals simp [isShort]
@[go_sem] theorem l9Num_eq (n : Int) : fnA CC PR 57 [.int .i64 n] = some (.bool (isShort n)) := by
  apply comes_eq.1
  refine fnA_wp (rs := [.tmp 2]) Tryd.func57 rfl rfl (Nat.le_of_ble_eq_true rfl) rfl ?_
  (simp +decide only [go_sem, Nat.reduceAdd, Nat.reduceMul, Nat.reduceSub, Nat.reduceLT, Nat.reduceLeDiff, Nat.reduceEqDiff, Nat.add_assoc, Int.reduceAdd, Int.reduceSub, Int.reduceMul, Int.reduceLT, Int.reduceLE, Int.reduceEq, Int.reduceNeg, strOp_add]); repeat' (refine bB_split (fun hB => ?_) (fun hB => ?_) <;> (try simp only [Bool.and_eq_true, Bool.or_eq_false_iff, decide_eq_true_eq, decide_eq_false_iff_not] at hB) <;> simp +decide only [go_sem, Nat.reduceAdd, Nat.reduceMul, Nat.reduceSub, Nat.reduceLT, Nat.reduceLeDiff, Nat.reduceEqDiff, Nat.add_assoc, Int.reduceAdd, Int.reduceSub, Int.reduceMul, Int.reduceLT, Int.reduceLE, Int.reduceEq, Int.reduceNeg, strOp_add, hB])
  all_goals simp [isShort]
theorem dec_size (n : Int) (h0 : -9223372036854775808 ≤ n) (h1 : n ≤ 9223372036854775807) : (dec n).size ≤ 21 := by
  have := Lib.itoa_length_le n h0 h1
  simpa [dec, ByteArray.size] using this
theorem dec_small (u : Nat) (h : u < 10) : dec u = ⟨#[UInt8.ofNat (48 + u)]⟩ := by
  unfold dec Lib.itoa
  rw [if_neg (by omega)]
  have : ((u : Int)).toNat = u := by simp
  rw [this, Lib.decDigits, dif_pos h]
theorem dec_big (u : Nat) (h : ¬ u < 10) : dec u = dec ((u / 10 : Nat) : Int) ++ ⟨#[UInt8.ofNat (48 + u % 10)]⟩ := by
  unfold dec Lib.itoa
  rw [if_neg (by omega), if_neg (by omega)]
  have h1 : ((u : Int)).toNat = u := by simp
  have h2 : (((u / 10 : Nat) : Int)).toNat = u / 10 := Int.toNat_natCast _
  rw [h1, h2]
  conv => lhs; rw [Lib.decDigits, dif_neg h]
  apply ByteArray.ext
  simp
theorem dec_neg (u : Nat) (h : 1 ≤ u) : dec (-(u : Int)) = ⟨#[45]⟩ ++ dec u := by
  unfold dec Lib.itoa
  rw [if_pos (by omega), if_neg (by omega)]
  have h1 : (-(u : Int)).natAbs = u := by omega
  have h2 : ((u : Int)).toNat = u := by simp
  rw [h1, h2]
  apply ByteArray.ext
  simp
theorem l1Dec_nat (u : Nat) : u ≤ 9223372036854775807 → fnA CC PR 60 [.int .i64 u] = some (.str (dec u)) := by
  induction u using Nat.strongRecOn with
  | ind u ih =>
    intro hu
    apply comes_eq.1
    refine fnA_wp (rs := [.tmp 2]) Tryd.func60 rfl rfl (Nat.le_of_ble_eq_true rfl) rfl ?_
    have g1 : ((u : Int) < -9223372036854775807) = False := eq_false (by omega)
    have g2 : ((u : Int) < 0) = False := eq_false (by omega)
    by_cases h : u < 10
    · have g3 : ((u : Int) < 10) = True := eq_true (by omega)
      have w1 : IntKind.wrap .i64 (48 + (u : Int)) = ((48 + u : Nat) : Int) := by rw [wrap_id (by omega) (by omega)]; omega
      have w2 : IntKind.wrap .u8 ((48 + u : Nat) : Int) = ((48 + u : Nat) : Int) := wrap_u8 (by omega) (by omega)
      simp +decide only [go_sem, Nat.reduceAdd, Nat.reduceMul, Nat.reduceSub, Nat.reduceLT, Nat.reduceLeDiff, Nat.reduceEqDiff, Nat.add_assoc, Int.reduceAdd, Int.reduceSub, Int.reduceMul, Int.reduceLT, Int.reduceLE, Int.reduceEq, Int.reduceNeg, strOp_add, g1, g2, g3, w1, w2]
      rw [dec_small u h]
    · have g3 : ((u : Int) < 10) = False := eq_false (by omega)
      have w3 : IntKind.wrap .i64 ((u : Int).tdiv 10) = ((u / 10 : Nat) : Int) := by
        rw [Int.tdiv_eq_ediv_of_nonneg (by omega), wrap_id (by omega) (by omega)]; omega
      have w4 : (u : Int).tmod 10 = ((u % 10 : Nat) : Int) := by
        rw [Int.tmod_eq_emod_of_nonneg (by omega)]; omega
      have w1 : IntKind.wrap .i64 (48 + ((u % 10 : Nat) : Int)) = ((48 + u % 10 : Nat) : Int) := by rw [wrap_id (by omega) (by omega)]; omega
      have w2 : IntKind.wrap .u8 ((48 + u % 10 : Nat) : Int) = ((48 + u % 10 : Nat) : Int) := wrap_u8 (by omega) (by omega)
      have hr := ih (u / 10) (by omega) (by omega)
      have hz' := dec_size ((u / 10 : Nat) : Int) (by omega) (by omega)
      have hz : (dec ((u / 10 : Nat) : Int)).size ≤ 9223372036854775806 := by omega
      simp +decide only [go_sem, Nat.reduceAdd, Nat.reduceMul, Nat.reduceSub, Nat.reduceLT, Nat.reduceLeDiff, Nat.reduceEqDiff, Nat.add_assoc, Int.reduceAdd, Int.reduceSub, Int.reduceMul, Int.reduceLT, Int.reduceLE, Int.reduceEq, Int.reduceNeg, strOp_add, g1, g2, g3]
      refine (d_plan (ord := [0, 1, 2, 3, 4, 5, 6, 7, 8, 9, 10]) (prs := [(2, 6), (2, 7), (2, 8)]) (by kernel_rfl)).2 ?_
      simp +decide only [go_sem, Nat.reduceAdd, Nat.reduceMul, Nat.reduceSub, Nat.reduceLT, Nat.reduceLeDiff, Nat.reduceEqDiff, Nat.add_assoc, Int.reduceAdd, Int.reduceSub, Int.reduceMul, Int.reduceLT, Int.reduceLE, Int.reduceEq, Int.reduceNeg, strOp_add, w1, w2, w3, w4, hr, hz]
      rw [dec_big u h]
@[go_sem] theorem dec_min : dec (-9223372036854775808) = ⟨#[45, 57, 50, 50, 51, 51, 55, 50, 48, 51, 54, 56, 53, 52, 55, 55, 53, 56, 48, 56]⟩ := by
  have := dec_neg 9223372036854775808 (by omega)
  rw [show (-((9223372036854775808 : Nat) : Int)) = -9223372036854775808 from rfl] at this
  rw [this]
  decide +kernel
theorem l1Dec_eq (n : Int) (h0 : -9223372036854775808 ≤ n) (h1 : n ≤ 9223372036854775807) : fnA CC PR 60 [.int .i64 n] = some (.str (dec n)) := by
  by_cases hn : 0 ≤ n
  · have := l1Dec_nat n.toNat (by omega)
    rwa [show ((n.toNat : Nat) : Int) = n by omega] at this
  · apply comes_eq.1
    refine fnA_wp (rs := [.tmp 2]) Tryd.func60 rfl rfl (Nat.le_of_ble_eq_true rfl) rfl ?_
    by_cases hm : n = -9223372036854775808
    · subst hm
      simp +decide only [go_sem, Nat.reduceAdd, Nat.reduceMul, Nat.reduceSub, Nat.reduceLT, Nat.reduceLeDiff, Nat.reduceEqDiff, Nat.add_assoc, Int.reduceAdd, Int.reduceSub, Int.reduceMul, Int.reduceLT, Int.reduceLE, Int.reduceEq, Int.reduceNeg, strOp_add]
    · have g1 : (n < -9223372036854775807) = False := eq_false (by omega)
      have g2 : (n < 0) = True := eq_true (by omega)
      have w1 : IntKind.wrap .i64 (0 - n) = ((n.natAbs : Nat) : Int) := by rw [wrap_id (by omega) (by omega)]; omega
      have hr := l1Dec_nat n.natAbs (by omega)
      have hz' := dec_size ((n.natAbs : Nat) : Int) (by omega) (by omega)
      have hz : 1 + (dec ((n.natAbs : Nat) : Int)).size ≤ 9223372036854775807 := by omega
      have e : dec n = ⟨#[45]⟩ ++ dec ((n.natAbs : Nat) : Int) := by
        rw [← dec_neg n.natAbs (by omega)]
        congr 1
        omega
      simp +decide only [go_sem, Nat.reduceAdd, Nat.reduceMul, Nat.reduceSub, Nat.reduceLT, Nat.reduceLeDiff, Nat.reduceEqDiff, Nat.add_assoc, Int.reduceAdd, Int.reduceSub, Int.reduceMul, Int.reduceLT, Int.reduceLE, Int.reduceEq, Int.reduceNeg, strOp_add, g1, g2, w1, hr, hz]
      rw [e]
end Go.Ev.Tryd
end
section
namespace Go.Ev.Tryd
open Go.Proofs
set_option maxRecDepth 10000
set_option linter.unusedSimpArgs false
set_option linter.unusedVariables false
attribute [local congr] comes_congr bB_congr gK_congr gdK_congr

/-- A builder: its block, its buffer's block, its bytes. -/
def BldAt (m : Mem) (id : Nat) (b : Option Nat) (S : ByteArray) : Prop :=
  id < m.nid ∧ match b with
  | none => S = ⟨#[]⟩ ∧ ∃ p, (p = .nilp ∨ p = .ptr id 0 0) ∧ m.sto id = ⟨[p, .nils 1], 0, false, some (87, true)⟩
  | some k => k ≠ id ∧ k < m.nid ∧ ∃ g, m.sto id = ⟨[.ptr id 0 0, .arr k g 0 S.size 1 true], 0, false, some (87, true)⟩ ∧ m.sto k = ⟨strBytes S, g, false, some (5, false)⟩
/-- What a write leaves alone. -/
def BldFr (m m' : Mem) (id : Nat) (b b' : Option Nat) : Prop :=
  m.nid ≤ m'.nid ∧ (∀ j, j < m.nid → j ≠ id → b ≠ some j → m'.sto j = m.sto j) ∧ (∀ k, b = some k → b' = some k) ∧ (b = none → ∀ k, b' = some k → m.nid ≤ k)
theorem strBytes_len (s : ByteArray) : (strBytes s).length = s.size := by simp [strBytes]
theorem strBytes_app (a b : ByteArray) : strBytes a ++ strBytes b = strBytes (a ++ b) := by
  unfold strBytes
  rw [← List.map_append]
  congr 1
theorem size_app (a b : ByteArray) : (a ++ b).size = a.size + b.size := by simp
theorem check_fresh {sto : Nat → Blk} {nid id : Nat} {x : AV} (h : sto id = ⟨[.nilp, x], 0, false, some (87, true)⟩) : fnI CC PR 86 [.ptr id 0 0] ⟨sto, nid⟩ = some (.tup [], ⟨upd sto id ⟨[.ptr id 0 0, x], 0, false, some (87, true)⟩, nid⟩) :=
  fnI_prim CC PR (by simp [PI, checkI, h])
theorem check_used {sto : Nat → Blk} {nid id : Nat} {x : AV} (h : sto id = ⟨[.ptr id 0 0, x], 0, false, some (87, true)⟩) : fnI CC PR 86 [.ptr id 0 0] ⟨sto, nid⟩ = some (.tup [], ⟨sto, nid⟩) :=
  fnI_prim CC PR (by simp [PI, checkI, h])
theorem grow_eq {sto : Nat → Blk} {nid id : Nat} {x : AV} {n : Int} (h : sto id = ⟨[x, .nils 1], 0, false, some (87, true)⟩) (h0 : 0 ≤ n) (h1 : n ≤ 281474976710656) : fnI CC PR 88 [.ptr id 0 0, .int .i64 n] ⟨sto, nid⟩ = some (.tup [], ⟨upd (upd sto nid ⟨[], 0, false, some (5, false)⟩) id ⟨[x, .arr nid 0 0 0 1 true], 0, false, some (87, true)⟩, nid + 1⟩) :=
  fnI_prim CC PR (by simp [PI, growI, h, h0, h1])
theorem empty_app (s : ByteArray) : (⟨#[]⟩ : ByteArray) ++ s = s := by
  apply ByteArray.ext
  simp
theorem app_empty (S s : ByteArray) (h : s.size = 0) : S ++ s = S := by
  have : s = ⟨#[]⟩ := by
    apply ByteArray.ext
    have h' : s.data.size = 0 := h
    exact Array.eq_empty_of_size_eq_zero h'
  subst this
  apply ByteArray.ext
  simp
theorem WriteString_wp (s S : ByteArray) (m : Mem) (id : Nat) (b : Option Nat) (h : BldAt m id b S) (hs : S.size + s.size ≤ 1099511627776) (Q : AV × Mem → Prop)
    (hQ : ∀ m' b', BldAt m' id b' (S ++ s) → BldFr m m' id b b' → (b = none → s.size = 0 → b' = none) → Q (.tup [.int .i64 s.size, .nili], m')) :
    Comes (fnI CC PR 79 [.ptr id 0 0, .str s] m) Q := by
  refine fnI_wp (rs := [.tmp 4, .tmp 5]) Tryd.func79 rfl rfl (Nat.le_of_ble_eq_true rfl) rfl rfl ?_
  obtain ⟨hid, h⟩ := h
  have hmost : s.size ≤ most := by simp [most]; omega
  have hmost2 : S.size + s.size ≤ most := by simp [most]; omega
  cases b with
  | none =>
    obtain ⟨rfl, p, hp, hm⟩ := h
    have f1 : (id = m.nid) = False := by simp; omega
    have f2 : (m.nid = id) = False := by simp; omega
    by_cases hs0 : s.size = 0
    · rcases hp with rfl | rfl
      · simp +decide only [go_sem, Nat.reduceAdd, Nat.reduceMul, Nat.reduceSub, Nat.reduceLT, Nat.reduceLeDiff, Nat.reduceEqDiff, Nat.add_assoc, Int.reduceAdd, Int.reduceSub, Int.reduceMul, Int.reduceLT, Int.reduceLE, Int.reduceEq, Int.reduceNeg, strOp_add, check_fresh hm, hs0, hmost, f1, f2]
        rw [hs0] at hQ
        refine hQ _ none ⟨hid, by rw [app_empty _ _ hs0], .ptr id 0 0, .inr rfl, by simp [upd]⟩ ⟨Nat.le_refl _, fun j hj h1 _ => by simp [upd, h1], by simp, by simp⟩ (fun _ _ => rfl)
      · simp +decide only [go_sem, Nat.reduceAdd, Nat.reduceMul, Nat.reduceSub, Nat.reduceLT, Nat.reduceLeDiff, Nat.reduceEqDiff, Nat.add_assoc, Int.reduceAdd, Int.reduceSub, Int.reduceMul, Int.reduceLT, Int.reduceLE, Int.reduceEq, Int.reduceNeg, strOp_add, check_used hm, hm, hs0, hmost, f1, f2]
        rw [hs0] at hQ
        refine hQ _ none ⟨hid, by rw [app_empty _ _ hs0], .ptr id 0 0, .inr rfl, by simp [upd]⟩ ⟨Nat.le_refl _, fun j hj h1 _ => by simp [upd, h1], by simp, by simp⟩ (fun _ _ => rfl)
    · rcases hp with rfl | rfl
      · simp +decide only [go_sem, Nat.reduceAdd, Nat.reduceMul, Nat.reduceSub, Nat.reduceLT, Nat.reduceLeDiff, Nat.reduceEqDiff, Nat.add_assoc, Int.reduceAdd, Int.reduceSub, Int.reduceMul, Int.reduceLT, Int.reduceLE, Int.reduceEq, Int.reduceNeg, strOp_add, check_fresh hm, hs0, hmost, f1, f2]
        refine hQ _ (some m.nid) ⟨by simp; omega, by omega, by simp, 0, ?_, ?_⟩ ⟨by simp, fun j hj h1 _ => ?_, by simp, by simp⟩ (fun _ h => absurd h hs0)
        · simp [upd, empty_app]
        · simp [upd, f2, empty_app]
        · have : ¬ j = m.nid := by omega
          simp [upd, h1, this]
      · simp +decide only [go_sem, Nat.reduceAdd, Nat.reduceMul, Nat.reduceSub, Nat.reduceLT, Nat.reduceLeDiff, Nat.reduceEqDiff, Nat.add_assoc, Int.reduceAdd, Int.reduceSub, Int.reduceMul, Int.reduceLT, Int.reduceLE, Int.reduceEq, Int.reduceNeg, strOp_add, check_used hm, hm, hs0, hmost, f1, f2]
        refine hQ _ (some m.nid) ⟨by simp; omega, by omega, by simp, 0, ?_, ?_⟩ ⟨by simp, fun j hj h1 _ => ?_, by simp, by simp⟩ (fun _ h => absurd h hs0)
        · simp [upd, empty_app]
        · simp [upd, f2, empty_app]
        · have : ¬ j = m.nid := by omega
          simp [upd, h1, this]
  | some k =>
    obtain ⟨hk1, hk2, g, hm, hk⟩ := h
    have f3 : (k = id) = False := by simp [hk1]
    have f4 : (id = k) = False := by simp [Ne.symm hk1]
    simp +decide only [go_sem, Nat.reduceAdd, Nat.reduceMul, Nat.reduceSub, Nat.reduceLT, Nat.reduceLeDiff, Nat.reduceEqDiff, Nat.add_assoc, Int.reduceAdd, Int.reduceSub, Int.reduceMul, Int.reduceLT, Int.reduceLE, Int.reduceEq, Int.reduceNeg, strOp_add, check_used hm, hm, hk, f3, f4, hmost2, strBytes_len]
    refine hQ _ (some k) ⟨hid, hk1, hk2, g + 1, ?_, ?_⟩ ⟨Nat.le_refl _, fun j hj h1 h2 => ?_, by simp, by simp⟩ (fun h => by cases h)
    · simp [upd]
    · simp [upd, f3, strBytes_app]
    · have : ¬ j = k := fun e => h2 (by rw [e])
      simp [upd, h1, this]
theorem strBytes_push (S : ByteArray) (c : UInt8) : strBytes S ++ [.int .u8 c.toNat] = strBytes (S.push c) := by
  simp [strBytes, ByteArray.push]
theorem push_size (S : ByteArray) (c : UInt8) : (S.push c).size = S.size + 1 := ByteArray.size_push ..
theorem push_empty_size (c : UInt8) : ((⟨#[]⟩ : ByteArray).push c).size = 1 := rfl
theorem strBytes_one (c : UInt8) : strBytes ((⟨#[]⟩ : ByteArray).push c) = [.int .u8 c.toNat] := rfl

theorem WriteByte_wp (c : UInt8) (S : ByteArray) (m : Mem) (id : Nat) (b : Option Nat) (h : BldAt m id b S) (hs : S.size < 1099511627776) (Q : AV × Mem → Prop)
    (hQ : ∀ m' b', BldAt m' id b' (S.push c) → BldFr m m' id b b' → Q (.nili, m')) :
    Comes (fnI CC PR 78 [.ptr id 0 0, .int .u8 c.toNat] m) Q := by
  refine fnI_wp (rs := [.tmp 4]) Tryd.func78 rfl rfl (Nat.le_of_ble_eq_true rfl) rfl rfl ?_
  obtain ⟨hid, h⟩ := h
  have hmost : 1 ≤ most := by simp [most]
  have hmost2 : S.size + 1 ≤ most := by simp [most]; omega
  have e1 : ∀ k, (id = m.nid + k) = False := fun k => by simp; omega
  have e2 : ∀ k, (m.nid + k = id) = False := fun k => by simp; omega
  have f1 : (id = m.nid) = False := by simp; omega
  have f2 : (m.nid = id) = False := by simp; omega
  cases b with
  | none =>
    obtain ⟨rfl, p, hp, hm⟩ := h
    rcases hp with rfl | rfl
    · simp +decide only [go_sem, Nat.reduceAdd, Nat.reduceMul, Nat.reduceSub, Nat.reduceLT, Nat.reduceLeDiff, Nat.reduceEqDiff, Nat.add_assoc, Int.reduceAdd, Int.reduceSub, Int.reduceMul, Int.reduceLT, Int.reduceLE, Int.reduceEq, Int.reduceNeg, strOp_add, check_fresh hm, hmost, f1, f2, e1, e2]
      refine hQ _ (some (m.nid + 1)) ⟨by simp; omega, by omega, by simp, 0, ?_, ?_⟩ ⟨by simp, fun j hj h1 _ => ?_, by simp, by simp⟩
      · simp [upd, push_empty_size]
        try rfl
      · simp [upd, e2, strBytes_one]
      · have h2 : ¬ j = m.nid := by omega
        have h3 : ¬ j = m.nid + 1 := by omega
        simp [upd, h1, h2, h3]
    · simp +decide only [go_sem, Nat.reduceAdd, Nat.reduceMul, Nat.reduceSub, Nat.reduceLT, Nat.reduceLeDiff, Nat.reduceEqDiff, Nat.add_assoc, Int.reduceAdd, Int.reduceSub, Int.reduceMul, Int.reduceLT, Int.reduceLE, Int.reduceEq, Int.reduceNeg, strOp_add, check_used hm, hm, hmost, f1, f2, e1, e2]
      refine hQ _ (some (m.nid + 1)) ⟨by simp; omega, by omega, by simp, 0, ?_, ?_⟩ ⟨by simp, fun j hj h1 _ => ?_, by simp, by simp⟩
      · simp [upd, push_empty_size]
        try rfl
      · simp [upd, e2, strBytes_one]
      · have h2 : ¬ j = m.nid := by omega
        have h3 : ¬ j = m.nid + 1 := by omega
        simp [upd, h1, h2, h3]
  | some k =>
    obtain ⟨hk1, hk2, g, hm, hk⟩ := h
    have f3 : (k = id) = False := by simp [hk1]
    have f4 : (id = k) = False := by simp [Ne.symm hk1]
    have f5 : (k = m.nid) = False := by simp; omega
    have f6 : (m.nid = k) = False := by simp; omega
    simp +decide only [go_sem, Nat.reduceAdd, Nat.reduceMul, Nat.reduceSub, Nat.reduceLT, Nat.reduceLeDiff, Nat.reduceEqDiff, Nat.add_assoc, Int.reduceAdd, Int.reduceSub, Int.reduceMul, Int.reduceLT, Int.reduceLE, Int.reduceEq, Int.reduceNeg, strOp_add, check_used hm, hm, hk, f1, f2, f3, f4, f5, f6, hmost2, strBytes_len]
    refine hQ _ (some k) ⟨by simp; omega, hk1, by simp; omega, g + 1, ?_, ?_⟩ ⟨by simp, fun j hj h1 h2 => ?_, by simp, by simp⟩
    · simp [upd, push_size]
    · simp [upd, f3, strBytes_push]
    · have h3 : ¬ j = m.nid := by omega
      have h4 : ¬ j = k := fun e => h2 (by rw [e])
      simp [upd, h1, h3, h4]
theorem bytesStr_str (s : ByteArray) : bytesStr (strBytes s) = some s.data.toList := by
  unfold strBytes
  generalize s.data.toList = l
  induction l with
  | nil => rfl
  | cons x l ih =>
    simp only [List.map_cons, bytesStr, ih, Option.map_some]
    simp
theorem str_back (s : ByteArray) : (⟨s.data.toList.toArray⟩ : ByteArray) = s := by
  apply ByteArray.ext
  simp
theorem String_wp (S : ByteArray) (m : Mem) (id : Nat) (b : Option Nat) (h : BldAt m id b S) (hs : S.size ≤ 1099511627776) (hne : 0 < S.size ∨ b = none) (Q : AV × Mem → Prop)
    (hQ : ∀ m', m.nid ≤ m'.nid → (∀ j, j < m.nid → j ≠ id → b ≠ some j → m'.sto j = m.sto j) → Q (.str S, m')) :
    Comes (fnI CC PR 81 [.ptr id 0 0] m) Q := by
  refine fnI_wp (rs := [.tmp 2]) Tryd.func81 rfl rfl (Nat.le_of_ble_eq_true rfl) rfl rfl ?_
  obtain ⟨hid, h⟩ := h
  simp +decide only [go_sem, Nat.reduceAdd, Nat.reduceMul, Nat.reduceSub, Nat.reduceLT, Nat.reduceLeDiff, Nat.reduceEqDiff, Nat.add_assoc, Int.reduceAdd, Int.reduceSub, Int.reduceMul, Int.reduceLT, Int.reduceLE, Int.reduceEq, Int.reduceNeg, strOp_add]
  refine (d_plan (ord := [0, 1, 2, 3, 4, 5, 6, 7, 8, 9, 10, 11]) (prs := [(3, 8), (4, 8)]) (by kernel_rfl)).2 ?_
  cases b with
  | none =>
    obtain ⟨rfl, p, hp, hm⟩ := h
    simp +decide only [go_sem, Nat.reduceAdd, Nat.reduceMul, Nat.reduceSub, Nat.reduceLT, Nat.reduceLeDiff, Nat.reduceEqDiff, Nat.add_assoc, Int.reduceAdd, Int.reduceSub, Int.reduceMul, Int.reduceLT, Int.reduceLE, Int.reduceEq, Int.reduceNeg, strOp_add, hm]
    exact hQ _ (by simp) (fun _ _ _ _ => rfl)
  | some k =>
    obtain ⟨hk1, hk2, g, hm, hk⟩ := h
    have f3 : (k = id) = False := by simp [hk1]
    have f4 : (id = k) = False := by simp [Ne.symm hk1]
    have h0 : 0 < S.size := hne.resolve_right (by simp)
    have h0' : (0 : Int) < (S.size : Int) := by omega
    have hm1 : (S.size : Int) ≤ (most : Int) := by show (S.size : Int) ≤ ((1099511627776 : Nat) : Int); omega
    have ht : (strBytes S).take S.size = strBytes S := List.take_of_length_le (by rw [strBytes_len]; omega)
    simp +decide only [go_sem, Nat.reduceAdd, Nat.reduceMul, Nat.reduceSub, Nat.reduceLT, Nat.reduceLeDiff, Nat.reduceEqDiff, Nat.add_assoc, Int.reduceAdd, Int.reduceSub, Int.reduceMul, Int.reduceLT, Int.reduceLE, Int.reduceEq, Int.reduceNeg, strOp_add, hm, hk, f3, f4, h0, h0', hm1, strBytes_len, ht, bytesStr_str, Nat.le_refl, str_back]
    refine hQ _ ?_ (fun j hj h1 h2 => ?_)
    · exact Nat.le_add_right _ _
    · have h4 : ¬ j = k := fun e => h2 (by rw [e])
      simp [upd, h4]
/-- A new builder that is made to have room. -/
theorem Grow_wp (n : Int) (m : Mem) (id : Nat) (h : BldAt m id none ⟨#[]⟩) (h0 : 0 ≤ n) (h1 : n ≤ 281474976710656) (Q : AV × Mem → Prop)
    (hQ : ∀ m' b', BldAt m' id b' ⟨#[]⟩ → BldFr m m' id none b' → (n = 0 → b' = none) → Q (.tup [], m')) :
    Comes (fnI CC PR 82 [.ptr id 0 0, .int .i64 n] m) Q := by
  refine fnI_wp (rs := []) Tryd.func82 rfl rfl (Nat.le_of_ble_eq_true rfl) rfl rfl ?_
  obtain ⟨hid, _, p, hp, hm⟩ := h
  have f1 : (id = m.nid) = False := by simp; omega
  have f2 : (m.nid = id) = False := by simp; omega
  have hn : (n < 0) = False := by simp; omega
  rcases hp with rfl | rfl
  · simp +decide only [go_sem, Nat.reduceAdd, Nat.reduceMul, Nat.reduceSub, Nat.reduceLT, Nat.reduceLeDiff, Nat.reduceEqDiff, Nat.add_assoc, Int.reduceAdd, Int.reduceSub, Int.reduceMul, Int.reduceLT, Int.reduceLE, Int.reduceEq, Int.reduceNeg, strOp_add, check_fresh hm, f1, f2, hn]
    refine (d_plan (ord := [0, 1, 2, 3, 4, 5, 6, 7, 8, 9, 10, 11, 12]) (prs := [(3, 8), (4, 8)]) (by kernel_rfl)).2 ?_
    simp +decide only [go_sem, Nat.reduceAdd, Nat.reduceMul, Nat.reduceSub, Nat.reduceLT, Nat.reduceLeDiff, Nat.reduceEqDiff, Nat.add_assoc, Int.reduceAdd, Int.reduceSub, Int.reduceMul, Int.reduceLT, Int.reduceLE, Int.reduceEq, Int.reduceNeg, strOp_add, check_fresh hm, f1, f2, hn]
    refine bB_split (fun hB => ?_) (fun hB => ?_)
    · simp only [decide_eq_true_eq] at hB
      simp +decide only [go_sem, Nat.reduceAdd, Nat.reduceMul, Nat.reduceSub, Nat.reduceLT, Nat.reduceLeDiff, Nat.reduceEqDiff, Nat.add_assoc, Int.reduceAdd, Int.reduceSub, Int.reduceMul, Int.reduceLT, Int.reduceLE, Int.reduceEq, Int.reduceNeg, strOp_add, grow_eq (x := .ptr id 0 0) (n := n), h0, h1]
      refine hQ _ (some (m.nid + 13)) ?_ ?_ (fun h => by omega)
      · refine ⟨by dsimp only; omega, by omega, by dsimp only; omega, 0, ?_, ?_⟩
        · simp [upd]
          try rfl
        · have : ¬ m.nid + 13 = id := by omega
          simp [upd, this]
          try rfl
      · refine ⟨by dsimp only; omega, fun j hj h1 _ => ?_, by simp, ?_⟩
        · have : ¬ j = m.nid + 13 := by omega
          simp [upd, h1, this]
        · intro _ k hk
          simp at hk
          omega
    · simp only [decide_eq_false_iff_not] at hB
      simp +decide only [go_sem, Nat.reduceAdd, Nat.reduceMul, Nat.reduceSub, Nat.reduceLT, Nat.reduceLeDiff, Nat.reduceEqDiff, Nat.add_assoc, Int.reduceAdd, Int.reduceSub, Int.reduceMul, Int.reduceLT, Int.reduceLE, Int.reduceEq, Int.reduceNeg, strOp_add]
      refine hQ _ none ?_ ?_ (fun _ => rfl)
      · exact ⟨by dsimp only; omega, rfl, .ptr id 0 0, .inr rfl, by simp [upd, hm]⟩
      · exact ⟨by dsimp only; omega, fun j hj h1 _ => by simp [upd, h1], by simp, by simp⟩
  · simp +decide only [go_sem, Nat.reduceAdd, Nat.reduceMul, Nat.reduceSub, Nat.reduceLT, Nat.reduceLeDiff, Nat.reduceEqDiff, Nat.add_assoc, Int.reduceAdd, Int.reduceSub, Int.reduceMul, Int.reduceLT, Int.reduceLE, Int.reduceEq, Int.reduceNeg, strOp_add, check_used hm, f1, f2, hn]
    refine (d_plan (ord := [0, 1, 2, 3, 4, 5, 6, 7, 8, 9, 10, 11, 12]) (prs := [(3, 8), (4, 8)]) (by kernel_rfl)).2 ?_
    simp +decide only [go_sem, Nat.reduceAdd, Nat.reduceMul, Nat.reduceSub, Nat.reduceLT, Nat.reduceLeDiff, Nat.reduceEqDiff, Nat.add_assoc, Int.reduceAdd, Int.reduceSub, Int.reduceMul, Int.reduceLT, Int.reduceLE, Int.reduceEq, Int.reduceNeg, strOp_add, check_used hm, hm, f1, f2, hn]
    refine bB_split (fun hB => ?_) (fun hB => ?_)
    · simp only [decide_eq_true_eq] at hB
      simp +decide only [go_sem, Nat.reduceAdd, Nat.reduceMul, Nat.reduceSub, Nat.reduceLT, Nat.reduceLeDiff, Nat.reduceEqDiff, Nat.add_assoc, Int.reduceAdd, Int.reduceSub, Int.reduceMul, Int.reduceLT, Int.reduceLE, Int.reduceEq, Int.reduceNeg, strOp_add, hm, grow_eq (x := .ptr id 0 0) (n := n), h0, h1]
      refine hQ _ (some (m.nid + 13)) ?_ ?_ (fun h => by omega)
      · refine ⟨by dsimp only; omega, by omega, by dsimp only; omega, 0, ?_, ?_⟩
        · simp [upd]
          try rfl
        · have : ¬ m.nid + 13 = id := by omega
          simp [upd, this]
          try rfl
      · refine ⟨by dsimp only; omega, fun j hj h1 _ => ?_, by simp, ?_⟩
        · have : ¬ j = m.nid + 13 := by omega
          simp [upd, h1, this]
        · intro _ k hk
          simp at hk
          omega
    · simp only [decide_eq_false_iff_not] at hB
      simp +decide only [go_sem, Nat.reduceAdd, Nat.reduceMul, Nat.reduceSub, Nat.reduceLT, Nat.reduceLeDiff, Nat.reduceEqDiff, Nat.add_assoc, Int.reduceAdd, Int.reduceSub, Int.reduceMul, Int.reduceLT, Int.reduceLE, Int.reduceEq, Int.reduceNeg, strOp_add]
      refine hQ _ none ?_ ?_ (fun _ => rfl)
      · exact ⟨by dsimp only; omega, rfl, .ptr id 0 0, .inr rfl, by simp [upd, hm]⟩
      · exact ⟨by dsimp only; omega, fun j hj h1 _ => by simp [upd, h1], by simp, by simp⟩
end Go.Ev.Tryd
end
