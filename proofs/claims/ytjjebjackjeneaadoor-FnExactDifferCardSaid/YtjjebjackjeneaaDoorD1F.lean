/- Part of the proof of a statement about the given program: D1F D2F D3F. No condition of its own. -/
import Derived.Test.YtjjebjackjeneaaDoorSF
import Derived.Test.YtjjebjackjeneaaDoorJF
section
namespace Go.Ev.Tryd
open Go.Proofs
set_option maxRecDepth 10000
set_option linter.unusedSimpArgs false
set_option linter.unusedVariables false
attribute [local congr] comes_congr bB_congr gK_congr gdK_congr

/-- A datum. -/
inductive Dat where
  | mk (kind num : Int) (text : ByteArray) (list : List Dat) (names : List ByteArray)
namespace Dat
def kind : Dat → Int | .mk k _ _ _ _ => k
def num : Dat → Int | .mk _ n _ _ _ => n
def text : Dat → ByteArray | .mk _ _ t _ _ => t
def list : Dat → List Dat | .mk _ _ _ l _ => l
def names : Dat → List ByteArray | .mk _ _ _ _ ns => ns
/-- As a value. -/
def av : Dat → AV
  | .mk k n t l ns => .agg [.int .i64 k, .int .i64 n, .str t, .slice 5 (l.map av), .slice 1 (ns.map AV.str)]
theorem ind {P : Dat → Prop} (h : ∀ k n t l ns, (∀ x ∈ l, P x) → P (.mk k n t l ns)) : ∀ d, P d
  | .mk k n t l ns => h k n t l ns (fun x _ => ind h x)
end Dat
theorem Dat.av_mk (k n : Int) (t : ByteArray) (l : List Dat) (ns : List ByteArray) : (Dat.mk k n t l ns).av = .agg [.int .i64 k, .int .i64 n, .str t, .slice 5 (l.map Dat.av), .slice 1 (ns.map AV.str)] := by
  rw [Dat.av]

/-! ### texts -/
theorem index_ge (l : List UInt8) (c : UInt8) : -1 ≤ Lib.indexByte l c := by
  induction l with
  | nil => simp [Lib.indexByte]
  | cons x l ih =>
    simp only [Lib.indexByte]
    split
    · omega
    · split <;> omega
theorem index_mem (l : List UInt8) (c : UInt8) : 0 ≤ Lib.indexByte l c ↔ c ∈ l := by
  induction l with
  | nil => simp [Lib.indexByte]
  | cons x l ih =>
    simp only [Lib.indexByte, List.mem_cons]
    by_cases h : x = c
    · simp [h]
    · have h' : ¬ c = x := fun e => h e.symm
      simp only [h', false_or, ← ih]
      split
      · rename_i hx; exact absurd (by simpa using hx) h
      · split
        · rename_i hx
          have : Lib.indexByte l c = -1 := by simpa using hx
          omega
        · rename_i hx
          have h1 : Lib.indexByte l c ≠ -1 := by simpa using hx
          have h2 := index_ge l c
          omega
def textOk (t : ByteArray) : Bool := decide (t.size ≤ 100) && !decide (0 ≤ Lib.indexByte t.data.toList 0)
/-- The node of a text, as a value. -/
def textNode (t : ByteArray) : AV := if textOk t = true then .agg [.int .i64 2, .str (t ++ ⟨#[0]⟩), .slice 6 [], .int .i64 2, .int .i64 (t.size + 1), .slice 6 []] else .agg [.int .i64 0, .str ⟨#[]⟩, .slice 6 [], .int .i64 0, .int .i64 0, .slice 6 []]
theorem contains_eq (s : ByteArray) : fnA CC PR 84 [.str s, .str ⟨#[0]⟩] = some (.bool (decide (0 ≤ Lib.indexByte s.data.toList 0))) :=
  fnA_prim CC PR (by rfl)
@[go_sem] theorem TextNode_eq (t : ByteArray) : fnA CC PR 72 [.str t] = some (textNode t) := by
  apply comes_eq.1
  refine fnA_wp (rs := [.cell 2 74]) Tryd.func72 rfl rfl (Nat.le_of_ble_eq_true rfl) rfl ?_
  simp +decide only [go_sem, Nat.reduceAdd, Nat.reduceMul, Nat.reduceSub, Nat.reduceLT, Nat.reduceLeDiff, Nat.reduceEqDiff, Nat.add_assoc, Int.reduceAdd, Int.reduceSub, Int.reduceMul, Int.reduceLT, Int.reduceLE, Int.reduceEq, Int.reduceNeg, strOp_add, contains_eq]
  refine bB_split (fun hB => ?_) (fun hB => ?_)
  · simp only [decide_eq_true_eq] at hB
    simp +decide only [go_sem, Nat.reduceAdd, Nat.reduceMul, Nat.reduceSub, Nat.reduceLT, Nat.reduceLeDiff, Nat.reduceEqDiff, Nat.add_assoc, Int.reduceAdd, Int.reduceSub, Int.reduceMul, Int.reduceLT, Int.reduceLE, Int.reduceEq, Int.reduceNeg, strOp_add, hB]
    simp [textNode, textOk]
    omega
  · simp only [decide_eq_false_iff_not] at hB
    have w1 : IntKind.wrap .i64 ((t.size : Int) + 1) = (t.size : Int) + 1 := wrap_id (by omega) (by omega)
    have hs : t.size ≤ 9223372036854775806 := by omega
    have h100 : t.size ≤ 100 := by omega
    simp +decide only [go_sem, Nat.reduceAdd, Nat.reduceMul, Nat.reduceSub, Nat.reduceLT, Nat.reduceLeDiff, Nat.reduceEqDiff, Nat.add_assoc, Int.reduceAdd, Int.reduceSub, Int.reduceMul, Int.reduceLT, Int.reduceLE, Int.reduceEq, Int.reduceNeg, strOp_add, hB, contains_eq, w1, hs]
    refine bB_split (fun h0 => ?_) (fun h0 => ?_)
    · simp only [decide_eq_true_eq] at h0
      simp +decide only [go_sem, Nat.reduceAdd, Nat.reduceMul, Nat.reduceSub, Nat.reduceLT, Nat.reduceLeDiff, Nat.reduceEqDiff, Nat.add_assoc, Int.reduceAdd, Int.reduceSub, Int.reduceMul, Int.reduceLT, Int.reduceLE, Int.reduceEq, Int.reduceNeg, strOp_add, h0]
      simp [textNode, textOk, h0]
    · simp only [decide_eq_false_iff_not] at h0
      simp +decide only [go_sem, Nat.reduceAdd, Nat.reduceMul, Nat.reduceSub, Nat.reduceLT, Nat.reduceLeDiff, Nat.reduceEqDiff, Nat.add_assoc, Int.reduceAdd, Int.reduceSub, Int.reduceMul, Int.reduceLT, Int.reduceLE, Int.reduceEq, Int.reduceNeg, strOp_add, h0, w1, hs]
      simp [textNode, textOk, h0, h100]
def none0 (d : Dat) : Bool := decide (d.list.length = 0) && decide (d.names.length = 0)
def shaped : Dat → Bool
  | .mk k n t l ns =>
    if k = 0 then decide (n = 0) && (decide (t = ⟨#[]⟩) && (decide (l.length = 0) && decide (ns.length = 0)))
    else if k = 1 then isShort n && (decide (t = ⟨#[]⟩) && (decide (l.length = 0) && decide (ns.length = 0)))
    else if k = 2 then decide (n = 0) && ((decide (l.length = 0) && decide (ns.length = 0)) && textOk t)
    else if k = 3 then decide (n = 0) && (decide (t = ⟨#[]⟩) && (decide (ns.length = 0) && decide (l.length ≤ 20)))
    else if k = 4 then decide (n = 0) && (decide (t = ⟨#[]⟩) && (decide (ns.length ≤ 8) && decide (l.length = ns.length)))
    else false
theorem nat0 {n : Nat} : ((n : Int) = 0) = (n = 0) := by simp
theorem shaped_eq (d : Dat) : fnA CC PR 61 [d.av] = some (.bool (shaped d)) := by
  obtain ⟨k, n, t, l, ns⟩ := d
  rw [Dat.av_mk]
  apply comes_eq.1
  refine fnA_wp (rs := [.tmp 2]) Tryd.func61 rfl rfl (Nat.le_of_ble_eq_true rfl) rfl ?_
  simp +decide only [go_sem, Nat.reduceAdd, Nat.reduceMul, Nat.reduceSub, Nat.reduceLT, Nat.reduceLeDiff, Nat.reduceEqDiff, Nat.add_assoc, Int.reduceAdd, Int.reduceSub, Int.reduceMul, Int.reduceLT, Int.reduceLE, Int.reduceEq, Int.reduceNeg, strOp_add]
  refine (d_plan (ord := [0, 1, 2, 3, 4, 5, 6, 7, 8, 9, 10, 11, 12, 13, 14, 15, 16, 17, 18]) (prs := [(1, 4), (1, 7), (4, 7), (1, 12), (4, 12)]) (by kernel_rfl)).2 ?_
  have hn : textNode t = .agg (if textOk t = true then [.int .i64 2, .str (t ++ ⟨#[0]⟩), .slice 6 [], .int .i64 2, .int .i64 (t.size + 1), .slice 6 []] else [.int .i64 0, .str ⟨#[]⟩, .slice 6 [], .int .i64 0, .int .i64 0, .slice 6 []]) := by unfold textNode; split <;> rfl
  cases ht : textOk t
  all_goals
    rw [ht] at hn
    (simp +decide only [go_sem, Nat.reduceAdd, Nat.reduceMul, Nat.reduceSub, Nat.reduceLT, Nat.reduceLeDiff, Nat.reduceEqDiff, Nat.add_assoc, Int.reduceAdd, Int.reduceSub, Int.reduceMul, Int.reduceLT, Int.reduceLE, Int.reduceEq, Int.reduceNeg, strOp_add, List.length_map, nat0, Int.ofNat_inj, hn]); repeat' (refine bB_split (fun hB => ?_) (fun hB => ?_) <;> (try simp only [Bool.and_eq_true, Bool.or_eq_false_iff, decide_eq_true_eq, decide_eq_false_iff_not] at hB) <;> simp +decide only [go_sem, Nat.reduceAdd, Nat.reduceMul, Nat.reduceSub, Nat.reduceLT, Nat.reduceLeDiff, Nat.reduceEqDiff, Nat.add_assoc, Int.reduceAdd, Int.reduceSub, Int.reduceMul, Int.reduceLT, Int.reduceLE, Int.reduceEq, Int.reduceNeg, strOp_add, hB, List.length_map, nat0, Int.ofNat_inj, hn])
    all_goals simp [shaped, *]
    all_goals omega
/-- Of no more than a machine can bear. -/
inductive Dat.Sane : Dat → Prop
  | mk (k n : Int) (t : ByteArray) (l : List Dat) (ns : List ByteArray) (hk : i64 k) (hn : i64 n) (ht : t.size ≤ 1099511627776) (hl : l.length ≤ 1099511627776) (hns : ns.length ≤ 1099511627776) (hss : ∀ s ∈ ns, s.size ≤ 1099511627776) (h : ∀ x ∈ l, Dat.Sane x) : Dat.Sane (.mk k n t l ns)
theorem nought_iff (t : ByteArray) : 0 ≤ Lib.indexByte t.data.toList 0 ↔ ∃ i, i < t.size ∧ sget t i = 0 := by
  rw [index_mem, List.mem_iff_getElem]
  constructor
  · rintro ⟨i, h, e⟩
    have h' : i < t.data.size := by simpa using h
    refine ⟨i, h', ?_⟩
    simp only [sget, Array.getD, dif_pos h']
    simpa using e
  · rintro ⟨i, h, e⟩
    have h' : i < t.data.size := h
    refine ⟨i, by simpa using h', ?_⟩
    simp only [sget, Array.getD, dif_pos h'] at e
    simpa using e
theorem specTextNode_eq (t : ByteArray) (hs : t.size ≤ 1099511627776) : fnA CC PR 58 [.str t] = some (textNode t) := by
  apply comes_eq.1
  refine fnA_wp (rs := [.cell 2 74]) Tryd.func58 rfl rfl (Nat.le_of_ble_eq_true rfl) rfl ?_
  simp +decide only [go_sem, Nat.reduceAdd, Nat.reduceMul, Nat.reduceSub, Nat.reduceLT, Nat.reduceLeDiff, Nat.reduceEqDiff, Nat.add_assoc, Int.reduceAdd, Int.reduceSub, Int.reduceMul, Int.reduceLT, Int.reduceLE, Int.reduceEq, Int.reduceNeg, strOp_add]
  refine comes_upto t.size (fun i st => st.env 0 = .str t ∧ st.env 3 = .int .i64 i ∧ st.env 2 = .ptr 0 0 0 ∧ st.sto 0 = ⟨[.int .i64 0, .str ⟨#[]⟩, .nils 6, .int .i64 0, .int .i64 0, .nils 6], 0, false, some (74, true)⟩ ∧ ∀ j, j < i → sget t j ≠ 0) ?_ ?_ _ ?_
  · rintro i st hi ⟨e0, e3, e2, es, hj⟩
    simp +decide only [go_sem, Nat.reduceAdd, Nat.reduceMul, Nat.reduceSub, Nat.reduceLT, Nat.reduceLeDiff, Nat.reduceEqDiff, Nat.add_assoc, Int.reduceAdd, Int.reduceSub, Int.reduceMul, Int.reduceLT, Int.reduceLE, Int.reduceEq, Int.reduceNeg, strOp_add, e0, e3, e2, es, hi, s_at hi]
    refine bB_split (fun hB => ?_) (fun hB => ?_)
    · simp only [decide_eq_true_eq] at hB
      simp +decide only [go_sem, Nat.reduceAdd, Nat.reduceMul, Nat.reduceSub, Nat.reduceLT, Nat.reduceLeDiff, Nat.reduceEqDiff, Nat.add_assoc, Int.reduceAdd, Int.reduceSub, Int.reduceMul, Int.reduceLT, Int.reduceLE, Int.reduceEq, Int.reduceNeg, strOp_add, e0, e3, e2, es]
      have h0 : 0 ≤ Lib.indexByte t.data.toList 0 := (nought_iff t).2 ⟨i, hi, by
        apply UInt8.toNat_inj.1
        show (sget t i).toNat = 0
        omega⟩
      simp [textNode, textOk, h0]
    · simp only [decide_eq_false_iff_not] at hB
      simp +decide only [go_sem, Nat.reduceAdd, Nat.reduceMul, Nat.reduceSub, Nat.reduceLT, Nat.reduceLeDiff, Nat.reduceEqDiff, Nat.add_assoc, Int.reduceAdd, Int.reduceSub, Int.reduceMul, Int.reduceLT, Int.reduceLE, Int.reduceEq, Int.reduceNeg, strOp_add, e0, e3, e2, es, wrap_succ (show i + 1 ≤ 9223372036854775807 by omega)]
      refine all_succ hj (fun h => hB ?_)
      rw [h]; rfl
  · rintro st ⟨e0, e3, e2, es, hj⟩
    have h0 : ¬ (0 ≤ Lib.indexByte t.data.toList 0) := fun h => by
      obtain ⟨i, h1, h2⟩ := (nought_iff t).1 h
      exact hj i h1 h2
    simp +decide only [go_sem, Nat.reduceAdd, Nat.reduceMul, Nat.reduceSub, Nat.reduceLT, Nat.reduceLeDiff, Nat.reduceEqDiff, Nat.add_assoc, Int.reduceAdd, Int.reduceSub, Int.reduceMul, Int.reduceLT, Int.reduceLE, Int.reduceEq, Int.reduceNeg, strOp_add, e0, e3, e2, es]
    refine bB_split (fun hB => ?_) (fun hB => ?_)
    · simp only [decide_eq_true_eq] at hB
      simp +decide only [go_sem, Nat.reduceAdd, Nat.reduceMul, Nat.reduceSub, Nat.reduceLT, Nat.reduceLeDiff, Nat.reduceEqDiff, Nat.add_assoc, Int.reduceAdd, Int.reduceSub, Int.reduceMul, Int.reduceLT, Int.reduceLE, Int.reduceEq, Int.reduceNeg, strOp_add, e0, e3, e2, es]
      simp [textNode, textOk]
      omega
    · simp only [decide_eq_false_iff_not] at hB
      have w1 : IntKind.wrap .i64 ((t.size : Int) + 1) = (t.size : Int) + 1 := wrap_id (by omega) (by omega)
      have h1 : t.size ≤ 9223372036854775806 := by omega
      have h100 : t.size ≤ 100 := by omega
      simp +decide only [go_sem, Nat.reduceAdd, Nat.reduceMul, Nat.reduceSub, Nat.reduceLT, Nat.reduceLeDiff, Nat.reduceEqDiff, Nat.add_assoc, Int.reduceAdd, Int.reduceSub, Int.reduceMul, Int.reduceLT, Int.reduceLE, Int.reduceEq, Int.reduceNeg, strOp_add, e0, e3, e2, es, w1, h1]
      simp [textNode, textOk, h0, h100]
  · simp +decide only [go_sem, Nat.reduceAdd, Nat.reduceMul, Nat.reduceSub, Nat.reduceLT, Nat.reduceLeDiff, Nat.reduceEqDiff, Nat.add_assoc, Int.reduceAdd, Int.reduceSub, Int.reduceMul, Int.reduceLT, Int.reduceLE, Int.reduceEq, Int.reduceNeg, strOp_add]
    simp
theorem l10Bare_eq (d : Dat) (hd : d.Sane) : fnA CC PR 40 [d.av] = some (.bool (shaped d)) := by
  cases hd with
  | mk k n t l ns hk hn ht hl hns hss h =>
  rw [Dat.av_mk]
  apply comes_eq.1
  refine fnA_wp (rs := [.tmp 2]) Tryd.func40 rfl rfl (Nat.le_of_ble_eq_true rfl) rfl ?_
  have w1 : IntKind.wrap .i64 ((l.length : Int) + (ns.length : Int)) = ((l.length + ns.length : Nat) : Int) := by rw [wrap_id (by omega) (by omega)]; omega
  have hn' : textNode t = .agg (if textOk t = true then [.int .i64 2, .str (t ++ ⟨#[0]⟩), .slice 6 [], .int .i64 2, .int .i64 (t.size + 1), .slice 6 []] else [.int .i64 0, .str ⟨#[]⟩, .slice 6 [], .int .i64 0, .int .i64 0, .slice 6 []]) := by unfold textNode; split <;> rfl
  have ht' := specTextNode_eq t ht
  rw [hn'] at ht'
  clear hn'
  cases htt : textOk t
  all_goals
    rw [htt] at ht'
    (simp +decide only [go_sem, Nat.reduceAdd, Nat.reduceMul, Nat.reduceSub, Nat.reduceLT, Nat.reduceLeDiff, Nat.reduceEqDiff, Nat.add_assoc, Int.reduceAdd, Int.reduceSub, Int.reduceMul, Int.reduceLT, Int.reduceLE, Int.reduceEq, Int.reduceNeg, strOp_add, List.length_map, nat0, Int.ofNat_inj, ht', w1]); repeat' (refine bB_split (fun hB => ?_) (fun hB => ?_) <;> (try simp only [Bool.and_eq_true, Bool.or_eq_false_iff, decide_eq_true_eq, decide_eq_false_iff_not] at hB) <;> simp +decide only [go_sem, Nat.reduceAdd, Nat.reduceMul, Nat.reduceSub, Nat.reduceLT, Nat.reduceLeDiff, Nat.reduceEqDiff, Nat.add_assoc, Int.reduceAdd, Int.reduceSub, Int.reduceMul, Int.reduceLT, Int.reduceLE, Int.reduceEq, Int.reduceNeg, strOp_add, hB, List.length_map, nat0, Int.ofNat_inj, ht', w1])
    all_goals simp [shaped, *]
    all_goals first
      | omega
      | (refine ⟨List.eq_nil_of_length_eq_zero ?_, List.eq_nil_of_length_eq_zero ?_⟩ <;> omega)
      | (intro h1 h2; subst h1 h2; simp at hB; done)
      | (intro h1 h2; subst h1; subst h2; simp_all; done)
end Go.Ev.Tryd
end
section
namespace Go.Ev.Tryd
open Go.Proofs
set_option maxRecDepth 10000
set_option linter.unusedSimpArgs false
set_option linter.unusedVariables false
attribute [local congr] comes_congr bB_congr gK_congr gdK_congr

/-- The first place at which something holds, or -1. -/
def firstI {α : Type} (p : α → Bool) (l : List α) : Int := match l.findIdx? p with | some i => i | none => -1
theorem firstI_none {α : Type} {p : α → Bool} {l : List α} (h : ∀ i, (hi : i < l.length) → p l[i] = false) : firstI p l = -1 := by
  unfold firstI
  have : l.findIdx? p = none := by
    rw [List.findIdx?_eq_none_iff]
    intro x hx
    obtain ⟨i, hi, rfl⟩ := List.mem_iff_getElem.1 hx
    exact h i hi
  rw [this]
theorem firstI_some {α : Type} {p : α → Bool} {l : List α} {i : Nat} (hi : i < l.length) (h : p l[i] = true) (hb : ∀ j, (hj : j < i) → p (l[j]'(by omega)) = false) : firstI p l = i := by
  unfold firstI
  have : l.findIdx? p = some i := by
    rw [List.findIdx?_eq_some_iff_getElem]
    exact ⟨hi, h, fun j hj => by simp [hb j hj]⟩
  rw [this]
theorem firstI_ge {α : Type} {p : α → Bool} {l : List α} : (0 ≤ firstI p l) ↔ l.any p = true := by
  unfold firstI
  cases h : l.findIdx? p with
  | none =>
    rw [List.findIdx?_eq_none_iff] at h
    simp only [List.any_eq_true]
    constructor
    · intro h0; omega
    · rintro ⟨x, hx, hp⟩
      rw [h x hx] at hp
      cases hp
  | some i =>
    obtain ⟨hi, hp, _⟩ := List.findIdx?_eq_some_iff_getElem.1 h
    simp only [List.any_eq_true]
    exact ⟨fun _ => ⟨_, List.getElem_mem hi, hp⟩, fun _ => by omega⟩
theorem Index_eq (xs : List ByteArray) (s : ByteArray) (h : xs.length ≤ 1099511627776) : fnA CC PR 56 [strsA xs, .str s] = some (.int .i64 (firstI (fun x => decide (x = s)) xs)) := by
  apply comes_eq.1
  refine fnA_wp (rs := [.tmp 4]) Tryd.func56 rfl rfl (Nat.le_of_ble_eq_true rfl) rfl ?_
  simp +decide only [go_sem, Nat.reduceAdd, Nat.reduceMul, Nat.reduceSub, Nat.reduceLT, Nat.reduceLeDiff, Nat.reduceEqDiff, Nat.add_assoc, Int.reduceAdd, Int.reduceSub, Int.reduceMul, Int.reduceLT, Int.reduceLE, Int.reduceEq, Int.reduceNeg, strOp_add, List.length_map]
  refine comes_upto xs.length (fun i st => st.env 0 = strsA xs ∧ st.env 1 = .str s ∧ st.env 7 = .int .i64 xs.length ∧ st.env 8 = .int .i64 i ∧ ∀ j, (hj : j < xs.length) → j < i → ¬ xs[j] = s) ?_ ?_ _ ?_
  · rintro i st hi ⟨e0, e1, e7, e8, hj⟩
    simp +decide only [go_sem, Nat.reduceAdd, Nat.reduceMul, Nat.reduceSub, Nat.reduceLT, Nat.reduceLeDiff, Nat.reduceEqDiff, Nat.add_assoc, Int.reduceAdd, Int.reduceSub, Int.reduceMul, Int.reduceLT, Int.reduceLE, Int.reduceEq, Int.reduceNeg, strOp_add, e0, e1, e7, e8, hi, List.length_map, strs_at hi]
    refine bB_split (fun hB => ?_) (fun hB => ?_)
    · simp only [decide_eq_true_eq] at hB
      simp +decide only [go_sem, Nat.reduceAdd, Nat.reduceMul, Nat.reduceSub, Nat.reduceLT, Nat.reduceLeDiff, Nat.reduceEqDiff, Nat.add_assoc, Int.reduceAdd, Int.reduceSub, Int.reduceMul, Int.reduceLT, Int.reduceLE, Int.reduceEq, Int.reduceNeg, strOp_add]
      rw [firstI_some hi (by simp [hB]) (fun j hji => by simp [hj j (by omega) hji])]
    · simp only [decide_eq_false_iff_not] at hB
      simp +decide only [go_sem, Nat.reduceAdd, Nat.reduceMul, Nat.reduceSub, Nat.reduceLT, Nat.reduceLeDiff, Nat.reduceEqDiff, Nat.add_assoc, Int.reduceAdd, Int.reduceSub, Int.reduceMul, Int.reduceLT, Int.reduceLE, Int.reduceEq, Int.reduceNeg, strOp_add, e0, e1, e7, e8, wrap_succ (show i + 1 ≤ 9223372036854775807 by omega)]
      intro j h1 h2
      rcases Nat.lt_or_ge j i with h3 | h3
      · exact hj j h1 h3
      · have : j = i := by omega
        subst this
        exact fun e => hB e.symm
  · rintro st ⟨e0, e1, e7, e8, hj⟩
    simp +decide only [go_sem, Nat.reduceAdd, Nat.reduceMul, Nat.reduceSub, Nat.reduceLT, Nat.reduceLeDiff, Nat.reduceEqDiff, Nat.add_assoc, Int.reduceAdd, Int.reduceSub, Int.reduceMul, Int.reduceLT, Int.reduceLE, Int.reduceEq, Int.reduceNeg, strOp_add, e0, e1, e7, e8]
    rw [firstI_none (fun i hi => by simp [hj i hi hi])]
  · simp +decide only [go_sem, Nat.reduceAdd, Nat.reduceMul, Nat.reduceSub, Nat.reduceLT, Nat.reduceLeDiff, Nat.reduceEqDiff, Nat.add_assoc, Int.reduceAdd, Int.reduceSub, Int.reduceMul, Int.reduceLT, Int.reduceLE, Int.reduceEq, Int.reduceNeg, strOp_add]
    simp
theorem Contains_eq (xs : List ByteArray) (s : ByteArray) (h : xs.length ≤ 1099511627776) : fnA CC PR 63 [strsA xs, .str s] = some (.bool (xs.any fun x => decide (x = s))) := by
  apply comes_eq.1
  refine fnA_wp (rs := [.tmp 4]) Tryd.func63 rfl rfl (Nat.le_of_ble_eq_true rfl) rfl ?_
  simp +decide only [go_sem, Nat.reduceAdd, Nat.reduceMul, Nat.reduceSub, Nat.reduceLT, Nat.reduceLeDiff, Nat.reduceEqDiff, Nat.add_assoc, Int.reduceAdd, Int.reduceSub, Int.reduceMul, Int.reduceLT, Int.reduceLE, Int.reduceEq, Int.reduceNeg, strOp_add, Index_eq xs s h]
  congr 1
  rw [Bool.eq_iff_iff, decide_eq_true_eq]
  exact firstI_ge
theorem cells_av (d : Dat) : ∃ cs, d.av = .agg cs ∧ cs.length = 5 := by
  obtain ⟨k, n, t, l, ns⟩ := d
  exact ⟨_, Dat.av_mk _ _ _ _ _, rfl⟩
theorem av_at {l : List Dat} {i : Nat} (h : i < l.length) : (l.map Dat.av)[i]? = some (l[i]).av := by simp [h]
/-- What holds of none, by a function that may look into the caller's memory. -/
theorem IndexFunc_wp (l : List Dat) (f : FuncId) (cap : List AV) (hcap : cap.any AV.loud = true) (p : Dat → Bool) (I : Mem → Prop) (hl : l.length ≤ 1099511627776)
    (hf : ∀ x ∈ l, ∀ m, I m → ∀ Q : AV × Mem → Prop, (∀ m', I m' → Q (.bool (p x), m')) → Comes (fnI CC PR f (x.av :: cap) m) Q) (m : Mem) (hm : I m) (Q : AV × Mem → Prop) (hQ : ∀ m', I m' → Q (.int .i64 (firstI p l), m')) :
    Comes (fnI CC PR 76 [.slice 5 (l.map Dat.av), .fn f cap] m) Q := by
  refine fnI_wp (rs := [.tmp 4]) Tryd.func76 rfl rfl (Nat.le_of_ble_eq_true rfl) rfl rfl ?_
  simp +decide only [go_sem, Nat.reduceAdd, Nat.reduceMul, Nat.reduceSub, Nat.reduceLT, Nat.reduceLeDiff, Nat.reduceEqDiff, Nat.add_assoc, Int.reduceAdd, Int.reduceSub, Int.reduceMul, Int.reduceLT, Int.reduceLE, Int.reduceEq, Int.reduceNeg, strOp_add, List.length_map]
  refine comes_upto l.length (fun i st => st.env 0 = .slice 5 (l.map Dat.av) ∧ st.env 1 = .fn f cap ∧ st.env 7 = .int .i64 l.length ∧ st.env 8 = .int .i64 i ∧ I st.toMem ∧ ∀ j, (hj : j < l.length) → j < i → p l[j] = false) ?_ ?_ _ ?_
  · rintro i st hi ⟨e0, e1, e7, e8, hI, hj⟩
    obtain ⟨cs, hcs, hcl⟩ := cells_av l[i]
    have hck : (l[i]).av.cells = cs := by rw [hcs]; rfl
    have htk : cs.take 5 = cs := List.take_of_length_le (by omega)
    have h5 : 5 ≤ cs.length := by omega
    have ha := av_at hi
    rw [hcs] at ha
    simp +decide only [go_sem, Nat.reduceAdd, Nat.reduceMul, Nat.reduceSub, Nat.reduceLT, Nat.reduceLeDiff, Nat.reduceEqDiff, Nat.add_assoc, Int.reduceAdd, Int.reduceSub, Int.reduceMul, Int.reduceLT, Int.reduceLE, Int.reduceEq, Int.reduceNeg, strOp_add, e0, e1, e7, e8, hi, List.length_map, ha, htk, h5, hcap, AV.cells, or_true]
    rw [← hcs]
    refine hf _ (List.getElem_mem hi) _ hI _ fun m' hm' => ?_
    cases hB : p l[i]
    · simp +decide only [go_sem, Nat.reduceAdd, Nat.reduceMul, Nat.reduceSub, Nat.reduceLT, Nat.reduceLeDiff, Nat.reduceEqDiff, Nat.add_assoc, Int.reduceAdd, Int.reduceSub, Int.reduceMul, Int.reduceLT, Int.reduceLE, Int.reduceEq, Int.reduceNeg, strOp_add, e0, e1, e7, e8, wrap_succ (show i + 1 ≤ 9223372036854775807 by omega)]
      refine ⟨hm', fun j h1 h2 => ?_⟩
      rcases Nat.lt_or_ge j i with h3 | h3
      · exact hj j h1 h3
      · have : j = i := by omega
        subst this
        exact hB
    · simp +decide only [go_sem, Nat.reduceAdd, Nat.reduceMul, Nat.reduceSub, Nat.reduceLT, Nat.reduceLeDiff, Nat.reduceEqDiff, Nat.add_assoc, Int.reduceAdd, Int.reduceSub, Int.reduceMul, Int.reduceLT, Int.reduceLE, Int.reduceEq, Int.reduceNeg, strOp_add, e0, e1, e7, e8]
      rw [← firstI_some hi hB (fun j hji => hj j (by omega) hji)]
      exact hQ _ hm'
  · rintro st ⟨e0, e1, e7, e8, hI, hj⟩
    simp +decide only [go_sem, Nat.reduceAdd, Nat.reduceMul, Nat.reduceSub, Nat.reduceLT, Nat.reduceLeDiff, Nat.reduceEqDiff, Nat.add_assoc, Int.reduceAdd, Int.reduceSub, Int.reduceMul, Int.reduceLT, Int.reduceLE, Int.reduceEq, Int.reduceNeg, strOp_add, e0, e1, e7, e8]
    rw [← firstI_none (p := p) (fun i hi => hj i hi hi)]
    exact hQ _ hI
  · simp +decide only [go_sem, Nat.reduceAdd, Nat.reduceMul, Nat.reduceSub, Nat.reduceLT, Nat.reduceLeDiff, Nat.reduceEqDiff, Nat.add_assoc, Int.reduceAdd, Int.reduceSub, Int.reduceMul, Int.reduceLT, Int.reduceLE, Int.reduceEq, Int.reduceNeg, strOp_add]
    simp [hm]
end Go.Ev.Tryd
end
section
namespace Go.Ev.Tryd
open Go.Proofs
set_option maxRecDepth 10000
set_option linter.unusedSimpArgs false
set_option linter.unusedVariables false
attribute [local congr] comes_congr bB_congr gK_congr gdK_congr

theorem ContainsFunc_wp (l : List Dat) (f : FuncId) (cap : List AV) (hcap : cap.any AV.loud = true) (p : Dat → Bool) (I : Mem → Prop) (hl : l.length ≤ 1099511627776)
    (hf : ∀ x ∈ l, ∀ m, I m → ∀ Q : AV × Mem → Prop, (∀ m', I m' → Q (.bool (p x), m')) → Comes (fnI CC PR f (x.av :: cap) m) Q) (m : Mem) (hm : I m) (Q : AV × Mem → Prop) (hQ : ∀ m', I m' → Q (.bool (l.any p), m')) :
    Comes (fnI CC PR 64 [.slice 5 (l.map Dat.av), .fn f cap] m) Q := by
  have hce : cap.isEmpty = false := by
    cases cap with
    | nil => simp at hcap
    | cons => rfl
  refine fnI_wp (rs := [.tmp 4]) Tryd.func64 rfl rfl (Nat.le_of_ble_eq_true rfl) rfl rfl ?_
  simp +decide only [go_sem, Nat.reduceAdd, Nat.reduceMul, Nat.reduceSub, Nat.reduceLT, Nat.reduceLeDiff, Nat.reduceEqDiff, Nat.add_assoc, Int.reduceAdd, Int.reduceSub, Int.reduceMul, Int.reduceLT, Int.reduceLE, Int.reduceEq, Int.reduceNeg, strOp_add, hcap, hce, or_true]
  refine IndexFunc_wp l f cap hcap p I hl hf _ hm _ fun m' hm' => ?_
  simp +decide only [go_sem, Nat.reduceAdd, Nat.reduceMul, Nat.reduceSub, Nat.reduceLT, Nat.reduceLeDiff, Nat.reduceEqDiff, Nat.add_assoc, Int.reduceAdd, Int.reduceSub, Int.reduceMul, Int.reduceLT, Int.reduceLE, Int.reduceEq, Int.reduceNeg, strOp_add]
  have e : decide (0 ≤ firstI p l) = l.any p := by
    rw [Bool.eq_iff_iff, decide_eq_true_eq]
    exact firstI_ge
  rw [e]
  exact hQ _ hm'
/-- Whether a name may stand where it does. -/
def nameIn (ns : List ByteArray) (i : Nat) : Bool := isName (ns.getD i ⟨#[]⟩) && !((ns.take i).any fun x => decide (x = ns.getD i ⟨#[]⟩))
def namesOk (ns : List ByteArray) : Bool := (List.range ns.length).all (nameIn ns)
/-- What can be written within so many. -/
def writ : Nat → Dat → Bool
  | 0, _ => false
  | n + 1, d => shaped d && (namesOk d.names && d.list.all (writ n))
theorem namesOk_iff (ns : List ByteArray) : namesOk ns = true ↔ ∀ i, i < ns.length → nameIn ns i = true := by simp [namesOk]
theorem writable1_wp (n : Nat) (hn : n ≤ 1000) (x : Dat) (id : Nat) (m : Mem) (hm : m.sto id = ⟨[.int .i64 ((n + 1 : Nat) : Int)], 0, false, none⟩) (hid : id < m.nid) (b : Bool)
    (hw : fnA CC PR 46 [x.av, .int .i64 n] = some (.bool b)) (Q : AV × Mem → Prop) (hQ : ∀ m', m'.sto id = m.sto id ∧ m.nid ≤ m'.nid → Q (.bool (!b), m')) :
    Comes (fnI CC PR 65 [x.av, .ptr id 0 0] m) Q := by
  refine fnI_wp (rs := [.tmp 3]) Tryd.func65 rfl rfl (Nat.le_of_ble_eq_true rfl) rfl rfl ?_
  have w1 : IntKind.wrap .i64 (((n + 1 : Nat) : Int) - 1) = n := by rw [wrap_id (by omega) (by omega)]; omega
  obtain ⟨k, nn, t, l, ns⟩ := x
  rw [Dat.av_mk] at hw
  rw [Dat.av_mk]
  have hid' : ¬ id = m.nid := by omega
  simp +decide only [go_sem, Nat.reduceAdd, Nat.reduceMul, Nat.reduceSub, Nat.reduceLT, Nat.reduceLeDiff, Nat.reduceEqDiff, Nat.add_assoc, Int.reduceAdd, Int.reduceSub, Int.reduceMul, Int.reduceLT, Int.reduceLE, Int.reduceEq, Int.reduceNeg, strOp_add, hm, hid', w1, hw]
  refine hQ _ ⟨?_, ?_⟩
  · simp +decide only [go_sem, Nat.reduceAdd, Nat.reduceMul, Nat.reduceSub, Nat.reduceLT, Nat.reduceLeDiff, Nat.reduceEqDiff, Nat.add_assoc, Int.reduceAdd, Int.reduceSub, Int.reduceMul, Int.reduceLT, Int.reduceLE, Int.reduceEq, Int.reduceNeg, strOp_add, hid']
  · simp
theorem writable_eq : ∀ (n : Nat) (d : Dat), n ≤ 1000 → d.Sane → fnA CC PR 46 [d.av, .int .i64 n] = some (.bool (writ n d)) := by
  intro n
  induction n with
  | zero =>
    rintro ⟨k, n, t, l, ns⟩ _ _
    rw [Dat.av_mk]
    apply comes_eq.1
    refine fnA_wp (rs := [.tmp 4]) Tryd.func46 rfl rfl (Nat.le_of_ble_eq_true rfl) rfl ?_
    simp +decide only [go_sem, Nat.reduceAdd, Nat.reduceMul, Nat.reduceSub, Nat.reduceLT, Nat.reduceLeDiff, Nat.reduceEqDiff, Nat.add_assoc, Int.reduceAdd, Int.reduceSub, Int.reduceMul, Int.reduceLT, Int.reduceLE, Int.reduceEq, Int.reduceNeg, strOp_add]
    rfl
  | succ n ih =>
    intro d hn hd
    cases hd with
    | mk k nn t l ns hk hnn ht hl hns hss h =>
    have hs := shaped_eq (.mk k nn t l ns)
    rw [Dat.av_mk] at hs
    rw [Dat.av_mk]
    apply comes_eq.1
    refine fnA_wp (rs := [.tmp 4]) Tryd.func46 rfl rfl (Nat.le_of_ble_eq_true rfl) rfl ?_
    have h1 : ¬ (((n + 1 : Nat) : Int) < 1) := by omega
    cases hb : shaped (.mk k nn t l ns)
    all_goals rw [hb] at hs
    · simp +decide only [go_sem, Nat.reduceAdd, Nat.reduceMul, Nat.reduceSub, Nat.reduceLT, Nat.reduceLeDiff, Nat.reduceEqDiff, Nat.add_assoc, Int.reduceAdd, Int.reduceSub, Int.reduceMul, Int.reduceLT, Int.reduceLE, Int.reduceEq, Int.reduceNeg, strOp_add, hs, h1]
      simp [writ, hb]
    · simp +decide only [go_sem, Nat.reduceAdd, Nat.reduceMul, Nat.reduceSub, Nat.reduceLT, Nat.reduceLeDiff, Nat.reduceEqDiff, Nat.add_assoc, Int.reduceAdd, Int.reduceSub, Int.reduceMul, Int.reduceLT, Int.reduceLE, Int.reduceEq, Int.reduceNeg, strOp_add, hs, h1, List.length_map]
      refine comes_upto ns.length (fun i st => st.env 2 = .ptr 0 0 0 ∧ st.env 3 = .ptr 1 0 0 ∧ st.env 15 = .slice 1 (ns.map AV.str) ∧ st.env 16 = .int .i64 ns.length ∧ st.env 17 = .int .i64 i ∧ st.nid = 2 ∧ st.sto 0 = ⟨[.int .i64 k, .int .i64 nn, .str t, .slice 5 (l.map Dat.av), .slice 1 (ns.map AV.str)], 0, false, none⟩ ∧ st.sto 1 = ⟨[.int .i64 ((n + 1 : Nat) : Int)], 0, false, none⟩ ∧ ∀ j, j < i → nameIn ns j = true) ?_ ?_ _ ?_
      · rintro i st hi ⟨e2, e3, e15, e16, e17, en, s0, s1, hj⟩
        have hC := Contains_eq (ns.take i) ns[i] (by rw [List.length_take]; omega)
        simp only [strsA, List.map_take] at hC
        have hg : ns.getD i ⟨#[]⟩ = ns[i] := by simp [hi]
        have hN : nameIn ns i = (isName ns[i] && !((ns.take i).any fun x => decide (x = ns[i]))) := by unfold nameIn; rw [hg]
        have hle : i ≤ ns.length := by omega
        simp +decide only [go_sem, Nat.reduceAdd, Nat.reduceMul, Nat.reduceSub, Nat.reduceLT, Nat.reduceLeDiff, Nat.reduceEqDiff, Nat.add_assoc, Int.reduceAdd, Int.reduceSub, Int.reduceMul, Int.reduceLT, Int.reduceLE, Int.reduceEq, Int.reduceNeg, strOp_add, e2, e3, e15, e16, e17, en, s0, s1, hi, List.length_map, strs_at hi]
        refine bB_split (fun hB => ?_) (fun hB => ?_)
        · simp +decide only [go_sem, Nat.reduceAdd, Nat.reduceMul, Nat.reduceSub, Nat.reduceLT, Nat.reduceLeDiff, Nat.reduceEqDiff, Nat.add_assoc, Int.reduceAdd, Int.reduceSub, Int.reduceMul, Int.reduceLT, Int.reduceLE, Int.reduceEq, Int.reduceNeg, strOp_add, e2, e3, e15, e16, e17, en, s0, s1, hi, List.length_map, strs_at hi, hB, hC, hle, and_false]
          refine bB_split (fun hT => ?_) (fun hT => ?_)
          · simp +decide only [go_sem, Nat.reduceAdd, Nat.reduceMul, Nat.reduceSub, Nat.reduceLT, Nat.reduceLeDiff, Nat.reduceEqDiff, Nat.add_assoc, Int.reduceAdd, Int.reduceSub, Int.reduceMul, Int.reduceLT, Int.reduceLE, Int.reduceEq, Int.reduceNeg, strOp_add]
            have : namesOk ns = false := false_of fun h => by
              rw [namesOk_iff] at h
              have := h i hi
              rw [hN, hB, hT] at this
              cases this
            simp [writ, Dat.names, this]
          · simp +decide only [go_sem, Nat.reduceAdd, Nat.reduceMul, Nat.reduceSub, Nat.reduceLT, Nat.reduceLeDiff, Nat.reduceEqDiff, Nat.add_assoc, Int.reduceAdd, Int.reduceSub, Int.reduceMul, Int.reduceLT, Int.reduceLE, Int.reduceEq, Int.reduceNeg, strOp_add, e2, e3, e15, e16, e17, en, s0, s1, wrap_succ (show i + 1 ≤ 9223372036854775807 by omega)]
            refine all_succ hj ?_
            rw [hN, hB, hT]
            rfl
        · simp +decide only [go_sem, Nat.reduceAdd, Nat.reduceMul, Nat.reduceSub, Nat.reduceLT, Nat.reduceLeDiff, Nat.reduceEqDiff, Nat.add_assoc, Int.reduceAdd, Int.reduceSub, Int.reduceMul, Int.reduceLT, Int.reduceLE, Int.reduceEq, Int.reduceNeg, strOp_add, e2, e3, e15, e16, e17, en, s0, s1, hi, List.length_map, strs_at hi, hB]
          have : namesOk ns = false := false_of fun h => by
            rw [namesOk_iff] at h
            have := h i hi
            rw [hN, hB] at this
            cases this
          simp [writ, Dat.names, this]
      · rintro st ⟨e2, e3, e15, e16, e17, en, s0, s1, hj⟩
        have hns' : namesOk ns = true := (namesOk_iff ns).2 hj
        simp +decide only [go_sem, Nat.reduceAdd, Nat.reduceMul, Nat.reduceSub, Nat.reduceLT, Nat.reduceLeDiff, Nat.reduceEqDiff, Nat.add_assoc, Int.reduceAdd, Int.reduceSub, Int.reduceMul, Int.reduceLT, Int.reduceLE, Int.reduceEq, Int.reduceNeg, strOp_add, e2, e3, e15, e16, e17, en, s0, s1]
        refine ContainsFunc_wp l 65 [.ptr 1 0 0] rfl (fun x => !writ n x) (fun m => m.sto 1 = ⟨[.int .i64 ((n + 1 : Nat) : Int)], 0, false, none⟩ ∧ 2 ≤ m.nid) hl (fun x hx m hm Q hQ => ?_) ⟨st.sto, 2⟩ ⟨s1, Nat.le_refl 2⟩ _ fun m' hm' => ?_
        · refine writable1_wp n (by omega) x 1 m hm.1 (by omega) _ (ih x (by omega) (h x hx)) Q fun m' hm' => hQ m' ⟨?_, ?_⟩
          · rw [hm'.1, hm.1]
          · omega
        · simp +decide only [go_sem, Nat.reduceAdd, Nat.reduceMul, Nat.reduceSub, Nat.reduceLT, Nat.reduceLeDiff, Nat.reduceEqDiff, Nat.add_assoc, Int.reduceAdd, Int.reduceSub, Int.reduceMul, Int.reduceLT, Int.reduceLE, Int.reduceEq, Int.reduceNeg, strOp_add]
          have : (!(l.any fun x => !writ n x)) = l.all (writ n) := by
            rw [List.all_eq_not_any_not]
          simp only [writ, hb, Dat.names, Dat.list, hns', Bool.true_and, this]
      · simp +decide only [go_sem, Nat.reduceAdd, Nat.reduceMul, Nat.reduceSub, Nat.reduceLT, Nat.reduceLeDiff, Nat.reduceEqDiff, Nat.add_assoc, Int.reduceAdd, Int.reduceSub, Int.reduceMul, Int.reduceLT, Int.reduceLE, Int.reduceEq, Int.reduceNeg, strOp_add]
        simp
end Go.Ev.Tryd
end
