/- Part of the proof of a statement about the given program: D10F D11F. No condition of its own. -/
import Derived.Test.YtjjebjackjeneaaDoorD7F
import Derived.Test.YtjjebjackjeneaaDoorJF
section
namespace Go.Ev.Tryd
open Go.Proofs
set_option maxRecDepth 10000
set_option linter.unusedSimpArgs false
set_option linter.unusedVariables false
attribute [local congr] comes_congr bB_congr gK_congr gdK_congr

def T : Nat → Nat
  | 0 => 0
  | n + 1 => 20 * T n + 302
theorem T_le : ∀ n, n ≤ 8 → T n ≤ 549755813888 := by decide
theorem sumB_le (b : Nat) : ∀ (l : List ByteArray), (∀ p ∈ l, p.size ≤ b) → sumB l ≤ l.length * b
  | [], _ => Nat.zero_le _
  | x :: l, h => by
    have h1 := sumB_le b l fun p hp => h p (by simp [hp])
    have h2 := h x (by simp)
    simp only [sumB, List.map_cons, List.sum_cons, List.length_cons] at h1 ⊢
    rw [Nat.succ_mul]
    omega
theorem joinB_size (sep : ByteArray) (l : List ByteArray) : (joinB sep l).size ≤ sumB l + sep.size * l.length := by
  cases l with
  | nil => exact Nat.zero_le _
  | cons x l =>
    show (joinL sep x l).size ≤ _
    rw [joinL_size]
    simp only [sumB, List.map_cons, List.sum_cons, List.length_cons, Nat.mul_succ]
    omega
theorem dec_posN (u : Nat) : 1 ≤ (dec u).size := by
  by_cases h : u < 10
  · rw [dec_small u h]; exact Nat.le_refl _
  · rw [dec_big u h, size_app]
    exact Nat.le_add_left _ _
theorem dec_pos (n : Int) : 1 ≤ (dec n).size := by
  rcases Int.eq_nat_or_neg n with ⟨u, rfl | rfl⟩
  · exact dec_posN u
  · by_cases h : 1 ≤ u
    · rw [dec_neg u h, size_app]
      exact Nat.le_add_right _ _
    · have : u = 0 := by omega
      subst this
      exact dec_posN 0
theorem shaped_kind {k n : Int} {t : ByteArray} {l : List Dat} {ns : List ByteArray} (hs : shaped (.mk k n t l ns) = true) :
    (k = 0 ∧ l = []) ∨ (k = 1 ∧ l = [] ∧ isShort n = true) ∨ (k = 2 ∧ l = [] ∧ t.size ≤ 100) ∨ (k = 3 ∧ l.length ≤ 20) ∨ (k = 4 ∧ ns.length ≤ 8 ∧ l.length = ns.length) := by
  simp only [shaped] at hs
  repeat' split at hs
  all_goals first
    | cases hs
    | (simp only [Bool.and_eq_true, decide_eq_true_eq, textOk, List.length_eq_zero_iff] at hs
       simp_all)
set_option maxHeartbeats 4000000 in
theorem text_ok : ∀ (n : Nat) (d : Dat), n ≤ 8 → d.Sane → writ n d = true → ∃ s, fnA CC PR 47 [d.av] = some (.str s) ∧ 1 ≤ s.size ∧ s.size ≤ T n := by
  intro n
  induction n with
  | zero => intro d _ _ h; cases h
  | succ n ih =>
  intro d hn hd hw
  cases hd with
  | mk k nn t l ns hk hnn ht hl hns hss h =>
  simp only [writ, Bool.and_eq_true, Dat.names, Dat.list] at hw
  obtain ⟨hsh, hnm, hall⟩ := hw
  have hkind := shaped_kind hsh
  have hT := T_le n (by omega)
  have hT1 : T (n + 1) = 20 * T n + 302 := rfl
  have hT2 := T_le (n + 1) hn
  rw [hT1] at hT2
  rw [Dat.av_mk]
  have key : Comes (fnA CC PR 47 [.agg [.int .i64 k, .int .i64 nn, .str t, .slice 5 (l.map Dat.av), .slice 1 (ns.map AV.str)]]) (fun b => ∃ s, b = .str s ∧ 1 ≤ s.size ∧ s.size ≤ T (n + 1)) := by
    refine fnA_wp (rs := [.tmp 2]) Tryd.func47 rfl rfl (Nat.le_of_ble_eq_true rfl) rfl ?_
    simp +decide only [go_sem, Nat.reduceAdd, Nat.reduceMul, Nat.reduceSub, Nat.reduceLT, Nat.reduceLeDiff, Nat.reduceEqDiff, Nat.add_assoc, Int.reduceAdd, Int.reduceSub, Int.reduceMul, Int.reduceLT, Int.reduceLE, Int.reduceEq, Int.reduceNeg, strOp_add, List.length_map]
    refine comes_upto l.length (fun i st => st.env 1 = .ptr 0 0 0 ∧ st.env 8 = .slice 5 (l.map Dat.av) ∧ st.env 9 = .int .i64 l.length ∧ st.env 10 = .int .i64 i ∧ 1 ≤ st.nid ∧ st.sto 0 = ⟨[.int .i64 k, .int .i64 nn, .str t, .slice 5 (l.map Dat.av), .slice 1 (ns.map AV.str)], 0, false, none⟩ ∧ ∃ ps, ps.length = i ∧ StrsAt st.toMem 1 (st.env 3) ps ∧ ∀ p ∈ ps, p.size ≤ T n + if k = 4 then 13 else 0) ?_ ?_ _ ?_
    · rintro i st hi ⟨e1, e8, e9, e10, en, s0, ps, hps, hD, hB⟩
      obtain ⟨k2, n2, t2, l2, ns2, hcs⟩ := cells_of l[i]
      obtain ⟨s, hq, hs1, hs2⟩ := ih l[i] (by omega) (h _ (List.getElem_mem hi)) (List.all_eq_true.1 hall _ (List.getElem_mem hi))
      have ha := av_at hi
      rw [hcs] at ha hq
      have w1 : IntKind.wrap .i64 ((i : Int) + 1) = ((i + 1 : Nat) : Int) := wrap_succ (by omega)
      have fin : ∀ (m : Mem) (v : AV) (p : ByteArray), (∃ id g, 1 ≤ id ∧ id < m.nid ∧ v = .arr id g 0 (i + 1) 1 true ∧ ∃ ty, m.sto id = ⟨ps.map AV.str ++ [.str p], g, false, ty⟩) → (p.size ≤ T n + if k = 4 then 13 else 0) → ∃ ps, ps.length = i + 1 ∧ StrsAt m 1 v ps ∧ ∀ p ∈ ps, p.size ≤ T n + if k = 4 then 13 else 0 := by
        rintro m v p ⟨id, g, h1, h2, h3, ty, h4⟩ hp
        refine ⟨ps ++ [p], by simp [hps], .inr ⟨id, g, h1, h2, ?_, ty, ?_⟩, fun q hq => ?_⟩
        · rw [h3]; simp [hps]
        · rw [h4]; simp
        · rcases List.mem_append.1 hq with h | h
          · exact hB q h
          · rw [List.mem_singleton.1 h]; exact hp
      rcases hkind with ⟨_, rfl⟩ | ⟨_, rfl, _⟩ | ⟨_, rfl, _⟩ | ⟨rfl, hl3⟩ | ⟨rfl, hn8, hln⟩
      · cases hi
      · cases hi
      · cases hi
      · have hc2 : i + 1 ≤ most := by simp only [most]; omega
        rcases hD with ⟨hl0, e3⟩ | ⟨id, g, hlo, hid, e3, ty, hs⟩
        · have hi0 : i = 0 := by rw [hl0] at hps; exact hps.symm
          simp +decide (disch := first | decide | omega) only [go_sem, Nat.reduceAdd, Nat.reduceMul, Nat.reduceSub, Nat.reduceLT, Nat.reduceLeDiff, Nat.reduceEqDiff, Nat.add_assoc, Int.reduceAdd, Int.reduceSub, Int.reduceMul, Int.reduceLT, Int.reduceLE, Int.reduceEq, Int.reduceNeg, strOp_add, e1, e3, e8, e9, e10, s0, hi, ha, hq, w1, List.length_map]
          refine fin _ _ s ⟨st.nid + 2, 0, by omega, by show st.nid + 2 < st.nid + 3; omega, by rw [hi0], some (9, false), ?_⟩ (by omega)
          rw [hl0]
          simp +decide (disch := first | decide | omega) only [go_sem, Nat.reduceAdd, Nat.reduceMul, Nat.reduceSub, Nat.reduceLT, Nat.reduceLeDiff, Nat.reduceEqDiff, Nat.add_assoc, Int.reduceAdd, Int.reduceSub, Int.reduceMul, Int.reduceLT, Int.reduceLE, Int.reduceEq, Int.reduceNeg, strOp_add]
        · rw [hps] at e3
          simp +decide (disch := first | decide | omega) only [go_sem, Nat.reduceAdd, Nat.reduceMul, Nat.reduceSub, Nat.reduceLT, Nat.reduceLeDiff, Nat.reduceEqDiff, Nat.add_assoc, Int.reduceAdd, Int.reduceSub, Int.reduceMul, Int.reduceLT, Int.reduceLE, Int.reduceEq, Int.reduceNeg, strOp_add, e1, e3, e8, e9, e10, s0, hi, ha, hq, w1, hs, hps, hc2, List.length_map]
          refine fin _ _ s ⟨id, g + 1, hlo, by show id < st.nid + 2; omega, rfl, grewT 9 ty, ?_⟩ (by omega)
          simp +decide (disch := first | decide | omega) only [go_sem, Nat.reduceAdd, Nat.reduceMul, Nat.reduceSub, Nat.reduceLT, Nat.reduceLeDiff, Nat.reduceEqDiff, Nat.add_assoc, Int.reduceAdd, Int.reduceSub, Int.reduceMul, Int.reduceLT, Int.reduceLE, Int.reduceEq, Int.reduceNeg, strOp_add]
      · have hc2 : i + 1 ≤ most := by simp only [most]; omega
        have hin : i < ns.length := by omega
        have hnz : ns[i].size ≤ 10 := by
          have h1 : ns.all isName = true := by
            rw [namesOk_split, Bool.and_eq_true] at hnm
            exact hnm.2
          have h2 := List.all_eq_true.1 h1 _ (List.getElem_mem hin)
          rw [isName_iff] at h2
          exact h2.1.2
        have z3 : (⟨#[32, 61, 32]⟩ : ByteArray).size = 3 := rfl
        have z1 : (ns[i].size ≤ 9223372036854775804) = True := eq_true (by omega)
        have z2 : (ns[i].size + (3 + s.size) ≤ 9223372036854775807) = True := eq_true (by omega)
        rcases hD with ⟨hl0, e3⟩ | ⟨id, g, hlo, hid, e3, ty, hs⟩
        · have hi0 : i = 0 := by rw [hl0] at hps; exact hps.symm
          simp +decide (disch := first | decide | omega) only [go_sem, Nat.reduceAdd, Nat.reduceMul, Nat.reduceSub, Nat.reduceLT, Nat.reduceLeDiff, Nat.reduceEqDiff, Nat.add_assoc, Int.reduceAdd, Int.reduceSub, Int.reduceMul, Int.reduceLT, Int.reduceLE, Int.reduceEq, Int.reduceNeg, strOp_add, e1, e3, e8, e9, e10, s0, hi, ha, hq, w1, hin, strs_at hin, z1, z2, List.length_map]
          refine fin _ _ (ns[i] ++ ⟨#[32, 61, 32]⟩ ++ s) ⟨st.nid + 2, 0, by omega, by show st.nid + 2 < st.nid + 3; omega, by rw [hi0], some (9, false), ?_⟩ (by rw [size_app, size_app, if_pos rfl]; omega)
          rw [hl0]
          simp +decide (disch := first | decide | omega) only [go_sem, Nat.reduceAdd, Nat.reduceMul, Nat.reduceSub, Nat.reduceLT, Nat.reduceLeDiff, Nat.reduceEqDiff, Nat.add_assoc, Int.reduceAdd, Int.reduceSub, Int.reduceMul, Int.reduceLT, Int.reduceLE, Int.reduceEq, Int.reduceNeg, strOp_add]
        · rw [hps] at e3
          simp +decide (disch := first | decide | omega) only [go_sem, Nat.reduceAdd, Nat.reduceMul, Nat.reduceSub, Nat.reduceLT, Nat.reduceLeDiff, Nat.reduceEqDiff, Nat.add_assoc, Int.reduceAdd, Int.reduceSub, Int.reduceMul, Int.reduceLT, Int.reduceLE, Int.reduceEq, Int.reduceNeg, strOp_add, e1, e3, e8, e9, e10, s0, hi, ha, hq, w1, hin, strs_at hin, z1, z2, hs, hps, hc2, List.length_map]
          refine fin _ _ (ns[i] ++ ⟨#[32, 61, 32]⟩ ++ s) ⟨id, g + 1, hlo, by show id < st.nid + 2; omega, rfl, grewT 9 ty, ?_⟩ (by rw [size_app, size_app, if_pos rfl]; omega)
          simp +decide (disch := first | decide | omega) only [go_sem, Nat.reduceAdd, Nat.reduceMul, Nat.reduceSub, Nat.reduceLT, Nat.reduceLeDiff, Nat.reduceEqDiff, Nat.add_assoc, Int.reduceAdd, Int.reduceSub, Int.reduceMul, Int.reduceLT, Int.reduceLE, Int.reduceEq, Int.reduceNeg, strOp_add]
    · rintro st ⟨e1, e8, e9, e10, en, s0, ps, hps, hD, hB⟩
      have hsum := sumB_le _ ps hB
      have hjs := joinB_size ⟨#[44, 32]⟩ ps
      have z2 : (⟨#[44, 32]⟩ : ByteArray).size = 2 := rfl
      rw [z2] at hjs
      rcases hkind with ⟨rfl, hl0⟩ | ⟨rfl, hl0, hsn⟩ | ⟨rfl, hl0, ht2⟩ | ⟨rfl, hl3⟩ | ⟨rfl, hn8, hln⟩
      · simp +decide (disch := first | decide | omega) only [go_sem, Nat.reduceAdd, Nat.reduceMul, Nat.reduceSub, Nat.reduceLT, Nat.reduceLeDiff, Nat.reduceEqDiff, Nat.add_assoc, Int.reduceAdd, Int.reduceSub, Int.reduceMul, Int.reduceLT, Int.reduceLE, Int.reduceEq, Int.reduceNeg, strOp_add, e1, e8, e9, e10, s0]
        exact ⟨_, rfl, by show 1 ≤ 4; omega, by show 4 ≤ _; omega⟩
      · simp +decide (disch := first | decide | omega) only [go_sem, Nat.reduceAdd, Nat.reduceMul, Nat.reduceSub, Nat.reduceLT, Nat.reduceLeDiff, Nat.reduceEqDiff, Nat.add_assoc, Int.reduceAdd, Int.reduceSub, Int.reduceMul, Int.reduceLT, Int.reduceLE, Int.reduceEq, Int.reduceNeg, strOp_add, e1, e8, e9, e10, s0, itoa_eq nn hnn.1 hnn.2]
        have := dec_size nn hnn.1 hnn.2
        exact ⟨_, rfl, dec_pos nn, by omega⟩
      · obtain ⟨q, hq1, hq2, hq3⟩ := quoted_ok t ht2
        simp +decide (disch := first | decide | omega) only [go_sem, Nat.reduceAdd, Nat.reduceMul, Nat.reduceSub, Nat.reduceLT, Nat.reduceLeDiff, Nat.reduceEqDiff, Nat.add_assoc, Int.reduceAdd, Int.reduceSub, Int.reduceMul, Int.reduceLT, Int.reduceLE, Int.reduceEq, Int.reduceNeg, strOp_add, e1, e8, e9, e10, s0, hq1]
        exact ⟨_, rfl, by omega, by omega⟩
      · rw [if_neg (by decide)] at hB hsum
        have hbl : ps.length * (T n + 0) ≤ 20 * T n := by rw [Nat.add_zero]; exact Nat.mul_le_mul_right _ (by omega)
        have hj := join_eq ⟨#[44, 32]⟩ ps (by rw [z2]; omega) (by omega) (by omega)
        have y1 : ((joinB ⟨#[44, 32]⟩ ps).size ≤ 9223372036854775806) = True := eq_true (by omega)
        have y2 : (1 + (joinB ⟨#[44, 32]⟩ ps).size ≤ 9223372036854775806) = True := eq_true (by omega)
        have y0 : (1 + (joinB ⟨#[44, 32]⟩ ps).size ≤ 9223372036854775807) = True := eq_true (by omega)
        have y3 : (1 + ((joinB ⟨#[44, 32]⟩ ps).size + 1) ≤ 9223372036854775807) = True := eq_true (by omega)
        have z1 : ∀ c, (⟨#[c]⟩ : ByteArray).size = 1 := fun _ => rfl
        have htk : (ps.map AV.str).take ps.length = ps.map AV.str := List.take_of_length_le (by simp)
        unfold strsA at hj
        rcases hD with ⟨hp0, e3⟩ | ⟨id, g, hlo, hid, e3, ty, hs⟩
        · subst hp0
          rw [List.map_nil] at hj
          simp +decide (disch := first | decide | omega) only [go_sem, Nat.reduceAdd, Nat.reduceMul, Nat.reduceSub, Nat.reduceLT, Nat.reduceLeDiff, Nat.reduceEqDiff, Nat.add_assoc, Int.reduceAdd, Int.reduceSub, Int.reduceMul, Int.reduceLT, Int.reduceLE, Int.reduceEq, Int.reduceNeg, strOp_add, e1, e3, e8, e9, e10, s0, hj, y0, y1, y2, y3, List.length_map]
          exact ⟨_, rfl, by rw [size_app, size_app, z1, z1]; omega, by rw [size_app, size_app, z1, z1]; omega⟩
        · simp +decide (disch := first | decide | omega) only [go_sem, Nat.reduceAdd, Nat.reduceMul, Nat.reduceSub, Nat.reduceLT, Nat.reduceLeDiff, Nat.reduceEqDiff, Nat.add_assoc, Int.reduceAdd, Int.reduceSub, Int.reduceMul, Int.reduceLT, Int.reduceLE, Int.reduceEq, Int.reduceNeg, strOp_add, e1, e3, e8, e9, e10, s0, hs, htk, snaps_strs, elems_strs, Nat.le_refl, hj, y0, y1, y2, y3, List.length_map]
          exact ⟨_, rfl, by rw [size_app, size_app, z1, z1]; omega, by rw [size_app, size_app, z1, z1]; omega⟩
      · rw [if_pos rfl] at hB hsum
        have hbl : ps.length * (T n + 13) ≤ 8 * (T n + 13) := Nat.mul_le_mul_right _ (by omega)
        have hj := join_eq ⟨#[44, 32]⟩ ps (by rw [z2]; omega) (by omega) (by omega)
        have y1 : ((joinB ⟨#[44, 32]⟩ ps).size ≤ 9223372036854775806) = True := eq_true (by omega)
        have y2 : (1 + (joinB ⟨#[44, 32]⟩ ps).size ≤ 9223372036854775806) = True := eq_true (by omega)
        have y0 : (1 + (joinB ⟨#[44, 32]⟩ ps).size ≤ 9223372036854775807) = True := eq_true (by omega)
        have y3 : (1 + ((joinB ⟨#[44, 32]⟩ ps).size + 1) ≤ 9223372036854775807) = True := eq_true (by omega)
        have z1 : ∀ c, (⟨#[c]⟩ : ByteArray).size = 1 := fun _ => rfl
        have htk : (ps.map AV.str).take ps.length = ps.map AV.str := List.take_of_length_le (by simp)
        unfold strsA at hj
        rcases hD with ⟨hp0, e3⟩ | ⟨id, g, hlo, hid, e3, ty, hs⟩
        · subst hp0
          rw [List.map_nil] at hj
          simp +decide (disch := first | decide | omega) only [go_sem, Nat.reduceAdd, Nat.reduceMul, Nat.reduceSub, Nat.reduceLT, Nat.reduceLeDiff, Nat.reduceEqDiff, Nat.add_assoc, Int.reduceAdd, Int.reduceSub, Int.reduceMul, Int.reduceLT, Int.reduceLE, Int.reduceEq, Int.reduceNeg, strOp_add, e1, e3, e8, e9, e10, s0, hj, y0, y1, y2, y3, List.length_map]
          exact ⟨_, rfl, by rw [size_app, size_app, z1, z1]; omega, by rw [size_app, size_app, z1, z1]; omega⟩
        · simp +decide (disch := first | decide | omega) only [go_sem, Nat.reduceAdd, Nat.reduceMul, Nat.reduceSub, Nat.reduceLT, Nat.reduceLeDiff, Nat.reduceEqDiff, Nat.add_assoc, Int.reduceAdd, Int.reduceSub, Int.reduceMul, Int.reduceLT, Int.reduceLE, Int.reduceEq, Int.reduceNeg, strOp_add, e1, e3, e8, e9, e10, s0, hs, htk, snaps_strs, elems_strs, Nat.le_refl, hj, y0, y1, y2, y3, List.length_map]
          exact ⟨_, rfl, by rw [size_app, size_app, z1, z1]; omega, by rw [size_app, size_app, z1, z1]; omega⟩
    · simp +decide only [go_sem, Nat.reduceAdd, Nat.reduceMul, Nat.reduceSub, Nat.reduceLT, Nat.reduceLeDiff, Nat.reduceEqDiff, Nat.add_assoc, Int.reduceAdd, Int.reduceSub, Int.reduceMul, Int.reduceLT, Int.reduceLE, Int.reduceEq, Int.reduceNeg, strOp_add]
      exact ⟨rfl, [], rfl, .inl ⟨rfl, rfl⟩, fun p hp => by cases hp⟩
  obtain ⟨a, ha, s, rfl, h⟩ := key
  exact ⟨s, ha, h⟩
end Go.Ev.Tryd
end
section
namespace Go.Ev.Tryd
open Go.Proofs
set_option maxRecDepth 10000
set_option linter.unusedSimpArgs false
set_option linter.unusedVariables false
attribute [local congr] comes_congr bB_congr gK_congr gdK_congr

theorem steps_len {d : Dat} (hs : shaped d = true) : d.steps.length = d.list.length := by
  obtain ⟨k, n, t, l, ns⟩ := d
  rcases shaped_kind hs with ⟨rfl, hl0⟩ | ⟨rfl, hl0, hsn⟩ | ⟨rfl, hl0, ht2⟩ | ⟨rfl, hl3⟩ | ⟨rfl, hn8, hln⟩
  · simp [Dat.steps, Dat.kind, Dat.list, nums_len]
  · simp [Dat.steps, Dat.kind, Dat.list, nums_len]
  · simp [Dat.steps, Dat.kind, Dat.list, nums_len]
  · simp [Dat.steps, Dat.kind, Dat.list, nums_len]
  · simp [Dat.steps, Dat.kind, Dat.list, Dat.names, hln]
theorem firstI_cases {α : Type} (p : α → Bool) (l : List α) : firstI p l = -1 ∨ ∃ i : Nat, i < l.length ∧ firstI p l = i := by
  unfold firstI
  cases h : l.findIdx? p with
  | none => exact .inl rfl
  | some i => exact .inr ⟨i, (List.findIdx?_eq_some_iff_getElem.1 h).1, rfl⟩
/-- One step into a datum. -/
def Dat.step (d : Dat) (s : ByteArray) : Option Dat := if firstI (fun x => decide (x = s)) d.steps < 0 then none else d.list[(firstI (fun x => decide (x = s)) d.steps).toNat]?
def getP : Dat → List ByteArray → Option Dat
  | d, [] => some d
  | d, s :: p => (d.step s).bind fun x => getP x p
/-- That nothing is there. -/
def zeroD : Dat := .mk 0 0 ⟨#[]⟩ [] []
theorem zeroD_av : zeroD.av = .agg [.int .i64 0, .int .i64 0, .str ⟨#[]⟩, .slice 5 [], .slice 1 []] := Dat.av_mk _ _ _ _ _
def Good (d : Dat) : Prop := ∃ n, n ≤ 8 ∧ writ n d = true
theorem Good.shaped {d : Dat} (h : Good d) : Go.Ev.Tryd.shaped d = true := by
  obtain ⟨n, _, h⟩ := h
  cases n with
  | zero => cases h
  | succ n => simp only [writ, Bool.and_eq_true] at h; exact h.1
theorem Good.elem {d : Dat} (h : Good d) {x : Dat} (hx : x ∈ d.list) : Good x := by
  obtain ⟨n, hn, h⟩ := h
  cases n with
  | zero => cases h
  | succ n =>
    simp only [writ, Bool.and_eq_true] at h
    exact ⟨n, by omega, List.all_eq_true.1 h.2.2 x hx⟩
theorem Dat.Sane.elem {d : Dat} (h : d.Sane) {x : Dat} (hx : x ∈ d.list) : x.Sane := by
  cases h with
  | mk k nn t l ns hk hnn ht hl hns hss h => exact h x hx
def pairA (o : Option Dat) : AV := .tup [(o.getD zeroD).av, .bool o.isSome]

theorem l11Get_eq : ∀ (p : List ByteArray) (d : Dat), p.length ≤ 1099511627776 → d.Sane → Good d → fnA CC PR 35 [d.av, strsA p] = some (pairA (getP d p)) := by
  intro p
  induction p with
  | nil =>
    intro d _ hd hg
    have hc := l11Copy_eq d hd
    obtain ⟨k, n, t, l, ns⟩ := d
    rw [Dat.av_mk] at hc ⊢
    apply comes_eq.1
    refine fnA_wp (rs := [.cell 4 31, .tmp 5]) Tryd.func35 rfl rfl (Nat.le_of_ble_eq_true rfl) rfl ?_
    simp +decide only [go_sem, Nat.reduceAdd, Nat.reduceMul, Nat.reduceSub, Nat.reduceLT, Nat.reduceLeDiff, Nat.reduceEqDiff, Nat.add_assoc, Int.reduceAdd, Int.reduceSub, Int.reduceMul, Int.reduceLT, Int.reduceLE, Int.reduceEq, Int.reduceNeg, strOp_add, List.map_nil, hc]
    simp [pairA, getP, Dat.av_mk]
  | cons s p ih =>
    intro d hp hd hg
    have hst := l11Step_eq d hd hg.shaped s
    have hlen := steps_len hg.shaped
    have hdE := @Dat.Sane.elem d hd
    have hgE := @Good.elem d hg
    simp only [List.length_cons] at hp
    obtain ⟨k, n, t, l, ns⟩ := d
    have hz1 : ¬ (((p.length + 1 : Nat) : Int) = 0) := by omega
    have hz2 : (0 : Int) < ((p.length + 1 : Nat) : Int) := by omega
    have hz3 : (1 : Int) ≤ ((p.length + 1 : Nat) : Int) := by omega
    have htk : (p.map AV.str).take p.length = p.map AV.str := List.take_of_length_le (by simp)
    rw [Dat.av_mk] at hst ⊢
    apply comes_eq.1
    refine fnA_wp (rs := [.cell 4 31, .tmp 5]) Tryd.func35 rfl rfl (Nat.le_of_ble_eq_true rfl) rfl ?_
    rcases firstI_cases (fun x => decide (x = s)) (Dat.steps (.mk k n t l ns)) with hf | ⟨i, hi, hf⟩
    · rw [hf] at hst
      have hgp : getP (.mk k n t l ns) (s :: p) = none := by simp [getP, Dat.step, hf]
      rw [hgp]
      simp +decide only [go_sem, Nat.reduceAdd, Nat.reduceMul, Nat.reduceSub, Nat.reduceLT, Nat.reduceLeDiff, Nat.reduceEqDiff, Nat.add_assoc, Int.reduceAdd, Int.reduceSub, Int.reduceMul, Int.reduceLT, Int.reduceLE, Int.reduceEq, Int.reduceNeg, strOp_add, List.map_cons, hst, List.length_cons, List.length_map, hz1]
      refine (d_plan (ord := [0, 1, 2, 3, 4, 5]) (prs := [(0, 3)]) (by kernel_rfl)).2 ?_
      simp +decide only [go_sem, Nat.reduceAdd, Nat.reduceMul, Nat.reduceSub, Nat.reduceLT, Nat.reduceLeDiff, Nat.reduceEqDiff, Nat.add_assoc, Int.reduceAdd, Int.reduceSub, Int.reduceMul, Int.reduceLT, Int.reduceLE, Int.reduceEq, Int.reduceNeg, strOp_add, List.map_cons, hst, List.length_cons, List.length_map, hz1, hz2]
      simp [pairA, zeroD_av]
    · rw [hf] at hst
      rw [hlen] at hi
      have hi' : i < l.length := hi
      have hgp : getP (.mk k n t l ns) (s :: p) = getP l[i] p := by
        have : Dat.step (.mk k n t l ns) s = some l[i] := by
          simp only [Dat.step, hf, Dat.list]
          rw [if_neg (by omega), Int.toNat_natCast, List.getElem?_eq_getElem hi']
        simp [getP, this]
      have hq := ih l[i] (by omega) (hdE (List.getElem_mem hi')) (hgE (List.getElem_mem hi'))
      obtain ⟨k2, n2, t2, l2, ns2, hcs⟩ := cells_of l[i]
      have ha := av_at hi'
      obtain ⟨k3, n3, t3, l3, ns3, hcs3⟩ := cells_of ((getP l[i] p).getD zeroD)
      rw [hgp]
      unfold pairA
      unfold pairA strsA at hq
      rw [hcs] at ha hq
      rw [hcs3] at hq ⊢
      have hlo : ¬ ((i : Int) < 0) := by omega
      simp +decide only [go_sem, Nat.reduceAdd, Nat.reduceMul, Nat.reduceSub, Nat.reduceLT, Nat.reduceLeDiff, Nat.reduceEqDiff, Nat.add_assoc, Int.reduceAdd, Int.reduceSub, Int.reduceMul, Int.reduceLT, Int.reduceLE, Int.reduceEq, Int.reduceNeg, strOp_add, List.map_cons, hst, List.length_cons, List.length_map, hz1]
      refine (d_plan (ord := [0, 1, 2, 3, 4, 5]) (prs := [(0, 3)]) (by kernel_rfl)).2 ?_
      simp +decide only [go_sem, Nat.reduceAdd, Nat.reduceMul, Nat.reduceSub, Nat.reduceLT, Nat.reduceLeDiff, Nat.reduceEqDiff, Nat.add_assoc, Int.reduceAdd, Int.reduceSub, Int.reduceMul, Int.reduceLT, Int.reduceLE, Int.reduceEq, Int.reduceNeg, strOp_add, List.map_cons, hst, List.length_cons, List.length_map, hz1, hz2, hlo]
      refine (d_plan (ord := [0, 1, 2, 3, 4, 5, 6, 7, 8, 9, 10, 11]) (prs := []) (by kernel_rfl)).2 ?_
      simp +decide only [go_sem, Nat.reduceAdd, Nat.reduceMul, Nat.reduceSub, Nat.reduceLT, Nat.reduceLeDiff, Nat.reduceEqDiff, Nat.add_assoc, Int.reduceAdd, Int.reduceSub, Int.reduceMul, Int.reduceLT, Int.reduceLE, Int.reduceEq, Int.reduceNeg, strOp_add, List.map_cons, hst, List.length_cons, List.length_map, hz1, hz2, hz3, hlo, hi', ha, hq, htk, Nat.min_self, List.take_succ_cons, List.drop_succ_cons, List.drop_zero]
end Go.Ev.Tryd
end
