/- Part of the proof of a statement about the given program: V2F. No condition of its own. -/
import Derived.Test.YtjjebjackjeneaaDoorV1F
namespace Go.Ev.Tryd
open Go.Proofs
set_option maxRecDepth 10000
set_option linter.unusedSimpArgs false
set_option linter.unusedVariables false
attribute [local congr] comes_congr bB_congr gK_congr gdK_congr

theorem figs_of : ∀ (n k : Nat), k < 10 ^ n → ∃ N, N ≤ n ∧ k / 10 ^ N = 0 ∧ ∀ j, j < N → 0 < k / 10 ^ j
  | 0, k, h => ⟨0, Nat.le_refl _, by simp at h; subst h; rfl, fun j hj => by omega⟩
  | n + 1, k, h => by
    by_cases h0 : k = 0
    · exact ⟨0, Nat.zero_le _, by subst h0; rfl, fun j hj => by omega⟩
    · obtain ⟨N, h1, h2, h3⟩ := figs_of n (k / 10) (by rw [Nat.pow_succ] at h; omega)
      refine ⟨N + 1, by omega, ?_, fun j hj => ?_⟩
      · rw [Nat.pow_succ, Nat.mul_comm, ← Nat.div_div_eq_div_mul]
        exact h2
      · cases j with
        | zero => rw [Nat.pow_zero, Nat.div_one]; omega
        | succ j =>
          have := h3 j (by omega)
          rwa [Nat.pow_succ, Nat.mul_comm, ← Nat.div_div_eq_div_mul]
set_option maxHeartbeats 1000000 in
theorem markText_ok (k : Nat) (hk : k ≤ 4611686018427387904) (h1 : 1 ≤ k) : ∃ s, fnA CC PR 38 [.int .i64 k] = some (.str s) ∧ s.size ≤ 100 := by
  obtain ⟨N, hN, hN0, hNp⟩ := figs_of 20 k (Nat.lt_of_le_of_lt hk (by decide))
  have key : Comes (fnA CC PR 38 [.int .i64 k]) (fun b => ∃ s, b = .str s ∧ s.size ≤ 100) := by
    refine fnA_wp (rs := [.tmp 2]) Tryd.func38 rfl rfl (Nat.le_of_ble_eq_true rfl) rfl ?_
    have l0 : ((k : Int) ≤ 0) = False := eq_false (by omega)
    simp +decide only [go_sem, Nat.reduceAdd, Nat.reduceMul, Nat.reduceSub, Nat.reduceLT, Nat.reduceLeDiff, Nat.reduceEqDiff, Nat.add_assoc, Int.reduceAdd, Int.reduceSub, Int.reduceMul, Int.reduceLT, Int.reduceLE, Int.reduceEq, Int.reduceNeg, strOp_add, l0]
    refine comes_upto N (fun i st => st.env 0 = .int .i64 ((k / 10 ^ i : Nat) : Int) ∧ ∃ s, st.env 3 = .str s ∧ s.size = i) ?_ ?_ _ ?_
    · rintro i st hi ⟨e0, s, e3, hs⟩
      have hp := hNp i hi
      have hdd : k / 10 ^ (i + 1) = k / 10 ^ i / 10 := by rw [Nat.pow_succ, ← Nat.div_div_eq_div_mul]
      have hle : k / 10 ^ i ≤ k := Nat.div_le_self _ _
      rw [hdd]
      generalize k / 10 ^ i = c at *
      have l1 : ((0 : Int) < (c : Int)) = True := eq_true (by omega)
      have m1 : ((c : Int).tmod 10) = ((c % 10 : Nat) : Int) := rfl
      have m2 : IntKind.wrap .i64 ((c % 10 : Nat) : Int) = ((c % 10 : Nat) : Int) := wrap_id (by omega) (by omega)
      have m3 : IntKind.wrap .i64 (48 + ((c % 10 : Nat) : Int)) = ((48 + c % 10 : Nat) : Int) := by rw [wrap_id (by omega) (by omega)]; omega
      have m4 : IntKind.wrap .u8 ((48 + c % 10 : Nat) : Int) = ((48 + c % 10 : Nat) : Int) := wrap_u8 (by omega) (by omega)
      have m5 : ((c : Int).tdiv 10) = ((c / 10 : Nat) : Int) := rfl
      have m6 : IntKind.wrap .i64 ((c / 10 : Nat) : Int) = ((c / 10 : Nat) : Int) := wrap_id (by omega) (by omega)
      have m7 : 1 + s.size ≤ 9223372036854775807 := by omega
      have m8 : (1 : Int) + (s.size : Int) ≤ 9223372036854775807 := by omega
      simp +decide only [go_sem, Nat.reduceAdd, Nat.reduceMul, Nat.reduceSub, Nat.reduceLT, Nat.reduceLeDiff, Nat.reduceEqDiff, Nat.add_assoc, Int.reduceAdd, Int.reduceSub, Int.reduceMul, Int.reduceLT, Int.reduceLE, Int.reduceEq, Int.reduceNeg, strOp_add, e0, e3, l1, m1, m2, m3, m4, m5, m6, m7]
      exact ⟨_, rfl, by rw [size_app, hs]; show 1 + i = _; omega⟩
    · rintro st ⟨e0, s, e3, hs⟩
      rw [hN0] at e0
      have m7 : 1 + s.size ≤ 9223372036854775807 := by omega
      simp +decide only [go_sem, Nat.reduceAdd, Nat.reduceMul, Nat.reduceSub, Nat.reduceLT, Nat.reduceLeDiff, Nat.reduceEqDiff, Nat.add_assoc, Int.reduceAdd, Int.reduceSub, Int.reduceMul, Int.reduceLT, Int.reduceLE, Int.reduceEq, Int.reduceNeg, strOp_add, e0, e3, m7]
      exact ⟨_, rfl, by rw [size_app, hs]; show 1 + N ≤ _; omega⟩
    · simp +decide only [go_sem, Nat.reduceAdd, Nat.reduceMul, Nat.reduceSub, Nat.reduceLT, Nat.reduceLeDiff, Nat.reduceEqDiff, Nat.add_assoc, Int.reduceAdd, Int.reduceSub, Int.reduceMul, Int.reduceLT, Int.reduceLE, Int.reduceEq, Int.reduceNeg, strOp_add]
      refine ⟨?_, _, rfl, rfl⟩
      rw [Nat.pow_zero, Nat.div_one]
  obtain ⟨a, ha, s, rfl, h⟩ := key
  exact ⟨s, ha, h⟩
/-- The mark of a number. -/
noncomputable def mt (k : Nat) : ByteArray := match fnA CC PR 38 [.int .i64 k] with
  | some (.str s) => s
  | _ => ⟨#[]⟩
theorem mt_eq {k : Nat} (hk : k ≤ 4611686018427387904) (h1 : 1 ≤ k) : fnA CC PR 38 [.int .i64 k] = some (.str (mt k)) ∧ (mt k).size ≤ 100 := by
  obtain ⟨s, hs, hz⟩ := markText_ok k hk h1
  have : mt k = s := by unfold mt; rw [hs]
  rw [this]
  exact ⟨hs, hz⟩
/-! ### marked data -/
noncomputable def mkS (k : Nat) : List ByteArray → List ByteArray
  | [] => []
  | _ :: l => mt k :: mkS (k + 1) l
mutual
def cnt : Dat → Nat
  | .mk _ _ _ l ns => 3 + cntL l + ns.length
def cntL : List Dat → Nat
  | [] => 0
  | d :: l => cnt d + cntL l
end
mutual
noncomputable def mkE (k : Nat) : Dat → Dat
  | .mk _ _ _ l ns => .mk k ((k + 1 : Nat) : Int) (mt (k + 2)) (mkL (k + 3) l) (mkS (k + 3 + cntL l) ns)
noncomputable def mkL (k : Nat) : List Dat → List Dat
  | [] => []
  | d :: l => mkE k d :: mkL (k + cnt d) l
end
/-- Data whose parts and names are marked. -/
noncomputable def mkD (k : Nat) : Dat → Dat
  | .mk kd n t l ns => .mk kd n t (mkL k l) (mkS (k + cntL l) ns)
theorem mkS_len : ∀ (k : Nat) (l : List ByteArray), (mkS k l).length = l.length
  | k, [] => by rw [mkS]
  | k, x :: l => by rw [mkS, List.length_cons, List.length_cons, mkS_len (k + 1) l]
theorem mkL_len : ∀ (k : Nat) (l : List Dat), (mkL k l).length = l.length
  | k, [] => by rw [mkL]
  | k, x :: l => by rw [mkL, List.length_cons, List.length_cons, mkL_len (k + cnt x) l]
theorem mkS_app : ∀ (a : List ByteArray) (k : Nat) (b : List ByteArray), mkS k (a ++ b) = mkS k a ++ mkS (k + a.length) b
  | [], k, b => by rw [mkS]; rfl
  | x :: a, k, b => by rw [List.cons_append, mkS, mkS_app a, mkS, List.length_cons]; simp only [List.cons_append]; rw [show k + 1 + a.length = k + (a.length + 1) by omega]
theorem cntL_nil : cntL [] = 0 := by rw [cntL]
theorem cntL_cons (d : Dat) (l : List Dat) : cntL (d :: l) = cnt d + cntL l := by rw [cntL]
theorem cntL_app : ∀ (a b : List Dat), cntL (a ++ b) = cntL a + cntL b
  | [], b => by rw [cntL_nil]; simp
  | x :: a, b => by rw [List.cons_append, cntL_cons, cntL_cons, cntL_app a b]; omega
theorem mkL_app : ∀ (a : List Dat) (k : Nat) (b : List Dat), mkL k (a ++ b) = mkL k a ++ mkL (k + cntL a) b
  | [], k, b => by rw [mkL, cntL_nil]; rfl
  | x :: a, k, b => by rw [List.cons_append, mkL, mkL_app a, mkL, cntL_cons]; simp only [List.cons_append]; rw [show k + cnt x + cntL a = k + (cnt x + cntL a) by omega]
theorem cntL_take {l : List Dat} {i : Nat} (hi : i < l.length) : cntL (l.take (i + 1)) = cntL (l.take i) + cnt l[i] := by
  rw [List.take_succ_eq_append_getElem hi, cntL_app, cntL_cons, cntL_nil]
  rfl
theorem cntL_le (l : List Dat) (i : Nat) : cntL (l.take i) ≤ cntL l := by
  have := cntL_app (l.take i) (l.drop i)
  rw [List.take_append_drop] at this
  omega
theorem mkS_take {l : List ByteArray} {i : Nat} (hi : i < l.length) (k : Nat) : mkS k (l.take (i + 1)) = mkS k (l.take i) ++ [mt (k + i)] := by
  rw [List.take_succ_eq_append_getElem hi, mkS_app, List.length_take, Nat.min_eq_left (by omega)]
  rw [mkS, mkS]
theorem mkL_take {l : List Dat} {i : Nat} (hi : i < l.length) (k : Nat) : mkL k (l.take (i + 1)) = mkL k (l.take i) ++ [mkE (k + cntL (l.take i)) l[i]] := by
  rw [List.take_succ_eq_append_getElem hi, mkL_app]
  congr 1
theorem mkE_mk (k : Nat) (a b : Int) (t : ByteArray) (l : List Dat) (ns : List ByteArray) : mkE k (.mk a b t l ns) = .mk k ((k + 1 : Nat) : Int) (mt (k + 2)) (mkL (k + 3) l) (mkS (k + 3 + cntL l) ns) := by rw [mkE]
theorem cnt_mk (a b : Int) (t : ByteArray) (l : List Dat) (ns : List ByteArray) : cnt (.mk a b t l ns) = 3 + cntL l + ns.length := by rw [cnt]
/-- No more marks than thrice the size. -/
theorem cnt_le : ∀ (d : Dat), cnt d ≤ 3 + 3 * szD d := by
  intro d
  induction d using Dat.ind with
  | h k n t l ns ih =>
  rw [cnt_mk, szD_mk]
  have key : ∀ l : List Dat, (∀ x ∈ l, cnt x ≤ 3 + 3 * szD x) → cntL l ≤ 3 * (l.length + szL l) := by
    intro l
    induction l with
    | nil => intro _; rw [cntL_nil]; omega
    | cons x l ih2 =>
      intro h
      have h1 := h x (by simp)
      have h2 := ih2 fun y hy => h y (by simp [hy])
      rw [cntL_cons, szL_cons, List.length_cons]
      omega
  have := key l ih
  omega
theorem cntL_few (l : List Dat) : cntL l ≤ 3 * (l.length + szL l) := by
  induction l with
  | nil => rw [cntL_nil]; omega
  | cons x l ih => have := cnt_le x; rw [cntL_cons, szL_cons, List.length_cons]; omega
theorem mkS_at {k : Nat} {l : List ByteArray} {i : Nat} (hi : i < l.length) (h : i < (mkS k l).length) : (mkS k l)[i] = mt (k + i) := by
  induction l generalizing k i with
  | nil => cases hi
  | cons x l ih =>
    cases i with
    | zero => simp only [mkS, List.getElem_cons_zero]; rfl
    | succ i =>
      simp only [mkS, List.getElem_cons_succ]
      rw [ih (by simpa using hi)]
      congr 1
      omega
theorem mkL_at {k : Nat} {l : List Dat} {i : Nat} (hi : i < l.length) (h : i < (mkL k l).length) : (mkL k l)[i] = mkE (k + cntL (l.take i)) l[i] := by
  induction l generalizing k i with
  | nil => cases hi
  | cons x l ih =>
    cases i with
    | zero => simp only [mkL, List.getElem_cons_zero, List.take_zero, cntL_nil]; rfl
    | succ i =>
      simp only [mkL, List.getElem_cons_succ, List.take_succ_cons, cntL_cons]
      rw [ih (by simpa using hi)]
      congr 1
      omega
/-! ### held, by value -/
theorem heldStrings_eq (ns : List ByteArray) (k : Nat) (h1 : 1 ≤ k) (hk : k + ns.length ≤ 4611686018427387904) : fnA CC PR 32 [.slice 1 ((mkS k ns).map AV.str), .int .i64 k] = some (.int .i64 ((k + ns.length : Nat) : Int)) := by
  apply comes_eq.1
  refine fnA_wp (rs := [.tmp 4]) Tryd.func32 rfl rfl (Nat.le_of_ble_eq_true rfl) rfl ?_
  have hlen := mkS_len k ns
  have hat := @mkS_at k ns
  generalize mkS k ns = M at *
  simp +decide only [go_sem, Nat.reduceAdd, Nat.reduceMul, Nat.reduceSub, Nat.reduceLT, Nat.reduceLeDiff, Nat.reduceEqDiff, Nat.add_assoc, Int.reduceAdd, Int.reduceSub, Int.reduceMul, Int.reduceLT, Int.reduceLE, Int.reduceEq, Int.reduceNeg, strOp_add, List.length_map]
  refine comes_upto ns.length (fun i st => st.env 0 = .slice 1 (M.map AV.str) ∧ st.env 1 = .int .i64 ((k + i : Nat) : Int) ∧ st.env 5 = .int .i64 i) ?_ ?_ _ ?_
  · rintro i st hi ⟨e0, e1, e5⟩
    have hi' : i < M.length := by omega
    have ha := strs_at hi'
    rw [hat hi hi'] at ha
    have hq := (mt_eq (k := k + i) (by omega) (by omega)).1
    generalize mt (k + i) = x at *
    have w1 : IntKind.wrap .i64 ((i : Int) + 1) = ((i + 1 : Nat) : Int) := wrap_succ (by omega)
    have w2 : IntKind.wrap .i64 (((k + i : Nat) : Int) + 1) = ((k + (i + 1) : Nat) : Int) := by rw [wrap_id (by omega) (by omega)]; omega
    have l1 : ((i : Int) < (M.length : Int)) = True := eq_true (by omega)
    simp +decide only [go_sem, Nat.reduceAdd, Nat.reduceMul, Nat.reduceSub, Nat.reduceLT, Nat.reduceLeDiff, Nat.reduceEqDiff, Nat.add_assoc, Int.reduceAdd, Int.reduceSub, Int.reduceMul, Int.reduceLT, Int.reduceLE, Int.reduceEq, Int.reduceNeg, strOp_add, e0, e1, e5, l1, hi', List.length_map, ha, hq, w1, w2]
    refine (d_plan (ord := [0, 1, 2, 3, 4, 5, 6]) (prs := [(3, 5)]) (by kernel_rfl)).2 ?_
    simp +decide only [go_sem, Nat.reduceAdd, Nat.reduceMul, Nat.reduceSub, Nat.reduceLT, Nat.reduceLeDiff, Nat.reduceEqDiff, Nat.add_assoc, Int.reduceAdd, Int.reduceSub, Int.reduceMul, Int.reduceLT, Int.reduceLE, Int.reduceEq, Int.reduceNeg, strOp_add, e0, e1, e5, l1, hi', List.length_map, ha, hq, w1, w2]
  · rintro st ⟨e0, e1, e5⟩
    have l1 : ((ns.length : Int) < (M.length : Int)) = False := eq_false (by omega)
    simp +decide only [go_sem, Nat.reduceAdd, Nat.reduceMul, Nat.reduceSub, Nat.reduceLT, Nat.reduceLeDiff, Nat.reduceEqDiff, Nat.add_assoc, Int.reduceAdd, Int.reduceSub, Int.reduceMul, Int.reduceLT, Int.reduceLE, Int.reduceEq, Int.reduceNeg, strOp_add, e0, e1, e5, l1, List.length_map]
  · simp +decide only [go_sem, Nat.reduceAdd, Nat.reduceMul, Nat.reduceSub, Nat.reduceLT, Nat.reduceLeDiff, Nat.reduceEqDiff, Nat.add_assoc, Int.reduceAdd, Int.reduceSub, Int.reduceMul, Int.reduceLT, Int.reduceLE, Int.reduceEq, Int.reduceNeg, strOp_add]
    rfl

set_option maxHeartbeats 1000000 in
theorem heldDatums_eq (l : List Dat) (hl : l.length ≤ 1099511627776) (ih : ∀ x ∈ l, ∀ k : Nat, 1 ≤ k → k + cntL x.list ≤ 4611686018427387904 → fnA CC PR 39 [.slice 5 ((mkL k x.list).map Dat.av), .int .i64 k] = some (.int .i64 ((k + cntL x.list : Nat) : Int))) (k : Nat) (h1 : 1 ≤ k) (hk : k + cntL l ≤ 4611686018427387904) :
    fnA CC PR 39 [.slice 5 ((mkL k l).map Dat.av), .int .i64 k] = some (.int .i64 ((k + cntL l : Nat) : Int)) := by
  apply comes_eq.1
  refine fnA_wp (rs := [.tmp 4]) Tryd.func39 rfl rfl (Nat.le_of_ble_eq_true rfl) rfl ?_
  have hlen := mkL_len k l
  have hat := @mkL_at k l
  generalize mkL k l = M at *
  simp +decide only [go_sem, Nat.reduceAdd, Nat.reduceMul, Nat.reduceSub, Nat.reduceLT, Nat.reduceLeDiff, Nat.reduceEqDiff, Nat.add_assoc, Int.reduceAdd, Int.reduceSub, Int.reduceMul, Int.reduceLT, Int.reduceLE, Int.reduceEq, Int.reduceNeg, strOp_add, List.length_map]
  refine comes_upto l.length (fun i st => st.env 0 = .slice 5 (M.map Dat.av) ∧ st.env 1 = .int .i64 ((k + cntL (l.take i) : Nat) : Int) ∧ st.env 5 = .int .i64 i) ?_ ?_ _ ?_
  · rintro i st hi ⟨e0, e1, e5⟩
    have hi' : i < M.length := by omega
    have ha := av_at hi'
    rw [hat hi hi'] at ha
    have hz := cntL_take hi
    have hz2 := cntL_le l (i + 1)
    have hih := ih _ (List.getElem_mem hi)
    rw [hz] at hz2 ⊢
    generalize cntL (l.take i) = c at *
    generalize l[i] = d at *
    obtain ⟨dk, dn, dt, dl, dns⟩ := d
    rw [cnt_mk] at hz2 ⊢
    rw [mkE_mk, Dat.av_mk] at ha
    have hih : ∀ k : Nat, 1 ≤ k → k + cntL dl ≤ _ → _ := hih
    have hq := (mt_eq (k := k + c + 2) (by omega) (by omega)).1
    have hq2 := hih (k + c + 3) (by omega) (by omega)
    have hq3 := heldStrings_eq dns (k + c + 3 + cntL dl) (by omega) (by omega)
    simp only [Dat.list] at hq2
    generalize mt (k + c + 2) = x at *
    generalize (mkL (k + c + 3) dl).map Dat.av = y at *
    generalize (mkS (k + c + 3 + cntL dl) dns).map AV.str = z at *
    have w1 : IntKind.wrap .i64 ((i : Int) + 1) = ((i + 1 : Nat) : Int) := wrap_succ (by omega)
    have w2 : IntKind.wrap .i64 (((k + c : Nat) : Int) + 1) = ((k + c + 1 : Nat) : Int) := by rw [wrap_id (by omega) (by omega)]; omega
    have w3 : IntKind.wrap .i64 (((k + c + 1 : Nat) : Int) + 1) = ((k + c + 2 : Nat) : Int) := by rw [wrap_id (by omega) (by omega)]; omega
    have w4 : IntKind.wrap .i64 (((k + c + 2 : Nat) : Int) + 1) = ((k + c + 3 : Nat) : Int) := by rw [wrap_id (by omega) (by omega)]; omega
    have l1 : ((i : Int) < (M.length : Int)) = True := eq_true (by omega)
    obtain ⟨k0, hk0⟩ : ∃ k0, k0 = k + c := ⟨_, rfl⟩
    obtain ⟨k1, hk1⟩ : ∃ k0, k0 = k + c + 1 := ⟨_, rfl⟩
    obtain ⟨k2, hk2⟩ : ∃ k0, k0 = k + c + 2 := ⟨_, rfl⟩
    obtain ⟨k3, hk3⟩ : ∃ k0, k0 = k + c + 3 := ⟨_, rfl⟩
    obtain ⟨k4, hk4⟩ : ∃ k0, k0 = k + c + 3 + cntL dl := ⟨_, rfl⟩
    obtain ⟨k5, hk5⟩ : ∃ k0, k0 = k + c + 3 + cntL dl + dns.length := ⟨_, rfl⟩
    rw [← hk5, ← hk4] at hq3
    rw [← hk4, ← hk3] at hq2
    rw [← hk2] at hq
    rw [← hk2, ← hk3] at w4
    rw [← hk1, ← hk2] at w3
    rw [← hk1, ← hk0] at w2
    rw [← hk1, ← hk0] at ha
    rw [← hk0] at e1
    rw [show k + (c + (3 + cntL dl + dns.length)) = k5 by omega]
    have n4 : ((k4 : Int) < 0) = False := eq_false (by omega)
    have n5 : ((k5 : Int) < 0) = False := eq_false (by omega)
    clear hk0 hk1 hk2 hk3 hk4 hk5
    simp +decide only [go_sem, Nat.reduceAdd, Nat.reduceMul, Nat.reduceSub, Nat.reduceLT, Nat.reduceLeDiff, Nat.reduceEqDiff, Nat.add_assoc, Int.reduceAdd, Int.reduceSub, Int.reduceMul, Int.reduceLT, Int.reduceLE, Int.reduceEq, Int.reduceNeg, strOp_add, e0, e1, e5, l1, hi', List.length_map, ha, hq, hq2, hq3, w1, w2, w3, w4, n4, n5]
    refine (d_plan (ord := [0, 1, 2, 3, 4, 5, 6, 7]) (prs := [(4, 6)]) (by kernel_rfl)).2 ?_
    simp +decide only [go_sem, Nat.reduceAdd, Nat.reduceMul, Nat.reduceSub, Nat.reduceLT, Nat.reduceLeDiff, Nat.reduceEqDiff, Nat.add_assoc, Int.reduceAdd, Int.reduceSub, Int.reduceMul, Int.reduceLT, Int.reduceLE, Int.reduceEq, Int.reduceNeg, strOp_add, e0, e1, e5, l1, hi', List.length_map, ha, hq, hq2, hq3, w1, w2, w3, w4, n4, n5]
  · rintro st ⟨e0, e1, e5⟩
    rw [List.take_length] at e1
    have l1 : ((l.length : Int) < (M.length : Int)) = False := eq_false (by omega)
    simp +decide only [go_sem, Nat.reduceAdd, Nat.reduceMul, Nat.reduceSub, Nat.reduceLT, Nat.reduceLeDiff, Nat.reduceEqDiff, Nat.add_assoc, Int.reduceAdd, Int.reduceSub, Int.reduceMul, Int.reduceLT, Int.reduceLE, Int.reduceEq, Int.reduceNeg, strOp_add, e0, e1, e5, l1, List.length_map]
  · simp +decide only [go_sem, Nat.reduceAdd, Nat.reduceMul, Nat.reduceSub, Nat.reduceLT, Nat.reduceLeDiff, Nat.reduceEqDiff, Nat.add_assoc, Int.reduceAdd, Int.reduceSub, Int.reduceMul, Int.reduceLT, Int.reduceLE, Int.reduceEq, Int.reduceNeg, strOp_add]
    rw [cntL_nil]
    exact ⟨rfl, rfl⟩
theorem heldL_eq : ∀ (d : Dat), d.Sane → ∀ k : Nat, 1 ≤ k → k + cntL d.list ≤ 4611686018427387904 → fnA CC PR 39 [.slice 5 ((mkL k d.list).map Dat.av), .int .i64 k] = some (.int .i64 ((k + cntL d.list : Nat) : Int)) := by
  intro d
  induction d using Dat.ind with
  | h k n t l ns ih =>
  intro hd
  cases hd with
  | mk _ _ _ _ _ hk hn ht hl hns hss h =>
  exact heldDatums_eq l hl fun x hx => ih x hx (h x hx)
theorem heldDatum_eq (d : Dat) (hd : d.Sane) (k : Nat) (h1 : 1 ≤ k) (hk : k + cnt d ≤ 4611686018427387904) : fnA CC PR 23 [(mkD k d).av, .int .i64 k] = some (.int .i64 ((k + (cntL d.list + d.names.length) : Nat) : Int)) := by
  have hq := heldL_eq d hd k h1
  obtain ⟨dk, dn, dt, dl, dns⟩ := d
  rw [cnt_mk] at hk
  simp only [Dat.list] at hq
  have hq := hq (by omega)
  have hq2 := heldStrings_eq dns (k + cntL dl) (by omega) (by omega)
  simp only [mkD, Dat.list, Dat.names]
  rw [Dat.av_mk]
  apply comes_eq.1
  refine fnA_wp (rs := [.tmp 4]) Tryd.func23 rfl rfl (Nat.le_of_ble_eq_true rfl) rfl ?_
  rw [show k + (cntL dl + dns.length) = k + cntL dl + dns.length by omega]
  have n4 : (((k + cntL dl : Nat) : Int) < 0) = False := eq_false (by omega)
  have n5 : (((k + cntL dl + dns.length : Nat) : Int) < 0) = False := eq_false (by omega)
  clear hk
  generalize k + cntL dl + dns.length = k5 at *
  generalize k + cntL dl = k4 at *
  simp +decide only [go_sem, Nat.reduceAdd, Nat.reduceMul, Nat.reduceSub, Nat.reduceLT, Nat.reduceLeDiff, Nat.reduceEqDiff, Nat.add_assoc, Int.reduceAdd, Int.reduceSub, Int.reduceMul, Int.reduceLT, Int.reduceLE, Int.reduceEq, Int.reduceNeg, strOp_add, hq, hq2, n4, n5]
end Go.Ev.Tryd
