/- Part of the proof of a statement about the given program: Y5I. No condition of its own. -/
import Derived.Test.YthlmbapkgblnkaaDoorY4I
namespace Go.Ev.Tryd
open Go.Proofs
set_option maxRecDepth 10000
set_option linter.unusedSimpArgs false
set_option linter.unusedVariables false
attribute [local congr] comes_congr bB_congr gK_congr gdK_congr

theorem size_app (a b : ByteArray) : (a ++ b).size = a.size + b.size := by simp
theorem figs_of : ∀ (n k : Nat), k < 10 ^ n → ∃ N, N ≤ n ∧ k / 10 ^ N = 0 ∧ ∀ j, j < N → 0 < k / 10 ^ j
  | 0, k, h => ⟨0, Nat.le_refl _, by simp at h; subst h; rfl, fun j hj => by omega⟩
  | n + 1, k, h => by
    by_cases h0 : k = 0
    · exact ⟨0, Nat.zero_le _, by subst h0; rfl, fun j hj => by omega⟩
    · obtain ⟨N, h1, h2, h3⟩ := figs_of n (k / 10) (by rw [Nat.pow_succ] at h; omega)
      refine ⟨N + 1, by omega, ?_, fun j hj => ?_⟩
      · rw [Nat.pow_succ, Nat.mul_comm, ← Nat.div_div_eq_div_mul]
        exact h2
      · cases j with
        | zero => rw [Nat.pow_zero, Nat.div_one]; omega
        | succ j =>
          have := h3 j (by omega)
          rwa [Nat.pow_succ, Nat.mul_comm, ← Nat.div_div_eq_div_mul]
set_option maxHeartbeats 1000000 in
theorem markText_ok (k : Nat) (hk : k ≤ 4611686018427387904) (h1 : 1 ≤ k) : ∃ s, fnA CC PR 57 [.int .i64 k] = some (.str s) ∧ s.size ≤ 100 := by
  obtain ⟨N, hN, hN0, hNp⟩ := figs_of 20 k (Nat.lt_of_le_of_lt hk (by decide))
  have key : Comes (fnA CC PR 57 [.int .i64 k]) (fun b => ∃ s, b = .str s ∧ s.size ≤ 100) := by
    refine fnA_wp (rs := [.tmp 2]) Tryd.func57 rfl rfl (Nat.le_of_ble_eq_true rfl) rfl ?_
    have l0 : ((k : Int) ≤ 0) = False := eq_false (by omega)
    simp +decide only [go_sem, Nat.reduceAdd, Nat.reduceMul, Nat.reduceSub, Nat.reduceLT, Nat.reduceLeDiff, Nat.reduceEqDiff, Nat.add_assoc, Int.reduceAdd, Int.reduceSub, Int.reduceMul, Int.reduceLT, Int.reduceLE, Int.reduceEq, Int.reduceNeg, strOp_add, l0]
    refine comes_upto N (fun i st => st.env 0 = .int .i64 ((k / 10 ^ i : Nat) : Int) ∧ ∃ s, st.env 3 = .str s ∧ s.size = i) ?_ ?_ _ ?_
    · rintro i st hi ⟨e0, s, e3, hs⟩
      have hp := hNp i hi
      have hdd : k / 10 ^ (i + 1) = k / 10 ^ i / 10 := by rw [Nat.pow_succ, ← Nat.div_div_eq_div_mul]
      have hle : k / 10 ^ i ≤ k := Nat.div_le_self _ _
      rw [hdd]
      generalize k / 10 ^ i = c at *
      have l1 : ((0 : Int) < (c : Int)) = True := eq_true (by omega)
      have m1 : ((c : Int).tmod 10) = ((c % 10 : Nat) : Int) := rfl
      have m2 : IntKind.wrap .i64 ((c % 10 : Nat) : Int) = ((c % 10 : Nat) : Int) := wrap_id (by omega) (by omega)
      have m3 : IntKind.wrap .i64 (48 + ((c % 10 : Nat) : Int)) = ((48 + c % 10 : Nat) : Int) := by rw [wrap_id (by omega) (by omega)]; omega
      have m4 : IntKind.wrap .u8 ((48 + c % 10 : Nat) : Int) = ((48 + c % 10 : Nat) : Int) := wrap_u8 (by omega) (by omega)
      have m5 : ((c : Int).tdiv 10) = ((c / 10 : Nat) : Int) := rfl
      have m6 : IntKind.wrap .i64 ((c / 10 : Nat) : Int) = ((c / 10 : Nat) : Int) := wrap_id (by omega) (by omega)
      have m7 : 1 + s.size ≤ 9223372036854775807 := by omega
      have m8 : (1 : Int) + (s.size : Int) ≤ 9223372036854775807 := by omega
      simp +decide only [go_sem, Nat.reduceAdd, Nat.reduceMul, Nat.reduceSub, Nat.reduceLT, Nat.reduceLeDiff, Nat.reduceEqDiff, Nat.add_assoc, Int.reduceAdd, Int.reduceSub, Int.reduceMul, Int.reduceLT, Int.reduceLE, Int.reduceEq, Int.reduceNeg, strOp_add, e0, e3, l1, m1, m2, m3, m4, m5, m6, m7]
      exact ⟨_, rfl, by rw [size_app, hs]; show 1 + i = _; omega⟩
    · rintro st ⟨e0, s, e3, hs⟩
      rw [hN0] at e0
      have m7 : 1 + s.size ≤ 9223372036854775807 := by omega
      simp +decide only [go_sem, Nat.reduceAdd, Nat.reduceMul, Nat.reduceSub, Nat.reduceLT, Nat.reduceLeDiff, Nat.reduceEqDiff, Nat.add_assoc, Int.reduceAdd, Int.reduceSub, Int.reduceMul, Int.reduceLT, Int.reduceLE, Int.reduceEq, Int.reduceNeg, strOp_add, e0, e3, m7]
      exact ⟨_, rfl, by rw [size_app, hs]; show 1 + N ≤ _; omega⟩
    · simp +decide only [go_sem, Nat.reduceAdd, Nat.reduceMul, Nat.reduceSub, Nat.reduceLT, Nat.reduceLeDiff, Nat.reduceEqDiff, Nat.add_assoc, Int.reduceAdd, Int.reduceSub, Int.reduceMul, Int.reduceLT, Int.reduceLE, Int.reduceEq, Int.reduceNeg, strOp_add]
      refine ⟨?_, _, rfl, rfl⟩
      rw [Nat.pow_zero, Nat.div_one]
  obtain ⟨a, ha, s, rfl, h⟩ := key
  exact ⟨s, ha, h⟩
/-- The mark of a number. -/
noncomputable def mt (k : Nat) : ByteArray := match fnA CC PR 57 [.int .i64 k] with
  | some (.str s) => s
  | _ => ⟨#[]⟩
theorem mt_eq {k : Nat} (hk : k ≤ 4611686018427387904) (h1 : 1 ≤ k) : fnA CC PR 57 [.int .i64 k] = some (.str (mt k)) ∧ (mt k).size ≤ 100 := by
  obtain ⟨s, hs, hz⟩ := markText_ok k hk h1
  have : mt k = s := by unfold mt; rw [hs]
  rw [this]
  exact ⟨hs, hz⟩
/-! ### marked nodes -/
mutual
def cnt : Nod → Nat
  | .mk _ _ p _ _ i => 4 + cntL p + cntL i
def cntL : List Nod → Nat
  | [] => 0
  | d :: l => cnt d + cntL l
end
mutual
noncomputable def mkE (k : Nat) : Nod → Nod
  | .mk _ _ p _ _ i => .mk k (mt (k + 1)) (mkL (k + 2) p) ((k + 2 + cntL p : Nat) : Int) ((k + 3 + cntL p : Nat) : Int) (mkL (k + 4 + cntL p) i)
noncomputable def mkL (k : Nat) : List Nod → List Nod
  | [] => []
  | d :: l => mkE k d :: mkL (k + cnt d) l
end
/-- A node whose parts are marked. -/
noncomputable def mkN (k : Nat) : Nod → Nod
  | .mk kd d p s c i => .mk kd d (mkL k p) s c (mkL (k + cntL p) i)
theorem mkL_len : ∀ (k : Nat) (l : List Nod), (mkL k l).length = l.length
  | k, [] => by rw [mkL]
  | k, x :: l => by rw [mkL, List.length_cons, List.length_cons, mkL_len (k + cnt x) l]
theorem cntL_nil : cntL [] = 0 := by rw [cntL]
theorem cntL_cons (d : Nod) (l : List Nod) : cntL (d :: l) = cnt d + cntL l := by rw [cntL]
theorem cntL_app : ∀ (a b : List Nod), cntL (a ++ b) = cntL a + cntL b
  | [], b => by rw [cntL_nil]; simp
  | x :: a, b => by rw [List.cons_append, cntL_cons, cntL_cons, cntL_app a b]; omega
theorem mkL_app : ∀ (a : List Nod) (k : Nat) (b : List Nod), mkL k (a ++ b) = mkL k a ++ mkL (k + cntL a) b
  | [], k, b => by rw [mkL, cntL_nil]; rfl
  | x :: a, k, b => by rw [List.cons_append, mkL, mkL_app a, mkL, cntL_cons]; simp only [List.cons_append]; rw [show k + cnt x + cntL a = k + (cnt x + cntL a) by omega]
theorem cntL_take {l : List Nod} {i : Nat} (hi : i < l.length) : cntL (l.take (i + 1)) = cntL (l.take i) + cnt l[i] := by
  rw [List.take_succ_eq_append_getElem hi, cntL_app, cntL_cons, cntL_nil]
  rfl
theorem cntL_le (l : List Nod) (i : Nat) : cntL (l.take i) ≤ cntL l := by
  have := cntL_app (l.take i) (l.drop i)
  rw [List.take_append_drop] at this
  omega
theorem mkL_take {l : List Nod} {i : Nat} (hi : i < l.length) (k : Nat) : mkL k (l.take (i + 1)) = mkL k (l.take i) ++ [mkE (k + cntL (l.take i)) l[i]] := by
  rw [List.take_succ_eq_append_getElem hi, mkL_app]
  congr 1
theorem mkE_mk (k : Nat) (a : Int) (d : ByteArray) (p : List Nod) (s c : Int) (i : List Nod) : mkE k (.mk a d p s c i) = .mk k (mt (k + 1)) (mkL (k + 2) p) ((k + 2 + cntL p : Nat) : Int) ((k + 3 + cntL p : Nat) : Int) (mkL (k + 4 + cntL p) i) := by rw [mkE]
theorem cnt_mk (a : Int) (d : ByteArray) (p : List Nod) (s c : Int) (i : List Nod) : cnt (.mk a d p s c i) = 4 + cntL p + cntL i := by rw [cnt]
/-- No more marks than four times the size. -/
theorem cnt_le : ∀ (n : Nod), cnt n ≤ 4 + 4 * szN n := by
  intro n
  induction n using Nod.ind with
  | h k d p s c i ih1 ih2 =>
  rw [cnt_mk, szN_mk]
  have key : ∀ l : List Nod, (∀ x ∈ l, cnt x ≤ 4 + 4 * szN x) → cntL l ≤ 4 * (l.length + szNL l) := by
    intro l
    induction l with
    | nil => intro _; rw [cntL_nil]; omega
    | cons x l ih2 =>
      intro h
      have h1 := h x (by simp)
      have h2 := ih2 fun y hy => h y (by simp [hy])
      rw [cntL_cons, szNL_cons, List.length_cons]
      omega
  have k1 := key p ih1
  have k2 := key i ih2
  omega
theorem mkL_at {k : Nat} {l : List Nod} {i : Nat} (hi : i < l.length) (h : i < (mkL k l).length) : (mkL k l)[i] = mkE (k + cntL (l.take i)) l[i] := by
  induction l generalizing k i with
  | nil => cases hi
  | cons x l ih =>
    cases i with
    | zero => simp only [mkL, List.getElem_cons_zero, List.take_zero, cntL_nil]; rfl
    | succ i =>
      simp only [mkL, List.getElem_cons_succ, List.take_succ_cons, cntL_cons]
      rw [ih (by simpa using hi)]
      congr 1
      omega
/-! ### held, by value -/
set_option maxHeartbeats 2000000 in
theorem heldNodes_eq (l : List Nod) (hl : l.length ≤ 1048576) (ih : ∀ x ∈ l, ∀ k : Nat, 1 ≤ k → (k + cntL x.ptrs ≤ 4611686018427387904 → fnA CC PR 43 [.slice 6 ((mkL k x.ptrs).map Nod.av), .int .i64 k] = some (.int .i64 ((k + cntL x.ptrs : Nat) : Int))) ∧ (k + cntL x.items ≤ 4611686018427387904 → fnA CC PR 43 [.slice 6 ((mkL k x.items).map Nod.av), .int .i64 k] = some (.int .i64 ((k + cntL x.items : Nat) : Int)))) (k : Nat) (h1 : 1 ≤ k) (hk : k + cntL l ≤ 4611686018427387904) :
    fnA CC PR 43 [.slice 6 ((mkL k l).map Nod.av), .int .i64 k] = some (.int .i64 ((k + cntL l : Nat) : Int)) := by
  apply comes_eq.1
  refine fnA_wp (rs := [.tmp 4]) Tryd.func43 rfl rfl (Nat.le_of_ble_eq_true rfl) rfl ?_
  have hlen := mkL_len k l
  have hat := @mkL_at k l
  generalize mkL k l = M at *
  simp +decide only [go_sem, Nat.reduceAdd, Nat.reduceMul, Nat.reduceSub, Nat.reduceLT, Nat.reduceLeDiff, Nat.reduceEqDiff, Nat.add_assoc, Int.reduceAdd, Int.reduceSub, Int.reduceMul, Int.reduceLT, Int.reduceLE, Int.reduceEq, Int.reduceNeg, strOp_add, List.length_map]
  refine comes_upto l.length (fun i st => st.env 0 = .slice 6 (M.map Nod.av) ∧ st.env 1 = .int .i64 ((k + cntL (l.take i) : Nat) : Int) ∧ st.env 5 = .int .i64 i) ?_ ?_ _ ?_
  · rintro i st hi ⟨e0, e1, e5⟩
    have hi' : i < M.length := by omega
    have ha := nav_at hi'
    rw [hat hi hi'] at ha
    have hz := cntL_take hi
    have hz2 := cntL_le l (i + 1)
    have hih := ih _ (List.getElem_mem hi)
    rw [hz] at hz2 ⊢
    generalize cntL (l.take i) = c at *
    generalize l[i] = d at *
    obtain ⟨dk, dd, dp, ds, dc, di⟩ := d
    rw [cnt_mk] at hz2 ⊢
    rw [mkE_mk, Nod.av_mk] at ha
    simp only [Nod.ptrs, Nod.items] at hih
    have hq := (mt_eq (k := k + c + 1) (by omega) (by omega)).1
    have hq2 := (hih (k + c + 2) (by omega)).1 (by omega)
    have hq3 := (hih (k + c + 4 + cntL dp) (by omega)).2 (by omega)
    generalize mt (k + c + 1) = x at *
    generalize (mkL (k + c + 2) dp).map Nod.av = y at *
    generalize (mkL (k + c + 4 + cntL dp) di).map Nod.av = z at *
    have w1 : IntKind.wrap .i64 ((i : Int) + 1) = ((i + 1 : Nat) : Int) := wrap_succ (by omega)
    have w2 : IntKind.wrap .i64 (((k + c : Nat) : Int) + 1) = ((k + c + 1 : Nat) : Int) := by rw [wrap_id (by omega) (by omega)]; omega
    have w3 : IntKind.wrap .i64 (((k + c + 1 : Nat) : Int) + 1) = ((k + c + 2 : Nat) : Int) := by rw [wrap_id (by omega) (by omega)]; omega
    have w4 : IntKind.wrap .i64 (((k + c + 2 + cntL dp : Nat) : Int) + 1) = ((k + c + 3 + cntL dp : Nat) : Int) := by rw [wrap_id (by omega) (by omega)]; omega
    have w5 : IntKind.wrap .i64 (((k + c + 3 + cntL dp : Nat) : Int) + 1) = ((k + c + 4 + cntL dp : Nat) : Int) := by rw [wrap_id (by omega) (by omega)]; omega
    have l1 : ((i : Int) < (M.length : Int)) = True := eq_true (by omega)
    obtain ⟨k0, hk0⟩ : ∃ k0, k0 = k + c := ⟨_, rfl⟩
    obtain ⟨k1, hk1⟩ : ∃ k0, k0 = k + c + 1 := ⟨_, rfl⟩
    obtain ⟨k2, hk2⟩ : ∃ k0, k0 = k + c + 2 := ⟨_, rfl⟩
    obtain ⟨k3, hk3⟩ : ∃ k0, k0 = k + c + 2 + cntL dp := ⟨_, rfl⟩
    obtain ⟨k4, hk4⟩ : ∃ k0, k0 = k + c + 3 + cntL dp := ⟨_, rfl⟩
    obtain ⟨k5, hk5⟩ : ∃ k0, k0 = k + c + 4 + cntL dp := ⟨_, rfl⟩
    obtain ⟨k6, hk6⟩ : ∃ k0, k0 = k + c + 4 + cntL dp + cntL di := ⟨_, rfl⟩
    rw [← hk6, ← hk5] at hq3
    rw [← hk3, ← hk2] at hq2
    rw [← hk1] at hq
    rw [← hk4, ← hk5] at w5
    rw [← hk3, ← hk4] at w4
    rw [← hk1, ← hk2] at w3
    rw [← hk1, ← hk0] at w2
    rw [← hk3, ← hk4, ← hk0] at ha
    rw [← hk0] at e1
    rw [show k + (c + (4 + cntL dp + cntL di)) = k6 by omega]
    have n4 : ((k3 : Int) < 0) = False := eq_false (by omega)
    have n5 : ((k6 : Int) < 0) = False := eq_false (by omega)
    clear hk0 hk1 hk2 hk3 hk4 hk5 hk6
    simp +decide only [go_sem, Nat.reduceAdd, Nat.reduceMul, Nat.reduceSub, Nat.reduceLT, Nat.reduceLeDiff, Nat.reduceEqDiff, Nat.add_assoc, Int.reduceAdd, Int.reduceSub, Int.reduceMul, Int.reduceLT, Int.reduceLE, Int.reduceEq, Int.reduceNeg, strOp_add, e0, e1, e5, l1, hi', List.length_map, ha, hq, hq2, hq3, w1, w2, w3, w4, w5, n4, n5]
    refine (d_plan (ord := [0, 1, 2, 3, 4, 5, 6, 7]) (prs := [(4, 6)]) (by kernel_rfl)).2 ?_
    simp +decide only [go_sem, Nat.reduceAdd, Nat.reduceMul, Nat.reduceSub, Nat.reduceLT, Nat.reduceLeDiff, Nat.reduceEqDiff, Nat.add_assoc, Int.reduceAdd, Int.reduceSub, Int.reduceMul, Int.reduceLT, Int.reduceLE, Int.reduceEq, Int.reduceNeg, strOp_add, e0, e1, e5, l1, hi', List.length_map, ha, hq, hq2, hq3, w1, w2, w3, w4, w5, n4, n5]
  · rintro st ⟨e0, e1, e5⟩
    rw [List.take_length] at e1
    have l1 : ((l.length : Int) < (M.length : Int)) = False := eq_false (by omega)
    simp +decide only [go_sem, Nat.reduceAdd, Nat.reduceMul, Nat.reduceSub, Nat.reduceLT, Nat.reduceLeDiff, Nat.reduceEqDiff, Nat.add_assoc, Int.reduceAdd, Int.reduceSub, Int.reduceMul, Int.reduceLT, Int.reduceLE, Int.reduceEq, Int.reduceNeg, strOp_add, e0, e1, e5, l1, List.length_map]
  · simp +decide only [go_sem, Nat.reduceAdd, Nat.reduceMul, Nat.reduceSub, Nat.reduceLT, Nat.reduceLeDiff, Nat.reduceEqDiff, Nat.add_assoc, Int.reduceAdd, Int.reduceSub, Int.reduceMul, Int.reduceLT, Int.reduceLE, Int.reduceEq, Int.reduceNeg, strOp_add]
    rw [cntL_nil]
    exact ⟨rfl, rfl⟩
theorem heldL_eq : ∀ (n : Nod), n.Sane → ∀ k : Nat, 1 ≤ k → (k + cntL n.ptrs ≤ 4611686018427387904 → fnA CC PR 43 [.slice 6 ((mkL k n.ptrs).map Nod.av), .int .i64 k] = some (.int .i64 ((k + cntL n.ptrs : Nat) : Int))) ∧ (k + cntL n.items ≤ 4611686018427387904 → fnA CC PR 43 [.slice 6 ((mkL k n.items).map Nod.av), .int .i64 k] = some (.int .i64 ((k + cntL n.items : Nat) : Int))) := by
  intro n
  induction n using Nod.ind with
  | h k d p s c i ih1 ih2 =>
  intro hd
  cases hd with
  | mk _ _ _ _ _ _ hk hs hc hd hp hi h1 h2 =>
  intro k hk1
  exact ⟨heldNodes_eq p hp (fun x hx => ih1 x hx (h1 x hx)) k hk1, heldNodes_eq i hi (fun x hx => ih2 x hx (h2 x hx)) k hk1⟩
theorem heldNode_eq (n : Nod) (hd : n.Sane) (k : Nat) (h1 : 1 ≤ k) (hk : k + cnt n ≤ 4611686018427387904) : fnA CC PR 18 [(mkN k n).av, .int .i64 k] = some (.int .i64 ((k + (cntL n.ptrs + cntL n.items) : Nat) : Int)) := by
  have hq := (heldL_eq n hd k h1).1
  have hq2 := (heldL_eq n hd (k + cntL n.ptrs) (by omega)).2
  obtain ⟨dk, dd, dp, ds, dc, di⟩ := n
  rw [cnt_mk] at hk
  simp only [Nod.ptrs, Nod.items] at hq hq2
  have hq := hq (by omega)
  have hq2 := hq2 (by omega)
  simp only [mkN, Nod.ptrs, Nod.items]
  rw [Nod.av_mk]
  apply comes_eq.1
  refine fnA_wp (rs := [.tmp 4]) Tryd.func18 rfl rfl (Nat.le_of_ble_eq_true rfl) rfl ?_
  rw [show k + (cntL dp + cntL di) = k + cntL dp + cntL di by omega]
  have n4 : (((k + cntL dp : Nat) : Int) < 0) = False := eq_false (by omega)
  have n5 : (((k + cntL dp + cntL di : Nat) : Int) < 0) = False := eq_false (by omega)
  clear hk
  generalize k + cntL dp + cntL di = k5 at *
  generalize (mkL (k + cntL dp) di).map Nod.av = z at *
  generalize (mkL k dp).map Nod.av = y at *
  generalize k + cntL dp = k4 at *
  simp +decide only [go_sem, Nat.reduceAdd, Nat.reduceMul, Nat.reduceSub, Nat.reduceLT, Nat.reduceLeDiff, Nat.reduceEqDiff, Nat.add_assoc, Int.reduceAdd, Int.reduceSub, Int.reduceMul, Int.reduceLT, Int.reduceLE, Int.reduceEq, Int.reduceNeg, strOp_add, hq, hq2, n4, n5]
end Go.Ev.Tryd
