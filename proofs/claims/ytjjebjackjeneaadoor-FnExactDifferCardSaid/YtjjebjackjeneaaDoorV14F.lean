/- Part of the proof of a statement about the given program: V14F. No condition of its own. -/
import Derived.Test.YtjjebjackjeneaaDoorV13F
namespace Go.Ev.Tryd
open Go.Proofs
set_option maxRecDepth 10000
set_option linter.unusedSimpArgs false
set_option linter.unusedVariables false
attribute [local congr] comes_congr bB_congr gK_congr gdK_congr

theorem pathAll_fine (d : Dat) : (pathAll d).length ≤ 25600000000 ∧ ∀ p ∈ pathAll d, p.length ≤ 8 := by
  unfold pathAll
  by_cases h : writ 8 d = true
  · rw [if_pos h]
    exact ⟨Nat.le_trans (lv_few 8 d h) (pow20 8 (Nat.le_refl _)), fun p hp => lv_short 8 d p hp⟩
  · rw [if_neg h]
    exact ⟨Nat.zero_le _, fun p hp => by cases hp⟩

set_option maxHeartbeats 4000000 in
theorem PathAllM_wp (d : Dat) (hd : d.Sane) (hdep : dep d ≤ 2000000) (a0 a1 a2 lv' nv : AV) (B : List Nat) (m : Mem) (hO : ODat m d [a0, a1, a2, lv', nv] B) (hB : ∀ b ∈ B, b < m.nid) (Q : AV × Mem → Prop)
    (hQ : ∀ v m' B', OPs m' (pathAll d) v B' → Own m.nid m'.nid B' → m.nid ≤ m'.nid → (∀ j, j < m.nid → m'.sto j = m.sto j) → Q (v, m')) :
    Comes (fnI CC PR 16 [.agg [a0, a1, a2, lv', nv]] m) Q := by
  obtain ⟨o1, o2⟩ := hO.ones
  have hokA := DatumPut_no d hd
  have hokB := DatumPut_ok d hd
  obtain ⟨Bl, Bn, -, -, -, rfl, rfl, rfl⟩ := hO.parts
  rw [av_eta] at hokA hokB
  simp only [AV.one] at o1 o2
  have key : ∀ m' : Mem, (∀ j, j < m.nid → m'.sto j = m.sto j) → snapD m' 2097151 lv' = some (.slice 5 (d.list.map Dat.av)) ∧ snapD m' 2097151 nv = some (.slice 1 (d.names.map AV.str)) := fun m' hm =>
    ⟨snap_dl (hO.keep _ fun b hb => hm b (hB b hb)) hdep, snap_dn (hO.keep _ fun b hb => hm b (hB b hb))⟩
  have fr1 : ∀ (x : Blk) (j : Nat), j < m.nid → upd m.sto m.nid x j = m.sto j := fun x j hj => by
    simp (disch := omega) only [upd_hit, upd_miss]
  unfold pathAll at hQ
  cases hw : writ 8 d
  · have hok := hokA hw
    rw [hw] at hQ
    refine fnI_wp (rs := [.tmp 2]) Tryd.func16 rfl rfl (Nat.le_of_ble_eq_true rfl) rfl rfl ?_
    simp +decide (disch := first | decide | omega) only [go_sem, Nat.reduceAdd, Nat.reduceMul, Nat.reduceSub, Nat.reduceLT, Nat.reduceLeDiff, Nat.reduceEqDiff, Nat.add_assoc, Int.reduceAdd, Int.reduceSub, Int.reduceMul, Int.reduceLT, Int.reduceLE, Int.reduceEq, Int.reduceNeg, strOp_add, o1, o2, true_or]
    rw [(key _ (fun j hj => fr1 _ j hj)).1, (key _ (fun j hj => fr1 _ j hj)).2]
    simp +decide (disch := first | decide | omega) only [go_sem, Nat.reduceAdd, Nat.reduceMul, Nat.reduceSub, Nat.reduceLT, Nat.reduceLeDiff, Nat.reduceEqDiff, Nat.add_assoc, Int.reduceAdd, Int.reduceSub, Int.reduceMul, Int.reduceLT, Int.reduceLE, Int.reduceEq, Int.reduceNeg, strOp_add, hok, o1, o2, true_or]
    exact hQ _ ⟨_, m.nid + 1⟩ [] (.inl ⟨rfl, rfl, rfl⟩) (Own.nil _ _) (Nat.le_succ _) fun j hj => fr1 _ j hj
  · obtain ⟨s, hok, hs1⟩ := hokB hw
    have hne : ¬ s = ⟨#[]⟩ := by
      intro e
      rw [e] at hs1
      exact absurd hs1 (by decide)
    have hl := leaves_wp 8 d (Nat.le_refl _) hd hw hdep
    rw [hw, if_pos rfl] at hQ
    refine fnI_wp (rs := [.tmp 2]) Tryd.func16 rfl rfl (Nat.le_of_ble_eq_true rfl) rfl rfl ?_
    simp +decide (disch := first | decide | omega) only [go_sem, Nat.reduceAdd, Nat.reduceMul, Nat.reduceSub, Nat.reduceLT, Nat.reduceLeDiff, Nat.reduceEqDiff, Nat.add_assoc, Int.reduceAdd, Int.reduceSub, Int.reduceMul, Int.reduceLT, Int.reduceLE, Int.reduceEq, Int.reduceNeg, strOp_add, o1, o2, true_or]
    rw [(key _ (fun j hj => fr1 _ j hj)).1, (key _ (fun j hj => fr1 _ j hj)).2]
    simp +decide (disch := first | decide | omega) only [go_sem, Nat.reduceAdd, Nat.reduceMul, Nat.reduceSub, Nat.reduceLT, Nat.reduceLeDiff, Nat.reduceEqDiff, Nat.add_assoc, Int.reduceAdd, Int.reduceSub, Int.reduceMul, Int.reduceLT, Int.reduceLE, Int.reduceEq, Int.reduceNeg, strOp_add, hok, hne, o1, o2, true_or]
    refine hl _ _ _ _ _ _ _ (hO.keep _ fun b hb => fr1 _ b (hB b hb)) (fun b hb => Nat.lt_succ_of_lt (hB b hb)) _ fun v m1 B1 q1 q2 q3 q4 => ?_
    have q3' : m.nid + 1 ≤ m1.nid := q3
    simp +decide (disch := first | decide | omega) only [go_sem, Nat.reduceAdd, Nat.reduceMul, Nat.reduceSub, Nat.reduceLT, Nat.reduceLeDiff, Nat.reduceEqDiff, Nat.add_assoc, Int.reduceAdd, Int.reduceSub, Int.reduceMul, Int.reduceLT, Int.reduceLE, Int.reduceEq, Int.reduceNeg, strOp_add]
    exact hQ _ _ B1 q1.ps (q2.wide (Nat.le_succ _) (Nat.le_refl _)) (by show m.nid ≤ m1.nid; omega) fun j hj => (q4 j (by show j < m.nid + 1; omega)).trans (fr1 _ j hj)
/-! ### marks on paths -/
noncomputable def mkP (k : Nat) : List (List ByteArray) → List (List ByteArray)
  | [] => []
  | p :: ps => mkS k p :: mkP (k + p.length) ps
def cntP : List (List ByteArray) → Nat
  | [] => 0
  | p :: ps => p.length + cntP ps
theorem mkP_len : ∀ (k : Nat) (l : List (List ByteArray)), (mkP k l).length = l.length
  | k, [] => by rw [mkP]
  | k, x :: l => by rw [mkP, List.length_cons, List.length_cons, mkP_len _ l]
theorem cntP_app : ∀ (a b : List (List ByteArray)), cntP (a ++ b) = cntP a + cntP b
  | [], b => (Nat.zero_add _).symm
  | x :: a, b => by rw [List.cons_append, cntP, cntP, cntP_app a b]; omega
theorem mkP_app : ∀ (a : List (List ByteArray)) (k : Nat) (b : List (List ByteArray)), mkP k (a ++ b) = mkP k a ++ mkP (k + cntP a) b
  | [], k, b => by rw [mkP, cntP]; rfl
  | x :: a, k, b => by rw [List.cons_append, mkP, mkP_app a, mkP, cntP]; simp only [List.cons_append]; rw [show k + x.length + cntP a = k + (x.length + cntP a) by omega]
theorem cntP_take {l : List (List ByteArray)} {i : Nat} (hi : i < l.length) : cntP (l.take (i + 1)) = cntP (l.take i) + l[i].length := by
  rw [List.take_succ_eq_append_getElem hi, cntP_app, cntP, cntP]
  rfl
theorem cntP_le (l : List (List ByteArray)) (i : Nat) : cntP (l.take i) ≤ cntP l := by
  have := cntP_app (l.take i) (l.drop i)
  rw [List.take_append_drop] at this
  omega
theorem mkP_take {l : List (List ByteArray)} {i : Nat} (hi : i < l.length) (k : Nat) : mkP k (l.take (i + 1)) = mkP k (l.take i) ++ [mkS (k + cntP (l.take i)) l[i]] := by
  rw [List.take_succ_eq_append_getElem hi, mkP_app]
  congr 1
theorem mkP_at {k : Nat} {l : List (List ByteArray)} {i : Nat} (hi : i < l.length) (h : i < (mkP k l).length) : (mkP k l)[i] = mkS (k + cntP (l.take i)) l[i] := by
  induction l generalizing k i with
  | nil => cases hi
  | cons x l ih =>
    cases i with
    | zero => simp only [mkP, List.getElem_cons_zero, List.take_zero, cntP]; rfl
    | succ i =>
      simp only [mkP, List.getElem_cons_succ, List.take_succ_cons, cntP]
      rw [ih (by simpa using hi)]
      congr 1
      omega
theorem cntP_few (b : Nat) : ∀ l : List (List ByteArray), (∀ x ∈ l, x.length ≤ b) → cntP l ≤ l.length * b
  | [], _ => Nat.zero_le _
  | x :: l, h => by
    have h1 := cntP_few b l fun y hy => h y (List.mem_cons_of_mem _ hy)
    have h2 := h x List.mem_cons_self
    simp only [cntP, List.length_cons, Nat.succ_mul]
    omega

set_option maxHeartbeats 1000000 in
theorem heldPaths_eq (l : List (List ByteArray)) (hl : l.length ≤ 1099511627776) (k : Nat) (h1 : 1 ≤ k) (hk : k + cntP l ≤ 4611686018427387904) :
    fnA CC PR 14 [pathsA (mkP k l), .int .i64 k] = some (.int .i64 ((k + cntP l : Nat) : Int)) := by
  unfold pathsA
  apply comes_eq.1
  refine fnA_wp (rs := [.tmp 4]) Tryd.func14 rfl rfl (Nat.le_of_ble_eq_true rfl) rfl ?_
  have hlen := mkP_len k l
  have hat := @mkP_at k l
  generalize mkP k l = M at *
  simp +decide only [go_sem, Nat.reduceAdd, Nat.reduceMul, Nat.reduceSub, Nat.reduceLT, Nat.reduceLeDiff, Nat.reduceEqDiff, Nat.add_assoc, Int.reduceAdd, Int.reduceSub, Int.reduceMul, Int.reduceLT, Int.reduceLE, Int.reduceEq, Int.reduceNeg, strOp_add, List.length_map]
  refine comes_upto l.length (fun i st => st.env 0 = .slice 1 (M.map strsA) ∧ st.env 1 = .int .i64 ((k + cntP (l.take i) : Nat) : Int) ∧ st.env 5 = .int .i64 i) ?_ ?_ _ ?_
  · rintro i st hi ⟨e0, e1, e5⟩
    have hi' : i < M.length := by omega
    have ha : (M.map strsA)[i]? = some (strsA M[i]) := by simp [hi']
    rw [hat hi hi'] at ha
    have hz := cntP_take hi
    have hz2 := cntP_le l (i + 1)
    rw [hz] at hz2 ⊢
    generalize cntP (l.take i) = c at *
    generalize l[i] = p at *
    have hq := heldStrings_eq p (k + c) (by omega) (by omega)
    rw [Nat.add_assoc] at hq
    generalize k + c = k0 at *
    have n5 : (((k + (c + p.length) : Nat) : Int) < 0) = False := eq_false (by omega)
    generalize k + (c + p.length) = k1 at *
    unfold strsA at ha
    generalize (mkS k0 p).map AV.str = z at *
    have w1 : IntKind.wrap .i64 ((i : Int) + 1) = ((i + 1 : Nat) : Int) := wrap_succ (by omega)
    have l1 : ((i : Int) < (M.length : Int)) = True := eq_true (by omega)
    simp +decide only [go_sem, Nat.reduceAdd, Nat.reduceMul, Nat.reduceSub, Nat.reduceLT, Nat.reduceLeDiff, Nat.reduceEqDiff, Nat.add_assoc, Int.reduceAdd, Int.reduceSub, Int.reduceMul, Int.reduceLT, Int.reduceLE, Int.reduceEq, Int.reduceNeg, strOp_add, e0, e1, e5, l1, hi', List.length_map, ha, hq, w1, n5]
  · rintro st ⟨e0, e1, e5⟩
    rw [List.take_length] at e1
    have l1 : ((l.length : Int) < (M.length : Int)) = False := eq_false (by omega)
    simp +decide only [go_sem, Nat.reduceAdd, Nat.reduceMul, Nat.reduceSub, Nat.reduceLT, Nat.reduceLeDiff, Nat.reduceEqDiff, Nat.add_assoc, Int.reduceAdd, Int.reduceSub, Int.reduceMul, Int.reduceLT, Int.reduceLE, Int.reduceEq, Int.reduceNeg, strOp_add, e0, e1, e5, l1, List.length_map]
  · simp +decide only [go_sem, Nat.reduceAdd, Nat.reduceMul, Nat.reduceSub, Nat.reduceLT, Nat.reduceLeDiff, Nat.reduceEqDiff, Nat.add_assoc, Int.reduceAdd, Int.reduceSub, Int.reduceMul, Int.reduceLT, Int.reduceLE, Int.reduceEq, Int.reduceNeg, strOp_add]
    exact ⟨rfl, rfl⟩
end Go.Ev.Tryd
