/- Part of the proof of a statement about the given program: V4F. No condition of its own. -/
import Derived.Test.YtjjebjackjeneaaDoorV3F
namespace Go.Ev.Tryd
open Go.Proofs
set_option maxRecDepth 10000
set_option linter.unusedSimpArgs false
set_option linter.unusedVariables false
attribute [local congr] comes_congr bB_congr gK_congr gdK_congr


set_option maxHeartbeats 2000000 in
theorem toDatum_wp : ∀ (d : Dat), d.Sane → ∀ (m : Mem) (Q : AV × Mem → Prop), (∀ k n t lv nv m' B, ODat m' d [.int .i64 k, .int .i64 n, .str t, lv, nv] B → Own m.nid m'.nid B → m.nid ≤ m'.nid → (∀ j, j < m.nid → m'.sto j = m.sto j) → lv.one = true → nv.one = true → Q (.agg [.int .i64 k, .int .i64 n, .str t, lv, nv], m')) → Comes (fnI CC PR 8 [d.av] m) Q := by
  intro d
  induction d using Dat.ind with
  | h k n t l ns ih =>
  intro hd m Q hQ
  cases hd with
  | mk k n t l ns hk hn ht hl hns hss h =>
  rw [Dat.av_mk]
  refine fnI_wp (rs := [.cell 2 31]) Tryd.func8 rfl rfl (Nat.le_of_ble_eq_true rfl) rfl rfl ?_
  simp +decide (disch := first | decide | omega) only [go_sem, Nat.reduceAdd, Nat.reduceMul, Nat.reduceSub, Nat.reduceLT, Nat.reduceLeDiff, Nat.reduceEqDiff, Nat.add_assoc, Int.reduceAdd, Int.reduceSub, Int.reduceMul, Int.reduceLT, Int.reduceLE, Int.reduceEq, Int.reduceNeg, strOp_add]
  refine toDatums_wp l hl (fun x hx => ih x hx (h x hx)) _ _ fun lv m1 B1 q1 q2 q3 q4 q5 q6 q7 => ?_
  have q3' : m.nid + 3 ≤ m1.nid := q3
  have s0 := (q4 m.nid (by show m.nid < m.nid + 3; omega)).trans ((upd_miss _ _ _ _ (by omega)).trans ((upd_miss _ _ _ _ (by omega)).trans ((upd_miss _ _ _ _ (by omega)).trans ((upd_miss _ _ _ _ (by omega)).trans ((upd_miss _ _ _ _ (by omega)).trans (upd_hit _ _ _))))))
  have s1 := (q4 (m.nid + 1) (by show m.nid + 1 < m.nid + 3; omega)).trans ((upd_miss _ _ _ _ (by omega)).trans ((upd_miss _ _ _ _ (by omega)).trans ((upd_miss _ _ _ _ (by omega)).trans ((upd_miss _ _ _ _ (by omega)).trans (upd_hit _ _ _)))))
  have s2 := (q4 (m.nid + 2) (by show m.nid + 2 < m.nid + 3; omega)).trans (upd_hit _ _ _)
  have q8 := AV.cells_one q5
  have q9 := q5
  simp only [AV.cells] at q8
  simp only [AV.one] at q5
  simp +decide (disch := first | decide | omega) only [go_sem, Nat.reduceAdd, Nat.reduceMul, Nat.reduceSub, Nat.reduceLT, Nat.reduceLeDiff, Nat.reduceEqDiff, Nat.add_assoc, Int.reduceAdd, Int.reduceSub, Int.reduceMul, Int.reduceLT, Int.reduceLE, Int.reduceEq, Int.reduceNeg, strOp_add, s0, s1, s2, q5, q8]
  refine toStrings_wp ns hns _ _ fun nv m2 B2 r1 r2 r3 r4 r5 r6 r7 => ?_
  have r3' : m1.nid ≤ m2.nid := r3
  have t0 := (r4 m.nid (by show m.nid < m1.nid; omega)).trans ((upd_miss _ _ _ _ (by omega)).trans s0)
  have t1 := (r4 (m.nid + 1) (by show m.nid + 1 < m1.nid; omega)).trans ((upd_miss _ _ _ _ (by omega)).trans s1)
  have t2 := (r4 (m.nid + 2) (by show m.nid + 2 < m1.nid; omega)).trans (upd_hit _ _ _)
  have r8 := AV.cells_one r5
  have r9 := r5
  simp only [AV.cells] at r8
  simp only [AV.one] at r5
  simp +decide (disch := first | decide | omega) only [go_sem, Nat.reduceAdd, Nat.reduceMul, Nat.reduceSub, Nat.reduceLT, Nat.reduceLeDiff, Nat.reduceEqDiff, Nat.add_assoc, Int.reduceAdd, Int.reduceSub, Int.reduceMul, Int.reduceLT, Int.reduceLE, Int.reduceEq, Int.reduceNeg, strOp_add, t0, t1, t2, q5, q8, r5, r8]
  have hk1 : ∀ x y : Blk, ∀ b, m.nid + 3 ≤ b → b < m1.nid → upd (upd m2.sto (m.nid + 2) x) (m.nid + 1) y b = m1.sto b := fun x y b c1 c2 => by
    simp (disch := omega) only [upd_hit, upd_miss]
    refine (r4 b c2).trans ?_
    show upd _ _ _ _ = _
    simp (disch := omega) only [upd_hit, upd_miss]
  refine hQ k n t lv nv ⟨_, m2.nid⟩ (B1 ++ B2) (oDat_iff.2 ⟨lv, nv, B1, B2, rfl, rfl, r1.keep fun b hb => ?_, q1.keep fun b hb => ?_⟩) ?_ ?_ ?_ q9 r9
  · have h5 : m1.nid ≤ b := (r2.2 b hb).1
    show upd _ _ _ _ = _
    simp (disch := omega) only [upd_hit, upd_miss]
  · have h5 : m.nid + 3 ≤ b := (q2.2 b hb).1
    exact hk1 _ _ b h5 (q2.2 b hb).2
  · exact ((q2.wide (lo' := m.nid + 3) (Nat.le_refl _) (Nat.le_refl _)).app r2 (by omega) r3').wide (by omega) (Nat.le_refl _)
  · show m.nid ≤ m2.nid
    omega
  · intro j hj
    show upd _ _ _ _ = _
    simp (disch := omega) only [upd_hit, upd_miss]
    refine (r4 j (by show j < m1.nid; omega)).trans ((upd_miss _ _ _ _ (by omega)).trans ((q4 j (by show j < m.nid + 3; omega)).trans ?_))
    show upd _ _ _ _ = _
    simp (disch := omega) only [upd_hit, upd_miss]
/-! ### marks, in memory -/
theorem markStrings_wp (ns : List ByteArray) (hn : ns.length ≤ 1099511627776) (k : Nat) (h1 : 1 ≤ k) (hk : k + ns.length ≤ 4611686018427387904) (v : AV) (B : List Nat) (m : Mem) (hO : OStr m ns v B) (hB : ∀ b ∈ B, b < m.nid) (Q : AV × Mem → Prop)
    (hQ : ∀ m', OStr m' (mkS k ns) v B → m.nid ≤ m'.nid → (∀ j, j < m.nid → j ∉ B → m'.sto j = m.sto j) → Q (.int .i64 ((k + ns.length : Nat) : Int), m')) :
    Comes (fnI CC PR 22 [v, .int .i64 k] m) Q := by
  refine fnI_wp (rs := [.tmp 4]) Tryd.func22 rfl rfl (Nat.le_of_ble_eq_true rfl) rfl rfl ?_
  rcases hO with ⟨rfl, rfl, rfl⟩ | ⟨id, g, app, ty, rfl, hs, rfl⟩
  · simp +decide only [go_sem, Nat.reduceAdd, Nat.reduceMul, Nat.reduceSub, Nat.reduceLT, Nat.reduceLeDiff, Nat.reduceEqDiff, Nat.add_assoc, Int.reduceAdd, Int.reduceSub, Int.reduceMul, Int.reduceLT, Int.reduceLE, Int.reduceEq, Int.reduceNeg, strOp_add]
    refine comes_upto 0 (fun i st => st.env 0 = .nils 1 ∧ st.env 1 = .int .i64 k ∧ st.env 5 = .int .i64 0 ∧ st.nid = m.nid ∧ st.sto = m.sto) ?_ ?_ _ ?_
    · rintro i st hi; omega
    · rintro st ⟨e0, e1, e5, en, es⟩
      simp +decide only [go_sem, Nat.reduceAdd, Nat.reduceMul, Nat.reduceSub, Nat.reduceLT, Nat.reduceLeDiff, Nat.reduceEqDiff, Nat.add_assoc, Int.reduceAdd, Int.reduceSub, Int.reduceMul, Int.reduceLT, Int.reduceLE, Int.reduceEq, Int.reduceNeg, strOp_add, e0, e1, e5]
      exact hQ _ (.inl ⟨by rw [mkS], rfl, rfl⟩) (by show m.nid ≤ st.nid; omega) fun j hj _ => by show st.sto j = _; rw [es]
    · simp +decide only [go_sem, Nat.reduceAdd, Nat.reduceMul, Nat.reduceSub, Nat.reduceLT, Nat.reduceLeDiff, Nat.reduceEqDiff, Nat.add_assoc, Int.reduceAdd, Int.reduceSub, Int.reduceMul, Int.reduceLT, Int.reduceLE, Int.reduceEq, Int.reduceNeg, strOp_add]
  · simp +decide only [go_sem, Nat.reduceAdd, Nat.reduceMul, Nat.reduceSub, Nat.reduceLT, Nat.reduceLeDiff, Nat.reduceEqDiff, Nat.add_assoc, Int.reduceAdd, Int.reduceSub, Int.reduceMul, Int.reduceLT, Int.reduceLE, Int.reduceEq, Int.reduceNeg, strOp_add]
    have hid := hB id (by simp)
    have hlen := mkS_len k ns
    refine comes_upto ns.length (fun i st => st.env 0 = .arr id g 0 ns.length 1 app ∧ st.env 1 = .int .i64 ((k + i : Nat) : Int) ∧ st.env 5 = .int .i64 i ∧ m.nid ≤ st.nid ∧ (∀ j, j < m.nid → j ≠ id → st.sto j = m.sto j) ∧ ∃ a z, a = (mkS k (ns.take i)).map AV.str ∧ st.sto id = ⟨a ++ z, g, false, ty⟩ ∧ z.length = ns.length - i) ?_ ?_ _ ?_
    · rintro i st hi ⟨e0, e1, e5, en, hfr, a, z, hae, hs, hz⟩
      have w1 : IntKind.wrap .i64 ((i : Int) + 1) = ((i + 1 : Nat) : Int) := wrap_succ (by omega)
      have w2 : IntKind.wrap .i64 (((k + i : Nat) : Int) + 1) = ((k + (i + 1) : Nat) : Int) := by rw [wrap_id (by omega) (by omega)]; omega
      have hal : a.length = i := by rw [hae, List.length_map, mkS_len, List.length_take]; omega
      have hq := (mt_eq (k := k + i) (by omega) (by omega)).1
      have htk : (mkS k (ns.take (i + 1))).map AV.str = a ++ [.str (mt (k + i))] := by rw [mkS_take hi, List.map_append, hae]; rfl
      cases z with
      | nil => rw [List.length_nil] at hz; omega
      | cons c z =>
      have hll : (i + 1 ≤ (a ++ c :: z).length) = True := eq_true (by rw [List.length_append, List.length_cons]; omega)
      have hsp := @splice_at a z c (.str (mt (k + i))) i hal
      generalize mt (k + i) = x at *
      generalize hcs : a ++ c :: z = cs at *
      simp +decide only [go_sem, Nat.reduceAdd, Nat.reduceMul, Nat.reduceSub, Nat.reduceLT, Nat.reduceLeDiff, Nat.reduceEqDiff, Nat.add_assoc, Int.reduceAdd, Int.reduceSub, Int.reduceMul, Int.reduceLT, Int.reduceLE, Int.reduceEq, Int.reduceNeg, strOp_add, e0, e1, e5, hi, hs, hq, w1, w2, hll, hsp, List.length_map]
      refine ⟨en, fun j hj hn => ?_, a ++ [.str x], z, htk.symm, by simp only [List.append_assoc, List.cons_append, List.nil_append, hsp], by rw [List.length_cons] at hz; omega⟩
      simp (disch := omega) only [upd_hit, upd_miss]
      exact hfr j hj hn
    · rintro st ⟨e0, e1, e5, en, hfr, a, z, hae, hs, hz⟩
      rw [List.take_length] at hae
      have hz0 : z = [] := List.eq_nil_of_length_eq_zero (by omega)
      subst hz0 hae
      rw [List.append_nil] at hs
      simp +decide only [go_sem, Nat.reduceAdd, Nat.reduceMul, Nat.reduceSub, Nat.reduceLT, Nat.reduceLeDiff, Nat.reduceEqDiff, Nat.add_assoc, Int.reduceAdd, Int.reduceSub, Int.reduceMul, Int.reduceLT, Int.reduceLE, Int.reduceEq, Int.reduceNeg, strOp_add, e0, e1, e5]
      exact hQ _ (.inr ⟨id, g, app, ty, by rw [hlen], hs, rfl⟩) en fun j hj hn => hfr j hj fun e => hn (by simp [e])
    · simp +decide only [go_sem, Nat.reduceAdd, Nat.reduceMul, Nat.reduceSub, Nat.reduceLT, Nat.reduceLeDiff, Nat.reduceEqDiff, Nat.add_assoc, Int.reduceAdd, Int.reduceSub, Int.reduceMul, Int.reduceLT, Int.reduceLE, Int.reduceEq, Int.reduceNeg, strOp_add]
      exact ⟨rfl, Nat.le_refl _, fun j hj hn => trivial, [], ns.map AV.str, by rw [mkS]; rfl, hs, by simp⟩

theorem spl0 {a r : List AV} {c x : AV} {i : Nat} (h : a.length = i) : List.take i (a ++ c :: r) ++ [x] ++ List.drop (i + 1) (a ++ c :: r) = a ++ x :: r := by
  subst h
  simp
theorem spl1 {a r : List AV} {b c x : AV} {i : Nat} (h : a.length = i) : List.take (i + 1) (a ++ b :: c :: r) ++ [x] ++ List.drop (i + 2) (a ++ b :: c :: r) = a ++ b :: x :: r := by
  subst h
  rw [List.take_append, List.drop_append, List.take_of_length_le (by omega), List.drop_eq_nil_of_le (by omega), Nat.add_sub_cancel_left, Nat.add_sub_cancel_left]
  simp
theorem spl2 {a r : List AV} {b c d x : AV} {i : Nat} (h : a.length = i) : List.take (i + 2) (a ++ b :: c :: d :: r) ++ [x] ++ List.drop (i + 3) (a ++ b :: c :: d :: r) = a ++ b :: c :: x :: r := by
  subst h
  rw [List.take_append, List.drop_append, List.take_of_length_le (by omega), List.drop_eq_nil_of_le (by omega), Nat.add_sub_cancel_left, Nat.add_sub_cancel_left]
  simp
theorem drp3 {a r : List AV} {b c d : AV} {i : Nat} (h : a.length = i) : List.drop (i + 3) (a ++ b :: c :: d :: r) = r := by
  subst h
  rw [List.drop_append, List.drop_eq_nil_of_le (by omega), Nat.add_sub_cancel_left]
  simp
theorem drp4 {a r : List AV} {b c d e : AV} {i : Nat} (h : a.length = i) : List.drop (i + 4) (a ++ b :: c :: d :: e :: r) = r := by
  subst h
  rw [List.drop_append, List.drop_eq_nil_of_le (by omega), Nat.add_sub_cancel_left]
  simp
set_option maxHeartbeats 4000000 in
theorem markDatums_wp (l : List Dat) (hl : l.length ≤ 1099511627776) (hS : ∀ x ∈ l, x.Sane)
    (ih : ∀ x ∈ l, ∀ (k : Nat), 1 ≤ k → k + cntL x.list ≤ 4611686018427387904 → ∀ (v : AV) (B : List Nat) (m : Mem), OLst m x.list v B → B.Nodup → (∀ b ∈ B, b < m.nid) → ∀ (Q : AV × Mem → Prop), (∀ m', OLst m' (mkL k x.list) v B → m.nid ≤ m'.nid → (∀ j, j < m.nid → j ∉ B → m'.sto j = m.sto j) → Q (.int .i64 ((k + cntL x.list : Nat) : Int), m')) → Comes (fnI CC PR 31 [v, .int .i64 k] m) Q)
    (k : Nat) (h1 : 1 ≤ k) (hk : k + cntL l ≤ 4611686018427387904) (v : AV) (B : List Nat) (m : Mem) (hO : OLst m l v B) (hN : B.Nodup) (hB : ∀ b ∈ B, b < m.nid) (Q : AV × Mem → Prop)
    (hQ : ∀ m', OLst m' (mkL k l) v B → m.nid ≤ m'.nid → (∀ j, j < m.nid → j ∉ B → m'.sto j = m.sto j) → Q (.int .i64 ((k + cntL l : Nat) : Int), m')) :
    Comes (fnI CC PR 31 [v, .int .i64 k] m) Q := by
  refine fnI_wp (rs := [.tmp 4]) Tryd.func31 rfl rfl (Nat.le_of_ble_eq_true rfl) rfl rfl ?_
  rcases hO with ⟨rfl, rfl, rfl⟩ | ⟨id, g, app, ty, cs, B, rfl, hs, hC, rfl⟩
  · simp +decide only [go_sem, Nat.reduceAdd, Nat.reduceMul, Nat.reduceSub, Nat.reduceLT, Nat.reduceLeDiff, Nat.reduceEqDiff, Nat.add_assoc, Int.reduceAdd, Int.reduceSub, Int.reduceMul, Int.reduceLT, Int.reduceLE, Int.reduceEq, Int.reduceNeg, strOp_add]
    refine comes_upto 0 (fun i st => st.env 0 = .nils 5 ∧ st.env 1 = .int .i64 k ∧ st.env 5 = .int .i64 0 ∧ st.nid = m.nid ∧ st.sto = m.sto) ?_ ?_ _ ?_
    · rintro i st hi; omega
    · rintro st ⟨e0, e1, e5, en, es⟩
      rw [cntL_nil, Nat.add_zero] at hQ
      simp +decide only [go_sem, Nat.reduceAdd, Nat.reduceMul, Nat.reduceSub, Nat.reduceLT, Nat.reduceLeDiff, Nat.reduceEqDiff, Nat.add_assoc, Int.reduceAdd, Int.reduceSub, Int.reduceMul, Int.reduceLT, Int.reduceLE, Int.reduceEq, Int.reduceNeg, strOp_add, e0, e1, e5]
      exact hQ _ (.inl ⟨by rw [mkL], rfl, rfl⟩) (by show m.nid ≤ st.nid; omega) fun j hj _ => by show st.sto j = _; rw [es]
    · simp +decide only [go_sem, Nat.reduceAdd, Nat.reduceMul, Nat.reduceSub, Nat.reduceLT, Nat.reduceLeDiff, Nat.reduceEqDiff, Nat.add_assoc, Int.reduceAdd, Int.reduceSub, Int.reduceMul, Int.reduceLT, Int.reduceLE, Int.reduceEq, Int.reduceNeg, strOp_add]
  · simp +decide only [go_sem, Nat.reduceAdd, Nat.reduceMul, Nat.reduceSub, Nat.reduceLT, Nat.reduceLeDiff, Nat.reduceEqDiff, Nat.add_assoc, Int.reduceAdd, Int.reduceSub, Int.reduceMul, Int.reduceLT, Int.reduceLE, Int.reduceEq, Int.reduceNeg, strOp_add]
    have hid := hB id (by simp)
    have hlen := mkL_len k l
    obtain ⟨hN1, hN2⟩ := List.nodup_cons.1 hN
    have hBB : ∀ b ∈ B, b < m.nid := fun b hb => hB b (by simp [hb])
    refine comes_upto l.length (fun i st => st.env 0 = .arr id g 0 l.length 5 app ∧ st.env 1 = .int .i64 ((k + cntL (l.take i) : Nat) : Int) ∧ st.env 5 = .int .i64 i ∧ m.nid ≤ st.nid ∧ (∀ j, j < m.nid → j ≠ id → j ∉ B → st.sto j = m.sto j) ∧ ∃ cs, st.sto id = ⟨cs, g, false, ty⟩ ∧ OCel st.toMem (mkL k (l.take i) ++ l.drop i) cs B) ?_ ?_ _ ?_
    · rintro i st hi ⟨e0, e1, e5, en, hfr, cs, hs, hC⟩
      have w1 : IntKind.wrap .i64 ((i : Int) + 1) = ((i + 1 : Nat) : Int) := wrap_succ (by omega)
      have hz := cntL_take hi
      have hz2 := cntL_le l (i + 1)
      have hmk := mkL_take hi k
      have hln : (mkL k (l.take i)).length = i := by rw [mkL_len, List.length_take, Nat.min_eq_left (by omega)]
      have hih := ih _ (List.getElem_mem hi)
      have hsn := hS _ (List.getElem_mem hi)
      rw [List.drop_eq_getElem_cons hi] at hC
      rw [hz] at hz2
      rw [hz, hmk]
      generalize cntL (l.take i) = c at *
      generalize mkL k (l.take i) = X at *
      generalize l.drop (i + 1) = Y at *
      generalize l[i] = d at *
      obtain ⟨c1, B1, c2, B2, rfl, rfl, hX, hC2⟩ := (oCel_app _ _).1 hC
      obtain ⟨c3, B3, c4, B4, rfl, rfl, hD, hY⟩ := oCel_cons.1 hC2
      obtain ⟨dk, dn, dt, dl, dns⟩ := d
      obtain ⟨lv, nv, Bl, Bn, rfl, rfl, hnv, hlv⟩ := oDat_iff.1 hD
      rw [cnt_mk] at hz hz2 ⊢
      cases hsn with
      | mk _ _ _ _ _ hk' hn' ht' hl' hns' hss' h' =>
      have hal : c1.length = i * 5 := by rw [oCel_len _ hX, hln]
      have hih : ∀ k : Nat, 1 ≤ k → k + cntL dl ≤ _ → _ := hih
      rw [show k + (c + (3 + cntL dl + dns.length)) = k + c + 3 + cntL dl + dns.length by omega]
      have hk3 : k + c + 3 + cntL dl + dns.length ≤ 4611686018427387904 := by omega
      have hk4 : 1 ≤ k + c := by omega
      rw [mkE_mk]
      generalize k + c = k0 at *
      have hq := (mt_eq (k := k0 + 2) (by omega) (by omega)).1
      have w2 : IntKind.wrap .i64 ((k0 : Int) + 1) = ((k0 + 1 : Nat) : Int) := by rw [wrap_id (by omega) (by omega)]; omega
      have w3 : IntKind.wrap .i64 (((k0 + 1 : Nat) : Int) + 1) = ((k0 + 2 : Nat) : Int) := by rw [wrap_id (by omega) (by omega)]; omega
      have w4 : IntKind.wrap .i64 (((k0 + 2 : Nat) : Int) + 1) = ((k0 + 3 : Nat) : Int) := by rw [wrap_id (by omega) (by omega)]; omega
      generalize mt (k0 + 2) = x at *
      have p0 := fun (a0 a1 a2 : AV) => @spl0 c1 (a1 :: a2 :: lv :: nv :: c4) a0 (.int .i64 (k0 : Int)) (i * 5) hal
      have p1 := fun (a0 a1 a2 : AV) => @spl1 c1 (a2 :: lv :: nv :: c4) a0 a1 (.int .i64 ((k0 + 1 : Nat) : Int)) (i * 5) hal
      have p2 := fun (a0 a1 a2 : AV) => @spl2 c1 (lv :: nv :: c4) a0 a1 a2 (.str x) (i * 5) hal
      have hLL : ∀ a0 a1 a2 : AV, (c1 ++ a0 :: a1 :: a2 :: lv :: nv :: c4).length = i * 5 + (5 + c4.length) := fun a0 a1 a2 => by simp only [List.length_append, List.length_cons]; omega
      have b1 : (i * 5 + 1 ≤ i * 5 + (5 + c4.length)) = True := eq_true (by omega)
      have b2 : (i * 5 + 2 ≤ i * 5 + (5 + c4.length)) = True := eq_true (by omega)
      have b3 : (i * 5 + 3 ≤ i * 5 + (5 + c4.length)) = True := eq_true (by omega)
      have d3 := fun (a0 a1 a2 : AV) => @drp3 c1 (lv :: nv :: c4) a0 a1 a2 (i * 5) hal
      have d4 := fun (a0 a1 a2 : AV) => @drp4 c1 (nv :: c4) a0 a1 a2 lv (i * 5) hal
      simp only [d3] at p2
      have o1 := lstR_one hlv.lst
      have o2 := strR_one hnv.str
      simp only [AV.one] at o1 o2
      simp +decide only [go_sem, Nat.reduceAdd, Nat.reduceMul, Nat.reduceSub, Nat.reduceLT, Nat.reduceLeDiff, Nat.reduceEqDiff, Nat.add_assoc, Int.reduceAdd, Int.reduceSub, Int.reduceMul, Int.reduceLT, Int.reduceLE, Int.reduceEq, Int.reduceNeg, strOp_add, e0, e1, e5, hi, hs, hq, w1, w2, w3, w4, p0, p1, p2, hLL, b1, b2, b3, d3, d4, o1, o2, true_or]
      have hNd : (B1 ++ (Bl ++ Bn ++ B4)).Nodup := hN2
      rw [List.nodup_append] at hNd
      obtain ⟨hNB1, hNd, hx1⟩ := hNd
      rw [List.nodup_append] at hNd
      obtain ⟨hNd, hNB4, hx2⟩ := hNd
      rw [List.nodup_append] at hNd
      obtain ⟨hNl, hNn, hx3⟩ := hNd
      have i1 : ∀ b ∈ B1, b ≠ id := fun b hb e => hN1 (by simp [← e, hb])
      have i2 : ∀ b ∈ Bl, b ≠ id := fun b hb e => hN1 (by simp [← e, hb])
      have i3 : ∀ b ∈ Bn, b ≠ id := fun b hb e => hN1 (by simp [← e, hb])
      have i4 : ∀ b ∈ B4, b ≠ id := fun b hb e => hN1 (by simp [← e, hb])
      have y1 : ∀ b ∈ B1, b < m.nid := fun b hb => hBB b (by simp [hb])
      have y2 : ∀ b ∈ Bl, b < m.nid := fun b hb => hBB b (by simp [hb])
      have y3 : ∀ b ∈ Bn, b < m.nid := fun b hb => hBB b (by simp [hb])
      have y4 : ∀ b ∈ B4, b < m.nid := fun b hb => hBB b (by simp [hb])
      refine hih (k0 + 3) (by omega) (by omega) lv Bl _ ?_ hNl ?_ _ fun m1 q1 q2 q3 => ?_
      · refine hlv.keep fun b hb => ?_
        have := i2 b hb
        show upd _ _ _ _ = _
        simp (disch := omega) only [upd_hit, upd_miss]
      · exact fun b hb => Nat.lt_of_lt_of_le (y2 b hb) en
      simp only [Dat.list] at q1 ⊢
      have q2' : st.nid ≤ m1.nid := q2
      have s1 := (q3 id (by show id < st.nid; omega) fun h => i2 id h rfl).trans (upd_hit _ _ _)
      have q4 : ∀ b, b < st.nid → b ≠ id → b ∉ Bl → m1.sto b = st.sto b := fun b c1 c2 c3 => (q3 b c1 c3).trans (by
        show upd _ _ _ _ = _
        simp (disch := omega) only [upd_hit, upd_miss])
      simp +decide only [go_sem, Nat.reduceAdd, Nat.reduceMul, Nat.reduceSub, Nat.reduceLT, Nat.reduceLeDiff, Nat.reduceEqDiff, Nat.add_assoc, Int.reduceAdd, Int.reduceSub, Int.reduceMul, Int.reduceLT, Int.reduceLE, Int.reduceEq, Int.reduceNeg, strOp_add, e0, e1, e5, hi, s1, d4, o2, true_or]
      refine markStrings_wp dns hns' (k0 + (3 + cntL dl)) (by omega) (by omega) nv Bn _ ?_ ?_ _ fun m2 r1 r2 r3 => ?_
      · refine hnv.keep fun b hb => ?_
        exact q4 b (by have := y3 b hb; omega) (i3 b hb) fun h => hx3 b h b hb rfl
      · exact fun b hb => by show b < m1.nid; have := y3 b hb; omega
      have r2' : m1.nid ≤ m2.nid := r2
      have s2 := (r3 id (by show id < m1.nid; omega) fun h => i3 id h rfl).trans s1
      simp +decide only [go_sem, Nat.reduceAdd, Nat.reduceMul, Nat.reduceSub, Nat.reduceLT, Nat.reduceLeDiff, Nat.reduceEqDiff, Nat.add_assoc, Int.reduceAdd, Int.reduceSub, Int.reduceMul, Int.reduceLT, Int.reduceLE, Int.reduceEq, Int.reduceNeg, strOp_add, e0, e1, e5, hi, s2, w1]
      have r4 : ∀ b, b < m.nid → b ≠ id → b ∉ Bl → b ∉ Bn → m2.sto b = st.sto b := fun b c1 c2 c3 c4 => (r3 b (by show b < m1.nid; omega) c4).trans (q4 b (by omega) c2 c3)
      refine ⟨by omega, fun j hj hn hn2 => ?_, ?_⟩
      · have a1 : j ∉ Bl := fun h => hn2 (by simp [h])
        have a2 : j ∉ Bn := fun h => hn2 (by simp [h])
        exact (r4 j hj hn a1 a2).trans (hfr j hj hn hn2)
      · rw [List.append_assoc]
        refine ⟨_, rfl, ?_⟩
        refine (oCel_app _ _).2 ⟨c1, B1, _, _, rfl, rfl, hX.keep fun b hb => ?_, oCel_cons.2 ⟨[.int .i64 (k0 : Int), .int .i64 ((k0 + 1 : Nat) : Int), .str x, lv, nv], Bl ++ Bn, c4, B4, rfl, rfl, oDat_iff.2 ⟨lv, nv, Bl, Bn, rfl, rfl, r1, q1.keep fun b hb => ?_⟩, hY.keep fun b hb => ?_⟩⟩
        · exact r4 b (y1 b hb) (i1 b hb) (fun h => hx1 b hb b (by simp [h]) rfl) fun h => hx1 b hb b (by simp [h]) rfl
        · exact r3 b (by show b < m1.nid; have := y2 b hb; omega) fun h => hx3 b hb b h rfl
        · exact r4 b (y4 b hb) (i4 b hb) (fun h => hx2 b (by simp [h]) b hb rfl) fun h => hx2 b (by simp [h]) b hb rfl
    · rintro st ⟨e0, e1, e5, en, hfr, cs, hs, hC⟩
      rw [List.take_length] at hC e1
      rw [List.drop_length, List.append_nil] at hC
      simp +decide only [go_sem, Nat.reduceAdd, Nat.reduceMul, Nat.reduceSub, Nat.reduceLT, Nat.reduceLeDiff, Nat.reduceEqDiff, Nat.add_assoc, Int.reduceAdd, Int.reduceSub, Int.reduceMul, Int.reduceLT, Int.reduceLE, Int.reduceEq, Int.reduceNeg, strOp_add, e0, e1, e5]
      exact hQ _ (.inr ⟨id, g, app, ty, cs, B, by rw [hlen], hs, hC, rfl⟩) en fun j hj hn => hfr j hj (fun e => hn (by simp [e])) fun e => hn (by simp [e])
    · simp +decide only [go_sem, Nat.reduceAdd, Nat.reduceMul, Nat.reduceSub, Nat.reduceLT, Nat.reduceLeDiff, Nat.reduceEqDiff, Nat.add_assoc, Int.reduceAdd, Int.reduceSub, Int.reduceMul, Int.reduceLT, Int.reduceLE, Int.reduceEq, Int.reduceNeg, strOp_add]
      exact ⟨by rw [cntL_nil]; rfl, rfl, Nat.le_refl _, fun _ _ _ _ => trivial, by rw [mkL]; exact ⟨cs, hs, hC⟩⟩
theorem markL_wp : ∀ (d : Dat), d.Sane → ∀ (k : Nat), 1 ≤ k → k + cntL d.list ≤ 4611686018427387904 → ∀ (v : AV) (B : List Nat) (m : Mem), OLst m d.list v B → B.Nodup → (∀ b ∈ B, b < m.nid) → ∀ (Q : AV × Mem → Prop), (∀ m', OLst m' (mkL k d.list) v B → m.nid ≤ m'.nid → (∀ j, j < m.nid → j ∉ B → m'.sto j = m.sto j) → Q (.int .i64 ((k + cntL d.list : Nat) : Int), m')) → Comes (fnI CC PR 31 [v, .int .i64 k] m) Q := by
  intro d
  induction d using Dat.ind with
  | h k n t l ns ih =>
  intro hd
  cases hd with
  | mk _ _ _ _ _ hk hn ht hl hns hss h =>
  exact markDatums_wp l hl h fun x hx => ih x hx (h x hx)
set_option maxHeartbeats 1000000 in
/-- Data of one's own are marked: no other block is written. -/
theorem markDatum_wp (d : Dat) (hd : d.Sane) (k : Nat) (h1 : 1 ≤ k) (hk : k + cnt d ≤ 4611686018427387904) (a0 a1 a2 lv nv : AV) (B : List Nat) (m : Mem) (hO : ODat m d [a0, a1, a2, lv, nv] B) (hN : B.Nodup) (hB : ∀ b ∈ B, b < m.nid) (Q : AV × Mem → Prop)
    (hQ : ∀ m', ODat m' (mkD k d) [a0, a1, a2, lv, nv] B → m.nid ≤ m'.nid → (∀ j, j < m.nid → j ∉ B → m'.sto j = m.sto j) → Q (.int .i64 ((k + (cntL d.list + d.names.length) : Nat) : Int), m')) :
    Comes (fnI CC PR 12 [.agg [a0, a1, a2, lv, nv], .int .i64 k] m) Q := by
  have hw := markL_wp d hd k h1
  obtain ⟨dk, dn, dt, dl, dns⟩ := d
  rw [cnt_mk] at hk
  simp only [Dat.list, Dat.names] at hw hQ
  cases hd with
  | mk _ _ _ _ _ hk' hn' ht' hl' hns' hss' h' =>
  obtain ⟨lv, nv, Bl, Bn, he, rfl, hnv, hlv⟩ := oDat_iff.1 hO
  simp only [List.cons.injEq, and_true] at he
  obtain ⟨rfl, rfl, rfl, rfl, rfl⟩ := he
  rw [List.nodup_append] at hN
  obtain ⟨hNl, hNn, hx⟩ := hN
  have o1 := lstR_one hlv.lst
  have o2 := strR_one hnv.str
  simp only [AV.one] at o1 o2
  refine fnI_wp (rs := [.tmp 4]) Tryd.func12 rfl rfl (Nat.le_of_ble_eq_true rfl) rfl rfl ?_
  simp +decide only [go_sem, Nat.reduceAdd, Nat.reduceMul, Nat.reduceSub, Nat.reduceLT, Nat.reduceLeDiff, Nat.reduceEqDiff, Nat.add_assoc, Int.reduceAdd, Int.reduceSub, Int.reduceMul, Int.reduceLT, Int.reduceLE, Int.reduceEq, Int.reduceNeg, strOp_add, o1, o2, true_or]
  have y2 : ∀ b ∈ Bl, b < m.nid := fun b hb => hB b (by simp [hb])
  have y3 : ∀ b ∈ Bn, b < m.nid := fun b hb => hB b (by simp [hb])
  refine hw (by omega) lv Bl _ ?_ hNl ?_ _ fun m1 q1 q2 q3 => ?_
  · refine hlv.keep fun b hb => ?_
    have := y2 b hb
    show upd _ _ _ _ = _
    simp (disch := omega) only [upd_hit, upd_miss]
  · exact fun b hb => Nat.lt_of_lt_of_le (y2 b hb) (Nat.le_succ _)
  have q2' : m.nid + 1 ≤ m1.nid := q2
  have s1 := (q3 m.nid (Nat.lt_succ_self _) fun h => Nat.lt_irrefl _ (y2 _ h)).trans (upd_hit _ _ _)
  simp +decide only [go_sem, Nat.reduceAdd, Nat.reduceMul, Nat.reduceSub, Nat.reduceLT, Nat.reduceLeDiff, Nat.reduceEqDiff, Nat.add_assoc, Int.reduceAdd, Int.reduceSub, Int.reduceMul, Int.reduceLT, Int.reduceLE, Int.reduceEq, Int.reduceNeg, strOp_add, s1, o2, true_or]
  refine markStrings_wp dns hns' (k + cntL dl) (by omega) (by omega) nv Bn _ ?_ ?_ _ fun m2 r1 r2 r3 => ?_
  · refine hnv.keep fun b hb => ?_
    refine (q3 b (Nat.lt_succ_of_lt (y3 b hb)) fun h => hx b h b hb rfl).trans ?_
    have := y3 b hb
    show upd _ _ _ _ = _
    simp (disch := omega) only [upd_hit, upd_miss]
  · exact fun b hb => by show b < m1.nid; have := y3 b hb; omega
  have r2' : m1.nid ≤ m2.nid := r2
  simp +decide only [go_sem, Nat.reduceAdd, Nat.reduceMul, Nat.reduceSub, Nat.reduceLT, Nat.reduceLeDiff, Nat.reduceEqDiff, Nat.add_assoc, Int.reduceAdd, Int.reduceSub, Int.reduceMul, Int.reduceLT, Int.reduceLE, Int.reduceEq, Int.reduceNeg, strOp_add]
  refine hQ ⟨_, m2.nid⟩ (oDat_iff.2 ⟨lv, nv, Bl, Bn, rfl, rfl, r1, q1.keep fun b hb => ?_⟩) (by show m.nid ≤ m2.nid; omega) fun j hj hn => ?_
  · exact r3 b (by show b < m1.nid; have := y2 b hb; omega) fun h => hx b hb b h rfl
  · refine (r3 j (by show j < m1.nid; omega) fun h => hn (by simp [h])).trans ((q3 j (by show j < m.nid + 1; omega) fun h => hn (by simp [h])).trans ?_)
    show upd _ _ _ _ = _
    simp (disch := omega) only [upd_hit, upd_miss]
end Go.Ev.Tryd
