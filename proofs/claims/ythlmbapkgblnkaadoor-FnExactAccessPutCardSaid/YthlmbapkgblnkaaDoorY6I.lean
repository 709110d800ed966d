/- Part of the proof of a statement about the given program: Y6I. No condition of its own. -/
import Derived.Test.YthlmbapkgblnkaaDoorY5I
namespace Go.Ev.Tryd
open Go.Proofs
set_option maxRecDepth 10000
set_option linter.unusedSimpArgs false
set_option linter.unusedVariables false
attribute [local congr] comes_congr bB_congr gK_congr gdK_congr

theorem spl0 {a r : List AV} {c x : AV} {i : Nat} (h : a.length = i) : List.take i (a ++ c :: r) ++ [x] ++ List.drop (i + 1) (a ++ c :: r) = a ++ x :: r := by
  subst h
  simp
theorem spl1 {a r : List AV} {b c x : AV} {i : Nat} (h : a.length = i) : List.take (i + 1) (a ++ b :: c :: r) ++ [x] ++ List.drop (i + 2) (a ++ b :: c :: r) = a ++ b :: x :: r := by
  subst h
  rw [List.take_append, List.drop_append, List.take_of_length_le (by omega), List.drop_eq_nil_of_le (by omega), Nat.add_sub_cancel_left, Nat.add_sub_cancel_left]
  simp
theorem spl3 {a r : List AV} {b0 b1 b2 c x : AV} {i : Nat} (h : a.length = i) : List.take (i + 3) (a ++ b0 :: b1 :: b2 :: c :: r) ++ [x] ++ List.drop (i + 4) (a ++ b0 :: b1 :: b2 :: c :: r) = a ++ b0 :: b1 :: b2 :: x :: r := by
  subst h
  rw [List.take_append, List.drop_append, List.take_of_length_le (by omega), List.drop_eq_nil_of_le (by omega), Nat.add_sub_cancel_left, Nat.add_sub_cancel_left]
  simp
theorem spl4 {a r : List AV} {b0 b1 b2 b3 c x : AV} {i : Nat} (h : a.length = i) : List.take (i + 4) (a ++ b0 :: b1 :: b2 :: b3 :: c :: r) ++ [x] ++ List.drop (i + 5) (a ++ b0 :: b1 :: b2 :: b3 :: c :: r) = a ++ b0 :: b1 :: b2 :: b3 :: x :: r := by
  subst h
  rw [List.take_append, List.drop_append, List.take_of_length_le (by omega), List.drop_eq_nil_of_le (by omega), Nat.add_sub_cancel_left, Nat.add_sub_cancel_left]
  simp
theorem drp {a r b : List AV} {i j : Nat} (h : a.length = i) (h2 : b.length = j) : List.drop (i + j) (a ++ (b ++ r)) = r := by
  subst h h2
  rw [← List.append_assoc, ← List.length_append, List.drop_left]
theorem drp2 {a r : List AV} {b c : AV} {i : Nat} (h : a.length = i) : List.drop (i + 2) (a ++ b :: c :: r) = r := drp (b := [b, c]) h rfl
theorem drp4 {a r : List AV} {b c d e : AV} {i : Nat} (h : a.length = i) : List.drop (i + 4) (a ++ b :: c :: d :: e :: r) = r := drp (b := [b, c, d, e]) h rfl
theorem drp5 {a r : List AV} {b c d e f : AV} {i : Nat} (h : a.length = i) : List.drop (i + 5) (a ++ b :: c :: d :: e :: f :: r) = r := drp (b := [b, c, d, e, f]) h rfl
set_option maxHeartbeats 8000000 in
theorem markNodes_wp (l : List Nod) (hl : l.length ≤ 1048576) (hS : ∀ x ∈ l, x.Sane)
    (ih : ∀ x ∈ l, ∀ (w : List Nod), (w = x.ptrs ∨ w = x.items) → ∀ (k : Nat), 1 ≤ k → k + cntL w ≤ 4611686018427387904 → ∀ (v : AV) (B : List Nat) (m : Mem), OLst m w v B → B.Nodup → (∀ b ∈ B, b < m.nid) → ∀ (Q : AV × Mem → Prop), (∀ m', OLst m' (mkL k w) v B → m.nid ≤ m'.nid → (∀ j, j < m.nid → j ∉ B → m'.sto j = m.sto j) → Q (.int .i64 ((k + cntL w : Nat) : Int), m')) → Comes (fnI CC PR 32 [v, .int .i64 k] m) Q)
    (k : Nat) (h1 : 1 ≤ k) (hk : k + cntL l ≤ 4611686018427387904) (v : AV) (B : List Nat) (m : Mem) (hO : OLst m l v B) (hN : B.Nodup) (hB : ∀ b ∈ B, b < m.nid) (Q : AV × Mem → Prop)
    (hQ : ∀ m', OLst m' (mkL k l) v B → m.nid ≤ m'.nid → (∀ j, j < m.nid → j ∉ B → m'.sto j = m.sto j) → Q (.int .i64 ((k + cntL l : Nat) : Int), m')) :
    Comes (fnI CC PR 32 [v, .int .i64 k] m) Q := by
  refine fnI_wp (rs := [.tmp 4]) Tryd.func32 rfl rfl (Nat.le_of_ble_eq_true rfl) rfl rfl ?_
  rcases hO with ⟨rfl, rfl, rfl⟩ | ⟨id, g, app, ty, cs, B, rfl, hs, hC, rfl⟩
  · simp +decide only [go_sem, Nat.reduceAdd, Nat.reduceMul, Nat.reduceSub, Nat.reduceLT, Nat.reduceLeDiff, Nat.reduceEqDiff, Nat.add_assoc, Int.reduceAdd, Int.reduceSub, Int.reduceMul, Int.reduceLT, Int.reduceLE, Int.reduceEq, Int.reduceNeg, strOp_add]
    refine comes_upto 0 (fun i st => st.env 0 = .nils 6 ∧ st.env 1 = .int .i64 k ∧ st.env 5 = .int .i64 0 ∧ st.nid = m.nid ∧ st.sto = m.sto) ?_ ?_ _ ?_
    · rintro i st hi; omega
    · rintro st ⟨e0, e1, e5, en, es⟩
      rw [cntL_nil, Nat.add_zero] at hQ
      simp +decide only [go_sem, Nat.reduceAdd, Nat.reduceMul, Nat.reduceSub, Nat.reduceLT, Nat.reduceLeDiff, Nat.reduceEqDiff, Nat.add_assoc, Int.reduceAdd, Int.reduceSub, Int.reduceMul, Int.reduceLT, Int.reduceLE, Int.reduceEq, Int.reduceNeg, strOp_add, e0, e1, e5]
      exact hQ _ (.inl ⟨by rw [mkL], rfl, rfl⟩) (by show m.nid ≤ st.nid; omega) fun j hj _ => by show st.sto j = _; rw [es]
    · simp +decide only [go_sem, Nat.reduceAdd, Nat.reduceMul, Nat.reduceSub, Nat.reduceLT, Nat.reduceLeDiff, Nat.reduceEqDiff, Nat.add_assoc, Int.reduceAdd, Int.reduceSub, Int.reduceMul, Int.reduceLT, Int.reduceLE, Int.reduceEq, Int.reduceNeg, strOp_add]
  · simp +decide only [go_sem, Nat.reduceAdd, Nat.reduceMul, Nat.reduceSub, Nat.reduceLT, Nat.reduceLeDiff, Nat.reduceEqDiff, Nat.add_assoc, Int.reduceAdd, Int.reduceSub, Int.reduceMul, Int.reduceLT, Int.reduceLE, Int.reduceEq, Int.reduceNeg, strOp_add]
    have hid := hB id (by simp)
    have hlen := mkL_len k l
    obtain ⟨hN1, hN2⟩ := List.nodup_cons.1 hN
    have hBB : ∀ b ∈ B, b < m.nid := fun b hb => hB b (by simp [hb])
    refine comes_upto l.length (fun i st => st.env 0 = .arr id g 0 l.length 6 app ∧ st.env 1 = .int .i64 ((k + cntL (l.take i) : Nat) : Int) ∧ st.env 5 = .int .i64 i ∧ m.nid ≤ st.nid ∧ (∀ j, j < m.nid → j ≠ id → j ∉ B → st.sto j = m.sto j) ∧ ∃ cs, st.sto id = ⟨cs, g, false, ty⟩ ∧ OCel st.toMem (mkL k (l.take i) ++ l.drop i) cs B) ?_ ?_ _ ?_
    · rintro i st hi ⟨e0, e1, e5, en, hfr, cs, hs, hC⟩
      have w1 : IntKind.wrap .i64 ((i : Int) + 1) = ((i + 1 : Nat) : Int) := wrap_succ (by omega)
      have hz := cntL_take hi
      have hz2 := cntL_le l (i + 1)
      have hmk := mkL_take hi k
      have hln : (mkL k (l.take i)).length = i := by rw [mkL_len, List.length_take, Nat.min_eq_left (by omega)]
      have hih := ih _ (List.getElem_mem hi)
      have hsn := hS _ (List.getElem_mem hi)
      rw [List.drop_eq_getElem_cons hi] at hC
      rw [hz] at hz2
      rw [hz, hmk]
      generalize cntL (l.take i) = c at *
      generalize mkL k (l.take i) = X at *
      generalize l.drop (i + 1) = Y at *
      generalize l[i] = d at *
      obtain ⟨c1, B1, c2, B2, rfl, rfl, hX, hC2⟩ := (oCel_app _ _).1 hC
      obtain ⟨c3, B3, c4, B4, rfl, rfl, hD, hY⟩ := oCel_cons.1 hC2
      obtain ⟨dk, dd, dp, ds, dc, di⟩ := d
      obtain ⟨lv, nv, Bl, Bn, rfl, rfl, hlv, hnv⟩ := oNod_iff.1 hD
      rw [cnt_mk] at hz hz2 ⊢
      cases hsn with
      | mk _ _ _ _ _ _ hk' hs' hc' hd' hp' hi' h1' h2' =>
      have hal : c1.length = i * 6 := by rw [oCel_len _ hX, hln]
      simp only [Nod.ptrs, Nod.items] at hih
      have hihp := hih dp (.inl rfl)
      have hihi := hih di (.inr rfl)
      rw [show k + (c + (4 + cntL dp + cntL di)) = k + c + 4 + cntL dp + cntL di by omega]
      have hk3 : k + c + 4 + cntL dp + cntL di ≤ 4611686018427387904 := by omega
      have hk4 : 1 ≤ k + c := by omega
      rw [mkE_mk]
      generalize k + c = k0 at *
      obtain ⟨k2, hk2⟩ : ∃ y, y = k0 + 2 + cntL dp := ⟨_, rfl⟩
      obtain ⟨k3, hk3'⟩ : ∃ y, y = k0 + 3 + cntL dp := ⟨_, rfl⟩
      obtain ⟨k4, hk4'⟩ : ∃ y, y = k0 + 4 + cntL dp := ⟨_, rfl⟩
      obtain ⟨k5, hk5⟩ : ∃ y, y = k0 + 4 + cntL dp + cntL di := ⟨_, rfl⟩
      rw [← hk5, ← hk2, ← hk3', ← hk4']
      have hq := (mt_eq (k := k0 + 1) (by omega) (by omega)).1
      have w2 : IntKind.wrap .i64 ((k0 : Int) + 1) = ((k0 + 1 : Nat) : Int) := by rw [wrap_id (by omega) (by omega)]; omega
      have w3 : IntKind.wrap .i64 (((k0 + 1 : Nat) : Int) + 1) = ((k0 + 2 : Nat) : Int) := by rw [wrap_id (by omega) (by omega)]; omega
      generalize mt (k0 + 1) = x at *
      have p0 := fun (a0 a1 a3 a4 : AV) => @spl0 c1 (a1 :: lv :: a3 :: a4 :: nv :: c4) a0 (.int .i64 (k0 : Int)) (i * 6) hal
      have p1 := fun (a0 a1 a3 a4 : AV) => @spl1 c1 (lv :: a3 :: a4 :: nv :: c4) a0 a1 (.str x) (i * 6) hal
      have hLL : ∀ a0 a1 a3 a4 : AV, (c1 ++ a0 :: a1 :: lv :: a3 :: a4 :: nv :: c4).length = i * 6 + (6 + c4.length) := fun a0 a1 a3 a4 => by simp only [List.length_append, List.length_cons]; omega
      have b1 : (i * 6 + 1 ≤ i * 6 + (6 + c4.length)) = True := eq_true (by omega)
      have b2 : (i * 6 + 2 ≤ i * 6 + (6 + c4.length)) = True := eq_true (by omega)
      have d2 := fun (a0 a1 a3 a4 : AV) => @drp2 c1 (lv :: a3 :: a4 :: nv :: c4) a0 a1 (i * 6) hal
      simp only [d2] at p1
      have o1 := hlv.one
      have o2 := hnv.one
      simp only [AV.one] at o1 o2
      simp +decide only [go_sem, Nat.reduceAdd, Nat.reduceMul, Nat.reduceSub, Nat.reduceLT, Nat.reduceLeDiff, Nat.reduceEqDiff, Nat.add_assoc, Int.reduceAdd, Int.reduceSub, Int.reduceMul, Int.reduceLT, Int.reduceLE, Int.reduceEq, Int.reduceNeg, strOp_add, e0, e1, e5, hi, hs, hq, w1, w2, w3, p0, p1, hLL, b1, b2, d2, o1, o2, true_or]
      have hNd : (B1 ++ (Bl ++ Bn ++ B4)).Nodup := hN2
      rw [List.nodup_append] at hNd
      obtain ⟨hNB1, hNd, hx1⟩ := hNd
      rw [List.nodup_append] at hNd
      obtain ⟨hNd, hNB4, hx2⟩ := hNd
      rw [List.nodup_append] at hNd
      obtain ⟨hNl, hNn, hx3⟩ := hNd
      have i1 : ∀ b ∈ B1, b ≠ id := fun b hb e => hN1 (by simp [← e, hb])
      have i2 : ∀ b ∈ Bl, b ≠ id := fun b hb e => hN1 (by simp [← e, hb])
      have i3 : ∀ b ∈ Bn, b ≠ id := fun b hb e => hN1 (by simp [← e, hb])
      have i4 : ∀ b ∈ B4, b ≠ id := fun b hb e => hN1 (by simp [← e, hb])
      have y1 : ∀ b ∈ B1, b < m.nid := fun b hb => hBB b (by simp [hb])
      have y2 : ∀ b ∈ Bl, b < m.nid := fun b hb => hBB b (by simp [hb])
      have y3 : ∀ b ∈ Bn, b < m.nid := fun b hb => hBB b (by simp [hb])
      have y4 : ∀ b ∈ B4, b < m.nid := fun b hb => hBB b (by simp [hb])
      have hm1 := hihp (k0 + 2) (by omega) (by omega) lv Bl
      have hm2 := hihi (k0 + 4 + cntL dp) (by omega) (by omega) nv Bn
      have w4 : IntKind.wrap .i64 ((k2 : Int) + 1) = (k3 : Int) := by rw [wrap_id (by omega) (by omega)]; omega
      have w5 : IntKind.wrap .i64 ((k3 : Int) + 1) = (k4 : Int) := by rw [wrap_id (by omega) (by omega)]; omega
      rw [← hk2] at hm1
      rw [← hk5, ← hk4'] at hm2
      refine hm1 _ ?_ hNl ?_ _ fun m1 q1 q2 q3 => ?_
      · refine hlv.keep fun b hb => ?_
        have := i2 b hb
        show upd _ _ _ _ = _
        simp (disch := omega) only [upd_hit, upd_miss]
      · exact fun b hb => Nat.lt_of_lt_of_le (y2 b hb) en
      have q2' : st.nid ≤ m1.nid := q2
      have s1 := (q3 id (by show id < st.nid; omega) fun h => i2 id h rfl).trans (upd_hit _ _ _)
      have q4 : ∀ b, b < st.nid → b ≠ id → b ∉ Bl → m1.sto b = st.sto b := fun b c1 c2 c3 => (q3 b c1 c3).trans (by
        show upd _ _ _ _ = _
        simp (disch := omega) only [upd_hit, upd_miss])
      have p3 := fun (a0 a1 a3 a4 : AV) => @spl3 c1 (a4 :: nv :: c4) a0 a1 lv a3 (.int .i64 (k2 : Int)) (i * 6) hal
      have p4 := fun (a0 a1 a3 a4 : AV) => @spl4 c1 (nv :: c4) a0 a1 lv a3 a4 (.int .i64 (k3 : Int)) (i * 6) hal
      have b4 : (i * 6 + 4 ≤ i * 6 + (6 + c4.length)) = True := eq_true (by omega)
      have b5 : (i * 6 + 5 ≤ i * 6 + (6 + c4.length)) = True := eq_true (by omega)
      have d4 := fun (a0 a1 a3 a4 : AV) => @drp4 c1 (a4 :: nv :: c4) a0 a1 lv a3 (i * 6) hal
      have d5 := fun (a0 a1 a3 a4 : AV) => @drp5 c1 (nv :: c4) a0 a1 lv a3 a4 (i * 6) hal
      simp only [d4] at p3
      simp only [d5] at p4
      simp +decide only [go_sem, Nat.reduceAdd, Nat.reduceMul, Nat.reduceSub, Nat.reduceLT, Nat.reduceLeDiff, Nat.reduceEqDiff, Nat.add_assoc, Int.reduceAdd, Int.reduceSub, Int.reduceMul, Int.reduceLT, Int.reduceLE, Int.reduceEq, Int.reduceNeg, strOp_add, e0, e1, e5, hi, s1, w4, w5, p3, p4, hLL, b4, b5, d4, d5, o2, true_or]
      refine hm2 _ ?_ hNn ?_ _ fun m2 r1 r2 r3 => ?_
      · refine hnv.keep fun b hb => ?_
        have := i3 b hb
        show upd _ _ _ _ = _
        simp (disch := omega) only [upd_hit, upd_miss]
        exact q4 b (by have := y3 b hb; omega) (i3 b hb) fun h => hx3 b h b hb rfl
      · exact fun b hb => by show b < m1.nid; have := y3 b hb; omega
      have r2' : m1.nid ≤ m2.nid := r2
      have s2 := (r3 id (by show id < m1.nid; omega) fun h => i3 id h rfl).trans (upd_hit _ _ _)
      have r4 : ∀ b, b < m1.nid → b ≠ id → b ∉ Bn → m2.sto b = m1.sto b := fun b c1 c2 c3 => (r3 b c1 c3).trans (by
        show upd _ _ _ _ = _
        simp (disch := omega) only [upd_hit, upd_miss])
      simp +decide only [go_sem, Nat.reduceAdd, Nat.reduceMul, Nat.reduceSub, Nat.reduceLT, Nat.reduceLeDiff, Nat.reduceEqDiff, Nat.add_assoc, Int.reduceAdd, Int.reduceSub, Int.reduceMul, Int.reduceLT, Int.reduceLE, Int.reduceEq, Int.reduceNeg, strOp_add, e0, e1, e5, hi, s2, w1]
      refine ⟨by omega, fun j hj hn hn2 => ?_, ?_⟩
      · have a1 : j ∉ Bl := fun h => hn2 (by simp [h])
        have a2 : j ∉ Bn := fun h => hn2 (by simp [h])
        exact (r4 j (by omega) hn a2).trans ((q4 j (by omega) hn a1).trans (hfr j hj hn hn2))
      · rw [List.append_assoc]
        refine ⟨_, rfl, ?_⟩
        refine (oCel_app _ _).2 ⟨c1, B1, _, _, rfl, rfl, hX.keep fun b hb => ?_, oCel_cons.2 ⟨[.int .i64 (k0 : Int), .str x, lv, .int .i64 (k2 : Int), .int .i64 (k3 : Int), nv], Bl ++ Bn, c4, B4, rfl, rfl, oNod_iff.2 ⟨lv, nv, Bl, Bn, rfl, rfl, q1.keep fun b hb => ?_, r1⟩, hY.keep fun b hb => ?_⟩⟩
        · exact (r4 b (by have := y1 b hb; omega) (i1 b hb) fun h => hx1 b hb b (by simp [h]) rfl).trans (q4 b (by have := y1 b hb; omega) (i1 b hb) fun h => hx1 b hb b (by simp [h]) rfl)
        · exact r4 b (by have := y2 b hb; omega) (i2 b hb) fun h => hx3 b hb b h rfl
        · exact (r4 b (by have := y4 b hb; omega) (i4 b hb) fun h => hx2 b (by simp [h]) b hb rfl).trans (q4 b (by have := y4 b hb; omega) (i4 b hb) fun h => hx2 b (by simp [h]) b hb rfl)
    · rintro st ⟨e0, e1, e5, en, hfr, cs, hs, hC⟩
      rw [List.take_length] at hC e1
      rw [List.drop_length, List.append_nil] at hC
      simp +decide only [go_sem, Nat.reduceAdd, Nat.reduceMul, Nat.reduceSub, Nat.reduceLT, Nat.reduceLeDiff, Nat.reduceEqDiff, Nat.add_assoc, Int.reduceAdd, Int.reduceSub, Int.reduceMul, Int.reduceLT, Int.reduceLE, Int.reduceEq, Int.reduceNeg, strOp_add, e0, e1, e5]
      exact hQ _ (.inr ⟨id, g, app, ty, cs, B, by rw [hlen], hs, hC, rfl⟩) en fun j hj hn => hfr j hj (fun e => hn (by simp [e])) fun e => hn (by simp [e])
    · simp +decide only [go_sem, Nat.reduceAdd, Nat.reduceMul, Nat.reduceSub, Nat.reduceLT, Nat.reduceLeDiff, Nat.reduceEqDiff, Nat.add_assoc, Int.reduceAdd, Int.reduceSub, Int.reduceMul, Int.reduceLT, Int.reduceLE, Int.reduceEq, Int.reduceNeg, strOp_add]
      exact ⟨by rw [cntL_nil]; rfl, rfl, Nat.le_refl _, fun _ _ _ _ => trivial, by rw [mkL]; exact ⟨cs, hs, hC⟩⟩
theorem markL_wp : ∀ (n : Nod), n.Sane → ∀ (w : List Nod), (w = n.ptrs ∨ w = n.items) → ∀ (k : Nat), 1 ≤ k → k + cntL w ≤ 4611686018427387904 → ∀ (v : AV) (B : List Nat) (m : Mem), OLst m w v B → B.Nodup → (∀ b ∈ B, b < m.nid) → ∀ (Q : AV × Mem → Prop), (∀ m', OLst m' (mkL k w) v B → m.nid ≤ m'.nid → (∀ j, j < m.nid → j ∉ B → m'.sto j = m.sto j) → Q (.int .i64 ((k + cntL w : Nat) : Int), m')) → Comes (fnI CC PR 32 [v, .int .i64 k] m) Q := by
  intro n
  induction n using Nod.ind with
  | h k d p s c i ih1 ih2 =>
  intro hd
  cases hd with
  | mk _ _ _ _ _ _ hk hs hc hd hp hi h1 h2 =>
  intro w hw
  simp only [Nod.ptrs, Nod.items] at hw
  rcases hw with rfl | rfl
  · exact markNodes_wp _ hp h1 fun x hx => ih1 x hx (h1 x hx)
  · exact markNodes_wp _ hi h2 fun x hx => ih2 x hx (h2 x hx)
set_option maxHeartbeats 1000000 in
/-- A node of one's own is marked: no other block is written. -/
theorem markNode_wp (n : Nod) (hd : n.Sane) (k : Nat) (h1 : 1 ≤ k) (hk : k + cnt n ≤ 4611686018427387904) (a0 a1 pv a3 a4 iv : AV) (B : List Nat) (m : Mem) (hO : ONod m n [a0, a1, pv, a3, a4, iv] B) (hN : B.Nodup) (hB : ∀ b ∈ B, b < m.nid) (Q : AV × Mem → Prop)
    (hQ : ∀ m', ONod m' (mkN k n) [a0, a1, pv, a3, a4, iv] B → m.nid ≤ m'.nid → (∀ j, j < m.nid → j ∉ B → m'.sto j = m.sto j) → Q (.int .i64 ((k + (cntL n.ptrs + cntL n.items) : Nat) : Int), m')) :
    Comes (fnI CC PR 13 [.agg [a0, a1, pv, a3, a4, iv], .int .i64 k] m) Q := by
  have hw1 := markL_wp n hd n.ptrs (.inl rfl) k h1
  have hw2 := markL_wp n hd n.items (.inr rfl) (k + cntL n.ptrs) (by omega)
  obtain ⟨dk, dd, dp, ds, dc, di⟩ := n
  rw [cnt_mk] at hk
  simp only [Nod.ptrs, Nod.items] at hw1 hw2 hQ
  obtain ⟨pv', iv', Bl, Bn, he, rfl, hlv, hnv⟩ := oNod_iff.1 hO
  simp only [List.cons.injEq, and_true] at he
  obtain ⟨rfl, rfl, rfl, rfl, rfl, rfl⟩ := he
  rw [List.nodup_append] at hN
  obtain ⟨hNl, hNn, hx⟩ := hN
  have o1 := hlv.one
  have o2 := hnv.one
  simp only [AV.one] at o1 o2
  rw [show k + (cntL dp + cntL di) = k + cntL dp + cntL di by omega] at hQ
  have hw1 := hw1 (by omega) pv Bl
  have hw2 := hw2 (by omega) iv Bn
  simp only [mkN] at hQ
  generalize k + cntL dp = k2 at *
  generalize k2 + cntL di = k3 at *
  refine fnI_wp (rs := [.tmp 4]) Tryd.func13 rfl rfl (Nat.le_of_ble_eq_true rfl) rfl rfl ?_
  simp +decide only [go_sem, Nat.reduceAdd, Nat.reduceMul, Nat.reduceSub, Nat.reduceLT, Nat.reduceLeDiff, Nat.reduceEqDiff, Nat.add_assoc, Int.reduceAdd, Int.reduceSub, Int.reduceMul, Int.reduceLT, Int.reduceLE, Int.reduceEq, Int.reduceNeg, strOp_add, o1, o2, true_or]
  have y2 : ∀ b ∈ Bl, b < m.nid := fun b hb => hB b (by simp [hb])
  have y3 : ∀ b ∈ Bn, b < m.nid := fun b hb => hB b (by simp [hb])
  refine hw1 _ ?_ hNl ?_ _ fun m1 q1 q2 q3 => ?_
  · refine hlv.keep fun b hb => ?_
    have := y2 b hb
    show upd _ _ _ _ = _
    simp (disch := omega) only [upd_hit, upd_miss]
  · exact fun b hb => Nat.lt_of_lt_of_le (y2 b hb) (Nat.le_succ _)
  have q2' : m.nid + 1 ≤ m1.nid := q2
  have s1 := (q3 m.nid (Nat.lt_succ_self _) fun h => Nat.lt_irrefl _ (y2 _ h)).trans (upd_hit _ _ _)
  simp +decide only [go_sem, Nat.reduceAdd, Nat.reduceMul, Nat.reduceSub, Nat.reduceLT, Nat.reduceLeDiff, Nat.reduceEqDiff, Nat.add_assoc, Int.reduceAdd, Int.reduceSub, Int.reduceMul, Int.reduceLT, Int.reduceLE, Int.reduceEq, Int.reduceNeg, strOp_add, s1, o2, true_or]
  refine hw2 _ ?_ hNn ?_ _ fun m2 r1 r2 r3 => ?_
  · refine hnv.keep fun b hb => ?_
    refine (q3 b (Nat.lt_succ_of_lt (y3 b hb)) fun h => hx b h b hb rfl).trans ?_
    have := y3 b hb
    show upd _ _ _ _ = _
    simp (disch := omega) only [upd_hit, upd_miss]
  · exact fun b hb => by show b < m1.nid; have := y3 b hb; omega
  have r2' : m1.nid ≤ m2.nid := r2
  simp +decide only [go_sem, Nat.reduceAdd, Nat.reduceMul, Nat.reduceSub, Nat.reduceLT, Nat.reduceLeDiff, Nat.reduceEqDiff, Nat.add_assoc, Int.reduceAdd, Int.reduceSub, Int.reduceMul, Int.reduceLT, Int.reduceLE, Int.reduceEq, Int.reduceNeg, strOp_add]
  refine hQ ⟨_, m2.nid⟩ (oNod_iff.2 ⟨pv, iv, Bl, Bn, rfl, rfl, q1.keep fun b hb => ?_, r1⟩) (by show m.nid ≤ m2.nid; omega) fun j hj hn => ?_
  · exact r3 b (by show b < m1.nid; have := y2 b hb; omega) fun h => hx b hb b h rfl
  · refine (r3 j (by show j < m1.nid; omega) fun h => hn (by simp [h])).trans ((q3 j (by show j < m.nid + 1; omega) fun h => hn (by simp [h])).trans ?_)
    show upd _ _ _ _ = _
    simp (disch := omega) only [upd_hit, upd_miss]
end Go.Ev.Tryd
