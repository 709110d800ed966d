/- Part of the proof of a statement about the given program: V7F. No condition of its own. -/
import Derived.Test.YtjjebjackjeneaaDoorV6F
namespace Go.Ev.Tryd
open Go.Proofs
set_option maxRecDepth 10000
set_option linter.unusedSimpArgs false
set_option linter.unusedVariables false
attribute [local congr] comes_congr bB_congr gK_congr gdK_congr

theorem snap_l {M : Mem} {l : List Dat} {v : AV} {B : List Nat} (h : OLst M l v B) (hd : ∀ x ∈ l, dep x ≤ 2000000) : snapD M 2097151 v = some (.slice 5 (l.map Dat.av)) :=
  snap_lstE h.lst 2097149 fun x hx => by have := hd x hx; omega
theorem snap_n {M : Mem} {ns : List ByteArray} {v : AV} {B : List Nat} (h : OStr M ns v B) : snapD M 2097151 v = some (.slice 1 (ns.map AV.str)) := snap_strR h.str 2097149
theorem snap_n2 {M : Mem} {ns : List ByteArray} {v : AV} {B : List Nat} (h : OStr M ns v B) : snapD M 2097152 v = some (.slice 1 (ns.map AV.str)) := snap_strR h.str 2097150
theorem dep_list {d x : Dat} (h : x ∈ d.list) : dep x < dep d := by
  obtain ⟨k, n, t, l, ns⟩ := d
  exact dep_lt h
theorem ODat.parts {M : Mem} {d : Dat} {a0 a1 a2 lv nv : AV} {B : List Nat} (h : ODat M d [a0, a1, a2, lv, nv] B) : ∃ Bl Bn, OLst M d.list lv Bl ∧ OStr M d.names nv Bn ∧ B = Bl ++ Bn ∧ a0 = .int .i64 d.kind ∧ a1 = .int .i64 d.num ∧ a2 = .str d.text := by
  obtain ⟨k, n, t, l, ns⟩ := d
  obtain ⟨lv', nv', Bl, Bn, he, rfl, h1, h2⟩ := oDat_iff.1 h
  simp only [List.cons.injEq, and_true] at he
  obtain ⟨rfl, rfl, rfl, rfl, rfl⟩ := he
  exact ⟨Bl, Bn, h2, h1, rfl, rfl, rfl, rfl⟩
theorem snap_dl {M : Mem} {d : Dat} {a0 a1 a2 lv nv : AV} {B : List Nat} (h : ODat M d [a0, a1, a2, lv, nv] B) (hd : dep d ≤ 2000000) : snapD M 2097151 lv = some (.slice 5 (d.list.map Dat.av)) := by
  obtain ⟨Bl, Bn, h1, h2, -⟩ := h.parts
  exact snap_l h1 fun x hx => by have := dep_list hx; omega
theorem snap_dn {M : Mem} {d : Dat} {a0 a1 a2 lv nv : AV} {B : List Nat} (h : ODat M d [a0, a1, a2, lv, nv] B) : snapD M 2097151 nv = some (.slice 1 (d.names.map AV.str)) := by
  obtain ⟨Bl, Bn, h1, h2, -⟩ := h.parts
  exact snap_n h2
theorem av_eta (d : Dat) : d.av = .agg [.int .i64 d.kind, .int .i64 d.num, .str d.text, .slice 5 (d.list.map Dat.av), .slice 1 (d.names.map AV.str)] := by
  obtain ⟨k, n, t, l, ns⟩ := d
  exact Dat.av_mk _ _ _ _ _
/-- What a path leads to, of what may be written. -/
def pathO (d : Dat) (p : List ByteArray) : Option Dat := if writ 8 d = true then getP d p else none
theorem pathGet_O (d : Dat) (p : List ByteArray) : pathGet d p = pairA (pathO d p) := by
  unfold pathGet pathO
  split <;> rfl
theorem oDat_zero (M : Mem) : ODat M zeroD [.int .i64 0, .int .i64 0, .str ⟨#[]⟩, .nils 5, .nils 1] [] := by
  unfold zeroD
  exact oDat_iff.2 ⟨_, _, [], [], rfl, rfl, .inl ⟨rfl, rfl, rfl⟩, .inl ⟨rfl, rfl, rfl⟩⟩

set_option maxHeartbeats 4000000 in
theorem PathGetM_wp (d : Dat) (p : List ByteArray) (hd : d.Sane) (hdep : dep d ≤ 2000000) (hp : p.length ≤ 1099511627776) (a0 a1 a2 lv nv : AV) (B : List Nat) (v : AV) (Bp : List Nat) (m : Mem) (hO : ODat m d [a0, a1, a2, lv, nv] B) (hB : ∀ b ∈ B, b < m.nid) (hv : OStr m p v Bp) (hBp : ∀ b ∈ Bp, b < m.nid) (Q : AV × Mem → Prop)
    (hQ : ∀ k n t l n2 m' B', ODat m' ((pathO d p).getD zeroD) [.int .i64 k, .int .i64 n, .str t, l, n2] B' → Own m.nid m'.nid B' → m.nid ≤ m'.nid → (∀ j, j < m.nid → m'.sto j = m.sto j) → l.one = true → n2.one = true → Q (.tup [.agg [.int .i64 k, .int .i64 n, .str t, l, n2], .bool (pathO d p).isSome], m')) :
    Comes (fnI CC PR 20 [.agg [a0, a1, a2, lv, nv], v] m) Q := by
  obtain ⟨o1, o2⟩ := hO.ones
  have o3 := strR_one hv.str
  have hl := @snap_dl
  have hokA := DatumPut_no d hd
  have hokB := DatumPut_ok d hd
  obtain ⟨Bl, Bn, -, -, -, rfl, rfl, rfl⟩ := hO.parts
  rw [av_eta] at hokA hokB
  simp only [AV.one] at o1 o2 o3
  have key : ∀ m' : Mem, (∀ j, j < m.nid → m'.sto j = m.sto j) → snapD m' 2097151 lv = some (.slice 5 (d.list.map Dat.av)) ∧ snapD m' 2097151 nv = some (.slice 1 (d.names.map AV.str)) := fun m' hm =>
    ⟨snap_dl (hO.keep _ fun b hb => hm b (hB b hb)) hdep, snap_dn (hO.keep _ fun b hb => hm b (hB b hb))⟩
  have fr2 : ∀ (x y : Blk) (j : Nat), j < m.nid → upd (upd m.sto m.nid x) (m.nid + 1) y j = m.sto j := fun x y j hj => by
    simp (disch := omega) only [upd_hit, upd_miss]
  cases hw : writ 8 d
  · have hok := hokA hw
    have hPO : pathO d p = none := by unfold pathO; rw [hw]; rfl
    rw [hPO] at hQ
    refine fnI_wp (rs := [.cell 4 31, .tmp 5]) Tryd.func20 rfl rfl (Nat.le_of_ble_eq_true rfl) rfl rfl ?_
    simp +decide (disch := first | decide | omega) only [go_sem, Nat.reduceAdd, Nat.reduceMul, Nat.reduceSub, Nat.reduceLT, Nat.reduceLeDiff, Nat.reduceEqDiff, Nat.add_assoc, Int.reduceAdd, Int.reduceSub, Int.reduceMul, Int.reduceLT, Int.reduceLE, Int.reduceEq, Int.reduceNeg, strOp_add, o1, o2, o3, true_or]
    rw [(key _ (fun j hj => fr2 _ _ j hj)).1, (key _ (fun j hj => fr2 _ _ j hj)).2]
    simp +decide (disch := first | decide | omega) only [go_sem, Nat.reduceAdd, Nat.reduceMul, Nat.reduceSub, Nat.reduceLT, Nat.reduceLeDiff, Nat.reduceEqDiff, Nat.add_assoc, Int.reduceAdd, Int.reduceSub, Int.reduceMul, Int.reduceLT, Int.reduceLE, Int.reduceEq, Int.reduceNeg, strOp_add, hok, o1, o2, o3, true_or]
    refine hQ _ _ _ _ _ _ [] (oDat_zero _) (Own.nil _ _) (by show m.nid ≤ m.nid + 2; omega) (fun j hj => ?_) rfl rfl
    show upd _ _ _ _ = _
    simp (disch := omega) only [upd_hit, upd_miss]
  · obtain ⟨s, hok, hs1⟩ := hokB hw
    have hPO : pathO d p = getP d p := by unfold pathO; rw [hw]; rfl
    have hne : ¬ s = ⟨#[]⟩ := by
      intro e
      rw [e] at hs1
      exact absurd hs1 (by decide)
    have hgood : Good d := ⟨8, Nat.le_refl _, hw⟩
    rw [hPO] at hQ
    refine fnI_wp (rs := [.cell 4 31, .tmp 5]) Tryd.func20 rfl rfl (Nat.le_of_ble_eq_true rfl) rfl rfl ?_
    simp +decide (disch := first | decide | omega) only [go_sem, Nat.reduceAdd, Nat.reduceMul, Nat.reduceSub, Nat.reduceLT, Nat.reduceLeDiff, Nat.reduceEqDiff, Nat.add_assoc, Int.reduceAdd, Int.reduceSub, Int.reduceMul, Int.reduceLT, Int.reduceLE, Int.reduceEq, Int.reduceNeg, strOp_add, o1, o2, o3, true_or]
    rw [(key _ (fun j hj => fr2 _ _ j hj)).1, (key _ (fun j hj => fr2 _ _ j hj)).2]
    simp +decide (disch := first | decide | omega) only [go_sem, Nat.reduceAdd, Nat.reduceMul, Nat.reduceSub, Nat.reduceLT, Nat.reduceLeDiff, Nat.reduceEqDiff, Nat.add_assoc, Int.reduceAdd, Int.reduceSub, Int.reduceMul, Int.reduceLT, Int.reduceLE, Int.reduceEq, Int.reduceNeg, strOp_add, hok, hne, o1, o2, o3, true_or]
    refine copied_wp d hd _ B _ (hO.keep _ fun b hb => fr2 _ _ b (hB b hb)) (fun b hb => by show b < m.nid + 2; have := hB b hb; omega) _ fun ck cn ct cl cm m1 B1 q1 q2 q3 q4 q5 q6 => ?_
    have q3' : m.nid + 2 ≤ m1.nid := q3
    have q4' : ∀ j, j < m.nid → m1.sto j = m.sto j := fun j hj => (q4 j (by show j < m.nid + 2; omega)).trans (fr2 _ _ j hj)
    have s1 := (q4 (m.nid + 1) (by show m.nid + 1 < m.nid + 2; omega)).trans (upd_hit _ _ _)
    have w5 := q5
    have w6 := q6
    simp only [AV.one] at q5 q6
    have qB : ∀ b ∈ B1, m.nid + 2 ≤ b ∧ b < m1.nid := q2.2
    simp +decide (disch := first | decide | omega) only [go_sem, Nat.reduceAdd, Nat.reduceMul, Nat.reduceSub, Nat.reduceLT, Nat.reduceLeDiff, Nat.reduceEqDiff, Nat.add_assoc, Int.reduceAdd, Int.reduceSub, Int.reduceMul, Int.reduceLT, Int.reduceLE, Int.reduceEq, Int.reduceNeg, strOp_add, s1, o3, q5, q6, true_or]
    have fr3 : ∀ (x y : Blk) (j : Nat), j < m1.nid → upd (upd m1.sto m1.nid x) m1.nid y j = m1.sto j := fun x y j hj => by
      simp (disch := omega) only [upd_hit, upd_miss]
    refine atM_wp d p m1.nid 0 0 B1 v Bp _ ⟨_, _, ck, cn, ct, cl, cm, [], upd_hit _ _ _, rfl, q1.keep _ fun b hb => fr3 _ _ b (qB b hb).2, Nat.lt_succ_self _, fun b hb => Nat.lt_succ_of_lt (qB b hb).2⟩ (hv.keep fun b hb => ?_) (fun b hb => ?_) hp hd hgood _ fun r m2 r1 r2 r3 => ?_
    · have := hBp b hb
      exact (fr3 _ _ b (by omega)).trans (q4' b this)
    · have := hBp b hb
      show b < m1.nid + 1
      omega
    have r2' : m1.nid + 1 ≤ m2.nid := r2
    have r3' : ∀ j, j < m1.nid → m2.sto j = m1.sto j := fun j hj => (r3 j (by show j < m1.nid + 1; omega)).trans (fr3 _ _ j hj)
    have t1 := (r3' (m.nid + 1) (by omega)).trans s1
    cases hg : getP d p with
    | none =>
      rw [hg] at r1 hQ
      simp only [FndAt] at r1
      subst r1
      simp +decide (disch := first | decide | omega) only [go_sem, Nat.reduceAdd, Nat.reduceMul, Nat.reduceSub, Nat.reduceLT, Nat.reduceLeDiff, Nat.reduceEqDiff, Nat.add_assoc, Int.reduceAdd, Int.reduceSub, Int.reduceMul, Int.reduceLT, Int.reduceLE, Int.reduceEq, Int.reduceNeg, strOp_add, t1, q5, q6, true_or]
      refine hQ _ _ _ _ _ _ [] (oDat_zero _) (Own.nil _ _) (by show m.nid ≤ m2.nid; omega) (fun j hj => ?_) rfl rfl
      show upd _ _ _ _ = _
      simp (disch := omega) only [upd_hit, upd_miss]
      exact (r3' j (by omega)).trans (q4' j hj)
    | some x =>
      rw [hg] at r1 hQ
      obtain ⟨id, g, off, B2, rfl, ⟨xcs, xty, xk, xn, xt, xl, xm, xr, h1, h2, h3, h4, h5⟩, hsub⟩ := r1
      obtain ⟨p1, p2⟩ := h3.ones
      have p3 := p1
      have p4 := p2
      simp only [AV.one] at p1 p2
      have ll : (5 ≤ xr.length + 5) = True := eq_true (by omega)
      simp +decide (disch := first | decide | omega) only [go_sem, Nat.reduceAdd, Nat.reduceMul, Nat.reduceSub, Nat.reduceLT, Nat.reduceLeDiff, Nat.reduceEqDiff, Nat.add_assoc, Int.reduceAdd, Int.reduceSub, Int.reduceMul, Int.reduceLT, Int.reduceLE, Int.reduceEq, Int.reduceNeg, strOp_add, t1, h1, h2, ll, p1, p2, true_or]
      refine hQ _ _ _ _ _ _ B2 (h3.keep _ fun b hb => ?_) ⟨hsub.nodup q2.1, fun b hb => ?_⟩ (by show m.nid ≤ m2.nid; omega) (fun j hj => ?_) p3 p4
      · have := qB b (hsub.subset hb)
        show upd _ _ _ _ = _
        simp (disch := omega) only [upd_hit, upd_miss]
      · have := qB b (hsub.subset hb)
        show m.nid ≤ b ∧ b < m2.nid
        omega
      · show upd _ _ _ _ = _
        simp (disch := omega) only [upd_hit, upd_miss]
        exact (r3' j (by omega)).trans (q4' j hj)
end Go.Ev.Tryd
