/- Part of the proof of a statement about the given program: V6F. No condition of its own. -/
import Derived.Test.YtjjebjackjeneaaDoorV5F
namespace Go.Ev.Tryd
open Go.Proofs
set_option maxRecDepth 10000
set_option linter.unusedSimpArgs false
set_option linter.unusedVariables false
attribute [local congr] comes_congr bB_congr gK_congr gdK_congr

/-- Texts in a block that may be read. -/
def AStr (M : Mem) (ns : List ByteArray) (v : AV) : Prop :=
  (ns = [] ∧ v = .nils 1) ∨ ∃ id g app ty, id < M.nid ∧ v = .arr id g 0 ns.length 1 app ∧ M.sto id = ⟨ns.map AV.str, g, false, ty⟩
theorem OStr.a {M : Mem} {ns : List ByteArray} {v : AV} {B : List Nat} (h : OStr M ns v B) (hB : ∀ b ∈ B, b < M.nid) : AStr M ns v := by
  rcases h with ⟨h1, h2, _⟩ | ⟨id, g, app, ty, h1, h2, rfl⟩
  · exact .inl ⟨h1, h2⟩
  · exact .inr ⟨id, g, app, ty, hB id (by simp), h1, h2⟩

set_option maxHeartbeats 1000000 in
theorem steps_wp (d : Dat) (hd : d.Sane) (cs : List AV) (B : List Nat) (m : Mem) (hO : ODat m d cs B) (hB : ∀ b ∈ B, b < m.nid) (Q : AV × Mem → Prop)
    (hQ : ∀ v m', AStr m' d.steps v → m.nid ≤ m'.nid → (∀ j, j < m.nid → m'.sto j = m.sto j) → Q (v, m')) :
    Comes (fnI CC PR 51 [.agg cs] m) Q := by
  cases hd with
  | mk k n t l ns hk hn ht hl hns hss h =>
  obtain ⟨lv, nv, Bl, Bn, rfl, rfl, hnv, hlv⟩ := oDat_iff.1 hO
  have y3 : ∀ b ∈ Bn, b < m.nid := fun b hb => hB b (by simp [hb])
  have o1 := lstR_one hlv.lst
  have o2 := strR_one hnv.str
  simp only [AV.one] at o1 o2
  by_cases h4 : k = 4
  · subst h4
    have hst : Dat.steps (.mk 4 n t l ns) = ns := by simp [Dat.steps, Dat.kind, Dat.names]
    rw [hst] at hQ
    refine fnI_wp (rs := [.tmp 2]) Tryd.func51 rfl rfl (Nat.le_of_ble_eq_true rfl) rfl rfl ?_
    simp +decide (disch := first | decide | omega) only [go_sem, Nat.reduceAdd, Nat.reduceMul, Nat.reduceSub, Nat.reduceLT, Nat.reduceLeDiff, Nat.reduceEqDiff, Nat.add_assoc, Int.reduceAdd, Int.reduceSub, Int.reduceMul, Int.reduceLT, Int.reduceLE, Int.reduceEq, Int.reduceNeg, strOp_add, o1, o2, true_or]
    refine hQ nv ⟨_, m.nid + 1⟩ ?_ (Nat.le_succ _) fun j hj => ?_
    · refine OStr.a (hnv.keep fun b hb => ?_) fun b hb => Nat.lt_succ_of_lt (y3 b hb)
      have := y3 b hb
      show upd _ _ _ _ = _
      simp (disch := omega) only [upd_hit, upd_miss]
    · show upd _ _ _ _ = _
      simp (disch := omega) only [upd_hit, upd_miss]
  · have hst : Dat.steps (.mk k n t l ns) = nums l.length := by simp [Dat.steps, Dat.kind, Dat.list, h4]
    have h4' : (k = 4) = False := eq_false h4
    rw [hst] at hQ
    rcases hlv with ⟨rfl, rfl, rfl⟩ | ⟨id, g, app, ty, cs, B, rfl, hs, hC, rfl⟩
    · refine fnI_wp (rs := [.tmp 2]) Tryd.func51 rfl rfl (Nat.le_of_ble_eq_true rfl) rfl rfl ?_
      simp +decide (disch := first | decide | omega) only [go_sem, Nat.reduceAdd, Nat.reduceMul, Nat.reduceSub, Nat.reduceLT, Nat.reduceLeDiff, Nat.reduceEqDiff, Nat.add_assoc, Int.reduceAdd, Int.reduceSub, Int.reduceMul, Int.reduceLT, Int.reduceLE, Int.reduceEq, Int.reduceNeg, strOp_add, o2, h4', true_or]
      refine comes_upto 0 (fun i st => st.env 12 = .int .i64 0 ∧ st.env 13 = .int .i64 i ∧ st.env 3 = .nils 1 ∧ m.nid ≤ st.nid ∧ ∀ j, j < m.nid → st.sto j = m.sto j) ?_ ?_ _ ?_
      · rintro i st hi; omega
      · rintro st ⟨e12, e13, e3, en, hfr⟩
        simp +decide (disch := first | decide | omega) only [go_sem, Nat.reduceAdd, Nat.reduceMul, Nat.reduceSub, Nat.reduceLT, Nat.reduceLeDiff, Nat.reduceEqDiff, Nat.add_assoc, Int.reduceAdd, Int.reduceSub, Int.reduceMul, Int.reduceLT, Int.reduceLE, Int.reduceEq, Int.reduceNeg, strOp_add, e3, e12, e13]
        exact hQ _ _ (.inl ⟨rfl, rfl⟩) en hfr
      · simp +decide (disch := first | decide | omega) only [go_sem, Nat.reduceAdd, Nat.reduceMul, Nat.reduceSub, Nat.reduceLT, Nat.reduceLeDiff, Nat.reduceEqDiff, Nat.add_assoc, Int.reduceAdd, Int.reduceSub, Int.reduceMul, Int.reduceLT, Int.reduceLE, Int.reduceEq, Int.reduceNeg, strOp_add]
        refine ⟨rfl, Nat.le_succ _, fun j hj => ?_⟩
        simp (disch := omega) only [upd_hit, upd_miss]
    · refine fnI_wp (rs := [.tmp 2]) Tryd.func51 rfl rfl (Nat.le_of_ble_eq_true rfl) rfl rfl ?_
      simp +decide (disch := first | decide | omega) only [go_sem, Nat.reduceAdd, Nat.reduceMul, Nat.reduceSub, Nat.reduceLT, Nat.reduceLeDiff, Nat.reduceEqDiff, Nat.add_assoc, Int.reduceAdd, Int.reduceSub, Int.reduceMul, Int.reduceLT, Int.reduceLE, Int.reduceEq, Int.reduceNeg, strOp_add, o1, o2, h4', true_or]
      refine comes_upto l.length (fun i st => st.env 12 = .int .i64 l.length ∧ st.env 13 = .int .i64 i ∧ m.nid + 1 ≤ st.nid ∧ (∀ j, j < m.nid → st.sto j = m.sto j) ∧ StrsAt st.toMem (m.nid + 1) (st.env 3) (nums i)) ?_ ?_ _ ?_
      · rintro i st hi ⟨e12, e13, en, hfr, hD⟩
        have hsu : (nums (i + 1)).map AV.str = (nums i).map AV.str ++ [.str (dec (i : Nat))] := by rw [nums_succ, List.map_append]; rfl
        have w1 : IntKind.wrap .i64 ((i : Int) + 1) = ((i + 1 : Nat) : Int) := wrap_succ (by omega)
        have hq := itoa_eq (i : Nat) (by omega) (by omega)
        rcases hD with ⟨hl0, e3⟩ | ⟨id2, g2, hlo, hid, e3, ty2, hs2⟩
        · have hi0 : i = 0 := by have := nums_len i; rw [hl0] at this; exact this.symm
          simp +decide (disch := first | decide | omega) only [go_sem, Nat.reduceAdd, Nat.reduceMul, Nat.reduceSub, Nat.reduceLT, Nat.reduceLeDiff, Nat.reduceEqDiff, Nat.add_assoc, Int.reduceAdd, Int.reduceSub, Int.reduceMul, Int.reduceLT, Int.reduceLE, Int.reduceEq, Int.reduceNeg, strOp_add, e3, e12, e13, hi, w1, hq]
          refine ⟨by omega, fun j hj => ?_, .inr ⟨st.nid + 1, 0, by omega, by show st.nid + 1 < st.nid + 2; omega, ?_, ?_⟩⟩
          · simp (disch := omega) only [upd_hit, upd_miss]
            exact hfr j hj
          · rw [nums_len, hi0]
          · rw [hsu, hl0]
            refine ⟨some (9, false), ?_⟩
            simp +decide (disch := first | decide | omega) only [go_sem, Nat.reduceAdd, Nat.reduceMul, Nat.reduceSub, Nat.reduceLT, Nat.reduceLeDiff, Nat.reduceEqDiff, Nat.add_assoc, Int.reduceAdd, Int.reduceSub, Int.reduceMul, Int.reduceLT, Int.reduceLE, Int.reduceEq, Int.reduceNeg, strOp_add]
        · have hc1 : (nums i).length = i := nums_len i
          have hc2 : i + 1 ≤ most := by simp only [most]; omega
          rw [hc1] at e3
          simp +decide (disch := first | decide | omega) only [go_sem, Nat.reduceAdd, Nat.reduceMul, Nat.reduceSub, Nat.reduceLT, Nat.reduceLeDiff, Nat.reduceEqDiff, Nat.add_assoc, Int.reduceAdd, Int.reduceSub, Int.reduceMul, Int.reduceLT, Int.reduceLE, Int.reduceEq, Int.reduceNeg, strOp_add, e3, e12, e13, hi, w1, hq, hs2, hc1, hc2, List.length_map]
          refine ⟨by omega, fun j hj => ?_, .inr ⟨id2, g2 + 1, hlo, by show id2 < st.nid + 1; omega, ?_, ?_⟩⟩
          · simp (disch := omega) only [upd_hit, upd_miss]
            exact hfr j hj
          · rw [nums_len]
          · rw [hsu]
            refine ⟨grewT 9 ty2, ?_⟩
            simp +decide (disch := first | decide | omega) only [go_sem, Nat.reduceAdd, Nat.reduceMul, Nat.reduceSub, Nat.reduceLT, Nat.reduceLeDiff, Nat.reduceEqDiff, Nat.add_assoc, Int.reduceAdd, Int.reduceSub, Int.reduceMul, Int.reduceLT, Int.reduceLE, Int.reduceEq, Int.reduceNeg, strOp_add]
      · rintro st ⟨e12, e13, en, hfr, hD⟩
        simp +decide (disch := first | decide | omega) only [go_sem, Nat.reduceAdd, Nat.reduceMul, Nat.reduceSub, Nat.reduceLT, Nat.reduceLeDiff, Nat.reduceEqDiff, Nat.add_assoc, Int.reduceAdd, Int.reduceSub, Int.reduceMul, Int.reduceLT, Int.reduceLE, Int.reduceEq, Int.reduceNeg, strOp_add, e12, e13]
        refine hQ _ _ ?_ (by show m.nid ≤ st.nid; omega) hfr
        rcases hD with ⟨hl0, e3⟩ | ⟨id2, g2, hlo, hid, e3, ty2, hs2⟩
        · exact .inl ⟨hl0, e3⟩
        · exact .inr ⟨id2, g2, true, ty2, hid, e3, hs2⟩
      · simp +decide (disch := first | decide | omega) only [go_sem, Nat.reduceAdd, Nat.reduceMul, Nat.reduceSub, Nat.reduceLT, Nat.reduceLeDiff, Nat.reduceEqDiff, Nat.add_assoc, Int.reduceAdd, Int.reduceSub, Int.reduceMul, Int.reduceLT, Int.reduceLE, Int.reduceEq, Int.reduceNeg, strOp_add]
        exact ⟨rfl, Nat.le_refl _, fun j hj => by simp (disch := omega) only [upd_hit, upd_miss], .inl ⟨rfl, rfl⟩⟩

/-- A datum lies in cells of a block. -/
def LiesAt (M : Mem) (d : Dat) (id g off : Nat) (B : List Nat) : Prop :=
  ∃ cs ty k n t lv nv r, M.sto id = ⟨cs, g, false, ty⟩ ∧ cs.drop off = .int .i64 k :: .int .i64 n :: .str t :: lv :: nv :: r ∧ ODat M d [.int .i64 k, .int .i64 n, .str t, lv, nv] B ∧ id < M.nid ∧ ∀ b ∈ B, b < M.nid
theorem ODat.ones {M : Mem} {d : Dat} {a0 a1 a2 lv nv : AV} {B : List Nat} (h : ODat M d [a0, a1, a2, lv, nv] B) : lv.one = true ∧ nv.one = true := by
  obtain ⟨k, n, t, l, ns⟩ := d
  obtain ⟨lv', nv', Bl, Bn, he, rfl, h1, h2⟩ := oDat_iff.1 h
  simp only [List.cons.injEq, and_true] at he
  obtain ⟨-, -, -, rfl, rfl⟩ := he
  exact ⟨lstR_one h2.lst, strR_one h1.str⟩
theorem ODat.arr {M : Mem} {d : Dat} {a0 a1 a2 lv nv : AV} {B : List Nat} (h : ODat M d [a0, a1, a2, lv, nv] B) {i : Nat} (hi : i < d.list.length) : ∃ id g app ty cs' B', lv = .arr id g 0 d.list.length 5 app ∧ M.sto id = ⟨cs', g, false, ty⟩ ∧ OCel M d.list cs' B' ∧ (id :: B').Sublist B := by
  obtain ⟨k, n, t, l, ns⟩ := d
  obtain ⟨lv', nv', Bl, Bn, he, rfl, h1, h2⟩ := oDat_iff.1 h
  simp only [List.cons.injEq, and_true] at he
  obtain ⟨-, -, -, rfl, rfl⟩ := he
  simp only [Dat.list] at hi ⊢
  rcases h2 with ⟨rfl, _⟩ | ⟨id, g, app, ty, cs', B', q1, q2, q3, rfl⟩
  · cases hi
  · exact ⟨id, g, app, ty, cs', B', q1, q2, q3, List.sublist_append_left _ _⟩
/-- Its parts lie in cells, too. -/
theorem LiesAt.part {M : Mem} {d : Dat} {id g off : Nat} {B : List Nat} (h : LiesAt M d id g off B) {i : Nat} (hi : i < d.list.length) :
    ∃ cs ty k n t id2 g2 app nv r B2, M.sto id = ⟨cs, g, false, ty⟩ ∧ cs.drop off = .int .i64 k :: .int .i64 n :: .str t :: .arr id2 g2 0 d.list.length 5 app :: nv :: r ∧ ODat M d [.int .i64 k, .int .i64 n, .str t, .arr id2 g2 0 d.list.length 5 app, nv] B ∧ id < M.nid ∧ LiesAt M d.list[i] id2 g2 (i * 5) B2 ∧ B2.Sublist B := by
  obtain ⟨cs, ty, k, n, t, lv, nv, r, h1, h2, h3, h4, h5⟩ := h
  obtain ⟨id2, g2, app, ty2, cs2, B', rfl, q2, q3, q4⟩ := h3.arr hi
  obtain ⟨xk, xn, xt, xl, xm, r2, Bi, hdr, hxO, hxS⟩ := q3.at hi
  have hsub : Bi.Sublist B := (hxS.trans (List.sublist_cons_self _ _)).trans q4
  exact ⟨cs, ty, k, n, t, id2, g2, app, nv, r, Bi, h1, h2, h3, h4, ⟨cs2, ty2, xk, xn, xt, xl, xm, r2, q2, hdr, hxO, h5 _ (q4.subset (by simp)), fun b hb => h5 b (hsub.subset hb)⟩, hsub⟩
theorem LiesAt.keep {M M' : Mem} {d : Dat} {id g off : Nat} {B : List Nat} (h : LiesAt M d id g off B) (e : ∀ j, j < M.nid → M'.sto j = M.sto j) (hn : M.nid ≤ M'.nid) : LiesAt M' d id g off B := by
  obtain ⟨cs, ty, k, n, t, lv, nv, r, h1, h2, h3, h4, h5⟩ := h
  exact ⟨cs, ty, k, n, t, lv, nv, r, (e id h4).trans h1, h2, h3.keep _ fun b hb => e b (h5 b hb), by omega, fun b hb => Nat.lt_of_lt_of_le (h5 b hb) hn⟩
theorem snap_a {M : Mem} {ns : List ByteArray} {v : AV} (h : AStr M ns v) : snapD M 2097152 v = some (.slice 1 (ns.map AV.str)) := by
  refine snap_strR (B := match v with | .arr id _ _ _ _ _ => [id] | _ => []) ?_ 2097150
  rcases h with ⟨rfl, rfl⟩ | ⟨id, g, app, ty, _, rfl, h2⟩
  · exact .inr (.inl ⟨rfl, rfl, rfl⟩)
  · exact .inr (.inr ⟨id, g, app, rfl, cells_at h2, rfl⟩)
theorem AStr.loud {M : Mem} {ns : List ByteArray} {v : AV} (h : AStr M ns v) : v.loud = false := by
  rcases h with ⟨rfl, rfl⟩ | ⟨id, g, app, ty, _, rfl, h2⟩ <;> rfl
/-- What a path leads to, as a pointer. -/
def FndAt (M : Mem) (B : List Nat) : Option Dat → AV → Prop
  | none, v => v = .nilp
  | some x, v => ∃ id g off B', v = .ptr id g off ∧ LiesAt M x id g off B' ∧ B'.Sublist B

set_option maxHeartbeats 4000000 in
theorem atM_wp (d : Dat) (p : List ByteArray) (id g off : Nat) (B : List Nat) (v : AV) (Bp : List Nat) (m : Mem) (h : LiesAt m d id g off B) (hv : OStr m p v Bp) (hBp : ∀ b ∈ Bp, b < m.nid) (hp : p.length ≤ 1099511627776) (hd : d.Sane) (hg : Good d) (Q : AV × Mem → Prop)
    (hQ : ∀ r m', FndAt m' B (getP d p) r → m.nid ≤ m'.nid → (∀ j, j < m.nid → m'.sto j = m.sto j) → Q (r, m')) :
    Comes (fnI CC PR 37 [.ptr id g off, v] m) Q := by
  rcases hv with ⟨rfl, rfl, rfl⟩ | ⟨pid, pg, papp, pty, rfl, ps, rfl⟩
  · refine fnI_wp (rs := [.tmp 4]) Tryd.func37 rfl rfl (Nat.le_of_ble_eq_true rfl) rfl rfl ?_
    simp +decide only [go_sem, Nat.reduceAdd, Nat.reduceMul, Nat.reduceSub, Nat.reduceLT, Nat.reduceLeDiff, Nat.reduceEqDiff, Nat.add_assoc, Int.reduceAdd, Int.reduceSub, Int.reduceMul, Int.reduceLT, Int.reduceLE, Int.reduceEq, Int.reduceNeg, strOp_add]
    refine comes_upto 0 (fun i st => st.env 9 = .int .i64 0 ∧ st.env 10 = .int .i64 i ∧ st.env 0 = .ptr id g off ∧ m.nid ≤ st.nid ∧ ∀ j, j < m.nid → st.sto j = m.sto j) ?_ ?_ _ ?_
    · rintro i st hi; omega
    · rintro st ⟨e9, e10, e0, en, hfr⟩
      simp +decide only [go_sem, Nat.reduceAdd, Nat.reduceMul, Nat.reduceSub, Nat.reduceLT, Nat.reduceLeDiff, Nat.reduceEqDiff, Nat.add_assoc, Int.reduceAdd, Int.reduceSub, Int.reduceMul, Int.reduceLT, Int.reduceLE, Int.reduceEq, Int.reduceNeg, strOp_add, e0, e9, e10]
      exact hQ _ _ ⟨id, g, off, B, rfl, h.keep hfr en, List.Sublist.refl _⟩ en hfr
    · simp +decide only [go_sem, Nat.reduceAdd, Nat.reduceMul, Nat.reduceSub, Nat.reduceLT, Nat.reduceLeDiff, Nat.reduceEqDiff, Nat.add_assoc, Int.reduceAdd, Int.reduceSub, Int.reduceMul, Int.reduceLT, Int.reduceLE, Int.reduceEq, Int.reduceNeg, strOp_add]
      exact ⟨rfl, Nat.le_refl _, fun _ _ => trivial⟩
  · have hpid := hBp pid (by simp)
    refine fnI_wp (rs := [.tmp 4]) Tryd.func37 rfl rfl (Nat.le_of_ble_eq_true rfl) rfl rfl ?_
    simp +decide only [go_sem, Nat.reduceAdd, Nat.reduceMul, Nat.reduceSub, Nat.reduceLT, Nat.reduceLeDiff, Nat.reduceEqDiff, Nat.add_assoc, Int.reduceAdd, Int.reduceSub, Int.reduceMul, Int.reduceLT, Int.reduceLE, Int.reduceEq, Int.reduceNeg, strOp_add]
    refine comes_upto p.length (fun i st => st.env 8 = .arr pid pg 0 p.length 1 papp ∧ st.env 9 = .int .i64 p.length ∧ st.env 10 = .int .i64 i ∧ m.nid ≤ st.nid ∧ (∀ j, j < m.nid → st.sto j = m.sto j) ∧ ∃ x xid xg xo xB, st.env 0 = .ptr xid xg xo ∧ LiesAt m x xid xg xo xB ∧ xB.Sublist B ∧ Dat.Sane x ∧ Good x ∧ getP d p = getP x (p.drop i)) ?_ ?_ _ ?_
    · rintro i st hi ⟨e8, e9, e10, en, hfr, x, xid, xg, xo, xB, e0, hx, hxS, hxs, hgx, hgp⟩
      have w1 : IntKind.wrap .i64 ((i : Int) + 1) = ((i + 1 : Nat) : Int) := wrap_succ (by omega)
      have hdr : p.drop i = p[i] :: p.drop (i + 1) := List.drop_eq_getElem_cons hi
      have hlen := steps_len hgx.shaped
      have hl40 : x.list.length ≤ 1099511627776 := by
        cases hxs with
        | mk k nn t l ns hk hnn ht hl hns hss h => exact hl
      have hix := Index_eq x.steps p[i] (by omega)
      have ha := strs_at hi
      have ps2 := (hfr pid hpid).trans ps
      have hpd : (p.map AV.str).drop i = .str p[i] :: (p.map AV.str).drop (i + 1) := by
        rw [← List.map_drop, hdr, List.map_cons, List.map_drop]
      have hil : (i < (p.map AV.str).length) = True := eq_true (by rw [List.length_map]; exact hi)
      rcases firstI_cases (fun y => decide (y = p[i])) x.steps with hf | ⟨j, hj, hf⟩
      · have hn : getP d p = none := by
          rw [hgp, hdr]
          simp [getP, Dat.step, hf]
        rw [hn] at hQ
        rw [hf] at hix
        generalize p[i] = s at *
        have hx2 := hx.keep hfr en
        obtain ⟨xcs, xty, xk, xn, xt, xl, xm, xr, h1, h2, h3, h4, h5⟩ := hx2
        obtain ⟨o1, o2⟩ := h3.ones
        simp only [AV.one] at o1 o2
        have ll : (5 ≤ xr.length + 5) = True := eq_true (by omega)
        generalize hps : p.map AV.str = pcs at *
        simp +decide only [go_sem, Nat.reduceAdd, Nat.reduceMul, Nat.reduceSub, Nat.reduceLT, Nat.reduceLeDiff, Nat.reduceEqDiff, Nat.add_assoc, Int.reduceAdd, Int.reduceSub, Int.reduceMul, Int.reduceLT, Int.reduceLE, Int.reduceEq, Int.reduceNeg, strOp_add, e0, e8, e9, e10, hi, ps2, hpd, h1, h2, ll, o1, o2, true_or]
        refine steps_wp x hxs _ xB _ (h3.keep _ fun b hb => rfl) h5 _ fun v m1 q1 q2 q3 => ?_
        have hlv := q1.loud
        simp only [AV.loud] at hlv
        simp +decide only [go_sem, Nat.reduceAdd, Nat.reduceMul, Nat.reduceSub, Nat.reduceLT, Nat.reduceLeDiff, Nat.reduceEqDiff, Nat.add_assoc, Int.reduceAdd, Int.reduceSub, Int.reduceMul, Int.reduceLT, Int.reduceLE, Int.reduceEq, Int.reduceNeg, strOp_add, e0, e8, e9, e10, hlv]
        rw [snap_a q1]
        simp +decide only [go_sem, Nat.reduceAdd, Nat.reduceMul, Nat.reduceSub, Nat.reduceLT, Nat.reduceLeDiff, Nat.reduceEqDiff, Nat.add_assoc, Int.reduceAdd, Int.reduceSub, Int.reduceMul, Int.reduceLT, Int.reduceLE, Int.reduceEq, Int.reduceNeg, strOp_add, hix, e0, e8, e9, e10]
        exact hQ _ _ rfl (by have : st.nid ≤ m1.nid := q2; show m.nid ≤ m1.nid; omega) fun j hj => (q3 j (by show j < st.nid; omega)).trans (hfr j hj)
      · rw [hlen] at hj
        have hn : getP d p = getP x.list[j] (p.drop (i + 1)) := by
          have : x.step p[i] = some x.list[j] := by
            simp only [Dat.step, hf]
            rw [if_neg (by omega), Int.toNat_natCast, List.getElem?_eq_getElem hj]
          rw [hgp, hdr]
          simp [getP, this]
        rw [hf] at hix
        have hlo : ¬ ((j : Int) < 0) := by omega
        generalize p[i] = s at *
        have h5 : ∀ b ∈ xB, b < m.nid := by
          obtain ⟨_, _, _, _, _, _, _, _, _, _, _, _, h5⟩ := hx
          exact h5
        obtain ⟨xcs, xty, xk, xn, xt, id2, g2, app2, xm, xr, B2, h1, h2, h3, h4, hL, hS⟩ := hx.part hj
        obtain ⟨o1, o2⟩ := h3.ones
        simp only [AV.one] at o1 o2
        have ll : (5 ≤ xr.length + 5) = True := eq_true (by omega)
        have s0 := (hfr xid h4).trans h1
        generalize hps : p.map AV.str = pcs at *
        simp +decide only [go_sem, Nat.reduceAdd, Nat.reduceMul, Nat.reduceSub, Nat.reduceLT, Nat.reduceLeDiff, Nat.reduceEqDiff, Nat.add_assoc, Int.reduceAdd, Int.reduceSub, Int.reduceMul, Int.reduceLT, Int.reduceLE, Int.reduceEq, Int.reduceNeg, strOp_add, e0, e8, e9, e10, hi, ps2, hpd, s0, h2, ll, o1, o2, true_or]
        refine steps_wp x hxs _ xB _ (h3.keep _ fun b hb => hfr b (h5 b hb)) (fun b hb => Nat.lt_of_lt_of_le (h5 b hb) en) _ fun v m1 q1 q2 q3 => ?_
        have s1 := (q3 xid (by show xid < st.nid; omega)).trans s0
        have hlv := q1.loud
        simp only [AV.loud] at hlv
        simp +decide only [go_sem, Nat.reduceAdd, Nat.reduceMul, Nat.reduceSub, Nat.reduceLT, Nat.reduceLeDiff, Nat.reduceEqDiff, Nat.add_assoc, Int.reduceAdd, Int.reduceSub, Int.reduceMul, Int.reduceLT, Int.reduceLE, Int.reduceEq, Int.reduceNeg, strOp_add, e0, e8, e9, e10, hlv]
        rw [snap_a q1]
        have q2' : st.nid ≤ m1.nid := q2
        have q3' : ∀ j, j < m.nid → m1.sto j = m.sto j := fun j hj => (q3 j (by show j < st.nid; omega)).trans (hfr j hj)
        have h23 : xcs.drop (xo + 3) = .arr id2 g2 0 x.list.length 5 app2 :: xm :: xr := by rw [← List.drop_drop, h2]; rfl
        have hxe := hxs.elem (List.getElem_mem hj)
        have hge := hgx.elem (List.getElem_mem hj)
        generalize x.list[j] = y at *
        simp +decide only [go_sem, Nat.reduceAdd, Nat.reduceMul, Nat.reduceSub, Nat.reduceLT, Nat.reduceLeDiff, Nat.reduceEqDiff, Nat.add_assoc, Int.reduceAdd, Int.reduceSub, Int.reduceMul, Int.reduceLT, Int.reduceLE, Int.reduceEq, Int.reduceNeg, strOp_add, hix, e0, e8, e9, e10, hlo, hj, s1, h23, w1]
        exact ⟨by omega, q3', y, id2, g2, j * 5, B2, rfl, hL, hS.trans hxS, hxe, hge, hn⟩
    · rintro st ⟨e8, e9, e10, en, hfr, x, xid, xg, xo, xB, e0, hx, hxS, hxs, hgx, hgp⟩
      rw [List.drop_length] at hgp
      simp only [getP] at hgp
      rw [hgp] at hQ
      simp +decide only [go_sem, Nat.reduceAdd, Nat.reduceMul, Nat.reduceSub, Nat.reduceLT, Nat.reduceLeDiff, Nat.reduceEqDiff, Nat.add_assoc, Int.reduceAdd, Int.reduceSub, Int.reduceMul, Int.reduceLT, Int.reduceLE, Int.reduceEq, Int.reduceNeg, strOp_add, e0, e8, e9, e10]
      exact hQ _ _ ⟨xid, xg, xo, xB, rfl, hx.keep hfr en, hxS⟩ en hfr
    · simp +decide only [go_sem, Nat.reduceAdd, Nat.reduceMul, Nat.reduceSub, Nat.reduceLT, Nat.reduceLeDiff, Nat.reduceEqDiff, Nat.add_assoc, Int.reduceAdd, Int.reduceSub, Int.reduceMul, Int.reduceLT, Int.reduceLE, Int.reduceEq, Int.reduceNeg, strOp_add]
      exact ⟨rfl, Nat.le_refl _, fun j hj => trivial, d, id, g, off, B, rfl, h, List.Sublist.refl _, hd, hg, rfl⟩
end Go.Ev.Tryd
