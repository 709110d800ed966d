/- Part of the proof of a statement about the given program: D12ZD D13ZD. No condition of its own. -/
import Derived.Test.YtmnpcdchlobdlaaGreatDoorD10ZD
section
namespace Go.Ev.Tryz
open Go.Proofs
set_option maxRecDepth 10000
set_option linter.unusedSimpArgs false
set_option linter.unusedVariables false
attribute [local congr] comes_congr bB_congr gK_congr gdK_congr

def pathGet (d : Dat) (p : List ByteArray) : AV := if writ 8 d = true then pairA (getP d p) else pairA none
theorem DatumPut_no (d : Dat) (hd : d.Sane) (h : writ 8 d = false) : fnA CC PR 10 [d.av] = some (.str ⟨#[]⟩) := by
  have hok := writable_eq 8 d (by omega) hd
  have c8 : ((8 : Nat) : Int) = 8 := rfl
  rw [c8, h] at hok
  obtain ⟨k, n, t, l, ns⟩ := d
  rw [Dat.av_mk] at hok ⊢
  apply comes_eq.1
  refine fnA_wp (rs := [.tmp 2]) Tryz.func10 rfl rfl (Nat.le_of_ble_eq_true rfl) rfl ?_
  simp +decide only [go_sem, Nat.reduceAdd, Nat.reduceMul, Nat.reduceSub, Nat.reduceLT, Nat.reduceLeDiff, Nat.reduceEqDiff, Nat.add_assoc, Int.reduceAdd, Int.reduceSub, Int.reduceMul, Int.reduceLT, Int.reduceLE, Int.reduceEq, Int.reduceNeg, strOp_add, hok]
theorem DatumPut_ok (d : Dat) (hd : d.Sane) (h : writ 8 d = true) : ∃ s, fnA CC PR 10 [d.av] = some (.str s) ∧ 1 ≤ s.size := by
  have hok := writable_eq 8 d (by omega) hd
  have c8 : ((8 : Nat) : Int) = 8 := rfl
  rw [c8, h] at hok
  obtain ⟨s, hs, hs1, _⟩ := text_ok 8 d (Nat.le_refl _) hd h
  refine ⟨s, ?_, hs1⟩
  obtain ⟨k, n, t, l, ns⟩ := d
  rw [Dat.av_mk] at hok hs ⊢
  apply comes_eq.1
  refine fnA_wp (rs := [.tmp 2]) Tryz.func10 rfl rfl (Nat.le_of_ble_eq_true rfl) rfl ?_
  simp +decide only [go_sem, Nat.reduceAdd, Nat.reduceMul, Nat.reduceSub, Nat.reduceLT, Nat.reduceLeDiff, Nat.reduceEqDiff, Nat.add_assoc, Int.reduceAdd, Int.reduceSub, Int.reduceMul, Int.reduceLT, Int.reduceLE, Int.reduceEq, Int.reduceNeg, strOp_add, hok, hs]
/-- What the pointer to what is at the end of a path is. -/
def atA (id : Nat) (d : Dat) (p : List ByteArray) : AV := match p with
  | [] => .ptr id 0 0
  | _ => match getP d p with
    | some x => .eptr x.av.cells
    | none => .nilp
theorem at_wp (d : Dat) (p : List ByteArray) (id : Nat) (m : Mem) (ty : Option (TypeId × Bool)) (h : m.sto id = ⟨d.av.cells, 0, false, ty⟩) (hid : id < m.nid) (hp : p.length ≤ 1099511627776) (hd : d.Sane) (hg : Good d) (Q : AV × Mem → Prop)
    (hQ : ∀ m', m'.sto = m.sto → m.nid ≤ m'.nid → Q (atA id d p, m')) :
    Comes (fnI CC PR 22 [.ptr id 0 0, strsA p] m) Q := by
  refine fnI_wp (rs := [.tmp 4]) Tryz.func22 rfl rfl (Nat.le_of_ble_eq_true rfl) rfl rfl ?_
  simp +decide only [go_sem, Nat.reduceAdd, Nat.reduceMul, Nat.reduceSub, Nat.reduceLT, Nat.reduceLeDiff, Nat.reduceEqDiff, Nat.add_assoc, Int.reduceAdd, Int.reduceSub, Int.reduceMul, Int.reduceLT, Int.reduceLE, Int.reduceEq, Int.reduceNeg, strOp_add, List.length_map]
  have atN : p ≠ [] → atA id d p = match getP d p with
      | some x => .eptr x.av.cells
      | none => .nilp := by
    intro hne
    cases p with
    | nil => exact absurd rfl hne
    | cons s p => rfl
  refine comes_upto p.length (fun i st => st.env 8 = strsA p ∧ st.env 9 = .int .i64 p.length ∧ st.env 10 = .int .i64 i ∧ st.sto = m.sto ∧ m.nid ≤ st.nid ∧ ∃ x, Dat.Sane x ∧ Good x ∧ getP d p = getP x (p.drop i) ∧ (i = 0 ∧ st.env 0 = .ptr id 0 0 ∧ x = d ∨ 0 < i ∧ st.env 0 = .eptr x.av.cells)) ?_ ?_ _ ?_
  · rintro i st hi ⟨e8, e9, e10, es, en, x, hx, hgx, hgp, hcur⟩
    have hne : p ≠ [] := by intro e; rw [e] at hi; cases hi
    have hat := atN hne
    have w1 : IntKind.wrap .i64 ((i : Int) + 1) = ((i + 1 : Nat) : Int) := wrap_succ (by omega)
    have hdr : p.drop i = p[i] :: p.drop (i + 1) := List.drop_eq_getElem_cons hi
    have hlen := steps_len hgx.shaped
    have hl40 : x.list.length ≤ 1099511627776 := by
      cases hx with
      | mk k nn t l ns hk hnn ht hl hns hss h => exact hl
    have hst := steps_eq x hx
    have hix := Index_eq x.steps p[i] (by omega)
    have hs0 : ∀ s' : Nat → Blk, s' = m.sto → s' id = ⟨d.av.cells, 0, false, ty⟩ := fun s' e => by rw [e]; exact h
    rcases firstI_cases (fun y => decide (y = p[i])) x.steps with hf | ⟨j, hj, hf⟩
    · have hn : getP d p = none := by
        rw [hgp, hdr]
        simp [getP, Dat.step, hf]
      rw [hn] at hat
      rw [hat] at hQ
      rw [hf] at hix
      rcases hcur with ⟨rfl, e0, rfl⟩ | ⟨hi0, e0⟩
      · obtain ⟨k2, n2, t2, l2, ns2, hcs⟩ := cells_of x
        have hs1 := hs0 st.sto es
        rw [hcs] at hs1 hst
        simp +decide only [go_sem, Nat.reduceAdd, Nat.reduceMul, Nat.reduceSub, Nat.reduceLT, Nat.reduceLeDiff, Nat.reduceEqDiff, Nat.add_assoc, Int.reduceAdd, Int.reduceSub, Int.reduceMul, Int.reduceLT, Int.reduceLE, Int.reduceEq, Int.reduceNeg, strOp_add, e0, e8, e9, e10, hi, strs_at hi, List.length_map, hs1, hst, hix, w1]
        exact hQ _ es en
      · obtain ⟨k2, n2, t2, l2, ns2, hcs⟩ := cells_of x
        rw [hcs] at hst e0
        simp +decide only [go_sem, Nat.reduceAdd, Nat.reduceMul, Nat.reduceSub, Nat.reduceLT, Nat.reduceLeDiff, Nat.reduceEqDiff, Nat.add_assoc, Int.reduceAdd, Int.reduceSub, Int.reduceMul, Int.reduceLT, Int.reduceLE, Int.reduceEq, Int.reduceNeg, strOp_add, e0, e8, e9, e10, hi, strs_at hi, List.length_map, hst, hix, w1]
        exact hQ _ es en
    · rw [hlen] at hj
      have hn : getP d p = getP x.list[j] (p.drop (i + 1)) := by
        have : x.step p[i] = some x.list[j] := by
          simp only [Dat.step, hf]
          rw [if_neg (by omega), Int.toNat_natCast, List.getElem?_eq_getElem hj]
        rw [hgp, hdr]
        simp [getP, this]
      rw [hf] at hix
      have hlo : ¬ ((j : Int) < 0) := by omega
      have haj := av_at hj
      have hcx : ∃ k2 n2 t2 ns2, x.av = .agg [.int .i64 k2, .int .i64 n2, .str t2, .slice 5 (x.list.map Dat.av), .slice 1 ns2] := by
        obtain ⟨k, n, t, l, ns⟩ := x
        exact ⟨_, _, _, _, Dat.av_mk _ _ _ _ _⟩
      obtain ⟨k2, n2, t2, ns2, hcs⟩ := hcx
      obtain ⟨k4, n4, t4, l4, ns4, hcs4⟩ := cells_of x.list[j]
      rw [hcs4] at haj
      rcases hcur with ⟨rfl, e0, rfl⟩ | ⟨hi0, e0⟩
      · have hs1 := hs0 st.sto es
        rw [hcs] at hs1 hst
        simp +decide only [go_sem, Nat.reduceAdd, Nat.reduceMul, Nat.reduceSub, Nat.reduceLT, Nat.reduceLeDiff, Nat.reduceEqDiff, Nat.add_assoc, Int.reduceAdd, Int.reduceSub, Int.reduceMul, Int.reduceLT, Int.reduceLE, Int.reduceEq, Int.reduceNeg, strOp_add, e0, e8, e9, e10, hi, strs_at hi, List.length_map, hs1, hst, hix, w1, hlo, hj, haj]
        exact ⟨es, en, x.list[j], hx.elem (List.getElem_mem hj), hgx.elem (List.getElem_mem hj), hn, .inr (by first | (rw [hcs4]; done) | (rw [hcs4]; exact ⟨by omega, rfl⟩))⟩
      · rw [hcs] at hst e0
        simp +decide only [go_sem, Nat.reduceAdd, Nat.reduceMul, Nat.reduceSub, Nat.reduceLT, Nat.reduceLeDiff, Nat.reduceEqDiff, Nat.add_assoc, Int.reduceAdd, Int.reduceSub, Int.reduceMul, Int.reduceLT, Int.reduceLE, Int.reduceEq, Int.reduceNeg, strOp_add, e0, e8, e9, e10, hi, strs_at hi, List.length_map, hst, hix, w1, hlo, hj, haj]
        exact ⟨es, en, x.list[j], hx.elem (List.getElem_mem hj), hgx.elem (List.getElem_mem hj), hn, .inr (by first | (rw [hcs4]; done) | (rw [hcs4]; exact ⟨by omega, rfl⟩))⟩
  · rintro st ⟨e8, e9, e10, es, en, x, hx, hgx, hgp, hcur⟩
    rw [List.drop_length] at hgp
    rcases hcur with ⟨hi0, e0, rfl⟩ | ⟨hi0, e0⟩
    · obtain rfl : p = [] := List.eq_nil_of_length_eq_zero hi0
      simp +decide only [go_sem, Nat.reduceAdd, Nat.reduceMul, Nat.reduceSub, Nat.reduceLT, Nat.reduceLeDiff, Nat.reduceEqDiff, Nat.add_assoc, Int.reduceAdd, Int.reduceSub, Int.reduceMul, Int.reduceLT, Int.reduceLE, Int.reduceEq, Int.reduceNeg, strOp_add, e0, e8, e9, e10]
      exact hQ _ es en
    · have hat := atN (by intro e; rw [e] at hi0; cases hi0)
      rw [hgp] at hat
      simp only [getP] at hat
      rw [hat] at hQ
      simp +decide only [go_sem, Nat.reduceAdd, Nat.reduceMul, Nat.reduceSub, Nat.reduceLT, Nat.reduceLeDiff, Nat.reduceEqDiff, Nat.add_assoc, Int.reduceAdd, Int.reduceSub, Int.reduceMul, Int.reduceLT, Int.reduceLE, Int.reduceEq, Int.reduceNeg, strOp_add, e0, e8, e9, e10]
      exact hQ _ es en
  · simp +decide only [go_sem, Nat.reduceAdd, Nat.reduceMul, Nat.reduceSub, Nat.reduceLT, Nat.reduceLeDiff, Nat.reduceEqDiff, Nat.add_assoc, Int.reduceAdd, Int.reduceSub, Int.reduceMul, Int.reduceLT, Int.reduceLE, Int.reduceEq, Int.reduceNeg, strOp_add]
    exact ⟨rfl, Nat.le_refl _, d, hd, hg, rfl, .inl rfl⟩
theorem PathGet_eq (p : List ByteArray) (d : Dat) (hp : p.length ≤ 1099511627776) (hd : d.Sane) : fnA CC PR 7 [d.av, strsA p] = some (pathGet d p) := by
  unfold pathGet
  cases hw : writ 8 d
  · have hok := DatumPut_no d hd hw
    obtain ⟨k, n, t, l, ns⟩ := d
    rw [Dat.av_mk] at hok ⊢
    apply comes_eq.1
    refine fnA_wp (rs := [.cell 4 26, .tmp 5]) Tryz.func7 rfl rfl (Nat.le_of_ble_eq_true rfl) rfl ?_
    simp +decide only [go_sem, Nat.reduceAdd, Nat.reduceMul, Nat.reduceSub, Nat.reduceLT, Nat.reduceLeDiff, Nat.reduceEqDiff, Nat.add_assoc, Int.reduceAdd, Int.reduceSub, Int.reduceMul, Int.reduceLT, Int.reduceLE, Int.reduceEq, Int.reduceNeg, strOp_add, hok]
    simp [pairA, zeroD_av]
  · obtain ⟨s, hok, hs1⟩ := DatumPut_ok d hd hw
    have hne : ¬ s = ⟨#[]⟩ := by
      intro e
      rw [e] at hs1
      exact absurd hs1 (by decide)
    have hc := copied_eq d hd
    have hgood : Good d := ⟨8, Nat.le_refl _, hw⟩
    rw [if_pos rfl]
    obtain ⟨k, n, t, l, ns, hcs⟩ := cells_of d
    rw [hcs] at hok hc ⊢
    apply comes_eq.1
    refine fnA_wp (rs := [.cell 4 26, .tmp 5]) Tryz.func7 rfl rfl (Nat.le_of_ble_eq_true rfl) rfl ?_
    simp +decide only [go_sem, Nat.reduceAdd, Nat.reduceMul, Nat.reduceSub, Nat.reduceLT, Nat.reduceLeDiff, Nat.reduceEqDiff, Nat.add_assoc, Int.reduceAdd, Int.reduceSub, Int.reduceMul, Int.reduceLT, Int.reduceLE, Int.reduceEq, Int.reduceNeg, strOp_add, hok, hne, hc]
    refine at_wp d p 2 _ _ (by rw [hcs]; rfl) (by show 2 < 3; omega) hp hd hgood _ fun m' hm' hn' => ?_
    have h1 : m'.sto 1 = ⟨[.int .i64 0, .int .i64 0, .str ⟨#[]⟩, .nils 5, .nils 1], 0, false, some (26, true)⟩ := by rw [hm']; rfl
    have h2 : m'.sto 2 = ⟨[.int .i64 k, .int .i64 n, .str t, .slice 5 l, .slice 1 ns], 0, false, some (26, true)⟩ := by rw [hm']; rfl
    clear hm' hn'
    cases p with
    | nil =>
      simp +decide only [go_sem, Nat.reduceAdd, Nat.reduceMul, Nat.reduceSub, Nat.reduceLT, Nat.reduceLeDiff, Nat.reduceEqDiff, Nat.add_assoc, Int.reduceAdd, Int.reduceSub, Int.reduceMul, Int.reduceLT, Int.reduceLE, Int.reduceEq, Int.reduceNeg, strOp_add, atA, h1, h2]
      simp [pairA, getP, hcs]
    | cons q p =>
      cases hget : getP d (q :: p) with
      | none =>
        have : atA 2 d (q :: p) = .nilp := by simp only [atA, hget]
        rw [this]
        simp +decide only [go_sem, Nat.reduceAdd, Nat.reduceMul, Nat.reduceSub, Nat.reduceLT, Nat.reduceLeDiff, Nat.reduceEqDiff, Nat.add_assoc, Int.reduceAdd, Int.reduceSub, Int.reduceMul, Int.reduceLT, Int.reduceLE, Int.reduceEq, Int.reduceNeg, strOp_add, h1, h2]
        simp [pairA, zeroD_av]
      | some x =>
        have : atA 2 d (q :: p) = .eptr x.av.cells := by simp only [atA, hget]
        rw [this]
        obtain ⟨k2, n2, t2, l2, ns2, hcs2⟩ := cells_of x
        rw [hcs2]
        simp +decide only [go_sem, Nat.reduceAdd, Nat.reduceMul, Nat.reduceSub, Nat.reduceLT, Nat.reduceLeDiff, Nat.reduceEqDiff, Nat.add_assoc, Int.reduceAdd, Int.reduceSub, Int.reduceMul, Int.reduceLT, Int.reduceLE, Int.reduceEq, Int.reduceNeg, strOp_add, h1, h2]
        simp [pairA, hcs2]
theorem qnTexts_eq (xs ys : List ByteArray) (h : xs.length ≤ 1099511627776) : fnA CC PR 8 [strsA xs, strsA ys] = some (.bool (decide (xs = ys))) := by
  apply comes_eq.1
  refine fnA_wp (rs := [.tmp 4]) Tryz.func8 rfl rfl (Nat.le_of_ble_eq_true rfl) rfl ?_
  by_cases hl : xs.length = ys.length
  · have hli : ((xs.length : Int) = (ys.length : Int)) = True := eq_true (by omega)
    simp +decide only [go_sem, Nat.reduceAdd, Nat.reduceMul, Nat.reduceSub, Nat.reduceLT, Nat.reduceLeDiff, Nat.reduceEqDiff, Nat.add_assoc, Int.reduceAdd, Int.reduceSub, Int.reduceMul, Int.reduceLT, Int.reduceLE, Int.reduceEq, Int.reduceNeg, strOp_add, List.length_map, hli]
    refine comes_upto xs.length (fun i st => st.env 0 = strsA xs ∧ st.env 1 = strsA ys ∧ st.env 5 = .int .i64 i ∧ ∀ j, (hj : j < xs.length) → j < i → xs[j] = ys[j]'(by omega)) ?_ ?_ _ ?_
    · rintro i st hi ⟨e0, e1, e5, hj⟩
      have hi2 : i < ys.length := by omega
      have w1 : IntKind.wrap .i64 ((i : Int) + 1) = ((i + 1 : Nat) : Int) := wrap_succ (by omega)
      simp +decide only [go_sem, Nat.reduceAdd, Nat.reduceMul, Nat.reduceSub, Nat.reduceLT, Nat.reduceLeDiff, Nat.reduceEqDiff, Nat.add_assoc, Int.reduceAdd, Int.reduceSub, Int.reduceMul, Int.reduceLT, Int.reduceLE, Int.reduceEq, Int.reduceNeg, strOp_add, e0, e1, e5, hi, hi2, List.length_map, strs_at hi, strs_at hi2, w1]
      refine (d_plan (ord := [0, 1, 2, 3, 4, 5, 6, 7, 8]) (prs := [(3, 7)]) (by kernel_rfl)).2 ?_
      simp +decide only [go_sem, Nat.reduceAdd, Nat.reduceMul, Nat.reduceSub, Nat.reduceLT, Nat.reduceLeDiff, Nat.reduceEqDiff, Nat.add_assoc, Int.reduceAdd, Int.reduceSub, Int.reduceMul, Int.reduceLT, Int.reduceLE, Int.reduceEq, Int.reduceNeg, strOp_add, e0, e1, e5, hi, hi2, List.length_map, strs_at hi, strs_at hi2, w1]
      refine bB_split (fun hB => ?_) (fun hB => ?_)
      · simp only [decide_eq_true_eq] at hB
        simp +decide only [go_sem, Nat.reduceAdd, Nat.reduceMul, Nat.reduceSub, Nat.reduceLT, Nat.reduceLeDiff, Nat.reduceEqDiff, Nat.add_assoc, Int.reduceAdd, Int.reduceSub, Int.reduceMul, Int.reduceLT, Int.reduceLE, Int.reduceEq, Int.reduceNeg, strOp_add, e0, e1, e5, w1]
        intro j h1 h2
        rcases Nat.lt_or_ge j i with h3 | h3
        · exact hj j h1 h3
        · have : j = i := by omega
          subst this
          exact hB
      · simp only [decide_eq_false_iff_not] at hB
        simp +decide only [go_sem, Nat.reduceAdd, Nat.reduceMul, Nat.reduceSub, Nat.reduceLT, Nat.reduceLeDiff, Nat.reduceEqDiff, Nat.add_assoc, Int.reduceAdd, Int.reduceSub, Int.reduceMul, Int.reduceLT, Int.reduceLE, Int.reduceEq, Int.reduceNeg, strOp_add, e0, e1, e5, w1]
        have : ¬ xs = ys := by
          intro e
          subst e
          exact hB rfl
        simp [this]
    · rintro st ⟨e0, e1, e5, hj⟩
      simp +decide only [go_sem, Nat.reduceAdd, Nat.reduceMul, Nat.reduceSub, Nat.reduceLT, Nat.reduceLeDiff, Nat.reduceEqDiff, Nat.add_assoc, Int.reduceAdd, Int.reduceSub, Int.reduceMul, Int.reduceLT, Int.reduceLE, Int.reduceEq, Int.reduceNeg, strOp_add, e0, e1, e5, List.length_map]
      have : xs = ys := List.ext_getElem hl fun j h1 _ => hj j h1 h1
      simp [this]
    · simp +decide only [go_sem, Nat.reduceAdd, Nat.reduceMul, Nat.reduceSub, Nat.reduceLT, Nat.reduceLeDiff, Nat.reduceEqDiff, Nat.add_assoc, Int.reduceAdd, Int.reduceSub, Int.reduceMul, Int.reduceLT, Int.reduceLE, Int.reduceEq, Int.reduceNeg, strOp_add]
      simp
  · have hli : ((xs.length : Int) = (ys.length : Int)) = False := eq_false (by omega)
    have : ¬ xs = ys := fun e => hl (by rw [e])
    simp +decide only [go_sem, Nat.reduceAdd, Nat.reduceMul, Nat.reduceSub, Nat.reduceLT, Nat.reduceLeDiff, Nat.reduceEqDiff, Nat.add_assoc, Int.reduceAdd, Int.reduceSub, Int.reduceMul, Int.reduceLT, Int.reduceLE, Int.reduceEq, Int.reduceNeg, strOp_add, List.length_map, hli]
    simp [this]
end Go.Ev.Tryz
end
section
namespace Go.Ev.Tryz
open Go.Proofs
set_option maxRecDepth 10000
set_option linter.unusedSimpArgs false
set_option linter.unusedVariables false
attribute [local congr] comes_congr bB_congr gK_congr gdK_congr

theorem qnDatum_self : ∀ (d : Dat), d.Sane → fnA CC PR 9 [d.av, d.av] = some (.bool true) := by
  intro d
  induction d using Dat.ind with
  | h k n t l ns ih =>
  intro hd
  cases hd with
  | mk k n t l ns hk hn ht hl hns hss h =>
  have hq := qnTexts_eq ns ns hns
  rw [decide_eq_true rfl] at hq
  rw [Dat.av_mk]
  apply comes_eq.1
  refine fnA_wp (rs := [.tmp 4]) Tryz.func9 rfl rfl (Nat.le_of_ble_eq_true rfl) rfl ?_
  simp +decide only [go_sem, Nat.reduceAdd, Nat.reduceMul, Nat.reduceSub, Nat.reduceLT, Nat.reduceLeDiff, Nat.reduceEqDiff, Nat.add_assoc, Int.reduceAdd, Int.reduceSub, Int.reduceMul, Int.reduceLT, Int.reduceLE, Int.reduceEq, Int.reduceNeg, strOp_add, List.length_map, hq]
  refine comes_upto l.length (fun i st => st.env 2 = .ptr 0 0 0 ∧ st.env 3 = .ptr 1 0 0 ∧ st.env 5 = .int .i64 i ∧ 2 ≤ st.nid ∧ st.sto 0 = ⟨[.int .i64 k, .int .i64 n, .str t, .slice 5 (l.map Dat.av), .slice 1 (ns.map AV.str)], 0, false, none⟩ ∧ st.sto 1 = ⟨[.int .i64 k, .int .i64 n, .str t, .slice 5 (l.map Dat.av), .slice 1 (ns.map AV.str)], 0, false, none⟩) ?_ ?_ _ ?_
  · rintro i st hi ⟨e2, e3, e5, en, s0, s1⟩
    obtain ⟨k2, n2, t2, l2, ns2, hcs⟩ := cells_of l[i]
    have hqq := ih _ (List.getElem_mem hi) (h _ (List.getElem_mem hi))
    have ha := av_at hi
    rw [hcs] at ha hqq
    have w1 : IntKind.wrap .i64 ((i : Int) + 1) = ((i + 1 : Nat) : Int) := wrap_succ (by omega)
    simp +decide only [go_sem, Nat.reduceAdd, Nat.reduceMul, Nat.reduceSub, Nat.reduceLT, Nat.reduceLeDiff, Nat.reduceEqDiff, Nat.add_assoc, Int.reduceAdd, Int.reduceSub, Int.reduceMul, Int.reduceLT, Int.reduceLE, Int.reduceEq, Int.reduceNeg, strOp_add, e2, e3, e5, s0, s1, hi, List.length_map, ha, hqq, w1]
    refine (d_plan (ord := [0, 1, 2, 3, 4, 5, 6, 7, 8, 9, 10, 11]) (prs := [(1, 6), (4, 6), (1, 9), (4, 9)]) (by kernel_rfl)).2 ?_
    simp +decide only [go_sem, Nat.reduceAdd, Nat.reduceMul, Nat.reduceSub, Nat.reduceLT, Nat.reduceLeDiff, Nat.reduceEqDiff, Nat.add_assoc, Int.reduceAdd, Int.reduceSub, Int.reduceMul, Int.reduceLT, Int.reduceLE, Int.reduceEq, Int.reduceNeg, strOp_add, e2, e3, e5, s0, s1, hi, List.length_map, ha, hqq, w1]
  · rintro st ⟨e2, e3, e5, en, s0, s1⟩
    simp +decide only [go_sem, Nat.reduceAdd, Nat.reduceMul, Nat.reduceSub, Nat.reduceLT, Nat.reduceLeDiff, Nat.reduceEqDiff, Nat.add_assoc, Int.reduceAdd, Int.reduceSub, Int.reduceMul, Int.reduceLT, Int.reduceLE, Int.reduceEq, Int.reduceNeg, strOp_add, e2, e3, e5, s0, s1, List.length_map]
  · simp +decide only [go_sem, Nat.reduceAdd, Nat.reduceMul, Nat.reduceSub, Nat.reduceLT, Nat.reduceLeDiff, Nat.reduceEqDiff, Nat.add_assoc, Int.reduceAdd, Int.reduceSub, Int.reduceMul, Int.reduceLT, Int.reduceLE, Int.reduceEq, Int.reduceNeg, strOp_add]
    rfl
end Go.Ev.Tryz
end
