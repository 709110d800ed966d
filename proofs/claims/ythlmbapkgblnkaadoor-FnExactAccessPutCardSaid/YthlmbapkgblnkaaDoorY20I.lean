/- Part of the proof of a statement about the given program: Y20I. No condition of its own. -/
import Derived.Test.YthlmbapkgblnkaaDoorY19I
namespace Go.Ev.Tryd
open Go.Proofs
set_option maxRecDepth 10000
set_option linter.unusedSimpArgs false
set_option linter.unusedVariables false
attribute [local congr] comes_congr bB_congr gK_congr gdK_congr

set_option maxHeartbeats 8000000 in
theorem l4Words_both : ∀ (n : Nod), n.Sane → szN n ≤ 1048576 → (∀ deep : Int, ok4 n deep = true → fnA CC PR 49 [n.av] = some (.int .i64 (wrd n : Nat))) ∧ ∀ y ∈ n.ptrs, ∀ deep : Int, ok4 y deep = true → fnA CC PR 49 [y.av] = some (.int .i64 (wrd y : Nat)) := by
  intro n
  induction n using Nod.ind with
  | h k d p s c i ih1 ih2 =>
  intro hd hz
  have hsp := hd.ptrs
  have hsi := hd.items
  simp only [Nod.ptrs, Nod.items] at hsp hsi
  have hz' := hz
  rw [szN_mk] at hz'
  have hzp : ∀ x ∈ p, szN x ≤ 1048576 := fun x hx => by have := szNL_mem hx; omega
  have hzi : ∀ x ∈ i, szN x ≤ 1048576 := fun x hx => by have := szNL_mem hx; omega
  refine ⟨fun deep hok => ?_, fun y hy => (ih1 y hy (hsp y hy) (hzp y hy)).1⟩
  obtain ⟨hin, hop, hoi⟩ := ok4_in hok
  have hown := l4Own_eq _ hd hz hin
  have hwl := (wrd_le (.mk k d p s c i)).1
  rw [wrd_mk] at hwl ⊢
  rw [Nod.av_mk] at hown ⊢
  have hop : ∀ x ∈ p, ok4 x (deep - 1) = true := hop
  have hoi : ∀ x ∈ i, ∀ y ∈ x.ptrs, ok4 y (deep - 1) = true := hoi
  have hip := fun x (hx : x ∈ p) => (ih1 x hx (hsp x hx) (hzp x hx)).1 (deep - 1) (hop x hx)
  have hii := fun x (hx : x ∈ i) y (hy : y ∈ x.ptrs) => (ih2 x hx (hsi x hx) (hzi x hx)).2 y hy (deep - 1) (hoi x hx y hy)
  obtain ⟨h2, h3⟩ : p.length ≤ 1048576 ∧ i.length ≤ 1048576 := by
    cases hd
    exact ⟨by assumption, by assumption⟩
  generalize own4 (.mk k d p s c i) = W at *
  apply comes_eq.1
  refine fnA_wp (rs := [.tmp 2]) Tryd.func49 rfl rfl (Nat.le_of_ble_eq_true rfl) rfl ?_
  simp +decide only [go_sem, Nat.reduceAdd, Nat.reduceMul, Nat.reduceSub, Nat.reduceLT, Nat.reduceLeDiff, Nat.reduceEqDiff, Nat.add_assoc, Int.reduceAdd, Int.reduceSub, Int.reduceMul, Int.reduceLT, Int.reduceLE, Int.reduceEq, Int.reduceNeg, strOp_add, hown]
  refine comes_upto p.length (fun j st => st.env 1 = .ptr 0 0 0 ∧ st.env 3 = .int .i64 ((W + wrdL (p.take j) : Nat) : Int) ∧ st.env 4 = .int .i64 j ∧ 1 ≤ st.nid ∧ st.sto 0 = ⟨[.int .i64 k, .str d, .slice 6 (p.map Nod.av), .int .i64 s, .int .i64 c, .slice 6 (i.map Nod.av)], 0, false, none⟩) ?_ ?_ _ ?_
  · rintro j st hj ⟨e1, e3, e4, en, s0⟩
    have hq := hip _ (List.getElem_mem hj)
    have ha := nav_at hj
    have w1 : IntKind.wrap .i64 ((j : Int) + 1) = ((j + 1 : Nat) : Int) := wrap_succ (by omega)
    have htk := wrdL_take hj
    have hle := wrdL_part p (j + 1)
    rw [htk] at hle
    rw [htk]
    rw [nav_eta] at ha hq
    generalize wrdL (p.take j) = w at *
    generalize wrd p[j] = x at *
    obtain ⟨v1, hv1⟩ : ∃ v, v = W + w := ⟨_, rfl⟩
    obtain ⟨v2, hv2⟩ : ∃ v, v = v1 + x := ⟨_, rfl⟩
    have x3 : IntKind.wrap .i64 ((v1 : Int) + (x : Int)) = (v2 : Int) := by rw [wrap_id (by omega) (by omega)]; omega
    rw [← hv1] at e3
    rw [show W + (w + x) = v2 by omega]
    clear hv1 hv2
    simp +decide only [go_sem, Nat.reduceAdd, Nat.reduceMul, Nat.reduceSub, Nat.reduceLT, Nat.reduceLeDiff, Nat.reduceEqDiff, Nat.add_assoc, Int.reduceAdd, Int.reduceSub, Int.reduceMul, Int.reduceLT, Int.reduceLE, Int.reduceEq, Int.reduceNeg, strOp_add, e1, e3, e4, s0, hj, ha, hq, w1, x3, List.length_map]
    exact en
  · rintro st ⟨e1, e3, e4, en, s0⟩
    rw [List.take_length] at e3
    rw [← Nat.add_assoc] at hwl ⊢
    generalize W + wrdL p = V at *
    simp +decide only [go_sem, Nat.reduceAdd, Nat.reduceMul, Nat.reduceSub, Nat.reduceLT, Nat.reduceLeDiff, Nat.reduceEqDiff, Nat.add_assoc, Int.reduceAdd, Int.reduceSub, Int.reduceMul, Int.reduceLT, Int.reduceLE, Int.reduceEq, Int.reduceNeg, strOp_add, e1, e3, e4, s0, List.length_map]
    refine comes_upto i.length (fun j st => st.env 1 = .ptr 0 0 0 ∧ st.env 3 = .int .i64 ((V + wrdI (i.take j) : Nat) : Int) ∧ st.env 5 = .int .i64 j ∧ 1 ≤ st.nid ∧ st.sto 0 = ⟨[.int .i64 k, .str d, .slice 6 (p.map Nod.av), .int .i64 s, .int .i64 c, .slice 6 (i.map Nod.av)], 0, false, none⟩) ?_ ?_ _ ?_
    · rintro j st hj ⟨e1, e3, e5, en, s0⟩
      have hqs := hii _ (List.getElem_mem hj)
      have ha := nav_at hj
      have w1 : IntKind.wrap .i64 ((j : Int) + 1) = ((j + 1 : Nat) : Int) := wrap_succ (by omega)
      have htk := wrdI_take hj
      have hle := wrdI_part i (j + 1)
      have hxl : i[j].ptrs.length ≤ 1048576 := by
        have hys := hsi _ (List.getElem_mem hj)
        generalize i[j] = y at *
        cases hys
        assumption
      rw [htk] at hle
      rw [htk]
      rw [nav_eta] at ha
      generalize wrdI (i.take j) = w at *
      generalize i[j] = x at *
      rw [← Nat.add_assoc]
      have hle2 : V + w + wrdL x.ptrs ≤ V + wrdI i := by omega
      generalize V + w = U at *
      simp +decide only [go_sem, Nat.reduceAdd, Nat.reduceMul, Nat.reduceSub, Nat.reduceLT, Nat.reduceLeDiff, Nat.reduceEqDiff, Nat.add_assoc, Int.reduceAdd, Int.reduceSub, Int.reduceMul, Int.reduceLT, Int.reduceLE, Int.reduceEq, Int.reduceNeg, strOp_add, e1, e3, e5, s0, hj, List.length_map]
      refine comes_upto x.ptrs.length (fun m st => st.env 1 = .ptr 0 0 0 ∧ st.env 3 = .int .i64 ((U + wrdL (x.ptrs.take m) : Nat) : Int) ∧ st.env 5 = .int .i64 j ∧ st.env 6 = .int .i64 m ∧ 1 ≤ st.nid ∧ st.sto 0 = ⟨[.int .i64 k, .str d, .slice 6 (p.map Nod.av), .int .i64 s, .int .i64 c, .slice 6 (i.map Nod.av)], 0, false, none⟩) ?_ ?_ _ ?_
      · rintro m st hm ⟨e1, e3, e5, e6, en, s0⟩
        have hq := hqs _ (List.getElem_mem hm)
        have ha2 := nav_at hm
        have w2 : IntKind.wrap .i64 ((m : Int) + 1) = ((m + 1 : Nat) : Int) := wrap_succ (by omega)
        have htk := wrdL_take hm
        have hle3 := wrdL_part x.ptrs (m + 1)
        rw [htk] at hle3
        rw [htk]
        rw [nav_eta] at ha2 hq
        generalize wrdL (x.ptrs.take m) = w at *
        generalize wrd x.ptrs[m] = z at *
        obtain ⟨v1, hv1⟩ : ∃ v, v = U + w := ⟨_, rfl⟩
        obtain ⟨v2, hv2⟩ : ∃ v, v = v1 + z := ⟨_, rfl⟩
        have x3 : IntKind.wrap .i64 ((v1 : Int) + (z : Int)) = (v2 : Int) := by rw [wrap_id (by omega) (by omega)]; omega
        rw [← hv1] at e3
        rw [show U + (w + z) = v2 by omega]
        clear hv1 hv2
        simp +decide only [go_sem, Nat.reduceAdd, Nat.reduceMul, Nat.reduceSub, Nat.reduceLT, Nat.reduceLeDiff, Nat.reduceEqDiff, Nat.add_assoc, Int.reduceAdd, Int.reduceSub, Int.reduceMul, Int.reduceLT, Int.reduceLE, Int.reduceEq, Int.reduceNeg, strOp_add, e1, e3, e5, e6, s0, hj, hm, ha, ha2, hq, w2, x3, List.length_map]
        exact en
      · rintro st ⟨e1, e3, e5, e6, en, s0⟩
        rw [List.take_length] at e3
        generalize U + wrdL x.ptrs = U2 at *
        simp +decide only [go_sem, Nat.reduceAdd, Nat.reduceMul, Nat.reduceSub, Nat.reduceLT, Nat.reduceLeDiff, Nat.reduceEqDiff, Nat.add_assoc, Int.reduceAdd, Int.reduceSub, Int.reduceMul, Int.reduceLT, Int.reduceLE, Int.reduceEq, Int.reduceNeg, strOp_add, e1, e3, e5, e6, s0, hj, ha, w1, List.length_map]
        exact en
      · simp +decide only [go_sem, Nat.reduceAdd, Nat.reduceMul, Nat.reduceSub, Nat.reduceLT, Nat.reduceLeDiff, Nat.reduceEqDiff, Nat.add_assoc, Int.reduceAdd, Int.reduceSub, Int.reduceMul, Int.reduceLT, Int.reduceLE, Int.reduceEq, Int.reduceNeg, strOp_add, e1, e3, e5, s0]
        exact ⟨by rw [wrdL]; rfl, rfl, en⟩
    · rintro st ⟨e1, e3, e5, en, s0⟩
      rw [List.take_length] at e3
      generalize V + wrdI i = V2 at *
      simp +decide only [go_sem, Nat.reduceAdd, Nat.reduceMul, Nat.reduceSub, Nat.reduceLT, Nat.reduceLeDiff, Nat.reduceEqDiff, Nat.add_assoc, Int.reduceAdd, Int.reduceSub, Int.reduceMul, Int.reduceLT, Int.reduceLE, Int.reduceEq, Int.reduceNeg, strOp_add, e1, e3, e5, s0, List.length_map]
    · simp +decide only [go_sem, Nat.reduceAdd, Nat.reduceMul, Nat.reduceSub, Nat.reduceLT, Nat.reduceLeDiff, Nat.reduceEqDiff, Nat.add_assoc, Int.reduceAdd, Int.reduceSub, Int.reduceMul, Int.reduceLT, Int.reduceLE, Int.reduceEq, Int.reduceNeg, strOp_add, e1, e3, s0]
      exact ⟨by rw [wrdI]; rfl, rfl, en⟩
  · simp +decide only [go_sem, Nat.reduceAdd, Nat.reduceMul, Nat.reduceSub, Nat.reduceLT, Nat.reduceLeDiff, Nat.reduceEqDiff, Nat.add_assoc, Int.reduceAdd, Int.reduceSub, Int.reduceMul, Int.reduceLT, Int.reduceLE, Int.reduceEq, Int.reduceNeg, strOp_add]
    exact ⟨by rw [wrdL]; rfl, rfl⟩
end Go.Ev.Tryd
