/- Part of the proof of a statement about the given program: Y17I. No condition of its own. -/
import Derived.Test.YthlmbapkgblnkaaDoorY16I
namespace Go.Ev.Tryd
open Go.Proofs
set_option maxRecDepth 10000
set_option linter.unusedSimpArgs false
set_option linter.unusedVariables false
attribute [local congr] comes_congr bB_congr gK_congr gdK_congr

def noneB (n : Nod) : Bool := decide (n.data = ⟨#[]⟩) && (decide (n.ptrs.length = 0) && (decide (n.items.length = 0) && (decide (n.size = 0) && decide (n.count = 0))))
mutual
/-- Has a node a form, down to some depth? -/
def ok4 : Nod → Int → Bool
  | .mk k d p s c i, deep => if k = 0 then noneB (.mk k d p s c i) else if deep < 1 then false else (structB (.mk k d p s c i) || listB (.mk k d p s c i)) && (okP p (deep - 1) && okQ i (deep - 1))
def okP : List Nod → Int → Bool
  | [], _ => true
  | x :: l, deep => ok4 x deep && okP l deep
def okQ : List Nod → Int → Bool
  | [], _ => true
  | .mk _ _ p _ _ _ :: l, deep => okP p deep && okQ l deep
end
theorem okP_all : ∀ (l : List Nod) (deep : Int), okP l deep = l.all fun x => ok4 x deep
  | [], deep => by rw [okP]; rfl
  | x :: l, deep => by rw [okP, okP_all l deep, List.all_cons]
theorem okQ_all : ∀ (l : List Nod) (deep : Int), okQ l deep = l.all fun x => okP x.ptrs deep
  | [], deep => by rw [okQ]; rfl
  | .mk _ _ p _ _ _ :: l, deep => by rw [okQ, okQ_all l deep, List.all_cons]; rfl
theorem ok4_mk (k : Int) (d : ByteArray) (p : List Nod) (s c : Int) (i : List Nod) (deep : Int) : ok4 (.mk k d p s c i) deep = if k = 0 then noneB (.mk k d p s c i) else if deep < 1 then false else (structB (.mk k d p s c i) || listB (.mk k d p s c i)) && ((p.all fun x => ok4 x (deep - 1)) && (i.all fun x => x.ptrs.all fun y => ok4 y (deep - 1))) := by
  rw [ok4, okP_all, okQ_all]
  simp only [okP_all]
theorem all_step {α : Type} {f : α → Bool} {l : List α} {j : Nat} (hj : j < l.length) (h : (l.take j).all f = true) : (l.take (j + 1)).all f = f l[j] := by
  rw [List.take_succ_eq_append_getElem hj, List.all_append, h, Bool.true_and, List.all_cons, List.all_nil, Bool.and_true]
theorem all_bad {α : Type} {f : α → Bool} {l : List α} {j : Nat} (hj : j < l.length) (h : f l[j] = false) : l.all f = false := by
  rw [List.all_eq_false]
  exact ⟨_, List.getElem_mem hj, by rw [h]; exact Bool.false_ne_true⟩
set_option maxHeartbeats 8000000 in
theorem l4Ok_both : ∀ (n : Nod), n.Sane → (∀ deep : Int, 0 ≤ deep → deep ≤ 100 → fnA CC PR 48 [n.av, .int .i64 deep] = some (.bool (ok4 n deep))) ∧ ∀ y ∈ n.ptrs, ∀ deep : Int, 0 ≤ deep → deep ≤ 100 → fnA CC PR 48 [y.av, .int .i64 deep] = some (.bool (ok4 y deep)) := by
  intro n
  induction n using Nod.ind with
  | h k d p s c i ih1 ih2 =>
  intro hd
  have hsp := hd.ptrs
  have hsi := hd.items
  simp only [Nod.ptrs, Nod.items] at hsp hsi
  refine ⟨fun deep hd0 hd1 => ?_, fun y hy => (ih1 y hy (hsp y hy)).1⟩
  have hst := l4Struct_eq _ hd
  have hli := l4List_eq _ hd
  obtain ⟨h1, h2, h3⟩ : d.size ≤ 1048576 ∧ p.length ≤ 1048576 ∧ i.length ≤ 1048576 := by
    cases hd
    exact ⟨by assumption, by assumption, by assumption⟩
  rw [ok4_mk]
  have hnb : noneB (.mk k d p s c i) = (decide (d = ⟨#[]⟩) && (decide (p.length = 0) && (decide (i.length = 0) && (decide (s = 0) && decide (c = 0))))) := rfl
  rw [hnb]
  rw [Nod.av_mk] at hst hli ⊢
  have m3 : (((i.length : Nat) : Int) = 0) = (i.length = 0) := propext ⟨fun h => by omega, fun h => by omega⟩
  have m4 : (((p.length : Nat) : Int) = 0) = (p.length = 0) := propext ⟨fun h => by omega, fun h => by omega⟩
  by_cases hk0 : k = 0
  · rw [if_pos hk0]
    have hk0' : (k = 0) = True := eq_true hk0
    apply comes_eq.1
    refine fnA_wp (rs := [.tmp 4]) Tryd.func48 rfl rfl (Nat.le_of_ble_eq_true rfl) rfl ?_
    (simp +decide only [go_sem, Nat.reduceAdd, Nat.reduceMul, Nat.reduceSub, Nat.reduceLT, Nat.reduceLeDiff, Nat.reduceEqDiff, Nat.add_assoc, Int.reduceAdd, Int.reduceSub, Int.reduceMul, Int.reduceLT, Int.reduceLE, Int.reduceEq, Int.reduceNeg, strOp_add, hk0', m3, m4, List.length_map]); repeat' (refine bB_split (fun hB => ?_) (fun hB => ?_) <;> (try simp only [Bool.and_eq_true, Bool.or_eq_false_iff, decide_eq_true_eq, decide_eq_false_iff_not] at hB) <;> simp +decide only [go_sem, Nat.reduceAdd, Nat.reduceMul, Nat.reduceSub, Nat.reduceLT, Nat.reduceLeDiff, Nat.reduceEqDiff, Nat.add_assoc, Int.reduceAdd, Int.reduceSub, Int.reduceMul, Int.reduceLT, Int.reduceLE, Int.reduceEq, Int.reduceNeg, strOp_add, hB, hk0', m3, m4, List.length_map])
    all_goals simp_all
  rw [if_neg hk0]
  have hk0' : (k = 0) = False := eq_false hk0
  by_cases hdp : deep < 1
  · rw [if_pos hdp]
    have hdp' : (deep < 1) = True := eq_true hdp
    apply comes_eq.1
    refine fnA_wp (rs := [.tmp 4]) Tryd.func48 rfl rfl (Nat.le_of_ble_eq_true rfl) rfl ?_
    simp +decide only [go_sem, Nat.reduceAdd, Nat.reduceMul, Nat.reduceSub, Nat.reduceLT, Nat.reduceLeDiff, Nat.reduceEqDiff, Nat.add_assoc, Int.reduceAdd, Int.reduceSub, Int.reduceMul, Int.reduceLT, Int.reduceLE, Int.reduceEq, Int.reduceNeg, strOp_add, hk0', hdp']
  rw [if_neg hdp]
  have hdp' : (deep < 1) = False := eq_false hdp
  have q7 : IntKind.wrap .i64 (deep - 1) = deep - 1 := wrap_id (by omega) (by omega)
  generalize structB (.mk k d p s c i) = sb at *
  generalize listB (.mk k d p s c i) = lb at *
  by_cases hsl : (sb || lb) = true
  case neg =>
    have e : (sb || lb) = false := by simpa using hsl
    rw [e, Bool.false_and]
    rw [Bool.or_eq_false_iff] at e
    obtain ⟨rfl, rfl⟩ := e
    apply comes_eq.1
    refine fnA_wp (rs := [.tmp 4]) Tryd.func48 rfl rfl (Nat.le_of_ble_eq_true rfl) rfl ?_
    simp +decide only [go_sem, Nat.reduceAdd, Nat.reduceMul, Nat.reduceSub, Nat.reduceLT, Nat.reduceLeDiff, Nat.reduceEqDiff, Nat.add_assoc, Int.reduceAdd, Int.reduceSub, Int.reduceMul, Int.reduceLT, Int.reduceLE, Int.reduceEq, Int.reduceNeg, strOp_add, hk0', hdp', hst, hli]
  rw [hsl, Bool.true_and]
  have hip := fun x (hx : x ∈ p) => (ih1 x hx (hsp x hx)).1
  have hii := fun x (hx : x ∈ i) => (ih2 x hx (hsi x hx)).2
  apply comes_eq.1
  refine fnA_wp (rs := [.tmp 4]) Tryd.func48 rfl rfl (Nat.le_of_ble_eq_true rfl) rfl ?_
  have hor : sb = true ∨ (sb = false ∧ lb = true) := by cases sb <;> cases lb <;> simp_all
  rcases hor with rfl | ⟨rfl, rfl⟩
  all_goals
    simp +decide only [go_sem, Nat.reduceAdd, Nat.reduceMul, Nat.reduceSub, Nat.reduceLT, Nat.reduceLeDiff, Nat.reduceEqDiff, Nat.add_assoc, Int.reduceAdd, Int.reduceSub, Int.reduceMul, Int.reduceLT, Int.reduceLE, Int.reduceEq, Int.reduceNeg, strOp_add, hk0', hdp', hst, hli]
    refine comes_upto p.length (fun j st => st.env 1 = .int .i64 deep ∧ st.env 2 = .ptr 0 0 0 ∧ st.env 5 = .int .i64 j ∧ 1 ≤ st.nid ∧ st.sto 0 = ⟨[.int .i64 k, .str d, .slice 6 (p.map Nod.av), .int .i64 s, .int .i64 c, .slice 6 (i.map Nod.av)], 0, false, none⟩ ∧ ((p.take j).all fun x => ok4 x (deep - 1)) = true) ?_ ?_ _ ?_
    · rintro j st hj ⟨e1, e2, e5, en, s0, hall⟩
      have hq := hip _ (List.getElem_mem hj) (deep - 1) (by omega) (by omega)
      have ha := nav_at hj
      have w1 : IntKind.wrap .i64 ((j : Int) + 1) = ((j + 1 : Nat) : Int) := wrap_succ (by omega)
      have hstep := all_step (f := fun x => ok4 x (deep - 1)) hj hall
      have hbad := all_bad (f := fun x => ok4 x (deep - 1)) hj
      rw [nav_eta] at ha hq
      cases hok : ok4 p[j] (deep - 1)
      · rw [hok] at hq
        rw [hbad hok, Bool.false_and]
        simp +decide only [go_sem, Nat.reduceAdd, Nat.reduceMul, Nat.reduceSub, Nat.reduceLT, Nat.reduceLeDiff, Nat.reduceEqDiff, Nat.add_assoc, Int.reduceAdd, Int.reduceSub, Int.reduceMul, Int.reduceLT, Int.reduceLE, Int.reduceEq, Int.reduceNeg, strOp_add, e1, e2, e5, s0, hj, ha, hq, q7, List.length_map]
      · rw [hok] at hq hstep
        simp +decide only [go_sem, Nat.reduceAdd, Nat.reduceMul, Nat.reduceSub, Nat.reduceLT, Nat.reduceLeDiff, Nat.reduceEqDiff, Nat.add_assoc, Int.reduceAdd, Int.reduceSub, Int.reduceMul, Int.reduceLT, Int.reduceLE, Int.reduceEq, Int.reduceNeg, strOp_add, e1, e2, e5, s0, hj, ha, hq, q7, w1, List.length_map]
        exact ⟨en, hstep⟩
    · rintro st ⟨e1, e2, e5, en, s0, hall⟩
      rw [List.take_length] at hall
      rw [hall, Bool.true_and]
      simp +decide only [go_sem, Nat.reduceAdd, Nat.reduceMul, Nat.reduceSub, Nat.reduceLT, Nat.reduceLeDiff, Nat.reduceEqDiff, Nat.add_assoc, Int.reduceAdd, Int.reduceSub, Int.reduceMul, Int.reduceLT, Int.reduceLE, Int.reduceEq, Int.reduceNeg, strOp_add, e1, e2, e5, s0, List.length_map]
      refine comes_upto i.length (fun j st => st.env 1 = .int .i64 deep ∧ st.env 2 = .ptr 0 0 0 ∧ st.env 6 = .int .i64 j ∧ 1 ≤ st.nid ∧ st.sto 0 = ⟨[.int .i64 k, .str d, .slice 6 (p.map Nod.av), .int .i64 s, .int .i64 c, .slice 6 (i.map Nod.av)], 0, false, none⟩ ∧ ((i.take j).all fun x => x.ptrs.all fun y => ok4 y (deep - 1)) = true) ?_ ?_ _ ?_
      · rintro j st hj ⟨e1, e2, e6, en, s0, hall⟩
        have hqs := hii _ (List.getElem_mem hj)
        have ha := nav_at hj
        have w1 : IntKind.wrap .i64 ((j : Int) + 1) = ((j + 1 : Nat) : Int) := wrap_succ (by omega)
        have hstep := all_step (f := fun x : Nod => x.ptrs.all fun y => ok4 y (deep - 1)) hj hall
        have hbad := all_bad (f := fun x : Nod => x.ptrs.all fun y => ok4 y (deep - 1)) hj
        have hxl : i[j].ptrs.length ≤ 1048576 := by
          have hys := hsi _ (List.getElem_mem hj)
          generalize i[j] = y at *
          cases hys
          assumption
        rw [nav_eta] at ha
        rw [hstep]
        clear hstep
        generalize i[j] = x at *
        simp +decide only [go_sem, Nat.reduceAdd, Nat.reduceMul, Nat.reduceSub, Nat.reduceLT, Nat.reduceLeDiff, Nat.reduceEqDiff, Nat.add_assoc, Int.reduceAdd, Int.reduceSub, Int.reduceMul, Int.reduceLT, Int.reduceLE, Int.reduceEq, Int.reduceNeg, strOp_add, e1, e2, e6, s0, hj, List.length_map]
        refine comes_upto x.ptrs.length (fun m st => st.env 1 = .int .i64 deep ∧ st.env 2 = .ptr 0 0 0 ∧ st.env 6 = .int .i64 j ∧ st.env 7 = .int .i64 m ∧ 1 ≤ st.nid ∧ st.sto 0 = ⟨[.int .i64 k, .str d, .slice 6 (p.map Nod.av), .int .i64 s, .int .i64 c, .slice 6 (i.map Nod.av)], 0, false, none⟩ ∧ ((x.ptrs.take m).all fun y => ok4 y (deep - 1)) = true) ?_ ?_ _ ?_
        · rintro m st hm ⟨e1, e2, e6, e7, en, s0, hall2⟩
          have hq := hqs _ (List.getElem_mem hm) (deep - 1) (by omega) (by omega)
          have ha2 := nav_at hm
          have w2 : IntKind.wrap .i64 ((m : Int) + 1) = ((m + 1 : Nat) : Int) := wrap_succ (by omega)
          have hstep2 := all_step (f := fun y => ok4 y (deep - 1)) hm hall2
          have hbad2 := all_bad (f := fun y => ok4 y (deep - 1)) hm
          rw [nav_eta] at ha2 hq
          cases hok : ok4 x.ptrs[m] (deep - 1)
          · rw [hok] at hq
            rw [hbad (hbad2 hok)]
            simp +decide only [go_sem, Nat.reduceAdd, Nat.reduceMul, Nat.reduceSub, Nat.reduceLT, Nat.reduceLeDiff, Nat.reduceEqDiff, Nat.add_assoc, Int.reduceAdd, Int.reduceSub, Int.reduceMul, Int.reduceLT, Int.reduceLE, Int.reduceEq, Int.reduceNeg, strOp_add, e1, e2, e6, e7, s0, hj, hm, ha, ha2, hq, q7, List.length_map]
          · rw [hok] at hq hstep2
            simp +decide only [go_sem, Nat.reduceAdd, Nat.reduceMul, Nat.reduceSub, Nat.reduceLT, Nat.reduceLeDiff, Nat.reduceEqDiff, Nat.add_assoc, Int.reduceAdd, Int.reduceSub, Int.reduceMul, Int.reduceLT, Int.reduceLE, Int.reduceEq, Int.reduceNeg, strOp_add, e1, e2, e6, e7, s0, hj, hm, ha, ha2, hq, q7, w2, List.length_map]
            exact ⟨en, hstep2⟩
        · rintro st ⟨e1, e2, e6, e7, en, s0, hall2⟩
          rw [List.take_length] at hall2
          simp +decide only [go_sem, Nat.reduceAdd, Nat.reduceMul, Nat.reduceSub, Nat.reduceLT, Nat.reduceLeDiff, Nat.reduceEqDiff, Nat.add_assoc, Int.reduceAdd, Int.reduceSub, Int.reduceMul, Int.reduceLT, Int.reduceLE, Int.reduceEq, Int.reduceNeg, strOp_add, e1, e2, e6, e7, s0, hj, ha, w1, List.length_map]
          exact ⟨en, hall2⟩
        · simp +decide only [go_sem, Nat.reduceAdd, Nat.reduceMul, Nat.reduceSub, Nat.reduceLT, Nat.reduceLeDiff, Nat.reduceEqDiff, Nat.add_assoc, Int.reduceAdd, Int.reduceSub, Int.reduceMul, Int.reduceLT, Int.reduceLE, Int.reduceEq, Int.reduceNeg, strOp_add, e1, e2, e6, s0]
          exact ⟨rfl, en⟩
      · rintro st ⟨e1, e2, e6, en, s0, hall⟩
        rw [List.take_length] at hall
        rw [hall]
        simp +decide only [go_sem, Nat.reduceAdd, Nat.reduceMul, Nat.reduceSub, Nat.reduceLT, Nat.reduceLeDiff, Nat.reduceEqDiff, Nat.add_assoc, Int.reduceAdd, Int.reduceSub, Int.reduceMul, Int.reduceLT, Int.reduceLE, Int.reduceEq, Int.reduceNeg, strOp_add, e1, e2, e6, s0, List.length_map]
      · simp +decide only [go_sem, Nat.reduceAdd, Nat.reduceMul, Nat.reduceSub, Nat.reduceLT, Nat.reduceLeDiff, Nat.reduceEqDiff, Nat.add_assoc, Int.reduceAdd, Int.reduceSub, Int.reduceMul, Int.reduceLT, Int.reduceLE, Int.reduceEq, Int.reduceNeg, strOp_add, e1, e2, s0]
        exact ⟨rfl, en⟩
    · simp +decide only [go_sem, Nat.reduceAdd, Nat.reduceMul, Nat.reduceSub, Nat.reduceLT, Nat.reduceLeDiff, Nat.reduceEqDiff, Nat.add_assoc, Int.reduceAdd, Int.reduceSub, Int.reduceMul, Int.reduceLT, Int.reduceLE, Int.reduceEq, Int.reduceNeg, strOp_add]
      rfl
end Go.Ev.Tryd
