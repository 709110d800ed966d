/- Part of the proof of a statement about the given program: Y12I. No condition of its own. -/
import Derived.Test.YthlmbapkgblnkaaDoorY11I
namespace Go.Ev.Tryd
open Go.Proofs
set_option maxRecDepth 10000
set_option linter.unusedSimpArgs false
set_option linter.unusedVariables false
attribute [local congr] comes_congr bB_congr gK_congr gdK_congr

def likeB (l : List Nod) : Bool := match l with
  | [] => true
  | a :: _ => l.all fun x => decide (x.kind = 1) && (decide (x.data.size = a.data.size) && decide (x.ptrs.length = a.ptrs.length))
def bareB (n : Nod) : Bool := decide (n.ptrs.length = 0) && decide (n.items.length = 0)
/-- The bits of a list that are not used are 0. -/
def spareB (t : ByteArray) (b : Nat) : Bool := decide (b % 8 = 0) || decide ((sget t (t.size - 1)).toNat / 2 ^ (b % 8) = 0)
/-- Of the form that its kind asks, without what is within. -/
def nshape (n : Nod) : Bool :=
  if n.kind = 0 then bareB n && (decide (n.data = ⟨#[]⟩) && (decide (n.size = 0) && decide (n.count = 0)))
  else if n.kind = 1 then decide (n.data.size % 8 = 0) && (decide (n.items.length = 0) && (decide (n.size = 0) && decide (n.count = 0)))
  else if n.kind = 2 then
    if 0 ≤ n.count ∧ n.count ≤ 12800 then
      if 0 ≤ n.size ∧ n.size ≤ 5 then bareB n && (decide (n.data.size = (bitsN n.size * n.count.toNat + 7) / 8) && spareB n.data (bitsN n.size * n.count.toNat))
      else if n.size = 6 then decide (n.data = ⟨#[]⟩) && (decide (n.items.length = 0) && decide (n.ptrs.length = n.count.toNat))
      else if n.size = 7 then decide (n.data = ⟨#[]⟩) && (decide (n.ptrs.length = 0) && (decide (n.items.length = n.count.toNat) && likeB n.items))
      else false
    else false
  else false
/-- Unlike the first of the items. -/
def unl (n x : Nod) : Bool := decide (¬ x.kind = 1) || (match n.items with
  | [] => false
  | a :: _ => decide (¬ x.data.size = a.data.size) || decide (¬ x.ptrs.length = a.ptrs.length))
def BoxN (n : Nod) : Blk := ⟨[.int .i64 n.kind, .str n.data, .slice 6 (n.ptrs.map Nod.av), .int .i64 n.size, .int .i64 n.count, .slice 6 (n.items.map Nod.av)], 0, false, none⟩
set_option maxHeartbeats 2000000 in
theorem unlike_wp (n a x : Nod) (rest : List Nod) (hn : n.items = a :: rest) (hx : x.data.size ≤ 1048576 ∧ x.ptrs.length ≤ 1048576) (hxa : a.data.size ≤ 1048576 ∧ a.ptrs.length ≤ 1048576) (m : Mem) (hs : m.sto 0 = BoxN n) (h1 : 1 ≤ m.nid) (Q : AV × Mem → Prop) (hQ : ∀ m', (m'.sto 0 = BoxN n ∧ 1 ≤ m'.nid) → Q (.bool (unl n x), m')) :
    Comes (fnI CC PR 71 (x.av :: [.ptr 0 0 0]) m) Q := by
  have e : unl n x = (decide (¬ x.kind = 1) || (decide (¬ x.data.size = a.data.size) || decide (¬ x.ptrs.length = a.ptrs.length))) := by unfold unl; rw [hn]
  have hx0 : (n.items.map Nod.av)[0]? = some a.av := by rw [hn]; rfl
  have hxl : ((0 : Int) < (((n.items.map Nod.av).length : Nat) : Int)) = True := eq_true (by rw [hn, List.map_cons, List.length_cons]; omega)
  have hs2 := hs
  rw [BoxN] at hs2
  rw [e] at hQ
  rw [nav_eta a] at hx0
  generalize n.items.map Nod.av = its at *
  rw [nav_eta x]
  have m1 : (((x.data.size : Nat) : Int) = ((a.data.size : Nat) : Int)) = (x.data.size = a.data.size) := propext ⟨fun h => by omega, fun h => by omega⟩
  have m2 : (((x.ptrs.length : Nat) : Int) = ((a.ptrs.length : Nat) : Int)) = (x.ptrs.length = a.ptrs.length) := propext ⟨fun h => by omega, fun h => by omega⟩
  have n0 : ¬ 0 = m.nid := by omega
  have hfin : ∀ y : Blk, upd m.sto m.nid y 0 = BoxN n := fun y => by
    rw [upd_miss _ _ _ _ n0]
    exact hs
  refine fnI_wp (rs := [.tmp 3]) Tryd.func71 rfl rfl (Nat.le_of_ble_eq_true rfl) rfl rfl ?_
  simp +decide (disch := first | decide | omega) only [go_sem, Nat.reduceAdd, Nat.reduceMul, Nat.reduceSub, Nat.reduceLT, Nat.reduceLeDiff, Nat.reduceEqDiff, Nat.add_assoc, Int.reduceAdd, Int.reduceSub, Int.reduceMul, Int.reduceLT, Int.reduceLE, Int.reduceEq, Int.reduceNeg, strOp_add, hs2, n0]
  refine (d_plan (ord := [0, 1, 2, 3, 4, 5, 6, 7, 8, 9, 10, 11, 12, 13, 14, 15, 16, 17, 18, 19, 20, 21, 22, 23, 24, 25, 26, 27]) (prs := [(5, 8), (5, 11), (17, 20), (17, 23)]) (by kernel_rfl)).2 ?_
  by_cases q1 : x.kind = 1
  · by_cases q2 : x.data.size = a.data.size
    · have q2' : (((x.data.size : Nat) : Int) = ((a.data.size : Nat) : Int)) = True := eq_true (by omega)
      rw [decide_eq_false (fun h => h q1), decide_eq_false (fun h => h q2), Bool.false_or, Bool.false_or] at hQ
      simp (maxSteps := 2000000) +decide (disch := first | decide | omega) only [go_sem, Nat.reduceAdd, Nat.reduceMul, Nat.reduceSub, Nat.reduceLT, Nat.reduceLeDiff, Nat.reduceEqDiff, Nat.add_assoc, Int.reduceAdd, Int.reduceSub, Int.reduceMul, Int.reduceLT, Int.reduceLE, Int.reduceEq, Int.reduceNeg, strOp_add, hs2, n0, q1, q2', m2, hx0, hxl, List.length_map]
      have e9 : (!decide (x.ptrs.length = a.ptrs.length)) = decide (¬ x.ptrs.length = a.ptrs.length) := by simp
      rw [e9]
      exact hQ _ ⟨hfin _, by show 1 ≤ m.nid + 29; omega⟩
    · have q2' : (((x.data.size : Nat) : Int) = ((a.data.size : Nat) : Int)) = False := eq_false (by omega)
      rw [decide_eq_false (fun h => h q1), decide_eq_true q2, Bool.false_or, Bool.true_or] at hQ
      simp (maxSteps := 2000000) +decide (disch := first | decide | omega) only [go_sem, Nat.reduceAdd, Nat.reduceMul, Nat.reduceSub, Nat.reduceLT, Nat.reduceLeDiff, Nat.reduceEqDiff, Nat.add_assoc, Int.reduceAdd, Int.reduceSub, Int.reduceMul, Int.reduceLT, Int.reduceLE, Int.reduceEq, Int.reduceNeg, strOp_add, hs2, n0, q1, q2', hx0, hxl, List.length_map]
      exact hQ _ ⟨hfin _, by show 1 ≤ m.nid + 29; omega⟩
  · rw [decide_eq_true q1, Bool.true_or] at hQ
    simp +decide (disch := first | decide | omega) only [go_sem, Nat.reduceAdd, Nat.reduceMul, Nat.reduceSub, Nat.reduceLT, Nat.reduceLeDiff, Nat.reduceEqDiff, Nat.add_assoc, Int.reduceAdd, Int.reduceSub, Int.reduceMul, Int.reduceLT, Int.reduceLE, Int.reduceEq, Int.reduceNeg, strOp_add, hs2, n0, q1, hx0, hxl, List.length_map]
    exact hQ _ ⟨hfin _, by show 1 ≤ m.nid + 29; omega⟩
theorem bare_eq (n : Nod) : fnA CC PR 68 [n.av] = some (.bool (bareB n)) := by
  rw [nav_eta]
  apply comes_eq.1
  refine fnA_wp (rs := [.tmp 2]) Tryd.func68 rfl rfl (Nat.le_of_ble_eq_true rfl) rfl ?_
  (simp +decide only [go_sem, Nat.reduceAdd, Nat.reduceMul, Nat.reduceSub, Nat.reduceLT, Nat.reduceLeDiff, Nat.reduceEqDiff, Nat.add_assoc, Int.reduceAdd, Int.reduceSub, Int.reduceMul, Int.reduceLT, Int.reduceLE, Int.reduceEq, Int.reduceNeg, strOp_add, List.length_map]); repeat' (refine bB_split (fun hB => ?_) (fun hB => ?_) <;> (try simp only [Bool.and_eq_true, Bool.or_eq_false_iff, decide_eq_true_eq, decide_eq_false_iff_not] at hB) <;> simp +decide only [go_sem, Nat.reduceAdd, Nat.reduceMul, Nat.reduceSub, Nat.reduceLT, Nat.reduceLeDiff, Nat.reduceEqDiff, Nat.add_assoc, Int.reduceAdd, Int.reduceSub, Int.reduceMul, Int.reduceLT, Int.reduceLE, Int.reduceEq, Int.reduceNeg, strOp_add, hB, List.length_map])
  all_goals simp_all [bareB]
theorem Nod.Sane.ptrs {n : Nod} (h : n.Sane) : ∀ x ∈ n.ptrs, x.Sane := by
  cases h
  assumption
theorem Nod.Sane.items {n : Nod} (h : n.Sane) : ∀ x ∈ n.items, x.Sane := by
  cases h
  assumption
theorem like_unl (n : Nod) : (!n.items.any (unl n)) = likeB n.items := by
  cases h : n.items with
  | nil => rfl
  | cons a rest =>
    have e : ∀ x, unl n x = !(decide (x.kind = 1) && (decide (x.data.size = a.data.size) && decide (x.ptrs.length = a.ptrs.length))) := fun x => by
      unfold unl
      rw [h]
      by_cases q1 : x.kind = 1 <;> by_cases q2 : x.data.size = a.data.size <;> by_cases q3 : x.ptrs.length = a.ptrs.length <;> simp [q1, q2, q3]
    unfold likeB
    rw [List.not_any_eq_all_not]
    congr 1
    funext x
    rw [e, Bool.not_not]
set_option maxHeartbeats 4000000 in
theorem shaped_eq (n : Nod) (hd : n.Sane) : fnA CC PR 66 [n.av] = some (.bool (nshape n)) := by
  have hba := bare_eq n
  obtain ⟨h1, h2, h3⟩ : n.data.size ≤ 1048576 ∧ n.ptrs.length ≤ 1048576 ∧ n.items.length ≤ 1048576 := by
    cases hd
    exact ⟨by assumption, by assumption, by assumption⟩
  rw [nav_eta] at hba ⊢
  by_cases k0 : n.kind = 0
  · have e : nshape n = (bareB n && (decide (n.data = ⟨#[]⟩) && (decide (n.size = 0) && decide (n.count = 0)))) := by unfold nshape; rw [if_pos k0]
    rw [e]
    rw [k0] at hba ⊢
    generalize bareB n = bb at *
    apply comes_eq.1
    refine fnA_wp (rs := [.tmp 2]) Tryd.func66 rfl rfl (Nat.le_of_ble_eq_true rfl) rfl ?_
    (simp +decide only [go_sem, Nat.reduceAdd, Nat.reduceMul, Nat.reduceSub, Nat.reduceLT, Nat.reduceLeDiff, Nat.reduceEqDiff, Nat.add_assoc, Int.reduceAdd, Int.reduceSub, Int.reduceMul, Int.reduceLT, Int.reduceLE, Int.reduceEq, Int.reduceNeg, strOp_add, hba, List.length_map]); repeat' (refine bB_split (fun hB => ?_) (fun hB => ?_) <;> (try simp only [Bool.and_eq_true, Bool.or_eq_false_iff, decide_eq_true_eq, decide_eq_false_iff_not] at hB) <;> simp +decide only [go_sem, Nat.reduceAdd, Nat.reduceMul, Nat.reduceSub, Nat.reduceLT, Nat.reduceLeDiff, Nat.reduceEqDiff, Nat.add_assoc, Int.reduceAdd, Int.reduceSub, Int.reduceMul, Int.reduceLT, Int.reduceLE, Int.reduceEq, Int.reduceNeg, strOp_add, hB, hba, List.length_map])
    all_goals simp_all
  by_cases k1 : n.kind = 1
  · have e : nshape n = (decide (n.data.size % 8 = 0) && (decide (n.items.length = 0) && (decide (n.size = 0) && decide (n.count = 0)))) := by unfold nshape; rw [if_neg k0, if_pos k1]
    have m1 : ((n.data.size : Int).tmod 8) = ((n.data.size % 8 : Nat) : Int) := rfl
    have m2 : (((n.data.size % 8 : Nat) : Int) = 0) = (n.data.size % 8 = 0) := propext ⟨fun h => by omega, fun h => by omega⟩
    have m3 : (((n.items.length : Nat) : Int) = 0) = (n.items.length = 0) := propext ⟨fun h => by omega, fun h => by omega⟩
    rw [e]
    rw [k1] at hba ⊢
    apply comes_eq.1
    refine fnA_wp (rs := [.tmp 2]) Tryd.func66 rfl rfl (Nat.le_of_ble_eq_true rfl) rfl ?_
    (simp +decide only [go_sem, Nat.reduceAdd, Nat.reduceMul, Nat.reduceSub, Nat.reduceLT, Nat.reduceLeDiff, Nat.reduceEqDiff, Nat.add_assoc, Int.reduceAdd, Int.reduceSub, Int.reduceMul, Int.reduceLT, Int.reduceLE, Int.reduceEq, Int.reduceNeg, strOp_add, m1, m2, m3, List.length_map]); repeat' (refine bB_split (fun hB => ?_) (fun hB => ?_) <;> (try simp only [Bool.and_eq_true, Bool.or_eq_false_iff, decide_eq_true_eq, decide_eq_false_iff_not] at hB) <;> simp +decide only [go_sem, Nat.reduceAdd, Nat.reduceMul, Nat.reduceSub, Nat.reduceLT, Nat.reduceLeDiff, Nat.reduceEqDiff, Nat.add_assoc, Int.reduceAdd, Int.reduceSub, Int.reduceMul, Int.reduceLT, Int.reduceLE, Int.reduceEq, Int.reduceNeg, strOp_add, hB, m1, m2, m3, List.length_map])
    all_goals simp_all
  by_cases k2 : n.kind = 2
  · have e : nshape n = if 0 ≤ n.count ∧ n.count ≤ 12800 then
      if 0 ≤ n.size ∧ n.size ≤ 5 then bareB n && (decide (n.data.size = (bitsN n.size * n.count.toNat + 7) / 8) && spareB n.data (bitsN n.size * n.count.toNat))
      else if n.size = 6 then decide (n.data = ⟨#[]⟩) && (decide (n.items.length = 0) && decide (n.ptrs.length = n.count.toNat))
      else if n.size = 7 then decide (n.data = ⟨#[]⟩) && (decide (n.ptrs.length = 0) && (decide (n.items.length = n.count.toNat) && likeB n.items))
      else false
    else false := by unfold nshape; rw [if_neg k0, if_neg k1, if_pos k2]
    rw [e]
    rw [k2] at hba ⊢
    clear e
    by_cases hc : 0 ≤ n.count ∧ n.count ≤ 12800
    · rw [if_pos hc]
      have c1 : (decide (0 ≤ n.count) && decide (n.count ≤ 12800)) = true := by simp [hc]
      by_cases hs : 0 ≤ n.size ∧ n.size ≤ 5
      · rw [if_pos hs]
        have hsz : n.size = 0 ∨ n.size = 1 ∨ n.size = 2 ∨ n.size = 3 ∨ n.size = 4 ∨ n.size = 5 := by omega
        have hbk : bitsN n.size ≤ 64 := by rcases hsz with h | h | h | h | h | h <;> rw [h] <;> decide
        have hdb := dataBytes_eq n.size n.count hs hc
        have hsp := spare_eq n.data (bitsN n.size * n.count.toNat)
        obtain ⟨c, hcn⟩ : ∃ c : Nat, n.count = (c : Int) := ⟨n.count.toNat, by omega⟩
        rw [hcn] at hdb hsp hba c1 ⊢
        rw [Int.toNat_natCast] at hdb hsp ⊢
        have hc2 : c ≤ 12800 := by omega
        have hm : bitsN n.size * c ≤ 64 * 12800 := Nat.mul_le_mul hbk hc2
        have hmw : IntKind.wrap .i64 ((bitsN n.size : Int) * (c : Int)) = ((bitsN n.size * c : Nat) : Int) := by
          rw [← Int.natCast_mul]
          exact wrap_id (by omega) (by omega)
        have c2f : ((c : Int) ≤ 12800) = True := eq_true (by omega)
        have key : ∀ (sz : Int), n.size = sz → (sz = 0 ∨ sz = 1 ∨ sz = 2 ∨ sz = 3 ∨ sz = 4 ∨ sz = 5) → fnA CC PR 66 [.agg [.int .i64 2, .str n.data, .slice 6 (n.ptrs.map Nod.av), .int .i64 sz, .int .i64 c, .slice 6 (n.items.map Nod.av)]] = some (.bool (bareB n && (decide (n.data.size = (bitsN sz * c + 7) / 8) && spareB n.data (bitsN sz * c)))) := by
          intro sz hsz' hcases
          rw [hsz'] at hdb hsp hba hmw hm
          have hE : (((n.data.size : Nat) : Int) = (((bitsN sz * c + 7) / 8 : Nat) : Int)) = (n.data.size = (bitsN sz * c + 7) / 8) := propext ⟨fun h => by omega, fun h => by omega⟩
          by_cases hEq : n.data.size = (bitsN sz * c + 7) / 8
          · have hsp := hsp (by omega) (fun h => by omega) h1
            have hE' : (((n.data.size : Nat) : Int) = (((bitsN sz * c + 7) / 8 : Nat) : Int)) = True := by rw [hE]; exact eq_true hEq
            rw [show (decide (n.data.size = (bitsN sz * c + 7) / 8)) = true from decide_eq_true hEq, Bool.true_and]
            have hspB : spareB n.data (bitsN sz * c) = (decide (bitsN sz * c % 8 = 0) || decide ((sget n.data (n.data.size - 1)).toNat / 2 ^ (bitsN sz * c % 8) = 0)) := rfl
            rw [← hspB] at hsp
            generalize spareB n.data (bitsN sz * c) = sp at *
            clear hEq hE hspB
            generalize hDB : (bitsN sz * c + 7) / 8 = db at *
            generalize bareB n = bb at *
            rcases hcases with rfl | rfl | rfl | rfl | rfl | rfl
            · simp only [bitsN, Nat.zero_mul] at hmw hsp hdb
              have hmw : IntKind.wrap .i64 (0 * (c : Int)) = 0 := by rw [Int.zero_mul]; rfl
              have hsp : fnA CC PR 70 [.str n.data, .int .i64 0] = some (.bool sp) := hsp
              apply comes_eq.1
              refine fnA_wp (rs := [.tmp 2]) Tryd.func66 rfl rfl (Nat.le_of_ble_eq_true rfl) rfl ?_
              simp +decide only [go_sem, Nat.reduceAdd, Nat.reduceMul, Nat.reduceSub, Nat.reduceLT, Nat.reduceLeDiff, Nat.reduceEqDiff, Nat.add_assoc, Int.reduceAdd, Int.reduceSub, Int.reduceMul, Int.reduceLT, Int.reduceLE, Int.reduceEq, Int.reduceNeg, strOp_add, c2f]
              refine (d_plan (ord := [0, 1, 2, 3, 4, 5, 6, 7, 8, 9, 10, 11, 12, 13, 14, 15, 16, 17, 18, 19, 20, 21, 22, 23, 24, 25]) (prs := [(4, 7), (4, 9), (7, 9), (4, 10), (15, 17), (15, 19), (15, 21), (17, 21), (19, 21)]) (by kernel_rfl)).2 ?_
              (simp +decide only [go_sem, Nat.reduceAdd, Nat.reduceMul, Nat.reduceSub, Nat.reduceLT, Nat.reduceLeDiff, Nat.reduceEqDiff, Nat.add_assoc, Int.reduceAdd, Int.reduceSub, Int.reduceMul, Int.reduceLT, Int.reduceLE, Int.reduceEq, Int.reduceNeg, strOp_add, c2f, hba, hdb, hE', hmw, hsp, List.length_map]); repeat' (refine bB_split (fun hB => ?_) (fun hB => ?_) <;> (try simp only [Bool.and_eq_true, Bool.or_eq_false_iff, decide_eq_true_eq, decide_eq_false_iff_not] at hB) <;> simp +decide only [go_sem, Nat.reduceAdd, Nat.reduceMul, Nat.reduceSub, Nat.reduceLT, Nat.reduceLeDiff, Nat.reduceEqDiff, Nat.add_assoc, Int.reduceAdd, Int.reduceSub, Int.reduceMul, Int.reduceLT, Int.reduceLE, Int.reduceEq, Int.reduceNeg, strOp_add, hB, c2f, hba, hdb, hE', hmw, hsp, List.length_map])
              all_goals simp_all
            · have hmw : IntKind.wrap .i64 (1 * (c : Int)) = ((1 * c : Nat) : Int) := hmw
              have hsp : fnA CC PR 70 [.str n.data, .int .i64 ((1 * c : Nat) : Int)] = some (.bool sp) := hsp
              generalize 1 * c = kc at *
              apply comes_eq.1
              refine fnA_wp (rs := [.tmp 2]) Tryd.func66 rfl rfl (Nat.le_of_ble_eq_true rfl) rfl ?_
              simp +decide only [go_sem, Nat.reduceAdd, Nat.reduceMul, Nat.reduceSub, Nat.reduceLT, Nat.reduceLeDiff, Nat.reduceEqDiff, Nat.add_assoc, Int.reduceAdd, Int.reduceSub, Int.reduceMul, Int.reduceLT, Int.reduceLE, Int.reduceEq, Int.reduceNeg, strOp_add, c2f]
              refine (d_plan (ord := [0, 1, 2, 3, 4, 5, 6, 7, 8, 9, 10, 11, 12, 13, 14, 15, 16, 17, 18, 19, 20, 21, 22, 23, 24, 25]) (prs := [(4, 7), (4, 9), (7, 9), (4, 10), (15, 17), (15, 19), (15, 21), (17, 21), (19, 21)]) (by kernel_rfl)).2 ?_
              (simp +decide only [go_sem, Nat.reduceAdd, Nat.reduceMul, Nat.reduceSub, Nat.reduceLT, Nat.reduceLeDiff, Nat.reduceEqDiff, Nat.add_assoc, Int.reduceAdd, Int.reduceSub, Int.reduceMul, Int.reduceLT, Int.reduceLE, Int.reduceEq, Int.reduceNeg, strOp_add, c2f, hba, hdb, hE', hmw, hsp, List.length_map]); repeat' (refine bB_split (fun hB => ?_) (fun hB => ?_) <;> (try simp only [Bool.and_eq_true, Bool.or_eq_false_iff, decide_eq_true_eq, decide_eq_false_iff_not] at hB) <;> simp +decide only [go_sem, Nat.reduceAdd, Nat.reduceMul, Nat.reduceSub, Nat.reduceLT, Nat.reduceLeDiff, Nat.reduceEqDiff, Nat.add_assoc, Int.reduceAdd, Int.reduceSub, Int.reduceMul, Int.reduceLT, Int.reduceLE, Int.reduceEq, Int.reduceNeg, strOp_add, hB, c2f, hba, hdb, hE', hmw, hsp, List.length_map])
              all_goals simp_all
            · have hmw : IntKind.wrap .i64 (8 * (c : Int)) = ((8 * c : Nat) : Int) := hmw
              have hsp : fnA CC PR 70 [.str n.data, .int .i64 ((8 * c : Nat) : Int)] = some (.bool sp) := hsp
              generalize 8 * c = kc at *
              apply comes_eq.1
              refine fnA_wp (rs := [.tmp 2]) Tryd.func66 rfl rfl (Nat.le_of_ble_eq_true rfl) rfl ?_
              simp +decide only [go_sem, Nat.reduceAdd, Nat.reduceMul, Nat.reduceSub, Nat.reduceLT, Nat.reduceLeDiff, Nat.reduceEqDiff, Nat.add_assoc, Int.reduceAdd, Int.reduceSub, Int.reduceMul, Int.reduceLT, Int.reduceLE, Int.reduceEq, Int.reduceNeg, strOp_add, c2f]
              refine (d_plan (ord := [0, 1, 2, 3, 4, 5, 6, 7, 8, 9, 10, 11, 12, 13, 14, 15, 16, 17, 18, 19, 20, 21, 22, 23, 24, 25]) (prs := [(4, 7), (4, 9), (7, 9), (4, 10), (15, 17), (15, 19), (15, 21), (17, 21), (19, 21)]) (by kernel_rfl)).2 ?_
              (simp +decide only [go_sem, Nat.reduceAdd, Nat.reduceMul, Nat.reduceSub, Nat.reduceLT, Nat.reduceLeDiff, Nat.reduceEqDiff, Nat.add_assoc, Int.reduceAdd, Int.reduceSub, Int.reduceMul, Int.reduceLT, Int.reduceLE, Int.reduceEq, Int.reduceNeg, strOp_add, c2f, hba, hdb, hE', hmw, hsp, List.length_map]); repeat' (refine bB_split (fun hB => ?_) (fun hB => ?_) <;> (try simp only [Bool.and_eq_true, Bool.or_eq_false_iff, decide_eq_true_eq, decide_eq_false_iff_not] at hB) <;> simp +decide only [go_sem, Nat.reduceAdd, Nat.reduceMul, Nat.reduceSub, Nat.reduceLT, Nat.reduceLeDiff, Nat.reduceEqDiff, Nat.add_assoc, Int.reduceAdd, Int.reduceSub, Int.reduceMul, Int.reduceLT, Int.reduceLE, Int.reduceEq, Int.reduceNeg, strOp_add, hB, c2f, hba, hdb, hE', hmw, hsp, List.length_map])
              all_goals simp_all
            · have hmw : IntKind.wrap .i64 (16 * (c : Int)) = ((16 * c : Nat) : Int) := hmw
              have hsp : fnA CC PR 70 [.str n.data, .int .i64 ((16 * c : Nat) : Int)] = some (.bool sp) := hsp
              generalize 16 * c = kc at *
              apply comes_eq.1
              refine fnA_wp (rs := [.tmp 2]) Tryd.func66 rfl rfl (Nat.le_of_ble_eq_true rfl) rfl ?_
              simp +decide only [go_sem, Nat.reduceAdd, Nat.reduceMul, Nat.reduceSub, Nat.reduceLT, Nat.reduceLeDiff, Nat.reduceEqDiff, Nat.add_assoc, Int.reduceAdd, Int.reduceSub, Int.reduceMul, Int.reduceLT, Int.reduceLE, Int.reduceEq, Int.reduceNeg, strOp_add, c2f]
              refine (d_plan (ord := [0, 1, 2, 3, 4, 5, 6, 7, 8, 9, 10, 11, 12, 13, 14, 15, 16, 17, 18, 19, 20, 21, 22, 23, 24, 25]) (prs := [(4, 7), (4, 9), (7, 9), (4, 10), (15, 17), (15, 19), (15, 21), (17, 21), (19, 21)]) (by kernel_rfl)).2 ?_
              (simp +decide only [go_sem, Nat.reduceAdd, Nat.reduceMul, Nat.reduceSub, Nat.reduceLT, Nat.reduceLeDiff, Nat.reduceEqDiff, Nat.add_assoc, Int.reduceAdd, Int.reduceSub, Int.reduceMul, Int.reduceLT, Int.reduceLE, Int.reduceEq, Int.reduceNeg, strOp_add, c2f, hba, hdb, hE', hmw, hsp, List.length_map]); repeat' (refine bB_split (fun hB => ?_) (fun hB => ?_) <;> (try simp only [Bool.and_eq_true, Bool.or_eq_false_iff, decide_eq_true_eq, decide_eq_false_iff_not] at hB) <;> simp +decide only [go_sem, Nat.reduceAdd, Nat.reduceMul, Nat.reduceSub, Nat.reduceLT, Nat.reduceLeDiff, Nat.reduceEqDiff, Nat.add_assoc, Int.reduceAdd, Int.reduceSub, Int.reduceMul, Int.reduceLT, Int.reduceLE, Int.reduceEq, Int.reduceNeg, strOp_add, hB, c2f, hba, hdb, hE', hmw, hsp, List.length_map])
              all_goals simp_all
            · have hmw : IntKind.wrap .i64 (32 * (c : Int)) = ((32 * c : Nat) : Int) := hmw
              have hsp : fnA CC PR 70 [.str n.data, .int .i64 ((32 * c : Nat) : Int)] = some (.bool sp) := hsp
              generalize 32 * c = kc at *
              apply comes_eq.1
              refine fnA_wp (rs := [.tmp 2]) Tryd.func66 rfl rfl (Nat.le_of_ble_eq_true rfl) rfl ?_
              simp +decide only [go_sem, Nat.reduceAdd, Nat.reduceMul, Nat.reduceSub, Nat.reduceLT, Nat.reduceLeDiff, Nat.reduceEqDiff, Nat.add_assoc, Int.reduceAdd, Int.reduceSub, Int.reduceMul, Int.reduceLT, Int.reduceLE, Int.reduceEq, Int.reduceNeg, strOp_add, c2f]
              refine (d_plan (ord := [0, 1, 2, 3, 4, 5, 6, 7, 8, 9, 10, 11, 12, 13, 14, 15, 16, 17, 18, 19, 20, 21, 22, 23, 24, 25]) (prs := [(4, 7), (4, 9), (7, 9), (4, 10), (15, 17), (15, 19), (15, 21), (17, 21), (19, 21)]) (by kernel_rfl)).2 ?_
              (simp +decide only [go_sem, Nat.reduceAdd, Nat.reduceMul, Nat.reduceSub, Nat.reduceLT, Nat.reduceLeDiff, Nat.reduceEqDiff, Nat.add_assoc, Int.reduceAdd, Int.reduceSub, Int.reduceMul, Int.reduceLT, Int.reduceLE, Int.reduceEq, Int.reduceNeg, strOp_add, c2f, hba, hdb, hE', hmw, hsp, List.length_map]); repeat' (refine bB_split (fun hB => ?_) (fun hB => ?_) <;> (try simp only [Bool.and_eq_true, Bool.or_eq_false_iff, decide_eq_true_eq, decide_eq_false_iff_not] at hB) <;> simp +decide only [go_sem, Nat.reduceAdd, Nat.reduceMul, Nat.reduceSub, Nat.reduceLT, Nat.reduceLeDiff, Nat.reduceEqDiff, Nat.add_assoc, Int.reduceAdd, Int.reduceSub, Int.reduceMul, Int.reduceLT, Int.reduceLE, Int.reduceEq, Int.reduceNeg, strOp_add, hB, c2f, hba, hdb, hE', hmw, hsp, List.length_map])
              all_goals simp_all
            · have hmw : IntKind.wrap .i64 (64 * (c : Int)) = ((64 * c : Nat) : Int) := hmw
              have hsp : fnA CC PR 70 [.str n.data, .int .i64 ((64 * c : Nat) : Int)] = some (.bool sp) := hsp
              generalize 64 * c = kc at *
              apply comes_eq.1
              refine fnA_wp (rs := [.tmp 2]) Tryd.func66 rfl rfl (Nat.le_of_ble_eq_true rfl) rfl ?_
              simp +decide only [go_sem, Nat.reduceAdd, Nat.reduceMul, Nat.reduceSub, Nat.reduceLT, Nat.reduceLeDiff, Nat.reduceEqDiff, Nat.add_assoc, Int.reduceAdd, Int.reduceSub, Int.reduceMul, Int.reduceLT, Int.reduceLE, Int.reduceEq, Int.reduceNeg, strOp_add, c2f]
              refine (d_plan (ord := [0, 1, 2, 3, 4, 5, 6, 7, 8, 9, 10, 11, 12, 13, 14, 15, 16, 17, 18, 19, 20, 21, 22, 23, 24, 25]) (prs := [(4, 7), (4, 9), (7, 9), (4, 10), (15, 17), (15, 19), (15, 21), (17, 21), (19, 21)]) (by kernel_rfl)).2 ?_
              (simp +decide only [go_sem, Nat.reduceAdd, Nat.reduceMul, Nat.reduceSub, Nat.reduceLT, Nat.reduceLeDiff, Nat.reduceEqDiff, Nat.add_assoc, Int.reduceAdd, Int.reduceSub, Int.reduceMul, Int.reduceLT, Int.reduceLE, Int.reduceEq, Int.reduceNeg, strOp_add, c2f, hba, hdb, hE', hmw, hsp, List.length_map]); repeat' (refine bB_split (fun hB => ?_) (fun hB => ?_) <;> (try simp only [Bool.and_eq_true, Bool.or_eq_false_iff, decide_eq_true_eq, decide_eq_false_iff_not] at hB) <;> simp +decide only [go_sem, Nat.reduceAdd, Nat.reduceMul, Nat.reduceSub, Nat.reduceLT, Nat.reduceLeDiff, Nat.reduceEqDiff, Nat.add_assoc, Int.reduceAdd, Int.reduceSub, Int.reduceMul, Int.reduceLT, Int.reduceLE, Int.reduceEq, Int.reduceNeg, strOp_add, hB, c2f, hba, hdb, hE', hmw, hsp, List.length_map])
              all_goals simp_all
          · have hE' : (((n.data.size : Nat) : Int) = (((bitsN sz * c + 7) / 8 : Nat) : Int)) = False := by rw [hE]; exact eq_false hEq
            rw [show (decide (n.data.size = (bitsN sz * c + 7) / 8)) = false from decide_eq_false hEq, Bool.false_and, Bool.and_false]
            clear hEq hE hsp
            generalize hDB : (bitsN sz * c + 7) / 8 = db at *
            generalize bareB n = bb at *
            rcases hcases with rfl | rfl | rfl | rfl | rfl | rfl
            all_goals
              apply comes_eq.1
              refine fnA_wp (rs := [.tmp 2]) Tryd.func66 rfl rfl (Nat.le_of_ble_eq_true rfl) rfl ?_
              simp +decide only [go_sem, Nat.reduceAdd, Nat.reduceMul, Nat.reduceSub, Nat.reduceLT, Nat.reduceLeDiff, Nat.reduceEqDiff, Nat.add_assoc, Int.reduceAdd, Int.reduceSub, Int.reduceMul, Int.reduceLT, Int.reduceLE, Int.reduceEq, Int.reduceNeg, strOp_add, c2f]
              refine (d_plan (ord := [0, 1, 2, 3, 4, 5, 6, 7, 8, 9, 10, 11, 12, 13, 14, 15, 16, 17, 18, 19, 20, 21, 22, 23, 24, 25]) (prs := [(4, 7), (4, 9), (7, 9), (4, 10), (15, 17), (15, 19), (15, 21), (17, 21), (19, 21)]) (by kernel_rfl)).2 ?_
              (simp +decide only [go_sem, Nat.reduceAdd, Nat.reduceMul, Nat.reduceSub, Nat.reduceLT, Nat.reduceLeDiff, Nat.reduceEqDiff, Nat.add_assoc, Int.reduceAdd, Int.reduceSub, Int.reduceMul, Int.reduceLT, Int.reduceLE, Int.reduceEq, Int.reduceNeg, strOp_add, c2f, hba, hdb, hE', List.length_map]); repeat' (refine bB_split (fun hB => ?_) (fun hB => ?_) <;> (try simp only [Bool.and_eq_true, Bool.or_eq_false_iff, decide_eq_true_eq, decide_eq_false_iff_not] at hB) <;> simp +decide only [go_sem, Nat.reduceAdd, Nat.reduceMul, Nat.reduceSub, Nat.reduceLT, Nat.reduceLeDiff, Nat.reduceEqDiff, Nat.add_assoc, Int.reduceAdd, Int.reduceSub, Int.reduceMul, Int.reduceLT, Int.reduceLE, Int.reduceEq, Int.reduceNeg, strOp_add, hB, c2f, hba, hdb, hE', List.length_map])
        exact key n.size rfl hsz
      · rw [if_neg hs]
        have s1 : (decide (0 ≤ n.size) && decide (n.size ≤ 5)) = false := by
          rw [Bool.eq_false_iff]
          intro h
          simp only [Bool.and_eq_true, decide_eq_true_eq] at h
          exact hs h
        have m1 : (((n.ptrs.length : Nat) : Int) = n.count) = (n.ptrs.length = n.count.toNat) := propext ⟨fun h => by omega, fun h => by omega⟩
        have m2 : (((n.items.length : Nat) : Int) = n.count) = (n.items.length = n.count.toNat) := propext ⟨fun h => by omega, fun h => by omega⟩
        have m3 : (((n.items.length : Nat) : Int) = 0) = (n.items.length = 0) := propext ⟨fun h => by omega, fun h => by omega⟩
        have m4 : (((n.ptrs.length : Nat) : Int) = 0) = (n.ptrs.length = 0) := propext ⟨fun h => by omega, fun h => by omega⟩
        by_cases h6 : n.size = 6
        · rw [if_pos h6]
          rw [h6] at hba s1 ⊢
          apply comes_eq.1
          refine fnA_wp (rs := [.tmp 2]) Tryd.func66 rfl rfl (Nat.le_of_ble_eq_true rfl) rfl ?_
          (simp +decide only [go_sem, Nat.reduceAdd, Nat.reduceMul, Nat.reduceSub, Nat.reduceLT, Nat.reduceLeDiff, Nat.reduceEqDiff, Nat.add_assoc, Int.reduceAdd, Int.reduceSub, Int.reduceMul, Int.reduceLT, Int.reduceLE, Int.reduceEq, Int.reduceNeg, strOp_add, c1, s1, m1, m2, m3, m4, List.length_map]); repeat' (refine bB_split (fun hB => ?_) (fun hB => ?_) <;> (try simp only [Bool.and_eq_true, Bool.or_eq_false_iff, decide_eq_true_eq, decide_eq_false_iff_not] at hB) <;> simp +decide only [go_sem, Nat.reduceAdd, Nat.reduceMul, Nat.reduceSub, Nat.reduceLT, Nat.reduceLeDiff, Nat.reduceEqDiff, Nat.add_assoc, Int.reduceAdd, Int.reduceSub, Int.reduceMul, Int.reduceLT, Int.reduceLE, Int.reduceEq, Int.reduceNeg, strOp_add, hB, c1, s1, m1, m2, m3, m4, List.length_map])
          all_goals simp_all
        · rw [if_neg h6]
          by_cases h7 : n.size = 7
          · rw [if_pos h7]
            rw [h7] at hba s1 ⊢
            by_cases hd0 : n.data = ⟨#[]⟩
            · by_cases hp0 : n.ptrs.length = 0
              · by_cases hi0 : n.items.length = n.count.toNat
                · have m1' : (((n.ptrs.length : Nat) : Int) = 0) = True := eq_true (by omega)
                  have m2' : (((n.items.length : Nat) : Int) = n.count) = True := eq_true (by omega)
                  have c0 : (0 ≤ n.count) = True := eq_true hc.1
                  have c2 : (n.count ≤ 12800) = True := eq_true hc.2
                  have d0 : (n.data = ⟨#[]⟩) = True := eq_true hd0
                  rw [decide_eq_true hd0, decide_eq_true hp0, decide_eq_true hi0, Bool.true_and, Bool.true_and, Bool.true_and]
                  apply comes_eq.1
                  refine fnA_wp (rs := [.tmp 2]) Tryd.func66 rfl rfl (Nat.le_of_ble_eq_true rfl) rfl ?_
                  simp +decide only [go_sem, Nat.reduceAdd, Nat.reduceMul, Nat.reduceSub, Nat.reduceLT, Nat.reduceLeDiff, Nat.reduceEqDiff, Nat.add_assoc, Int.reduceAdd, Int.reduceSub, Int.reduceMul, Int.reduceLT, Int.reduceLE, Int.reduceEq, Int.reduceNeg, strOp_add, c0, c2, d0, m1', m2', List.length_map]
                  have hbox : (⟨[.int .i64 2, .str n.data, .slice 6 (n.ptrs.map Nod.av), .int .i64 7, .int .i64 n.count, .slice 6 (n.items.map Nod.av)], 0, false, none⟩ : Blk) = BoxN n := by rw [BoxN, k2, h7]
                  refine ContainsFunc_wp n.items 71 [.ptr 0 0 0] rfl (unl n) (fun m => m.sto 0 = BoxN n ∧ 1 ≤ m.nid) (by omega) (fun x hx m hm Q hQ => ?_) _ ⟨hbox, Nat.le_refl 1⟩ _ fun m' hm' => ?_
                  · obtain ⟨a, rest, hn⟩ : ∃ a rest, n.items = a :: rest := by
                      cases h : n.items with
                      | nil => rw [h] at hx; cases hx
                      | cons a rest => exact ⟨a, rest, rfl⟩
                    have hfx : ∀ y ∈ n.items, y.data.size ≤ 1048576 ∧ y.ptrs.length ≤ 1048576 := fun y hy => by
                      have hys : y.Sane := hd.items y hy
                      cases hys
                      exact ⟨by assumption, by assumption⟩
                    exact unlike_wp n a x rest hn (hfx x hx) (hfx a (by rw [hn]; simp)) m hm.1 hm.2 Q hQ
                  · simp +decide only [go_sem, Nat.reduceAdd, Nat.reduceMul, Nat.reduceSub, Nat.reduceLT, Nat.reduceLeDiff, Nat.reduceEqDiff, Nat.add_assoc, Int.reduceAdd, Int.reduceSub, Int.reduceMul, Int.reduceLT, Int.reduceLE, Int.reduceEq, Int.reduceNeg, strOp_add]
                    exact congrArg AV.bool (like_unl n)
                · have m1' : (((n.ptrs.length : Nat) : Int) = 0) = True := eq_true (by omega)
                  have m2' : (((n.items.length : Nat) : Int) = n.count) = False := eq_false (by omega)
                  have c0 : (0 ≤ n.count) = True := eq_true hc.1
                  have c2 : (n.count ≤ 12800) = True := eq_true hc.2
                  have d0 : (n.data = ⟨#[]⟩) = True := eq_true hd0
                  rw [decide_eq_true hd0, decide_eq_true hp0, decide_eq_false hi0, Bool.true_and, Bool.true_and, Bool.false_and]
                  apply comes_eq.1
                  refine fnA_wp (rs := [.tmp 2]) Tryd.func66 rfl rfl (Nat.le_of_ble_eq_true rfl) rfl ?_
                  simp +decide only [go_sem, Nat.reduceAdd, Nat.reduceMul, Nat.reduceSub, Nat.reduceLT, Nat.reduceLeDiff, Nat.reduceEqDiff, Nat.add_assoc, Int.reduceAdd, Int.reduceSub, Int.reduceMul, Int.reduceLT, Int.reduceLE, Int.reduceEq, Int.reduceNeg, strOp_add, c0, c2, d0, m1', m2', List.length_map]
              · have m1' : (((n.ptrs.length : Nat) : Int) = 0) = False := eq_false (by omega)
                have c0 : (0 ≤ n.count) = True := eq_true hc.1
                have c2 : (n.count ≤ 12800) = True := eq_true hc.2
                have d0 : (n.data = ⟨#[]⟩) = True := eq_true hd0
                rw [decide_eq_true hd0, decide_eq_false hp0, Bool.true_and, Bool.false_and]
                apply comes_eq.1
                refine fnA_wp (rs := [.tmp 2]) Tryd.func66 rfl rfl (Nat.le_of_ble_eq_true rfl) rfl ?_
                simp +decide only [go_sem, Nat.reduceAdd, Nat.reduceMul, Nat.reduceSub, Nat.reduceLT, Nat.reduceLeDiff, Nat.reduceEqDiff, Nat.add_assoc, Int.reduceAdd, Int.reduceSub, Int.reduceMul, Int.reduceLT, Int.reduceLE, Int.reduceEq, Int.reduceNeg, strOp_add, c0, c2, d0, m1', List.length_map]
            · have c0 : (0 ≤ n.count) = True := eq_true hc.1
              have c2 : (n.count ≤ 12800) = True := eq_true hc.2
              have d0 : (n.data = ⟨#[]⟩) = False := eq_false hd0
              rw [decide_eq_false hd0, Bool.false_and]
              apply comes_eq.1
              refine fnA_wp (rs := [.tmp 2]) Tryd.func66 rfl rfl (Nat.le_of_ble_eq_true rfl) rfl ?_
              simp +decide only [go_sem, Nat.reduceAdd, Nat.reduceMul, Nat.reduceSub, Nat.reduceLT, Nat.reduceLeDiff, Nat.reduceEqDiff, Nat.add_assoc, Int.reduceAdd, Int.reduceSub, Int.reduceMul, Int.reduceLT, Int.reduceLE, Int.reduceEq, Int.reduceNeg, strOp_add, c0, c2, d0, List.length_map]
          · rw [if_neg h7]
            apply comes_eq.1
            refine fnA_wp (rs := [.tmp 2]) Tryd.func66 rfl rfl (Nat.le_of_ble_eq_true rfl) rfl ?_
            (simp +decide only [go_sem, Nat.reduceAdd, Nat.reduceMul, Nat.reduceSub, Nat.reduceLT, Nat.reduceLeDiff, Nat.reduceEqDiff, Nat.add_assoc, Int.reduceAdd, Int.reduceSub, Int.reduceMul, Int.reduceLT, Int.reduceLE, Int.reduceEq, Int.reduceNeg, strOp_add, c1, s1, h6, h7, List.length_map]); repeat' (refine bB_split (fun hB => ?_) (fun hB => ?_) <;> (try simp only [Bool.and_eq_true, Bool.or_eq_false_iff, decide_eq_true_eq, decide_eq_false_iff_not] at hB) <;> simp +decide only [go_sem, Nat.reduceAdd, Nat.reduceMul, Nat.reduceSub, Nat.reduceLT, Nat.reduceLeDiff, Nat.reduceEqDiff, Nat.add_assoc, Int.reduceAdd, Int.reduceSub, Int.reduceMul, Int.reduceLT, Int.reduceLE, Int.reduceEq, Int.reduceNeg, strOp_add, hB, c1, s1, h6, h7, List.length_map])
            all_goals simp_all
    · rw [if_neg hc]
      have c1 : (decide (0 ≤ n.count) && decide (n.count ≤ 12800)) = false := by
        rw [Bool.eq_false_iff]
        intro h
        simp only [Bool.and_eq_true, decide_eq_true_eq] at h
        exact hc h
      apply comes_eq.1
      refine fnA_wp (rs := [.tmp 2]) Tryd.func66 rfl rfl (Nat.le_of_ble_eq_true rfl) rfl ?_
      (simp +decide only [go_sem, Nat.reduceAdd, Nat.reduceMul, Nat.reduceSub, Nat.reduceLT, Nat.reduceLeDiff, Nat.reduceEqDiff, Nat.add_assoc, Int.reduceAdd, Int.reduceSub, Int.reduceMul, Int.reduceLT, Int.reduceLE, Int.reduceEq, Int.reduceNeg, strOp_add, c1, List.length_map]); repeat' (refine bB_split (fun hB => ?_) (fun hB => ?_) <;> (try simp only [Bool.and_eq_true, Bool.or_eq_false_iff, decide_eq_true_eq, decide_eq_false_iff_not] at hB) <;> simp +decide only [go_sem, Nat.reduceAdd, Nat.reduceMul, Nat.reduceSub, Nat.reduceLT, Nat.reduceLeDiff, Nat.reduceEqDiff, Nat.add_assoc, Int.reduceAdd, Int.reduceSub, Int.reduceMul, Int.reduceLT, Int.reduceLE, Int.reduceEq, Int.reduceNeg, strOp_add, hB, c1, List.length_map])
      all_goals simp_all
  · have e : nshape n = false := by unfold nshape; rw [if_neg k0, if_neg k1, if_neg k2]
    rw [e]
    apply comes_eq.1
    refine fnA_wp (rs := [.tmp 2]) Tryd.func66 rfl rfl (Nat.le_of_ble_eq_true rfl) rfl ?_
    (simp +decide only [go_sem, Nat.reduceAdd, Nat.reduceMul, Nat.reduceSub, Nat.reduceLT, Nat.reduceLeDiff, Nat.reduceEqDiff, Nat.add_assoc, Int.reduceAdd, Int.reduceSub, Int.reduceMul, Int.reduceLT, Int.reduceLE, Int.reduceEq, Int.reduceNeg, strOp_add, k0, k1, k2]); repeat' (refine bB_split (fun hB => ?_) (fun hB => ?_) <;> (try simp only [Bool.and_eq_true, Bool.or_eq_false_iff, decide_eq_true_eq, decide_eq_false_iff_not] at hB) <;> simp +decide only [go_sem, Nat.reduceAdd, Nat.reduceMul, Nat.reduceSub, Nat.reduceLT, Nat.reduceLeDiff, Nat.reduceEqDiff, Nat.add_assoc, Int.reduceAdd, Int.reduceSub, Int.reduceMul, Int.reduceLT, Int.reduceLE, Int.reduceEq, Int.reduceNeg, strOp_add, hB, k0, k1, k2])
    all_goals simp_all
end Go.Ev.Tryd
