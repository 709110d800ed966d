/- Part of the proof of a statement about the given program: U4F. No condition of its own. -/
import Derived.Test.YtjjebjackjeneaaDoorU1F
namespace Go.Ev.Tryd
open Go.Proofs
set_option maxRecDepth 10000
set_option linter.unusedSimpArgs false
set_option linter.unusedVariables false
attribute [local congr] comes_congr bB_congr gK_congr gdK_congr

theorem l11Parts_eq (n : Nat) (a b : Dat) (hd : a.Sane) (hd2 : b.Sane) (hw : writ (n + 1) a = true) (hw2 : writ (n + 1) b = true) (c : Bool) (hc : c = true ↔ a.kind = b.kind ∧ (a.kind = 3 ∨ a.kind = 4) ∧ a.steps = b.steps) :
    fnA CC PR 44 [a.av, b.av] = some (.bool c) := by
  have hnm := fun i x => Name_eq a hd i x
  have hnm2 := fun i x => Name_eq b hd2 i x
  have hsl := steps_list hw
  have hsl2 := steps_list hw2
  have hf20 := list_few hw
  obtain ⟨k, m, t, l, ns⟩ := a
  obtain ⟨k2, m2, t2, l2, ns2⟩ := b
  rw [Dat.av_mk] at hnm ⊢
  rw [Dat.av_mk] at hnm2 ⊢
  simp only [Dat.kind, Dat.list] at hc hsl hsl2 hf20
  generalize Dat.steps (.mk k m t l ns) = L at *
  generalize Dat.steps (.mk k2 m2 t2 l2 ns2) = L2 at *
  have no : ¬ (k = k2 ∧ (k = 3 ∨ k = 4) ∧ L = L2) → c = false := fun h => by
    cases c with
    | false => rfl
    | true => exact absurd (hc.1 rfl) h
  apply comes_eq.1
  by_cases hk : k = k2
  · subst hk
    by_cases hbr : k = 3 ∨ k = 4
    · have hLl := hsl hbr
      have hLl2 := hsl2 hbr
      have hkk : ((k = 3) = True ∧ ((0 : Nat) < 1) = True) ∨ ((k = 3) = False ∧ (k = 4) = True) := by
        by_cases h3 : k = 3
        · exact .inl ⟨eq_true h3, eq_true (by omega)⟩
        · exact .inr ⟨eq_false h3, eq_true (hbr.resolve_left h3)⟩
      by_cases hl : l.length = l2.length
      · have hl' : ((l.length : Int) = (l2.length : Int)) = True := eq_true (by omega)
        refine fnA_wp (rs := [.tmp 4]) Tryd.func44 rfl rfl (Nat.le_of_ble_eq_true rfl) rfl ?_
        rcases hkk with ⟨hk3, hk4⟩ | ⟨hk3, hk4⟩
        all_goals
          simp +decide only [go_sem, Nat.reduceAdd, Nat.reduceMul, Nat.reduceSub, Nat.reduceLT, Nat.reduceLeDiff, Nat.reduceEqDiff, Nat.add_assoc, Int.reduceAdd, Int.reduceSub, Int.reduceMul, Int.reduceLT, Int.reduceLE, Int.reduceEq, Int.reduceNeg, strOp_add, hk3, hk4, hl', List.length_map]
          refine comes_upto l.length (fun i st => st.env 2 = .ptr 0 0 0 ∧ st.env 3 = .ptr 1 0 0 ∧ st.env 5 = .int .i64 i ∧ 2 ≤ st.nid ∧ st.sto 0 = ⟨[.int .i64 k, .int .i64 m, .str t, .slice 5 (l.map Dat.av), .slice 1 (ns.map AV.str)], 0, false, none⟩ ∧ st.sto 1 = ⟨[.int .i64 k, .int .i64 m2, .str t2, .slice 5 (l2.map Dat.av), .slice 1 (ns2.map AV.str)], 0, false, none⟩ ∧ ∀ j, (hj : j < L.length) → j < i → L[j] = L2[j]'(by omega)) ?_ ?_ _ ?_
          · rintro i st hi ⟨e2, e3, e5, en, s0, s1, hsame⟩
            have hiL : i < L.length := by omega
            have hiL2 : i < L2.length := by omega
            have w1 : IntKind.wrap .i64 ((i : Int) + 1) = ((i + 1 : Nat) : Int) := wrap_succ (by omega)
            have hq1 := hnm i L[i] (by simp) (by omega)
            have hq2 := hnm2 i L2[i] (by simp) (by omega)
            simp +decide only [go_sem, Nat.reduceAdd, Nat.reduceMul, Nat.reduceSub, Nat.reduceLT, Nat.reduceLeDiff, Nat.reduceEqDiff, Nat.add_assoc, Int.reduceAdd, Int.reduceSub, Int.reduceMul, Int.reduceLT, Int.reduceLE, Int.reduceEq, Int.reduceNeg, strOp_add, e2, e3, e5, s0, s1, hi, List.length_map]
            refine (d_plan (ord := [0, 1, 2, 3, 4, 5, 6]) (prs := [(0, 3), (2, 3)]) (by kernel_rfl)).2 ?_
            simp +decide only [go_sem, Nat.reduceAdd, Nat.reduceMul, Nat.reduceSub, Nat.reduceLT, Nat.reduceLeDiff, Nat.reduceEqDiff, Nat.add_assoc, Int.reduceAdd, Int.reduceSub, Int.reduceMul, Int.reduceLT, Int.reduceLE, Int.reduceEq, Int.reduceNeg, strOp_add, e2, e3, e5, s0, s1, hi, hq1, hq2, w1, List.length_map]
            refine bB_split (fun hB => ?_) (fun hB => ?_)
            · simp only [decide_eq_true_eq] at hB
              simp +decide only [go_sem, Nat.reduceAdd, Nat.reduceMul, Nat.reduceSub, Nat.reduceLT, Nat.reduceLeDiff, Nat.reduceEqDiff, Nat.add_assoc, Int.reduceAdd, Int.reduceSub, Int.reduceMul, Int.reduceLT, Int.reduceLE, Int.reduceEq, Int.reduceNeg, strOp_add, e2, e3, e5, s0, s1, w1]
              intro j h1 h2
              rcases Nat.lt_or_ge j i with h3 | h3
              · exact hsame j h1 h3
              · have : j = i := by omega
                subst this
                exact hB
            · simp only [decide_eq_false_iff_not] at hB
              simp +decide only [go_sem, Nat.reduceAdd, Nat.reduceMul, Nat.reduceSub, Nat.reduceLT, Nat.reduceLeDiff, Nat.reduceEqDiff, Nat.add_assoc, Int.reduceAdd, Int.reduceSub, Int.reduceMul, Int.reduceLT, Int.reduceLE, Int.reduceEq, Int.reduceNeg, strOp_add, e2, e3, e5, w1]
              rw [no fun h => hB (by simp [h.2.2])]
          · rintro st ⟨e2, e3, e5, en, s0, s1, hsame⟩
            have hLL : L = L2 := List.ext_getElem (by omega) fun j h1 h2 => hsame j h1 (by omega)
            simp +decide only [go_sem, Nat.reduceAdd, Nat.reduceMul, Nat.reduceSub, Nat.reduceLT, Nat.reduceLeDiff, Nat.reduceEqDiff, Nat.add_assoc, Int.reduceAdd, Int.reduceSub, Int.reduceMul, Int.reduceLT, Int.reduceLE, Int.reduceEq, Int.reduceNeg, strOp_add, e2, e3, e5, s0, s1, List.length_map]
            rw [hc.2 ⟨rfl, hbr, hLL⟩]
          · simp +decide only [go_sem, Nat.reduceAdd, Nat.reduceMul, Nat.reduceSub, Nat.reduceLT, Nat.reduceLeDiff, Nat.reduceEqDiff, Nat.add_assoc, Int.reduceAdd, Int.reduceSub, Int.reduceMul, Int.reduceLT, Int.reduceLE, Int.reduceEq, Int.reduceNeg, strOp_add]
            simp
      · rw [no fun h => hl (by rw [← hLl, ← hLl2, h.2.2])]
        have hl' : ((l.length : Int) = (l2.length : Int)) = False := eq_false (by omega)
        refine fnA_wp (rs := [.tmp 4]) Tryd.func44 rfl rfl (Nat.le_of_ble_eq_true rfl) rfl ?_
        rcases hkk with ⟨hk3, hk4⟩ | ⟨hk3, hk4⟩
        all_goals simp +decide only [go_sem, Nat.reduceAdd, Nat.reduceMul, Nat.reduceSub, Nat.reduceLT, Nat.reduceLeDiff, Nat.reduceEqDiff, Nat.add_assoc, Int.reduceAdd, Int.reduceSub, Int.reduceMul, Int.reduceLT, Int.reduceLE, Int.reduceEq, Int.reduceNeg, strOp_add, hk3, hk4, hl', List.length_map]
    · rw [no fun h => hbr h.2.1]
      have hk3 : (k = 3) = False := eq_false (fun h => hbr (.inl h))
      have hk4 : (k = 4) = False := eq_false (fun h => hbr (.inr h))
      refine fnA_wp (rs := [.tmp 4]) Tryd.func44 rfl rfl (Nat.le_of_ble_eq_true rfl) rfl ?_
      simp +decide only [go_sem, Nat.reduceAdd, Nat.reduceMul, Nat.reduceSub, Nat.reduceLT, Nat.reduceLeDiff, Nat.reduceEqDiff, Nat.add_assoc, Int.reduceAdd, Int.reduceSub, Int.reduceMul, Int.reduceLT, Int.reduceLE, Int.reduceEq, Int.reduceNeg, strOp_add, hk3, hk4]
  · rw [no fun h => hk h.1]
    refine fnA_wp (rs := [.tmp 4]) Tryd.func44 rfl rfl (Nat.le_of_ble_eq_true rfl) rfl ?_
    simp +decide only [go_sem, Nat.reduceAdd, Nat.reduceMul, Nat.reduceSub, Nat.reduceLT, Nat.reduceLeDiff, Nat.reduceEqDiff, Nat.add_assoc, Int.reduceAdd, Int.reduceSub, Int.reduceMul, Int.reduceLT, Int.reduceLE, Int.reduceEq, Int.reduceNeg, strOp_add, hk]
set_option maxHeartbeats 4000000 in
theorem l11Differ_eq : ∀ (n : Nat) (a b : Dat) (p : List ByteArray), n ≤ 8 → a.Sane → b.Sane → writ n a = true → writ n b = true → p.length + n ≤ 1000 → fnA CC PR 26 [a.av, b.av, strsA p] = some (pathsA ((df n a b).map (p ++ ·)))
  | 0, a, _, _, _, _, _, h, _, _ => by cases h
  | n + 1, a, b, p, hn, hd, hd2, hw, hw2, hp => by
    have hsame := l10Same_eq a b hd
    have hfew := df_few (n + 1) a b hw
    have hp20 := pow20 (n + 1) hn
    have hsl := steps_list hw
    have hsl2 := steps_list hw2
    have hf20 := list_few hw
    have hch : ∀ x ∈ a.list, ∀ y ∈ b.list, ∀ q : List ByteArray, q.length = p.length + 1 → fnA CC PR 26 [x.av, y.av, strsA q] = some (pathsA ((df n x y).map (q ++ ·))) := fun x hx y hy q hq => l11Differ_eq n x y q (by omega) (hd.elem hx) (hd2.elem hy) (writ_elem0 n hw hx) (writ_elem0 n hw2 hy) (by omega)
    have hnm := fun i x => Name_eq a hd i x
    have hparts := fun c hc => l11Parts_eq n a b hd hd2 hw hw2 c hc
    have htkp : (p.map AV.str).take p.length = p.map AV.str := List.take_of_length_le (by simp)
    have hpm : p.length ≤ most := by simp only [most]; omega
    by_cases hab : a = b
    · subst hab
      rw [sm_iff.2 rfl] at hsame
      rw [df_same]
      unfold strsA
      obtain ⟨k, m, t, l, ns⟩ := a
      rw [Dat.av_mk] at hsame ⊢
      apply comes_eq.1
      refine fnA_wp (rs := [.tmp 6]) Tryd.func26 rfl rfl (Nat.le_of_ble_eq_true rfl) rfl ?_
      simp +decide only [go_sem, Nat.reduceAdd, Nat.reduceMul, Nat.reduceSub, Nat.reduceLT, Nat.reduceLeDiff, Nat.reduceEqDiff, Nat.add_assoc, Int.reduceAdd, Int.reduceSub, Int.reduceMul, Int.reduceLT, Int.reduceLE, Int.reduceEq, Int.reduceNeg, strOp_add, hsame]
      rfl
    · have hsf : sm a b = false := by
        cases h : sm a b with
        | false => rfl
        | true => exact absurd (sm_iff.1 h) hab
      rw [hsf] at hsame
      have hdf : df (n + 1) a b = if a.kind = b.kind ∧ (a.kind = 3 ∨ a.kind = 4) ∧ a.steps = b.steps then ((a.steps.zip (a.list.zip b.list)).map (dfF n)).flatten else [[]] := by
        conv => lhs; unfold df
        rw [if_neg hab]
        rfl
      by_cases hcond : a.kind = b.kind ∧ (a.kind = 3 ∨ a.kind = 4) ∧ a.steps = b.steps
      · have hpt := hparts true (iff_of_true rfl hcond)
        rw [hdf, if_pos hcond] at hfew ⊢
        have hLl := hsl hcond.2.1
        have hLl2 := hsl2 (by rw [← hcond.1]; exact hcond.2.1)
        rw [← hcond.2.2] at hLl2
        clear hdf hparts hcond hsl hsl2
        obtain ⟨k, m, t, l, ns⟩ := a
        obtain ⟨k2, m2, t2, l2, ns2⟩ := b
        rw [Dat.av_mk] at hsame hnm hpt ⊢
        rw [Dat.av_mk] at hsame hpt ⊢
        simp only [Dat.list] at hLl hLl2 hch hfew hf20 ⊢
        generalize Dat.steps (.mk k m t l ns) = L at *
        apply comes_eq.1
        unfold strsA
        refine fnA_wp (rs := [.tmp 6]) Tryd.func26 rfl rfl (Nat.le_of_ble_eq_true rfl) rfl ?_
        simp +decide only [go_sem, Nat.reduceAdd, Nat.reduceMul, Nat.reduceSub, Nat.reduceLT, Nat.reduceLeDiff, Nat.reduceEqDiff, Nat.add_assoc, Int.reduceAdd, Int.reduceSub, Int.reduceMul, Int.reduceLT, Int.reduceLE, Int.reduceEq, Int.reduceNeg, strOp_add, hsame, hpt, List.length_map]
        refine comes_upto l.length (fun i st => st.env 2 = .slice 1 (p.map AV.str) ∧ st.env 3 = .ptr 0 0 0 ∧ st.env 4 = .ptr 1 0 0 ∧ st.env 8 = .int .i64 i ∧ 2 ≤ st.nid ∧ st.sto 0 = ⟨[.int .i64 k, .int .i64 m, .str t, .slice 5 (l.map Dat.av), .slice 1 (ns.map AV.str)], 0, false, none⟩ ∧ st.sto 1 = ⟨[.int .i64 k2, .int .i64 m2, .str t2, .slice 5 (l2.map Dat.av), .slice 1 (ns2.map AV.str)], 0, false, none⟩ ∧ ArrAt st.toMem 2 (st.env 7) ((((L.zip (l.zip l2)).take i).map (dfF n)).flatten.map (p ++ ·))) ?_ ?_ _ ?_
        · rintro i st hi ⟨e2, e3, e4, e8, en, s0, s1, id, g, hlo, hid, e7, ty, hs⟩
          have hiL : i < L.length := by omega
          have hi2 : i < l2.length := by omega
          have hiz : i < (L.zip (l.zip l2)).length := by simp; omega
          have hle := df_few n l[i] l2[i] (writ_elem0 n hw (List.getElem_mem hi))
          have hp20' := pow20 n (by omega)
          have hq1 := hch l[i] (List.getElem_mem hi) l2[i] (List.getElem_mem hi2) (p ++ [L[i]]) (by simp)
          obtain ⟨c1, c2, c3, c4, c5, hcs⟩ := cells_of l[i]
          obtain ⟨b1, b2, b3, b4, b5, hcs2⟩ := cells_of l2[i]
          have ha := av_at hi
          have ha2 := av_at hi2
          have hnm' := hnm i L[i] (by simp) (by omega)
          have hsum : ((((L.zip (l.zip l2)).take (i + 1)).map (dfF n)).flatten.map (p ++ ·)) = ((((L.zip (l.zip l2)).take i).map (dfF n)).flatten.map (p ++ ·)) ++ (df n l[i] l2[i]).map ((p ++ [L[i]]) ++ ·) := by
            rw [List.take_succ_eq_append_getElem hiz]
            simp only [List.map_append, List.map_cons, List.map_nil, List.flatten_append, List.flatten_cons, List.flatten_nil, List.append_nil, List.getElem_zip]
            congr 1
            simp [dfF]
          have htot : ((((L.zip (l.zip l2)).take (i + 1)).map (dfF n)).flatten.map (p ++ ·)).length ≤ 25600000000 := by
            rw [List.length_map]
            refine Nat.le_trans (Nat.le_trans ?_ hfew) hp20
            conv => rhs; rw [← List.take_append_drop (i + 1) (L.zip (l.zip l2))]
            simp only [List.map_append, List.flatten_append, List.length_append]
            omega
          have w1 : IntKind.wrap .i64 ((i : Int) + 1) = ((i + 1 : Nat) : Int) := wrap_succ (by omega)
          rw [hcs] at ha hq1
          rw [hcs2] at ha2 hq1
          unfold pathsA strsA at hq1
          rw [hsum] at htot
          rw [hsum]
          generalize (((L.zip (l.zip l2)).take i).map (dfF n)).flatten.map (p ++ ·) = A at hs e7 htot
          generalize (df n l[i] l2[i]).map ((p ++ [L[i]]) ++ ·) = B at hq1 htot
          rw [List.length_append] at htot
          have hm : A.length + B.length ≤ most := by simp only [most]; omega
          have hmp : p.length + 1 ≤ most := by simp only [most]; omega
          obtain ⟨N, hN⟩ : ∃ N, p.length + 1 = N := ⟨_, rfl⟩
          have ht2 : List.take N (p.map AV.str ++ [.str L[i]]) = (p ++ [L[i]]).map AV.str := by
            rw [List.take_of_length_le (by simp; omega)]
            simp
          have hl2 : (N ≤ (p.map AV.str ++ [AV.str L[i]]).length) = True := eq_true (by simp; omega)
          have he2 : elems 1 N ((p ++ [L[i]]).map AV.str) = (p ++ [L[i]]).map AV.str := by
            have := elems_strs (p ++ [L[i]])
            rwa [List.length_append, List.length_singleton, hN] at this
          have hs2 := snaps_strs (p ++ [L[i]])
          rw [hN] at hmp
          have hr2 : ∀ M : Mem, (List.map (reachD M 2097151) (p.map AV.str ++ [AV.str L[i]])).flatten = [] := fun M => reachesD_none (fun c hc => by
            rcases List.mem_append.1 hc with hc | hc
            · exact still_strs p c hc
            · rw [List.mem_singleton.1 hc]; rfl) M _
          generalize (p ++ [L[i]]).map AV.str = Q at ht2 he2 hs2 hq1
          simp +decide (disch := first | decide | omega) only [go_sem, Nat.reduceAdd, Nat.reduceMul, Nat.reduceSub, Nat.reduceLT, Nat.reduceLeDiff, Nat.reduceEqDiff, Nat.add_assoc, Int.reduceAdd, Int.reduceSub, Int.reduceMul, Int.reduceLT, Int.reduceLE, Int.reduceEq, Int.reduceNeg, strOp_add, e2, e3, e4, e7, e8, s0, s1, hi, hs, List.length_map]
          refine (d_plan (ord := [0, 1, 2, 3, 4, 5, 6, 7, 8]) (prs := [(0, 3), (2, 3)]) (by kernel_rfl)).2 ?_
          simp (maxSteps := 2000000) +decide (disch := first | decide | omega) only [go_sem, Nat.reduceAdd, Nat.reduceMul, Nat.reduceSub, Nat.reduceLT, Nat.reduceLeDiff, Nat.reduceEqDiff, Nat.add_assoc, Int.reduceAdd, Int.reduceSub, Int.reduceMul, Int.reduceLT, Int.reduceLE, Int.reduceEq, Int.reduceNeg, strOp_add, e2, e3, e4, e7, e8, s0, s1, hi, hs, hpm, hN, hmp, hl2, hnm', updL_frz_m, flat_strs, List.length_map]
          refine ⟨by omega, ?_⟩
          refine (d_plan (ord := [0, 1, 2, 3, 4, 5, 6, 7, 8, 9, 10, 11, 12, 13, 14]) (prs := [(2, 7), (5, 7), (2, 10), (5, 10)]) (by kernel_rfl)).2 ?_
          simp (maxSteps := 2000000) +decide (disch := first | decide | omega) only [go_sem, Nat.reduceAdd, Nat.reduceMul, Nat.reduceSub, Nat.reduceLT, Nat.reduceLeDiff, Nat.reduceEqDiff, Nat.add_assoc, Int.reduceAdd, Int.reduceSub, Int.reduceMul, Int.reduceLT, Int.reduceLE, Int.reduceEq, Int.reduceNeg, strOp_add, e2, e3, e4, e7, e8, s0, s1, hi, hi2, hs, hpm, hN, hmp, hm, hl2, ht2, hs2, he2, hr2, hq1, hnm', ha, ha2, w1, updL_frz_m, flat_strs, List.length_map]
          refine ⟨id, g + 1, hlo, by show id < st.nid + 24; omega, by rw [List.length_append], grewT 23 ty, ?_⟩
          dsimp only
          rw [upd_hit, List.map_append, show (List.map AV.cells (List.map (fun xs => AV.slice 1 (List.map AV.str xs)) B)).flatten = B.map strsA from flat_paths B]
          rfl
        · rintro st ⟨e2, e3, e4, e8, en, s0, s1, id, g, hlo, hid, e7, ty, hs⟩
          rw [List.take_of_length_le (by simp; omega)] at e7 hs
          generalize ((L.zip (l.zip l2)).map (dfF n)).flatten.map (p ++ ·) = A at e7 hs ⊢
          simp +decide (disch := first | decide | omega) only [go_sem, Nat.reduceAdd, Nat.reduceMul, Nat.reduceSub, Nat.reduceLT, Nat.reduceLeDiff, Nat.reduceEqDiff, Nat.add_assoc, Int.reduceAdd, Int.reduceSub, Int.reduceMul, Int.reduceLT, Int.reduceLE, Int.reduceEq, Int.reduceNeg, strOp_add, e2, e3, e4, e7, e8, s0, s1, hs, List.length_map]
          rw [if_pos (by simp), List.take_of_length_le (by simp), snaps_paths]
          show Comes (some _) _
          refine comes_some.2 ?_
          show AV.slice 1 (elems 1 _ _) = _
          rw [elems_paths]
          rfl
        · simp +decide only [go_sem, Nat.reduceAdd, Nat.reduceMul, Nat.reduceSub, Nat.reduceLT, Nat.reduceLeDiff, Nat.reduceEqDiff, Nat.add_assoc, Int.reduceAdd, Int.reduceSub, Int.reduceMul, Int.reduceLT, Int.reduceLE, Int.reduceEq, Int.reduceNeg, strOp_add]
          exact ⟨rfl, 2, 0, Nat.le_refl _, by show 2 < 3; omega, rfl, none, by dsimp only; rw [upd_hit]; rfl⟩
      · have hpt := hparts false ⟨fun h => (by cases h), fun h => absurd h hcond⟩
        rw [hdf, if_neg hcond]
        unfold strsA
        obtain ⟨k, m, t, l, ns⟩ := a
        obtain ⟨k2, m2, t2, l2, ns2⟩ := b
        rw [Dat.av_mk] at hsame hpt ⊢
        rw [Dat.av_mk] at hsame hpt ⊢
        apply comes_eq.1
        refine fnA_wp (rs := [.tmp 6]) Tryd.func26 rfl rfl (Nat.le_of_ble_eq_true rfl) rfl ?_
        simp +decide only [go_sem, Nat.reduceAdd, Nat.reduceMul, Nat.reduceSub, Nat.reduceLT, Nat.reduceLeDiff, Nat.reduceEqDiff, Nat.add_assoc, Int.reduceAdd, Int.reduceSub, Int.reduceMul, Int.reduceLT, Int.reduceLE, Int.reduceEq, Int.reduceNeg, strOp_add, hsame, hpt, hpm, htkp, List.length_map, snaps_strs, elems_strs, flat_strs, Nat.le_refl]
        simp [pathsA, strsA]
/-- What both Differ tell. -/
noncomputable def differs (a b : Dat) : List (List ByteArray) := if writ 8 a = true ∧ writ 8 b = true then df 8 a b else []
theorem specDiffer_eq (a b : Dat) (hd : a.Sane) (hd2 : b.Sane) : fnA CC PR 7 [a.av, b.av] = some (pathsA (differs a b)) := by
  have hok := l10Ok_eq 8 a (by omega) hd
  have hok2 := l10Ok_eq 8 b (by omega) hd2
  have c8 : ((8 : Nat) : Int) = 8 := rfl
  rw [c8] at hok hok2
  by_cases hw : writ 8 a = true
  · rw [hw] at hok
    by_cases hw2 : writ 8 b = true
    · rw [hw2] at hok2
      have hq := l11Differ_eq 8 a b [] (Nat.le_refl _) hd hd2 hw hw2 (by simp)
      have e : differs a b = df 8 a b := by
        unfold differs
        rw [if_pos ⟨hw, hw2⟩]
      have e2 : (df 8 a b).map (([] : List ByteArray) ++ ·) = df 8 a b := by simp
      rw [e2] at hq
      rw [e]
      generalize df 8 a b = ps at hq ⊢
      unfold pathsA strsA at *
      simp only [List.map_nil] at hq
      obtain ⟨k, n, t, l, ns⟩ := a
      obtain ⟨k2, n2, t2, l2, ns2⟩ := b
      rw [Dat.av_mk] at hok hok2 hq ⊢
      rw [Dat.av_mk] at hq ⊢
      apply comes_eq.1
      refine fnA_wp (rs := [.tmp 4]) Tryd.func7 rfl rfl (Nat.le_of_ble_eq_true rfl) rfl ?_
      simp +decide only [go_sem, Nat.reduceAdd, Nat.reduceMul, Nat.reduceSub, Nat.reduceLT, Nat.reduceLeDiff, Nat.reduceEqDiff, Nat.add_assoc, Int.reduceAdd, Int.reduceSub, Int.reduceMul, Int.reduceLT, Int.reduceLE, Int.reduceEq, Int.reduceNeg, strOp_add, hok, hok2, hq]
    · rw [Bool.eq_false_iff.2 hw2] at hok2
      have e : differs a b = [] := by
        unfold differs
        rw [if_neg fun h => hw2 h.2]
      rw [e]
      obtain ⟨k, n, t, l, ns⟩ := a
      obtain ⟨k2, n2, t2, l2, ns2⟩ := b
      rw [Dat.av_mk] at hok hok2 ⊢
      rw [Dat.av_mk]
      apply comes_eq.1
      refine fnA_wp (rs := [.tmp 4]) Tryd.func7 rfl rfl (Nat.le_of_ble_eq_true rfl) rfl ?_
      simp +decide only [go_sem, Nat.reduceAdd, Nat.reduceMul, Nat.reduceSub, Nat.reduceLT, Nat.reduceLeDiff, Nat.reduceEqDiff, Nat.add_assoc, Int.reduceAdd, Int.reduceSub, Int.reduceMul, Int.reduceLT, Int.reduceLE, Int.reduceEq, Int.reduceNeg, strOp_add, hok, hok2]
      rfl
  · rw [Bool.eq_false_iff.2 hw] at hok
    have e : differs a b = [] := by
      unfold differs
      rw [if_neg fun h => hw h.1]
    rw [e]
    obtain ⟨k, n, t, l, ns⟩ := a
    obtain ⟨k2, n2, t2, l2, ns2⟩ := b
    rw [Dat.av_mk] at hok ⊢
    rw [Dat.av_mk]
    apply comes_eq.1
    refine fnA_wp (rs := [.tmp 4]) Tryd.func7 rfl rfl (Nat.le_of_ble_eq_true rfl) rfl ?_
    simp +decide only [go_sem, Nat.reduceAdd, Nat.reduceMul, Nat.reduceSub, Nat.reduceLT, Nat.reduceLeDiff, Nat.reduceEqDiff, Nat.add_assoc, Int.reduceAdd, Int.reduceSub, Int.reduceMul, Int.reduceLT, Int.reduceLE, Int.reduceEq, Int.reduceNeg, strOp_add, hok]
    rfl
end Go.Ev.Tryd
