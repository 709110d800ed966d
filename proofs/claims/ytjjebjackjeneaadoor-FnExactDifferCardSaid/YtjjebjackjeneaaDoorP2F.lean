/- Part of the proof of a statement about the given program: P2F. No condition of its own. -/
import Derived.Test.YtjjebjackjeneaaDoorP1F
namespace Go.Ev.Tryd
open Go.Proofs
set_option maxRecDepth 10000
set_option linter.unusedSimpArgs false
set_option linter.unusedVariables false
attribute [local congr] comes_congr bB_congr gK_congr gdK_congr

theorem Name_eq (d : Dat) (hd : d.Sane) (i : Nat) (x : ByteArray) (hx : d.steps[i]? = some x) (hl : i ≤ 1099511627776) : fnA CC PR 45 [d.av, .int .i64 i] = some (.str x) := by
  obtain ⟨k, n, t, l, ns⟩ := d
  rw [Dat.av_mk]
  by_cases h4 : k = 4
  · subst h4
    have hs : Dat.steps (.mk 4 n t l ns) = ns := by simp [Dat.steps, Dat.kind, Dat.names]
    rw [hs] at hx
    obtain ⟨hi', hx⟩ := List.getElem?_eq_some_iff.1 hx
    subst hx
    have hat := strs_at hi'
    apply comes_eq.1
    refine fnA_wp (rs := [.tmp 4]) Tryd.func45 rfl rfl (Nat.le_of_ble_eq_true rfl) rfl ?_
    simp +decide only [go_sem, Nat.reduceAdd, Nat.reduceMul, Nat.reduceSub, Nat.reduceLT, Nat.reduceLeDiff, Nat.reduceEqDiff, Nat.add_assoc, Int.reduceAdd, Int.reduceSub, Int.reduceMul, Int.reduceLT, Int.reduceLE, Int.reduceEq, Int.reduceNeg, strOp_add, hi', hat, List.length_map]
  · have hs : Dat.steps (.mk k n t l ns) = nums l.length := by simp [Dat.steps, Dat.kind, Dat.list, h4]
    rw [hs] at hx
    obtain ⟨hi', hx⟩ := List.getElem?_eq_some_iff.1 hx
    have e : x = dec (i : Nat) := by rw [← hx]; simp [nums]
    rw [e]
    have hq := l1Dec_nat i (by omega)
    apply comes_eq.1
    refine fnA_wp (rs := [.tmp 4]) Tryd.func45 rfl rfl (Nat.le_of_ble_eq_true rfl) rfl ?_
    simp +decide only [go_sem, Nat.reduceAdd, Nat.reduceMul, Nat.reduceSub, Nat.reduceLT, Nat.reduceLeDiff, Nat.reduceEqDiff, Nat.add_assoc, Int.reduceAdd, Int.reduceSub, Int.reduceMul, Int.reduceLT, Int.reduceLE, Int.reduceEq, Int.reduceNeg, strOp_add, h4, hq]
/-- A list of paths in a block of the call's own. -/
def ArrAt (m : Mem) (lo : Nat) (v : AV) (l : List (List ByteArray)) : Prop :=
  ∃ id g, lo ≤ id ∧ id < m.nid ∧ v = .arr id g 0 l.length 1 true ∧ ∃ ty, m.sto id = ⟨l.map strsA, g, false, ty⟩

set_option maxHeartbeats 4000000 in
theorem l11All_eq : ∀ (n : Nat) (d : Dat) (p : List ByteArray), n ≤ 8 → d.Sane → writ n d = true → p.length + n ≤ 1000 → fnA CC PR 33 [d.av, strsA p] = some (pathsA ((lv n d).map (p ++ ·)))
  | 0, d, _, _, _, h, _ => by cases h
  | n + 1, d, p, hn, hd, hw, hp => by
    have hsl : d.kind = 3 ∨ d.kind = 4 → d.steps.length = d.list.length := by
      obtain ⟨k, m, t, l, ns⟩ := d
      intro hk
      simp only [writ, Bool.and_eq_true] at hw
      have := shaped_kind hw.1
      by_cases h4 : k = 4
      · subst h4
        have h5 : l.length = ns.length := by
          rcases this with ⟨h, _⟩ | ⟨h, _⟩ | ⟨h, _⟩ | ⟨h, _⟩ | ⟨_, _, h⟩
          all_goals omega
        simp [Dat.steps, Dat.kind, Dat.names, Dat.list, h5]
      · simp [Dat.steps, Dat.kind, Dat.list, h4, nums_len]
    have hfew := lv_few (n + 1) d hw
    have hp20 := pow20 (n + 1) hn
    have hch : ∀ x ∈ d.list, ∀ q : List ByteArray, q.length = p.length + 1 → fnA CC PR 33 [x.av, strsA q] = some (pathsA ((lv n x).map (q ++ ·))) := fun x hx q hq => l11All_eq n x q (by omega) (hd.elem hx) (writ_elem0 n hw hx) (by omega)
    have hnm := fun i x => Name_eq d hd i x
    obtain ⟨k, m, t, l, ns⟩ := d
    rw [Dat.av_mk] at hnm ⊢
    simp only [Dat.kind, Dat.list] at hsl hch
    generalize hL : Dat.steps (.mk k m t l ns) = L at hsl hnm
    apply comes_eq.1
    have htkp : (p.map AV.str).take p.length = p.map AV.str := List.take_of_length_le (by simp)
    have hpm : p.length ≤ most := by simp only [most]; omega
    unfold strsA
    by_cases hk : k = 3 ∨ k = 4
    · have hlv : lv (n + 1) (.mk k m t l ns) = ((L.zip l).map (lvF n)).flatten := by
        rw [← hL]
        unfold lv
        rw [if_pos (show (Dat.mk k m t l ns).kind = 3 ∨ (Dat.mk k m t l ns).kind = 4 from hk)]
        rfl
      rw [hlv] at hfew ⊢
      have hLl := hsl hk
      have hl9 : l.length ≤ 1099511627776 := by cases hd; assumption
      refine fnA_wp (rs := [.tmp 4]) Tryd.func33 rfl rfl (Nat.le_of_ble_eq_true rfl) rfl ?_
      have hkk : ((k = 3) = True ∧ ((0 : Nat) < 1) = True) ∨ ((k = 3) = False ∧ (k = 4) = True) := by
        by_cases h3 : k = 3
        · exact .inl ⟨eq_true h3, eq_true (by omega)⟩
        · exact .inr ⟨eq_false h3, eq_true (hk.resolve_left h3)⟩
      rcases hkk with ⟨hk3, hk4⟩ | ⟨hk3, hk4⟩
      all_goals
        simp +decide only [go_sem, Nat.reduceAdd, Nat.reduceMul, Nat.reduceSub, Nat.reduceLT, Nat.reduceLeDiff, Nat.reduceEqDiff, Nat.add_assoc, Int.reduceAdd, Int.reduceSub, Int.reduceMul, Int.reduceLT, Int.reduceLE, Int.reduceEq, Int.reduceNeg, strOp_add, hk3, hk4, List.length_map]
        refine comes_upto l.length (fun i st => st.env 1 = .slice 1 (p.map AV.str) ∧ st.env 2 = .ptr 0 0 0 ∧ st.env 6 = .int .i64 i ∧ 1 ≤ st.nid ∧ st.sto 0 = ⟨[.int .i64 k, .int .i64 m, .str t, .slice 5 (l.map Dat.av), .slice 1 (ns.map AV.str)], 0, false, none⟩ ∧ ArrAt st.toMem 1 (st.env 5) ((((L.zip l).take i).map (lvF n)).flatten.map (p ++ ·))) ?_ ?_ _ ?_
        · rintro i st hi ⟨e1, e2, e6, en, s0, id, g, hlo, hid, e5, ty, hs⟩
          have hiL : i < L.length := by omega
          have hiz : i < (L.zip l).length := by simp; omega
          have hle := lv_few n l[i] (writ_elem0 n hw (List.getElem_mem hi))
          have hp20' := pow20 n (by omega)
          have hq1 := hch l[i] (List.getElem_mem hi) (p ++ [L[i]]) (by simp)
          obtain ⟨c1, c2, c3, c4, c5, hcs⟩ := cells_of l[i]
          have ha := av_at hi
          have hnm' := hnm i L[i] (by simp) (by omega)
          have hsum : ((((L.zip l).take (i + 1)).map (lvF n)).flatten.map (p ++ ·)) = ((((L.zip l).take i).map (lvF n)).flatten.map (p ++ ·)) ++ (lv n l[i]).map ((p ++ [L[i]]) ++ ·) := by
            rw [List.take_succ_eq_append_getElem hiz]
            simp only [List.map_append, List.map_cons, List.map_nil, List.flatten_append, List.flatten_cons, List.flatten_nil, List.append_nil, List.getElem_zip]
            congr 1
            simp [lvF]
          have htot : ((((L.zip l).take (i + 1)).map (lvF n)).flatten.map (p ++ ·)).length ≤ 25600000000 := by
            rw [List.length_map]
            refine Nat.le_trans (Nat.le_trans ?_ hfew) hp20
            conv => rhs; rw [← List.take_append_drop (i + 1) (L.zip l)]
            simp only [List.map_append, List.flatten_append, List.length_append]
            omega
          have w1 : IntKind.wrap .i64 ((i : Int) + 1) = ((i + 1 : Nat) : Int) := wrap_succ (by omega)
          rw [hcs] at ha hq1
          unfold pathsA strsA at hq1
          rw [hsum] at htot
          rw [hsum]
          generalize (((L.zip l).take i).map (lvF n)).flatten.map (p ++ ·) = A at hs e5 htot
          generalize (lv n l[i]).map ((p ++ [L[i]]) ++ ·) = B at hq1 htot
          rw [List.length_append] at htot
          have hm : A.length + B.length ≤ most := by simp only [most]; omega
          have hmp : p.length + 1 ≤ most := by simp only [most]; omega
          obtain ⟨N, hN⟩ : ∃ N, p.length + 1 = N := ⟨_, rfl⟩
          have ht2 : List.take N (p.map AV.str ++ [.str L[i]]) = (p ++ [L[i]]).map AV.str := by
            rw [List.take_of_length_le (by simp; omega)]
            simp
          have hl2 : (N ≤ (p.map AV.str ++ [AV.str L[i]]).length) = True := eq_true (by simp; omega)
          have he2 : elems 1 N ((p ++ [L[i]]).map AV.str) = (p ++ [L[i]]).map AV.str := by
            have := elems_strs (p ++ [L[i]])
            rwa [List.length_append, List.length_singleton, hN] at this
          have hs2 := snaps_strs (p ++ [L[i]])
          rw [hN] at hmp
          have hr2 : ∀ M : Mem, (List.map (reachD M 2097151) (p.map AV.str ++ [AV.str L[i]])).flatten = [] := fun M => reachesD_none (fun c hc => by
            rcases List.mem_append.1 hc with hc | hc
            · exact still_strs p c hc
            · rw [List.mem_singleton.1 hc]; rfl) M _
          generalize (p ++ [L[i]]).map AV.str = Q at ht2 he2 hs2 hq1
          simp +decide (disch := first | decide | omega) only [go_sem, Nat.reduceAdd, Nat.reduceMul, Nat.reduceSub, Nat.reduceLT, Nat.reduceLeDiff, Nat.reduceEqDiff, Nat.add_assoc, Int.reduceAdd, Int.reduceSub, Int.reduceMul, Int.reduceLT, Int.reduceLE, Int.reduceEq, Int.reduceNeg, strOp_add, e1, e2, e5, e6, s0, hi, hs, List.length_map]
          refine (d_plan (ord := [0, 1, 2, 3, 4, 5, 6, 7, 8]) (prs := [(0, 3), (2, 3)]) (by kernel_rfl)).2 ?_
          simp (maxSteps := 2000000) +decide (disch := first | decide | omega) only [go_sem, Nat.reduceAdd, Nat.reduceMul, Nat.reduceSub, Nat.reduceLT, Nat.reduceLeDiff, Nat.reduceEqDiff, Nat.add_assoc, Int.reduceAdd, Int.reduceSub, Int.reduceMul, Int.reduceLT, Int.reduceLE, Int.reduceEq, Int.reduceNeg, strOp_add, e1, e2, e5, e6, s0, hi, hs, hpm, hN, hmp, hm, hl2, ht2, hs2, he2, hr2, hq1, hnm', ha, w1, updL_frz_m, flat_strs, List.length_map]
          refine ⟨by omega, id, g + 1, hlo, by show id < st.nid + 9; omega, by rw [List.length_append], grewT 23 ty, ?_⟩
          dsimp only
          rw [upd_hit, List.map_append, show (List.map AV.cells (List.map (fun xs => AV.slice 1 (List.map AV.str xs)) B)).flatten = B.map strsA from flat_paths B]
          rfl
        · rintro st ⟨e1, e2, e6, en, s0, id, g, hlo, hid, e5, ty, hs⟩
          rw [List.take_of_length_le (by simp; omega)] at e5 hs
          generalize ((L.zip l).map (lvF n)).flatten.map (p ++ ·) = A at e5 hs ⊢
          simp +decide (disch := first | decide | omega) only [go_sem, Nat.reduceAdd, Nat.reduceMul, Nat.reduceSub, Nat.reduceLT, Nat.reduceLeDiff, Nat.reduceEqDiff, Nat.add_assoc, Int.reduceAdd, Int.reduceSub, Int.reduceMul, Int.reduceLT, Int.reduceLE, Int.reduceEq, Int.reduceNeg, strOp_add, e1, e2, e5, e6, s0, hs, List.length_map]
          rw [if_pos (by simp), List.take_of_length_le (by simp), snaps_paths]
          show Comes (some _) _
          refine comes_some.2 ?_
          show AV.slice 1 (elems 1 _ _) = _
          rw [elems_paths]
          rfl
        · simp +decide only [go_sem, Nat.reduceAdd, Nat.reduceMul, Nat.reduceSub, Nat.reduceLT, Nat.reduceLeDiff, Nat.reduceEqDiff, Nat.add_assoc, Int.reduceAdd, Int.reduceSub, Int.reduceMul, Int.reduceLT, Int.reduceLE, Int.reduceEq, Int.reduceNeg, strOp_add]
          exact ⟨rfl, 1, 0, Nat.le_refl _, by show 1 < 2; omega, rfl, none, by dsimp only; rw [upd_hit]; rfl⟩
    · have hlv : lv (n + 1) (.mk k m t l ns) = [[]] := by
        unfold lv
        rw [if_neg (show ¬ ((Dat.mk k m t l ns).kind = 3 ∨ (Dat.mk k m t l ns).kind = 4) from hk)]
      rw [hlv]
      have hk3 : (k = 3) = False := eq_false (fun h => hk (.inl h))
      have hk4 : (k = 4) = False := eq_false (fun h => hk (.inr h))
      refine fnA_wp (rs := [.tmp 4]) Tryd.func33 rfl rfl (Nat.le_of_ble_eq_true rfl) rfl ?_
      simp +decide only [go_sem, Nat.reduceAdd, Nat.reduceMul, Nat.reduceSub, Nat.reduceLT, Nat.reduceLeDiff, Nat.reduceEqDiff, Nat.add_assoc, Int.reduceAdd, Int.reduceSub, Int.reduceMul, Int.reduceLT, Int.reduceLE, Int.reduceEq, Int.reduceNeg, strOp_add, hk3, hk4, hpm, htkp, List.length_map, snaps_strs, elems_strs, flat_strs, Nat.le_refl]
      simp [pathsA, strsA]
end Go.Ev.Tryd
