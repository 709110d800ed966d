/- Part of the proof of a statement about the given program: D4F D5F D6F. No condition of its own. -/
import Derived.Test.YtjjebjackjeneaaDoorD1F
section
namespace Go.Ev.Tryd
open Go.Proofs
set_option maxRecDepth 10000
set_option linter.unusedSimpArgs false
set_option linter.unusedVariables false
attribute [local congr] comes_congr bB_congr gK_congr gdK_congr

theorem cells_of (d : Dat) : ∃ k n t l2 n2, d.av = .agg [.int .i64 k, .int .i64 n, .str t, .slice 5 l2, .slice 1 n2] := by
  obtain ⟨k, n, t, l, ns⟩ := d
  exact ⟨_, _, _, _, _, Dat.av_mk _ _ _ _ _⟩
def newIn (ns : List ByteArray) (i : Nat) : Bool := !((ns.take i).any fun x => decide (x = ns.getD i ⟨#[]⟩))
def allNew (ns : List ByteArray) : Bool := (List.range ns.length).all (newIn ns)
theorem allNew_iff (ns : List ByteArray) : allNew ns = true ↔ ∀ i, i < ns.length → newIn ns i = true := by simp [allNew]
theorem newIn_iff {ns : List ByteArray} {i : Nat} (hi : i < ns.length) : newIn ns i = true ↔ ∀ j, (hj : j < i) → ¬ ns[j]'(by omega) = ns[i] := by
  have hg : ns.getD i ⟨#[]⟩ = ns[i] := by simp [hi]
  unfold newIn
  rw [hg, Bool.not_eq_true', Bool.eq_false_iff]
  simp only [ne_eq, List.any_eq_true, decide_eq_true_eq, List.mem_take_iff_getElem]
  constructor
  · intro h j hj e
    exact h ⟨_, ⟨j, by omega, rfl⟩, e⟩
  · rintro h ⟨x, ⟨j, hj, rfl⟩, e⟩
    exact h j (by omega) e
theorem l9Twice_eq (ns : List ByteArray) (h : ns.length ≤ 1099511627776) : fnA CC PR 41 [strsA ns] = some (.bool (!allNew ns)) := by
  apply comes_eq.1
  refine fnA_wp (rs := [.tmp 2]) Tryd.func41 rfl rfl (Nat.le_of_ble_eq_true rfl) rfl ?_
  simp +decide only [go_sem, Nat.reduceAdd, Nat.reduceMul, Nat.reduceSub, Nat.reduceLT, Nat.reduceLeDiff, Nat.reduceEqDiff, Nat.add_assoc, Int.reduceAdd, Int.reduceSub, Int.reduceMul, Int.reduceLT, Int.reduceLE, Int.reduceEq, Int.reduceNeg, strOp_add]
  refine comes_upto ns.length (fun i st => st.env 0 = strsA ns ∧ st.env 3 = .int .i64 i ∧ ∀ j, j < i → (hj : j < ns.length) → newIn ns j = true) ?_ ?_ _ ?_
  · rintro i st hi ⟨e0, e3, hj⟩
    simp +decide only [go_sem, Nat.reduceAdd, Nat.reduceMul, Nat.reduceSub, Nat.reduceLT, Nat.reduceLeDiff, Nat.reduceEqDiff, Nat.add_assoc, Int.reduceAdd, Int.reduceSub, Int.reduceMul, Int.reduceLT, Int.reduceLE, Int.reduceEq, Int.reduceNeg, strOp_add, e0, e3, hi, List.length_map]
    refine comes_upto i (fun k st => st.env 0 = strsA ns ∧ st.env 3 = .int .i64 i ∧ st.env 4 = .int .i64 k ∧ ∀ j, (hj : j < k) → (hk : k ≤ i) → ¬ ns[j]'(by omega) = ns[i]) ?_ ?_ _ ?_
    · rintro k st hk ⟨e0, e3, e4, hn⟩
      have hk' : k < ns.length := by omega
      simp +decide only [go_sem, Nat.reduceAdd, Nat.reduceMul, Nat.reduceSub, Nat.reduceLT, Nat.reduceLeDiff, Nat.reduceEqDiff, Nat.add_assoc, Int.reduceAdd, Int.reduceSub, Int.reduceMul, Int.reduceLT, Int.reduceLE, Int.reduceEq, Int.reduceNeg, strOp_add, e0, e3, e4, hk, hk', hi, List.length_map, strs_at hi, strs_at hk']
      refine (d_plan (ord := [0, 1, 2, 3, 4, 5, 6, 7, 8]) (prs := [(3, 7)]) (by kernel_rfl)).2 ?_
      simp +decide only [go_sem, Nat.reduceAdd, Nat.reduceMul, Nat.reduceSub, Nat.reduceLT, Nat.reduceLeDiff, Nat.reduceEqDiff, Nat.add_assoc, Int.reduceAdd, Int.reduceSub, Int.reduceMul, Int.reduceLT, Int.reduceLE, Int.reduceEq, Int.reduceNeg, strOp_add, e0, e3, e4, hk, hk', hi, List.length_map, strs_at hi, strs_at hk']
      refine bB_split (fun hB => ?_) (fun hB => ?_)
      · simp only [decide_eq_true_eq] at hB
        simp +decide only [go_sem, Nat.reduceAdd, Nat.reduceMul, Nat.reduceSub, Nat.reduceLT, Nat.reduceLeDiff, Nat.reduceEqDiff, Nat.add_assoc, Int.reduceAdd, Int.reduceSub, Int.reduceMul, Int.reduceLT, Int.reduceLE, Int.reduceEq, Int.reduceNeg, strOp_add]
        have : allNew ns = false := false_of fun h => by
          rw [allNew_iff] at h
          exact (newIn_iff hi).1 (h i hi) k hk hB
        rw [this]
        rfl
      · simp only [decide_eq_false_iff_not] at hB
        simp +decide only [go_sem, Nat.reduceAdd, Nat.reduceMul, Nat.reduceSub, Nat.reduceLT, Nat.reduceLeDiff, Nat.reduceEqDiff, Nat.add_assoc, Int.reduceAdd, Int.reduceSub, Int.reduceMul, Int.reduceLT, Int.reduceLE, Int.reduceEq, Int.reduceNeg, strOp_add, e0, e3, e4, wrap_succ (show k + 1 ≤ 9223372036854775807 by omega)]
        intro j h1 h2
        rcases Nat.lt_or_ge j k with h3 | h3
        · exact hn j h3 (by omega)
        · have : j = k := by omega
          subst this
          exact hB
    · rintro st ⟨e0, e3, e4, hn⟩
      simp +decide only [go_sem, Nat.reduceAdd, Nat.reduceMul, Nat.reduceSub, Nat.reduceLT, Nat.reduceLeDiff, Nat.reduceEqDiff, Nat.add_assoc, Int.reduceAdd, Int.reduceSub, Int.reduceMul, Int.reduceLT, Int.reduceLE, Int.reduceEq, Int.reduceNeg, strOp_add, e0, e3, e4, wrap_succ (show i + 1 ≤ 9223372036854775807 by omega)]
      refine all_succ hj ?_
      intro _
      rw [newIn_iff hi]
      exact fun j h => hn j h (Nat.le_refl _)
    · simp +decide only [go_sem, Nat.reduceAdd, Nat.reduceMul, Nat.reduceSub, Nat.reduceLT, Nat.reduceLeDiff, Nat.reduceEqDiff, Nat.add_assoc, Int.reduceAdd, Int.reduceSub, Int.reduceMul, Int.reduceLT, Int.reduceLE, Int.reduceEq, Int.reduceNeg, strOp_add, e0, e3]
      simp
  · rintro st ⟨e0, e3, hj⟩
    simp +decide only [go_sem, Nat.reduceAdd, Nat.reduceMul, Nat.reduceSub, Nat.reduceLT, Nat.reduceLeDiff, Nat.reduceEqDiff, Nat.add_assoc, Int.reduceAdd, Int.reduceSub, Int.reduceMul, Int.reduceLT, Int.reduceLE, Int.reduceEq, Int.reduceNeg, strOp_add, e0, e3, List.length_map]
    have : allNew ns = true := (allNew_iff ns).2 fun i hi => hj i hi hi
    rw [this]
    rfl
  · simp +decide only [go_sem, Nat.reduceAdd, Nat.reduceMul, Nat.reduceSub, Nat.reduceLT, Nat.reduceLeDiff, Nat.reduceEqDiff, Nat.add_assoc, Int.reduceAdd, Int.reduceSub, Int.reduceMul, Int.reduceLT, Int.reduceLE, Int.reduceEq, Int.reduceNeg, strOp_add]
    simp
theorem namesOk_split (ns : List ByteArray) : namesOk ns = (allNew ns && ns.all isName) := by
  apply bool_eq
  rw [namesOk_iff, Bool.and_eq_true, allNew_iff, List.all_eq_true]
  constructor
  · intro h
    refine ⟨fun i hi => ?_, fun x hx => ?_⟩
    · have := h i hi
      unfold nameIn at this
      rw [Bool.and_eq_true] at this
      exact this.2
    · obtain ⟨i, hi, rfl⟩ := List.mem_iff_getElem.1 hx
      have := h i hi
      unfold nameIn at this
      rw [Bool.and_eq_true] at this
      simpa [hi] using this.1
  · rintro ⟨h1, h2⟩ i hi
    unfold nameIn
    rw [Bool.and_eq_true]
    refine ⟨?_, h1 i hi⟩
    have := h2 ns[i] (List.getElem_mem hi)
    simpa [hi] using this
theorem l10Ok_eq : ∀ (n : Nat) (d : Dat), n ≤ 1000 → d.Sane → fnA CC PR 25 [d.av, .int .i64 n] = some (.bool (writ n d)) := by
  intro n
  induction n with
  | zero =>
    rintro ⟨k, n, t, l, ns⟩ _ _
    rw [Dat.av_mk]
    apply comes_eq.1
    refine fnA_wp (rs := [.tmp 4]) Tryd.func25 rfl rfl (Nat.le_of_ble_eq_true rfl) rfl ?_
    simp +decide only [go_sem, Nat.reduceAdd, Nat.reduceMul, Nat.reduceSub, Nat.reduceLT, Nat.reduceLeDiff, Nat.reduceEqDiff, Nat.add_assoc, Int.reduceAdd, Int.reduceSub, Int.reduceMul, Int.reduceLT, Int.reduceLE, Int.reduceEq, Int.reduceNeg, strOp_add]
    rfl
  | succ n ih =>
    intro d hn hd
    have hd' := hd
    cases hd with
    | mk k nn t l ns hk hnn ht hl hns hss h =>
    have hs := l10Bare_eq _ hd'
    rw [Dat.av_mk] at hs
    rw [Dat.av_mk]
    have h2 := l9Twice_eq ns hns
    unfold strsA at h2
    apply comes_eq.1
    refine fnA_wp (rs := [.tmp 4]) Tryd.func25 rfl rfl (Nat.le_of_ble_eq_true rfl) rfl ?_
    have h1 : ¬ (((n + 1 : Nat) : Int) < 1) := by omega
    have w1 : IntKind.wrap .i64 (((n + 1 : Nat) : Int) - 1) = n := by rw [wrap_id (by omega) (by omega)]; omega
    cases hb : shaped (.mk k nn t l ns)
    all_goals rw [hb] at hs
    · simp +decide only [go_sem, Nat.reduceAdd, Nat.reduceMul, Nat.reduceSub, Nat.reduceLT, Nat.reduceLeDiff, Nat.reduceEqDiff, Nat.add_assoc, Int.reduceAdd, Int.reduceSub, Int.reduceMul, Int.reduceLT, Int.reduceLE, Int.reduceEq, Int.reduceNeg, strOp_add, hs, h1]
      simp [writ, hb]
    · cases hw : allNew ns
      all_goals rw [hw] at h2
      · simp +decide only [go_sem, Nat.reduceAdd, Nat.reduceMul, Nat.reduceSub, Nat.reduceLT, Nat.reduceLeDiff, Nat.reduceEqDiff, Nat.add_assoc, Int.reduceAdd, Int.reduceSub, Int.reduceMul, Int.reduceLT, Int.reduceLE, Int.reduceEq, Int.reduceNeg, strOp_add, hs, h1, h2]
        simp [writ, namesOk_split, Dat.names, hw]
      · simp +decide only [go_sem, Nat.reduceAdd, Nat.reduceMul, Nat.reduceSub, Nat.reduceLT, Nat.reduceLeDiff, Nat.reduceEqDiff, Nat.add_assoc, Int.reduceAdd, Int.reduceSub, Int.reduceMul, Int.reduceLT, Int.reduceLE, Int.reduceEq, Int.reduceNeg, strOp_add, hs, h1, h2]
        refine comes_upto l.length (fun i st => st.env 2 = .ptr 0 0 0 ∧ st.env 1 = .int .i64 ((n + 1 : Nat) : Int) ∧ st.env 5 = .int .i64 i ∧ st.nid = 1 ∧ st.sto 0 = ⟨[.int .i64 k, .int .i64 nn, .str t, .slice 5 (l.map Dat.av), .slice 1 (ns.map AV.str)], 0, false, none⟩ ∧ ∀ j, j < i → (hj : j < l.length) → writ n l[j] = true) ?_ ?_ _ ?_
        · rintro i st hi ⟨e2, e1, e5, en, s0, hj⟩
          have hq := ih l[i] (by omega) (h _ (List.getElem_mem hi))
          obtain ⟨k2, n2, t2, l2, ns2, hcs⟩ := cells_of l[i]
          have ha := av_at hi
          rw [hcs] at ha hq
          simp +decide only [go_sem, Nat.reduceAdd, Nat.reduceMul, Nat.reduceSub, Nat.reduceLT, Nat.reduceLeDiff, Nat.reduceEqDiff, Nat.add_assoc, Int.reduceAdd, Int.reduceSub, Int.reduceMul, Int.reduceLT, Int.reduceLE, Int.reduceEq, Int.reduceNeg, strOp_add, e2, e1, e5, en, s0, hi, List.length_map, ha, w1, hq]
          refine bB_split (fun hB => ?_) (fun hB => ?_)
          · simp +decide only [go_sem, Nat.reduceAdd, Nat.reduceMul, Nat.reduceSub, Nat.reduceLT, Nat.reduceLeDiff, Nat.reduceEqDiff, Nat.add_assoc, Int.reduceAdd, Int.reduceSub, Int.reduceMul, Int.reduceLT, Int.reduceLE, Int.reduceEq, Int.reduceNeg, strOp_add, e2, e1, e5, en, s0, hB, wrap_succ (show i + 1 ≤ 9223372036854775807 by omega)]
            refine all_succ hj ?_
            exact fun _ => hB
          · simp +decide only [go_sem, Nat.reduceAdd, Nat.reduceMul, Nat.reduceSub, Nat.reduceLT, Nat.reduceLeDiff, Nat.reduceEqDiff, Nat.add_assoc, Int.reduceAdd, Int.reduceSub, Int.reduceMul, Int.reduceLT, Int.reduceLE, Int.reduceEq, Int.reduceNeg, strOp_add, hB]
            have : l.all (writ n) = false := false_of fun hh => by
              rw [List.all_eq_true] at hh
              rw [hh _ (List.getElem_mem hi)] at hB
              cases hB
            simp [writ, Dat.list, this]
        · rintro st ⟨e2, e1, e5, en, s0, hj⟩
          simp +decide only [go_sem, Nat.reduceAdd, Nat.reduceMul, Nat.reduceSub, Nat.reduceLT, Nat.reduceLeDiff, Nat.reduceEqDiff, Nat.add_assoc, Int.reduceAdd, Int.reduceSub, Int.reduceMul, Int.reduceLT, Int.reduceLE, Int.reduceEq, Int.reduceNeg, strOp_add, e2, e1, e5, en, s0, List.length_map]
          refine comes_upto ns.length (fun i st => st.env 2 = .ptr 0 0 0 ∧ st.env 6 = .int .i64 i ∧ st.nid = 1 ∧ st.sto 0 = ⟨[.int .i64 k, .int .i64 nn, .str t, .slice 5 (l.map Dat.av), .slice 1 (ns.map AV.str)], 0, false, none⟩ ∧ ∀ j, j < i → (hj : j < ns.length) → isName ns[j] = true) ?_ ?_ _ ?_
          · rintro i st hi ⟨e2, e6, en, s0, hk⟩
            have hN := l9Name_eq ns[i] (hss _ (List.getElem_mem hi))
            simp +decide only [go_sem, Nat.reduceAdd, Nat.reduceMul, Nat.reduceSub, Nat.reduceLT, Nat.reduceLeDiff, Nat.reduceEqDiff, Nat.add_assoc, Int.reduceAdd, Int.reduceSub, Int.reduceMul, Int.reduceLT, Int.reduceLE, Int.reduceEq, Int.reduceNeg, strOp_add, e2, e6, en, s0, hi, List.length_map, strs_at hi, hN]
            refine bB_split (fun hB => ?_) (fun hB => ?_)
            · simp +decide only [go_sem, Nat.reduceAdd, Nat.reduceMul, Nat.reduceSub, Nat.reduceLT, Nat.reduceLeDiff, Nat.reduceEqDiff, Nat.add_assoc, Int.reduceAdd, Int.reduceSub, Int.reduceMul, Int.reduceLT, Int.reduceLE, Int.reduceEq, Int.reduceNeg, strOp_add, e2, e6, en, s0, hB, wrap_succ (show i + 1 ≤ 9223372036854775807 by omega)]
              refine all_succ hk ?_
              exact fun _ => hB
            · simp +decide only [go_sem, Nat.reduceAdd, Nat.reduceMul, Nat.reduceSub, Nat.reduceLT, Nat.reduceLeDiff, Nat.reduceEqDiff, Nat.add_assoc, Int.reduceAdd, Int.reduceSub, Int.reduceMul, Int.reduceLT, Int.reduceLE, Int.reduceEq, Int.reduceNeg, strOp_add, hB]
              have : ns.all isName = false := false_of fun hh => by
                rw [List.all_eq_true] at hh
                rw [hh _ (List.getElem_mem hi)] at hB
                cases hB
              simp [writ, namesOk_split, Dat.names, this]
          · rintro st ⟨e2, e6, en, s0, hk⟩
            simp +decide only [go_sem, Nat.reduceAdd, Nat.reduceMul, Nat.reduceSub, Nat.reduceLT, Nat.reduceLeDiff, Nat.reduceEqDiff, Nat.add_assoc, Int.reduceAdd, Int.reduceSub, Int.reduceMul, Int.reduceLT, Int.reduceLE, Int.reduceEq, Int.reduceNeg, strOp_add, e2, e6, en, s0, List.length_map]
            have a1 : l.all (writ n) = true := List.all_eq_true.2 fun x hx => by
              obtain ⟨i, hi, rfl⟩ := List.mem_iff_getElem.1 hx
              exact hj i hi hi
            have a2 : ns.all isName = true := List.all_eq_true.2 fun x hx => by
              obtain ⟨i, hi, rfl⟩ := List.mem_iff_getElem.1 hx
              exact hk i hi hi
            simp [writ, namesOk_split, Dat.names, Dat.list, hb, hw, a1, a2]
          · simp +decide only [go_sem, Nat.reduceAdd, Nat.reduceMul, Nat.reduceSub, Nat.reduceLT, Nat.reduceLeDiff, Nat.reduceEqDiff, Nat.add_assoc, Int.reduceAdd, Int.reduceSub, Int.reduceMul, Int.reduceLT, Int.reduceLE, Int.reduceEq, Int.reduceNeg, strOp_add, e2, en, s0]
            simp
        · simp +decide only [go_sem, Nat.reduceAdd, Nat.reduceMul, Nat.reduceSub, Nat.reduceLT, Nat.reduceLeDiff, Nat.reduceEqDiff, Nat.add_assoc, Int.reduceAdd, Int.reduceSub, Int.reduceMul, Int.reduceLT, Int.reduceLE, Int.reduceEq, Int.reduceNeg, strOp_add]
          simp
end Go.Ev.Tryd
end
section
namespace Go.Ev.Tryd
open Go.Proofs
set_option maxRecDepth 10000
set_option linter.unusedSimpArgs false
set_option linter.unusedVariables false
attribute [local congr] comes_congr bB_congr gK_congr gdK_congr

/-! ### plain values -/
/-- A value that is the same in each memory. -/
def still : AV → Bool
  | .agg _ | .tup _ | .arr _ _ _ _ _ _ | .nils _ | .ptr _ _ _ | .undef | .void => false
  | .fn _ cap => cap.isEmpty
  | _ => true
theorem snap_still {c : AV} (h : still c = true) (m : Mem) (k : Nat) : snapD m (k + 1) c = some c := by
  cases c <;> first | rfl | (simp [still] at h; done) | (rename_i f cap; cases cap <;> first | rfl | (simp [still] at h))
theorem snaps_still {l : List AV} (h : ∀ c ∈ l, still c = true) (m : Mem) (k : Nat) : l.mapM (snapD m (k + 1)) = some l := by
  induction l with
  | nil => rfl
  | cons c l ih => rw [List.mapM_cons, snap_still (h c (by simp)), ih fun c hc => h c (by simp [hc])]; rfl
theorem elems_flat (sz : Nat) (hz : sz ≠ 1) : ∀ (L : List (List AV)) (h : ∀ c ∈ L, c.length = sz), elems sz L.length L.flatten = L.map AV.agg
  | [], _ => rfl
  | c :: L, h => by
    have hc : c.length = sz := h c (by simp)
    have e1 : (c ++ L.flatten).take sz = c := by rw [← hc]; simp
    have e2 : (c ++ L.flatten).drop sz = L.flatten := by rw [← hc]; simp
    simp only [List.length_cons, elems, List.flatten_cons, if_neg hz, e1, e2, List.map_cons]
    rw [elems_flat sz hz L fun c hc => h c (by simp [hc])]
theorem elems_one : ∀ (L : List AV), elems 1 L.length L = L
  | [] => rfl
  | c :: L => by simp [elems, elems_one L]
theorem flat_strs (ns : List ByteArray) : (List.map AV.cells (List.map AV.str ns)).flatten = ns.map AV.str := by
  induction ns with
  | nil => rfl
  | cons x ns ih => simp only [List.map_cons, List.flatten_cons, ih]; rfl
theorem still_strs (ns : List ByteArray) : ∀ c ∈ ns.map AV.str, still c = true := by
  intro c hc
  obtain ⟨x, _, rfl⟩ := List.mem_map.1 hc
  rfl
theorem snaps_strs (ns : List ByteArray) (m : Mem) (k : Nat) : (ns.map AV.str).mapM (snapD m (k + 1)) = some (ns.map AV.str) := snaps_still (still_strs ns) m k
theorem elems_strs (ns : List ByteArray) : elems 1 ns.length (ns.map AV.str) = ns.map AV.str := by
  have := elems_one (ns.map AV.str)
  rwa [List.length_map] at this
/-- The cells of data. -/
def datC (l : List Dat) : List AV := (l.map fun d => d.av.cells).flatten
theorem datC_len (l : List Dat) : (datC l).length = l.length * 5 := by
  induction l with
  | nil => rfl
  | cons d l ih =>
    obtain ⟨cs, e, hl⟩ := cells_av d
    have : d.av.cells.length = 5 := by rw [e]; exact hl
    simp only [datC, List.map_cons, List.flatten_cons, List.length_append, this, List.length_cons] at ih ⊢
    omega
theorem datC_app (a b : List Dat) : datC (a ++ b) = datC a ++ datC b := by simp [datC]
theorem datC_one (d : Dat) : datC [d] = d.av.cells := by simp [datC]
theorem flat_datC (l : List Dat) : (List.map AV.cells (List.map Dat.av l)).flatten = datC l := by simp [datC, Function.comp_def]
theorem still_datC (l : List Dat) : ∀ c ∈ datC l, still c = true := by
  intro c hc
  simp only [datC, List.mem_flatten, List.mem_map] at hc
  obtain ⟨_, ⟨d, _, rfl⟩, hc⟩ := hc
  obtain ⟨k, n, t, l2, n2, e⟩ := cells_of d
  rw [e] at hc
  simp only [AV.cells, List.mem_cons, List.mem_nil_iff, or_false] at hc
  rcases hc with rfl | rfl | rfl | rfl | rfl <;> rfl
theorem one_datC (l : List Dat) : ∀ c ∈ datC l, c.one = true := by
  intro c hc
  simp only [datC, List.mem_flatten, List.mem_map] at hc
  obtain ⟨_, ⟨d, _, rfl⟩, hc⟩ := hc
  obtain ⟨k, n, t, l2, n2, e⟩ := cells_of d
  rw [e] at hc
  simp only [AV.cells, List.mem_cons, List.mem_nil_iff, or_false] at hc
  rcases hc with rfl | rfl | rfl | rfl | rfl <;> rfl
theorem elems_datC (l : List Dat) : elems 5 l.length (datC l) = l.map Dat.av := by
  have h := elems_flat 5 (by decide) (l.map fun d => d.av.cells) (fun c hc => by
    obtain ⟨d, _, rfl⟩ := List.mem_map.1 hc
    obtain ⟨cs, e, hl⟩ := cells_av d
    rw [e]; exact hl)
  rw [List.length_map] at h
  rw [datC, h, List.map_map]
  apply List.map_congr_left
  intro d _
  obtain ⟨cs, e, hl⟩ := cells_av d
  simp [e, AV.cells]
theorem snaps_datC (l : List Dat) (m : Mem) (k : Nat) : (datC l).mapM (snapD m (k + 1)) = some (datC l) := snaps_still (still_datC l) m k
/-- A list of data that grows, in a block of the call's own. -/
def DatsAt (m : Mem) (lo : Nat) (v : AV) (l : List Dat) : Prop :=
  (l = [] ∧ v = .nils 5) ∨ ∃ id g, lo ≤ id ∧ id < m.nid ∧ v = .arr id g 0 l.length 5 true ∧ ∃ ty, m.sto id = ⟨datC l, g, false, ty⟩
theorem snap_dats {m : Mem} {lo : Nat} {v : AV} {l : List Dat} (h : DatsAt m lo v l) (k : Nat) : snapD m (k + 2) v = some (.slice 5 (l.map Dat.av)) := by
  rcases h with ⟨rfl, rfl⟩ | ⟨id, g, _, _, rfl, ty, h1⟩
  · rfl
  · simp only [snapD, h1, List.drop_zero, true_and]
    rw [if_pos (by rw [datC_len]; exact Nat.le_refl _), ← datC_len, List.take_length, snaps_datC]
    simp [elems_datC]
theorem datC_succ {l : List Dat} {i : Nat} (hi : i < l.length) : datC (l.take (i + 1)) = datC (l.take i) ++ (l[i]).av.cells := by
  rw [List.take_succ_eq_append_getElem hi, datC_app, datC_one]


end Go.Ev.Tryd
end
section
namespace Go.Ev.Tryd
open Go.Proofs
set_option maxRecDepth 10000
set_option linter.unusedSimpArgs false
set_option linter.unusedVariables false
attribute [local congr] comes_congr bB_congr gK_congr gdK_congr


set_option maxHeartbeats 2000000 in
theorem l11Copy_eq : ∀ (d : Dat), d.Sane → fnA CC PR 53 [d.av] = some d.av := by
  intro d
  induction d using Dat.ind with
  | h k n t l ns ih =>
  intro hd
  cases hd with
  | mk k n t l ns hk hn ht hl hns hss h =>
  rw [Dat.av_mk]
  apply comes_eq.1
  refine fnA_wp (rs := [.cell 2 31]) Tryd.func53 rfl rfl (Nat.le_of_ble_eq_true rfl) rfl ?_
  have htn : List.take ns.length (ns.map AV.str) = ns.map AV.str := List.take_of_length_le (by simp)
  have hnm : ns.length ≤ most := by simp only [most]; omega
  simp +decide only [go_sem, Nat.reduceAdd, Nat.reduceMul, Nat.reduceSub, Nat.reduceLT, Nat.reduceLeDiff, Nat.reduceEqDiff, Nat.add_assoc, Int.reduceAdd, Int.reduceSub, Int.reduceMul, Int.reduceLT, Int.reduceLE, Int.reduceEq, Int.reduceNeg, strOp_add, List.length_map]
  refine (d_plan (ord := [0, 1, 2, 3, 4, 5, 6, 7, 8, 9, 10, 11, 12]) (prs := [(1, 3), (1, 5), (3, 5), (1, 6), (3, 6), (5, 6), (1, 8), (3, 8), (5, 8), (6, 8), (1, 9), (3, 9), (5, 9), (1, 11), (3, 11), (5, 11), (6, 11), (8, 11), (9, 11)]) (by kernel_rfl)).2 ?_
  simp +decide only [go_sem, Nat.reduceAdd, Nat.reduceMul, Nat.reduceSub, Nat.reduceLT, Nat.reduceLeDiff, Nat.reduceEqDiff, Nat.add_assoc, Int.reduceAdd, Int.reduceSub, Int.reduceMul, Int.reduceLT, Int.reduceLE, Int.reduceEq, Int.reduceNeg, strOp_add, List.length_map, flat_strs, hnm]
  refine comes_upto l.length (fun i st => st.env 1 = .ptr 0 0 0 ∧ st.env 2 = .ptr 1 0 0 ∧ st.env 3 = .ptr 13 0 0 ∧ st.env 4 = .int .i64 i ∧ 15 ≤ st.nid ∧ st.sto 0 = ⟨[.int .i64 k, .int .i64 n, .str t, .slice 5 (l.map Dat.av), .slice 1 (ns.map AV.str)], 0, false, none⟩ ∧ st.sto 1 = ⟨[.int .i64 0, .int .i64 0, .str ⟨#[]⟩, .nils 5, .nils 1], 0, false, some (31, true)⟩ ∧ st.sto 8 = ⟨ns.map AV.str, 1, false, none⟩ ∧ ∃ v, st.sto 13 = ⟨[.int .i64 k, .int .i64 n, .str t, v, .arr 8 1 0 ns.length 1 true], 0, false, some (31, true)⟩ ∧ DatsAt st.toMem 15 v (l.take i)) ?_ ?_ _ ?_
  · rintro i st hi ⟨e1, e2, e3, e4, en, s0, s1, s8, v, s13, hD⟩
    obtain ⟨k2, n2, t2, l2, ns2, hcs⟩ := cells_of l[i]
    have hq := ih _ (List.getElem_mem hi) (h _ (List.getElem_mem hi))
    have ha := av_at hi
    have hsu := datC_succ hi
    have hln : (l.take i).length = i := by rw [List.length_take]; omega
    have hln1 : (l.take (i + 1)).length = i + 1 := by rw [List.length_take]; omega
    rw [hcs] at ha hq hsu
    have w1 : IntKind.wrap .i64 ((i : Int) + 1) = ((i + 1 : Nat) : Int) := wrap_succ (by omega)
    rcases hD with ⟨hl0, rfl⟩ | ⟨id, g, hlo, hid, rfl, ty, hs⟩
    · have hi0 : i = 0 := by rw [hl0] at hln; exact hln.symm
      simp +decide (disch := first | decide | omega) only [go_sem, Nat.reduceAdd, Nat.reduceMul, Nat.reduceSub, Nat.reduceLT, Nat.reduceLeDiff, Nat.reduceEqDiff, Nat.add_assoc, Int.reduceAdd, Int.reduceSub, Int.reduceMul, Int.reduceLT, Int.reduceLE, Int.reduceEq, Int.reduceNeg, strOp_add, e1, e2, e3, e4, s0, s1, s8, s13, hi, List.length_map, ha, hq, w1]
      refine (d_plan (ord := [0, 1, 2, 3, 4, 5, 6, 7, 8, 9, 10, 11]) (prs := [(1, 3), (1, 6), (1, 7), (1, 8)]) (by kernel_rfl)).2 ?_
      simp +decide (disch := first | decide | omega) only [go_sem, Nat.reduceAdd, Nat.reduceMul, Nat.reduceSub, Nat.reduceLT, Nat.reduceLeDiff, Nat.reduceEqDiff, Nat.add_assoc, Int.reduceAdd, Int.reduceSub, Int.reduceMul, Int.reduceLT, Int.reduceLE, Int.reduceEq, Int.reduceNeg, strOp_add, e1, e2, e3, e4, s0, s1, s8, s13, hi, List.length_map, ha, hq, w1]
      refine ⟨by omega, by omega, _, rfl, .inr ⟨st.nid + 9, 0, by omega, by show st.nid + 9 < st.nid + 12; omega, ?_, ?_⟩⟩
      · rw [hln1, hi0]
      · rw [hsu, hl0]
        refine ⟨some (31, false), ?_⟩
        simp +decide (disch := first | decide | omega) only [go_sem, Nat.reduceAdd, Nat.reduceMul, Nat.reduceSub, Nat.reduceLT, Nat.reduceLeDiff, Nat.reduceEqDiff, Nat.add_assoc, Int.reduceAdd, Int.reduceSub, Int.reduceMul, Int.reduceLT, Int.reduceLE, Int.reduceEq, Int.reduceNeg, strOp_add]
        rfl
    · have hc1 : i * 5 = (datC (l.take i)).length := by rw [datC_len, hln]
      have hc2 : i + 1 ≤ most := by simp only [most]; omega
      rw [hln] at s13
      simp +decide (disch := first | decide | omega) only [go_sem, Nat.reduceAdd, Nat.reduceMul, Nat.reduceSub, Nat.reduceLT, Nat.reduceLeDiff, Nat.reduceEqDiff, Nat.add_assoc, Int.reduceAdd, Int.reduceSub, Int.reduceMul, Int.reduceLT, Int.reduceLE, Int.reduceEq, Int.reduceNeg, strOp_add, e1, e2, e3, e4, s0, s1, s8, s13, hi, List.length_map, ha, hq, w1, hc1, hc2, hs]
      refine (d_plan (ord := [0, 1, 2, 3, 4, 5, 6, 7, 8, 9, 10, 11]) (prs := [(1, 3), (1, 6), (1, 7), (1, 8)]) (by kernel_rfl)).2 ?_
      simp +decide (disch := first | decide | omega) only [go_sem, Nat.reduceAdd, Nat.reduceMul, Nat.reduceSub, Nat.reduceLT, Nat.reduceLeDiff, Nat.reduceEqDiff, Nat.add_assoc, Int.reduceAdd, Int.reduceSub, Int.reduceMul, Int.reduceLT, Int.reduceLE, Int.reduceEq, Int.reduceNeg, strOp_add, e1, e2, e3, e4, s0, s1, s8, s13, hi, List.length_map, ha, hq, w1, hc1, hc2, hs]
      refine ⟨by omega, by omega, _, rfl, .inr ⟨id, g + 1, hlo, by show id < st.nid + 12; omega, ?_, ?_⟩⟩
      · rw [hln1]
      · rw [hsu]
        refine ⟨grewT 31 ty, ?_⟩
        simp +decide (disch := first | decide | omega) only [go_sem, Nat.reduceAdd, Nat.reduceMul, Nat.reduceSub, Nat.reduceLT, Nat.reduceLeDiff, Nat.reduceEqDiff, Nat.add_assoc, Int.reduceAdd, Int.reduceSub, Int.reduceMul, Int.reduceLT, Int.reduceLE, Int.reduceEq, Int.reduceNeg, strOp_add]
  · rintro st ⟨e1, e2, e3, e4, en, s0, s1, s8, v, s13, hD⟩
    rw [List.take_length] at hD
    rcases hD with ⟨hl0, rfl⟩ | ⟨id, g, hlo, hid, rfl, ty, hs⟩
    · subst hl0
      simp +decide (disch := first | decide | omega) only [go_sem, Nat.reduceAdd, Nat.reduceMul, Nat.reduceSub, Nat.reduceLT, Nat.reduceLeDiff, Nat.reduceEqDiff, Nat.add_assoc, Int.reduceAdd, Int.reduceSub, Int.reduceMul, Int.reduceLT, Int.reduceLE, Int.reduceEq, Int.reduceNeg, strOp_add, e1, e2, e3, e4, s0, s1, s8, s13, snaps_strs, elems_strs, List.map_nil, htn, Nat.le_refl, List.length_map]
    · have j0 : ¬ id = 0 := by omega
      have j1 : ¬ id = 1 := by omega
      have htk : (datC l).take (l.length * 5) = datC l := by rw [← datC_len, List.take_length]
      have hle : l.length * 5 ≤ (datC l).length := by rw [datC_len]; exact Nat.le_refl _
      simp +decide (disch := first | decide | omega) only [go_sem, Nat.reduceAdd, Nat.reduceMul, Nat.reduceSub, Nat.reduceLT, Nat.reduceLeDiff, Nat.reduceEqDiff, Nat.add_assoc, Int.reduceAdd, Int.reduceSub, Int.reduceMul, Int.reduceLT, Int.reduceLE, Int.reduceEq, Int.reduceNeg, strOp_add, e1, e2, e3, e4, s0, s1, s8, s13, List.length_map, j0, j1, hs, htk, hle, snaps_datC, elems_datC, snaps_strs, elems_strs, htn, Nat.le_refl]
  · simp +decide only [go_sem, Nat.reduceAdd, Nat.reduceMul, Nat.reduceSub, Nat.reduceLT, Nat.reduceLeDiff, Nat.reduceEqDiff, Nat.add_assoc, Int.reduceAdd, Int.reduceSub, Int.reduceMul, Int.reduceLT, Int.reduceLE, Int.reduceEq, Int.reduceNeg, strOp_add]
    simp [DatsAt]
end Go.Ev.Tryd
end
