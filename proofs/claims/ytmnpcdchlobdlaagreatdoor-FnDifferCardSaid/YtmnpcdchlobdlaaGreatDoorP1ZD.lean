/- Part of the proof of a statement about the given program: P1ZD. No condition of its own. -/
import Derived.Test.YtmnpcdchlobdlaaGreatDoorD12ZD
namespace Go.Ev.Tryz
open Go.Proofs
set_option maxRecDepth 10000
set_option linter.unusedSimpArgs false
set_option linter.unusedVariables false
attribute [local congr] comes_congr bB_congr gK_congr gdK_congr

theorem updL_frz_m {f : Nat → Blk} {n : Nat} {e : Nat → AV} {ids : List Nat} : updL f (froz ({ sto := f, nid := n, env := e } : St) ids) = frz f ids := updL_frz_s rfl
theorem reachD_none {c : AV} (h : still c = true) (m : Mem) (k : Nat) : reachD m k c = [] := by
  cases k with
  | zero => rfl
  | succ k => cases c <;> first | rfl | (simp [still] at h; done)
theorem reachesD_none {cs : List AV} (h : ∀ c ∈ cs, still c = true) (m : Mem) (k : Nat) : (cs.map (reachD m k)).flatten = [] := by
  rw [List.flatten_eq_nil_iff]
  intro l hl
  obtain ⟨c, hc, rfl⟩ := List.mem_map.1 hl
  exact reachD_none (h c hc) m k
theorem growS_eq {sto : Nat → Blk} {nid : Nat} {n : Int} (h0 : 0 < n) (h1 : n ≤ 4294967296) : fnI CC PR 82 [.nils 1, .int .i64 n] ⟨sto, nid⟩ = some (.arr nid 0 0 0 1 true, ⟨upd sto nid ⟨[], 0, false, some (9, false)⟩, nid + 1⟩) :=
  fnI_prim CC PR (by simp [PI, growS, h0, h1])
def pre2 (q : ByteArray) (p : List ByteArray) : Nat → List ByteArray
  | 0 => []
  | 1 => [q]
  | _ => q :: p
theorem Concat_eq (q : ByteArray) (p : List ByteArray) (hp : p.length ≤ 1000000) : fnA CC PR 64 [.slice 1 [strsA [q], strsA p]] = some (strsA (q :: p)) := by
  apply comes_eq.1
  unfold strsA
  simp only [List.map_cons, List.map_nil]
  refine fnA_wp (rs := [.tmp 2]) Tryz.func64 rfl rfl (Nat.le_of_ble_eq_true rfl) rfl ?_
  simp +decide only [go_sem, Nat.reduceAdd, Nat.reduceMul, Nat.reduceSub, Nat.reduceLT, Nat.reduceLeDiff, Nat.reduceEqDiff, Nat.add_assoc, Int.reduceAdd, Int.reduceSub, Int.reduceMul, Int.reduceLT, Int.reduceLE, Int.reduceEq, Int.reduceNeg, strOp_add]
  refine comes_upto 2 (fun i st => st.env 0 = .slice 1 [.slice 1 [.str q], .slice 1 (p.map .str)] ∧ st.env 3 = .int .i64 ((pre2 q p i).length : Nat) ∧ st.env 9 = .slice 1 [.slice 1 [.str q], .slice 1 (p.map .str)] ∧ st.env 10 = .int .i64 2 ∧ st.env 11 = .int .i64 i ∧ st.sto = Mem.empty.sto ∧ st.nid = 0) ?_ ?_ _ ?_
  · rintro i st hi ⟨e0, e3, e9, e10, e11, es, en⟩
    match i, hi with
    | 0, _ =>
      simp only [pre2, List.length_nil] at e3
      simp +decide only [go_sem, Nat.reduceAdd, Nat.reduceMul, Nat.reduceSub, Nat.reduceLT, Nat.reduceLeDiff, Nat.reduceEqDiff, Nat.add_assoc, Int.reduceAdd, Int.reduceSub, Int.reduceMul, Int.reduceLT, Int.reduceLE, Int.reduceEq, Int.reduceNeg, strOp_add, e0, e3, e9, e10, e11, es, en]
      exact ⟨rfl, rfl⟩
    | 1, _ =>
      simp only [pre2, List.length_cons, List.length_nil, Nat.zero_add] at e3
      have w1 : IntKind.wrap .i64 (((1 : Nat) : Int) + (p.length : Int)) = ((p.length + 1 : Nat) : Int) := by rw [wrap_id (by omega) (by omega)]; omega
      have g1 : (((p.length + 1 : Nat) : Int) < 0) = False := eq_false (by omega)
      simp +decide only [go_sem, Nat.reduceAdd, Nat.reduceMul, Nat.reduceSub, Nat.reduceLT, Nat.reduceLeDiff, Nat.reduceEqDiff, Nat.add_assoc, Int.reduceAdd, Int.reduceSub, Int.reduceMul, Int.reduceLT, Int.reduceLE, Int.reduceEq, Int.reduceNeg, strOp_add, e0, e3, e9, e10, e11, es, en, w1, g1, List.length_map]
      exact ⟨rfl, rfl⟩
  · rintro st ⟨e0, e3, e9, e10, e11, es, en⟩
    simp only [pre2, List.length_cons] at e3
    simp +decide only [go_sem, Nat.reduceAdd, Nat.reduceMul, Nat.reduceSub, Nat.reduceLT, Nat.reduceLeDiff, Nat.reduceEqDiff, Nat.add_assoc, Int.reduceAdd, Int.reduceSub, Int.reduceMul, Int.reduceLT, Int.reduceLE, Int.reduceEq, Int.reduceNeg, strOp_add, e0, e3, e9, e10, e11, es, en, growS_eq (show 0 < ((p.length + 1 : Nat) : Int) by omega) (by omega)]
    refine comes_upto 2 (fun i st => st.env 25 = .slice 1 [.slice 1 [.str q], .slice 1 (p.map .str)] ∧ st.env 26 = .int .i64 2 ∧ st.env 27 = .int .i64 i ∧ 1 ≤ st.nid ∧ ∃ g, st.env 6 = .arr 0 g 0 (pre2 q p i).length 1 true ∧ ∃ ty, st.sto 0 = ⟨(pre2 q p i).map AV.str, g, false, ty⟩) ?_ ?_ _ ?_
    · rintro i st hi ⟨e25, e26, e27, en, g, e6, ty, s0⟩
      match i, hi with
      | 0, _ =>
        simp only [pre2, List.length_nil, List.map_nil] at e6 s0
        have hm : 1 ≤ most := by decide
        simp +decide only [go_sem, Nat.reduceAdd, Nat.reduceMul, Nat.reduceSub, Nat.reduceLT, Nat.reduceLeDiff, Nat.reduceEqDiff, Nat.add_assoc, Int.reduceAdd, Int.reduceSub, Int.reduceMul, Int.reduceLT, Int.reduceLE, Int.reduceEq, Int.reduceNeg, strOp_add, e25, e26, e27, e6, s0, hm]
        exact ⟨rfl, en, g + 1, rfl, _, rfl⟩
      | 1, _ =>
        simp only [pre2, List.length_cons, List.length_nil, List.map_cons, List.map_nil, Nat.zero_add] at e6 s0
        have hm : 1 + p.length ≤ most := by simp only [most]; omega
        simp +decide only [go_sem, Nat.reduceAdd, Nat.reduceMul, Nat.reduceSub, Nat.reduceLT, Nat.reduceLeDiff, Nat.reduceEqDiff, Nat.add_assoc, Int.reduceAdd, Int.reduceSub, Int.reduceMul, Int.reduceLT, Int.reduceLE, Int.reduceEq, Int.reduceNeg, strOp_add, e25, e26, e27, e6, s0, hm, List.length_map]
        refine ⟨rfl, en, g + 1, ?_, grewT 9 ty, ?_⟩
        · simp only [pre2, List.length_cons, Nat.add_comm]
        · rw [flat_strs]
          rfl
    · rintro st ⟨e25, e26, e27, en, g, e6, ty, s0⟩
      simp only [pre2] at e6 s0
      have htk : (p.map AV.str).take p.length = p.map AV.str := List.take_of_length_le (by simp)
      simp +decide only [go_sem, Nat.reduceAdd, Nat.reduceMul, Nat.reduceSub, Nat.reduceLT, Nat.reduceLeDiff, Nat.reduceEqDiff, Nat.add_assoc, Int.reduceAdd, Int.reduceSub, Int.reduceMul, Int.reduceLT, Int.reduceLE, Int.reduceEq, Int.reduceNeg, strOp_add, e25, e26, e27, e6, s0, htk, snaps_strs, elems_strs, Nat.le_refl, List.length_map, List.drop_succ_cons, List.drop_zero]
    · simp +decide only [go_sem, Nat.reduceAdd, Nat.reduceMul, Nat.reduceSub, Nat.reduceLT, Nat.reduceLeDiff, Nat.reduceEqDiff, Nat.add_assoc, Int.reduceAdd, Int.reduceSub, Int.reduceMul, Int.reduceLT, Int.reduceLE, Int.reduceEq, Int.reduceNeg, strOp_add]
      exact ⟨rfl, rfl, 0, rfl, _, rfl⟩
  · simp +decide only [go_sem, Nat.reduceAdd, Nat.reduceMul, Nat.reduceSub, Nat.reduceLT, Nat.reduceLeDiff, Nat.reduceEqDiff, Nat.add_assoc, Int.reduceAdd, Int.reduceSub, Int.reduceMul, Int.reduceLT, Int.reduceLE, Int.reduceEq, Int.reduceNeg, strOp_add]
    exact ⟨rfl, rfl, rfl⟩
/-- A list of paths. -/
def pathsA (ps : List (List ByteArray)) : AV := .slice 1 (ps.map strsA)
/-- A list of paths that grows, in a block of the call's own. -/
def PathsAt (m : Mem) (lo : Nat) (v : AV) (l : List (List ByteArray)) : Prop :=
  (l = [] ∧ v = .nils 1) ∨ ∃ id g, lo ≤ id ∧ id < m.nid ∧ v = .arr id g 0 l.length 1 true ∧ ∃ ty, m.sto id = ⟨l.map strsA, g, false, ty⟩
theorem still_path (p : List ByteArray) : still (strsA p) = true := by
  unfold strsA still
  simp
theorem snaps_paths (ps : List (List ByteArray)) (m : Mem) (k : Nat) : (ps.map strsA).mapM (snapD m (k + 1)) = some (ps.map strsA) := snaps_still (fun c hc => by
  obtain ⟨p, _, rfl⟩ := List.mem_map.1 hc
  exact still_path p) m k
theorem flat_paths (ps : List (List ByteArray)) : ((ps.map strsA).map AV.cells).flatten = ps.map strsA := by
  induction ps with
  | nil => rfl
  | cons x ns ih => simp only [List.map_cons, List.flatten_cons, ih]; rfl
theorem elems_paths (ps : List (List ByteArray)) : elems 1 ps.length (ps.map strsA) = ps.map strsA := by
  have := elems_one (ps.map strsA)
  rwa [List.length_map] at this
theorem ahead_eq (q : ByteArray) (ps : List (List ByteArray)) (hn : ps.length ≤ 1099511627776) (hp : ∀ p ∈ ps, p.length ≤ 1000000) : fnA CC PR 41 [.str q, pathsA ps] = some (pathsA (ps.map (q :: ·))) := by
  apply comes_eq.1
  unfold pathsA
  refine fnA_wp (rs := [.tmp 4]) Tryz.func41 rfl rfl (Nat.le_of_ble_eq_true rfl) rfl ?_
  simp +decide only [go_sem, Nat.reduceAdd, Nat.reduceMul, Nat.reduceSub, Nat.reduceLT, Nat.reduceLeDiff, Nat.reduceEqDiff, Nat.add_assoc, Int.reduceAdd, Int.reduceSub, Int.reduceMul, Int.reduceLT, Int.reduceLE, Int.reduceEq, Int.reduceNeg, strOp_add, List.length_map]
  refine comes_upto ps.length (fun i st => st.env 0 = .str q ∧ st.env 8 = .slice 1 (ps.map strsA) ∧ st.env 9 = .int .i64 ps.length ∧ st.env 10 = .int .i64 i ∧ PathsAt st.toMem 0 (st.env 5) ((ps.take i).map (q :: ·))) ?_ ?_ _ ?_
  · rintro i st hi ⟨e0, e8, e9, e10, hP⟩
    have hq := Concat_eq q ps[i] (hp _ (List.getElem_mem hi))
    unfold strsA at hq
    have hat : (ps.map strsA)[i]? = some (.slice 1 (ps[i].map AV.str)) := by simp [hi, strsA]
    simp only [List.map_cons, List.map_nil] at hq
    have w1 : IntKind.wrap .i64 ((i : Int) + 1) = ((i + 1 : Nat) : Int) := wrap_succ (by omega)
    have hlen : ((ps.take i).map (q :: ·)).length = i := by simp; omega
    have htk : ((ps.take (i + 1)).map (q :: ·)).map strsA = ((ps.take i).map (q :: ·)).map strsA ++ [.slice 1 (AV.str q :: ps[i].map AV.str)] := by
      rw [List.take_succ_eq_append_getElem hi]
      simp only [List.map_append, List.map_cons, List.map_nil]
      rfl
    have hlen2 : ((ps.take (i + 1)).map (q :: ·)).length = i + 1 := by simp; omega
    rcases hP with ⟨hl0, e5⟩ | ⟨id, g, hlo, hid, e5, ty, hs⟩
    · have hi0 : i = 0 := by rw [hl0] at hlen; exact hlen.symm
      simp +decide (disch := first | decide | omega) only [go_sem, Nat.reduceAdd, Nat.reduceMul, Nat.reduceSub, Nat.reduceLT, Nat.reduceLeDiff, Nat.reduceEqDiff, Nat.add_assoc, Int.reduceAdd, Int.reduceSub, Int.reduceMul, Int.reduceLT, Int.reduceLE, Int.reduceEq, Int.reduceNeg, strOp_add, e0, e5, e8, e9, e10, hi, hat, hq, w1, List.length_map]
      refine .inr ⟨st.nid + 3, 0, Nat.zero_le _, by show st.nid + 3 < st.nid + 4; omega, ?_, some (24, false), ?_⟩
      · rw [hlen2, hi0]
      · dsimp only
        rw [upd_hit, htk, hl0]
        rfl
    · rw [hlen] at e5
      have hc2 : i + 1 ≤ most := by simp only [most]; omega
      simp +decide (disch := first | decide | omega) only [go_sem, Nat.reduceAdd, Nat.reduceMul, Nat.reduceSub, Nat.reduceLT, Nat.reduceLeDiff, Nat.reduceEqDiff, Nat.add_assoc, Int.reduceAdd, Int.reduceSub, Int.reduceMul, Int.reduceLT, Int.reduceLE, Int.reduceEq, Int.reduceNeg, strOp_add, e0, e5, e8, e9, e10, hi, hat, hq, w1, hs, hlen, hc2, updL_frz_m, List.length_map]
      refine .inr ⟨id, g + 1, hlo, by show id < st.nid + 3; omega, by rw [hlen2], grewT 24 ty, ?_⟩
      dsimp only
      rw [upd_hit, htk]
      rfl
  · rintro st ⟨e0, e8, e9, e10, hP⟩
    rw [List.take_of_length_le (Nat.le_refl _)] at hP
    rcases hP with ⟨hl0, e5⟩ | ⟨id, g, hlo, hid, e5, ty, hs⟩
    · simp +decide (disch := first | decide | omega) only [go_sem, Nat.reduceAdd, Nat.reduceMul, Nat.reduceSub, Nat.reduceLT, Nat.reduceLeDiff, Nat.reduceEqDiff, Nat.add_assoc, Int.reduceAdd, Int.reduceSub, Int.reduceMul, Int.reduceLT, Int.reduceLE, Int.reduceEq, Int.reduceNeg, strOp_add, e0, e5, e8, e9, e10]
      rw [hl0]
      rfl
    · simp +decide (disch := first | decide | omega) only [go_sem, Nat.reduceAdd, Nat.reduceMul, Nat.reduceSub, Nat.reduceLT, Nat.reduceLeDiff, Nat.reduceEqDiff, Nat.add_assoc, Int.reduceAdd, Int.reduceSub, Int.reduceMul, Int.reduceLT, Int.reduceLE, Int.reduceEq, Int.reduceNeg, strOp_add, e0, e5, e8, e9, e10, hs]
      rw [if_pos (by simp), List.take_of_length_le (by simp), snaps_paths]
      show Comes (some _) _
      refine comes_some.2 ?_
      show AV.slice 1 (elems 1 _ _) = _
      rw [elems_paths]
  · simp +decide only [go_sem, Nat.reduceAdd, Nat.reduceMul, Nat.reduceSub, Nat.reduceLT, Nat.reduceLeDiff, Nat.reduceEqDiff, Nat.add_assoc, Int.reduceAdd, Int.reduceSub, Int.reduceMul, Int.reduceLT, Int.reduceLE, Int.reduceEq, Int.reduceNeg, strOp_add]
    exact ⟨rfl, .inl ⟨rfl, rfl⟩⟩
/-- The paths to what lies at the ends. -/
def lv : Nat → Dat → List (List ByteArray)
  | 0, _ => [[]]
  | n + 1, d => if d.kind = 3 ∨ d.kind = 4 then ((d.steps.zip d.list).map fun x => (lv n x.2).map (x.1 :: ·)).flatten else [[]]
theorem lv_short : ∀ (n : Nat) (d : Dat), ∀ p ∈ lv n d, p.length ≤ n
  | 0, d, p, h => by
    simp only [lv, List.mem_singleton] at h
    subst h
    exact Nat.le_refl _
  | n + 1, d, p, h => by
    unfold lv at h
    split at h
    · simp only [List.mem_flatten, List.mem_map] at h
      obtain ⟨_, ⟨x, _, rfl⟩, h⟩ := h
      obtain ⟨r, hr, rfl⟩ := List.mem_map.1 h
      have := lv_short n x.2 r hr
      simp only [List.length_cons]
      omega
    · simp only [List.mem_singleton] at h
      subst h
      exact Nat.zero_le _
theorem sum_le (b : Nat) : ∀ l : List (List (List ByteArray)), (∀ x ∈ l, x.length ≤ b) → l.flatten.length ≤ l.length * b
  | [], _ => Nat.zero_le _
  | x :: l, h => by
    have h1 := sum_le b l fun y hy => h y (List.mem_cons_of_mem _ hy)
    have h2 := h x List.mem_cons_self
    simp only [List.flatten_cons, List.length_append, List.length_cons, Nat.succ_mul]
    omega
theorem lv_few : ∀ (n : Nat) (d : Dat), writ n d = true → (lv n d).length ≤ 20 ^ n
  | 0, d, h => by cases h
  | n + 1, d, h => by
    have hd : d.list.length ≤ 20 := by
      obtain ⟨k, m, t, l, ns⟩ := d
      simp only [writ, Bool.and_eq_true] at h
      have := shaped_kind h.1
      simp only [Dat.list]
      rcases this with ⟨_, rfl⟩ | ⟨_, rfl, _⟩ | ⟨_, rfl, _⟩ | ⟨_, h⟩ | ⟨_, h, h2⟩
      all_goals first
        | exact Nat.zero_le _
        | omega
    simp only [writ, Bool.and_eq_true, List.all_eq_true] at h
    unfold lv
    split
    · have h1 := sum_le (20 ^ n) ((d.steps.zip d.list).map fun x => (lv n x.2).map (x.1 :: ·)) fun y hy => by
        obtain ⟨x, hx, rfl⟩ := List.mem_map.1 hy
        rw [List.length_map]
        exact lv_few n x.2 (h.2.2 _ (List.of_mem_zip hx).2)
      have h2 : ((d.steps.zip d.list).map fun x => (lv n x.2).map (x.1 :: ·)).length ≤ 20 := by
        rw [List.length_map, List.length_zip]
        omega
      refine Nat.le_trans h1 ?_
      rw [Nat.pow_succ, Nat.mul_comm (20 ^ n)]
      exact Nat.mul_le_mul_right _ h2
    · exact Nat.pow_pos (by decide)

theorem branches_eq (k n : Int) (t : ByteArray) (l2 n2 : List AV) (b : Bool) (hb : b = true ↔ k = 3 ∨ k = 4) : fnA CC PR 38 [.agg [.int .i64 k, .int .i64 n, .str t, .slice 5 l2, .slice 1 n2]] = some (.bool b) := by
  apply comes_eq.1
  refine fnA_wp (rs := [.tmp 2]) Tryz.func38 rfl rfl (Nat.le_of_ble_eq_true rfl) rfl ?_
  (simp +decide only [go_sem, Nat.reduceAdd, Nat.reduceMul, Nat.reduceSub, Nat.reduceLT, Nat.reduceLeDiff, Nat.reduceEqDiff, Nat.add_assoc, Int.reduceAdd, Int.reduceSub, Int.reduceMul, Int.reduceLT, Int.reduceLE, Int.reduceEq, Int.reduceNeg, strOp_add]); repeat' (refine bB_split (fun hB => ?_) (fun hB => ?_) <;> (try simp only [Bool.and_eq_true, Bool.or_eq_false_iff, decide_eq_true_eq, decide_eq_false_iff_not] at hB) <;> simp +decide only [go_sem, Nat.reduceAdd, Nat.reduceMul, Nat.reduceSub, Nat.reduceLT, Nat.reduceLeDiff, Nat.reduceEqDiff, Nat.add_assoc, Int.reduceAdd, Int.reduceSub, Int.reduceMul, Int.reduceLT, Int.reduceLE, Int.reduceEq, Int.reduceNeg, strOp_add, hB])
  all_goals cases b <;> simp_all
theorem writ_elem0 (n : Nat) {d y : Dat} (h : writ (n + 1) d = true) (hm : y ∈ d.list) : writ n y = true := by
  simp only [writ, Bool.and_eq_true, List.all_eq_true] at h
  exact h.2.2 y hm
def lvF (n : Nat) (x : ByteArray × Dat) : List (List ByteArray) := (lv n x.2).map (x.1 :: ·)
theorem pow20 : ∀ n, n ≤ 8 → 20 ^ n ≤ 25600000000 := by decide
end Go.Ev.Tryz
