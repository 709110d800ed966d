/- Part of the proof of a statement about the given program: W1ZD W1bZD. No condition of its own. -/
import Derived.Test.YtmnpcdchlobdlaaGreatDoorR8ZD
import Derived.Test.YtmnpcdchlobdlaaGreatDoorD10ZD
import Derived.Test.YtmnpcdchlobdlaaGreatDoorP1ZD
section
namespace Go.Ev.Tryz
open Go.Proofs
set_option maxRecDepth 10000
set_option linter.unusedSimpArgs false
set_option linter.unusedVariables false
attribute [local congr] comes_congr bB_congr gK_congr gdK_congr

/-- A list of data in memory, in a block of its own that may be written. -/
def CpyR (M : Mem) (lo : Nat) (l : List Dat) (lv : AV) (B : List Nat) : Prop :=
  (l = [] ∧ lv = .nils 5 ∧ B = []) ∨ ∃ id g cs' B' ty, lv = .arr id g 0 l.length 5 true ∧ M.sto id = ⟨cs', g, false, ty⟩ ∧ CelR M l cs' B' ∧ id ∉ B' ∧ B = id :: B' ∧ ∀ x ∈ B, lo ≤ x ∧ x < M.nid
theorem CpyR.lst {M : Mem} {lo : Nat} {l : List Dat} {lv : AV} {B : List Nat} (h : CpyR M lo l lv B) : LstR M l lv B := by
  rcases h with ⟨h1, h2, h3⟩ | ⟨id, g, cs', B', ty, h1, h2, h3, h4, h5, h6⟩
  · exact .inr (.inl ⟨h1, h2, h3⟩)
  · exact .inr (.inr ⟨id, g, true, cs', B', h1, cells_at h2, h3, h5⟩)
theorem CpyR.in {M : Mem} {lo : Nat} {l : List Dat} {lv : AV} {B : List Nat} (h : CpyR M lo l lv B) : ∀ x ∈ B, lo ≤ x ∧ x < M.nid := by
  rcases h with ⟨h1, h2, rfl⟩ | ⟨id, g, cs', B', ty, h1, h2, h3, h4, h5, h6⟩
  · intro x hx; cases hx
  · exact h6
theorem CpyR.keep {M M' : Mem} {lo : Nat} {l : List Dat} {lv : AV} {B : List Nat} (h : CpyR M lo l lv B) (hn : M.nid ≤ M'.nid) (e : ∀ x, lo ≤ x → x < M.nid → M'.sto x = M.sto x) : CpyR M' lo l lv B := by
  rcases h with h | ⟨id, g, cs', B', ty, h1, h2, h3, h4, rfl, h6⟩
  · exact .inl h
  · refine .inr ⟨id, g, cs', B', ty, h1, ?_, h3.same fun b hb => ?_, h4, rfl, fun x hx => ⟨(h6 x hx).1, by have := (h6 x hx).2; omega⟩⟩
    · rw [e id (h6 id (by simp)).1 (h6 id (by simp)).2]
      exact h2
    · rw [e b (h6 b (by simp [hb])).1 (h6 b (by simp [hb])).2]
      exact ⟨rfl, rfl⟩
theorem CpyR.mk1 {M : Mem} {lo id g : Nat} {l : List Dat} {v : AV} {cs' : List AV} {B' : List Nat} {ty : Option (TypeId × Bool)} (hs : M.sto id = ⟨cs', g, false, ty⟩) (hv : v = .arr id g 0 l.length 5 true) (hc : CelR M l cs' B') (hn : id ∉ B') (hb : ∀ x ∈ id :: B', lo ≤ x ∧ x < M.nid) : CpyR M lo l v (id :: B') :=
  .inr ⟨id, g, cs', B', ty, hv, hs, hc, hn, rfl, hb⟩
theorem cpy_dat {M : Mem} {lo nb : Nat} {l : List Dat} {lv : AV} {B : List Nat} {ns : List ByteArray} (k n : Int) (t : ByteArray) (h : CpyR M lo l lv B) (hn : CellsAt M nb 1 (ns.map AV.str)) :
    DatR M (.mk k n t l ns) [.int .i64 k, .int .i64 n, .str t, lv, .arr nb 1 0 ns.length 1 true] (B ++ [nb]) :=
  datR_iff.2 ⟨lv, _, B, [nb], rfl, rfl, .inr (.inr ⟨nb, 1, true, rfl, hn, rfl⟩), h.lst⟩
theorem plain_far {f : FuncId} {cs : List AV} {m : Mem} {K : Do → Prop} (h : ∀ c ∈ cs, still c = true) (hc : Comes (fnI CC PR f [.agg cs] (mask [] m)) (fun p => K (.call [] m.nid p.1 p.2))) :
    closedB m (reachL m 2097152 (.agg cs)) [.agg cs] = true ∧ Comes (fnI CC PR f [.agg cs] (mask (reachL m 2097152 (.agg cs)) m)) (farK (reachL m 2097152 (.agg cs)) m K) := by
  obtain ⟨h1, h2⟩ := quiet_agg h
  rw [h1 m]
  refine ⟨by simp [closedB, h2], Comes.mono hc fun p hp => ⟨fun i hi => (by cases hi), hp⟩⟩
set_option maxHeartbeats 4000000 in
/-- l11Copy in the caller's memory: the copy lies in blocks of its own. -/
theorem Copy_wp : ∀ (d : Dat), d.Sane → ∀ (m : Mem) (Q : AV × Mem → Prop), (∀ lv nb B m', CpyR m' (m.nid + 15) d.list lv B → m.nid ≤ nb → nb < m.nid + 15 → m.nid + 15 ≤ m'.nid → CellsAt m' nb 1 (d.names.map AV.str) → (∀ j, j < m.nid → m'.sto j = m.sto j) → Q (.agg [.int .i64 d.kind, .int .i64 d.num, .str d.text, lv, .arr nb 1 0 d.names.length 1 true], m')) →
    Comes (fnI CC PR 31 [d.av] m) Q := by
  intro d
  induction d using Dat.ind with
  | h k n t l ns ih =>
  intro hd m Q hQ
  cases hd with
  | mk k n t l ns hk hn ht hl hns hss h =>
  rw [Dat.av_mk]
  refine fnI_wp (rs := [.cell 2 26]) Tryz.func31 rfl rfl (Nat.le_of_ble_eq_true rfl) rfl rfl ?_
  have htn : List.take ns.length (ns.map AV.str) = ns.map AV.str := List.take_of_length_le (by simp)
  have hnm : ns.length ≤ most := by simp only [most]; omega
  simp +decide (disch := first | decide | omega) only [go_sem, Nat.reduceAdd, Nat.reduceMul, Nat.reduceSub, Nat.reduceLT, Nat.reduceLeDiff, Nat.reduceEqDiff, Nat.add_assoc, Int.reduceAdd, Int.reduceSub, Int.reduceMul, Int.reduceLT, Int.reduceLE, Int.reduceEq, Int.reduceNeg, strOp_add, List.length_map]
  refine (d_plan (ord := [0, 1, 2, 3, 4, 5, 6, 7, 8, 9, 10, 11, 12]) (prs := [(1, 3), (1, 5), (3, 5), (1, 6), (3, 6), (5, 6), (1, 8), (3, 8), (5, 8), (6, 8), (1, 9), (3, 9), (5, 9), (1, 11), (3, 11), (5, 11), (6, 11), (8, 11), (9, 11)]) (by kernel_rfl)).2 ?_
  simp +decide (disch := first | decide | omega) only [go_sem, Nat.reduceAdd, Nat.reduceMul, Nat.reduceSub, Nat.reduceLT, Nat.reduceLeDiff, Nat.reduceEqDiff, Nat.add_assoc, Int.reduceAdd, Int.reduceSub, Int.reduceMul, Int.reduceLT, Int.reduceLE, Int.reduceEq, Int.reduceNeg, strOp_add, List.length_map, flat_strs, hnm]
  refine ⟨by simp, ?_⟩
  refine comes_upto l.length (fun i st => st.env 1 = .ptr m.nid 0 0 ∧ st.env 2 = .ptr (m.nid + 1) 0 0 ∧ st.env 3 = .ptr (m.nid + 13) 0 0 ∧ st.env 4 = .int .i64 i ∧ m.nid + 15 ≤ st.nid ∧ st.sto m.nid = ⟨[.int .i64 k, .int .i64 n, .str t, .slice 5 (l.map Dat.av), .slice 1 (ns.map AV.str)], 0, false, none⟩ ∧ st.sto (m.nid + 1) = ⟨[.int .i64 0, .int .i64 0, .str ⟨#[]⟩, .nils 5, .nils 1], 0, false, some (26, true)⟩ ∧ st.sto (m.nid + 8) = ⟨ns.map AV.str, 1, false, none⟩ ∧ (∀ j, j < m.nid → st.sto j = m.sto j) ∧ ∃ v B, st.sto (m.nid + 13) = ⟨[.int .i64 k, .int .i64 n, .str t, v, .arr (m.nid + 8) 1 0 ns.length 1 true], 0, false, some (26, true)⟩ ∧ CpyR st.toMem (m.nid + 15) (l.take i) v B) ?_ ?_ _ ?_
  · rintro i st hi ⟨e1, e2, e3, e4, en, s0, s1, s8, hfr, v, B, s13, hC⟩
    have ha := av_at hi
    have w1 : IntKind.wrap .i64 ((i : Int) + 1) = ((i + 1 : Nat) : Int) := wrap_succ (by omega)
    have hIH := ih _ (List.getElem_mem hi) (h _ (List.getElem_mem hi))
    have hln : (l.take i).length = i := by rw [List.length_take]; omega
    have hln1 : (l.take (i + 1)).length = i + 1 := by rw [List.length_take]; omega
    have htk : l.take (i + 1) = l.take i ++ [l[i]] := List.take_succ_eq_append_getElem hi
    rw [htk] at hln1 ⊢
    obtain ⟨k2, n2, t2, l2, ns2, hx⟩ : ∃ k2 n2 t2 l2 ns2, l[i] = Dat.mk k2 n2 t2 l2 ns2 := by
      cases l[i]
      exact ⟨_, _, _, _, _, rfl⟩
    rw [hx] at hIH ha hln1 ⊢
    rw [Dat.av_mk] at hIH ha
    have o1 := lstR_one hC.lst
    simp only [AV.one] at o1
    simp +decide (disch := first | decide | omega) only [go_sem, Nat.reduceAdd, Nat.reduceMul, Nat.reduceSub, Nat.reduceLT, Nat.reduceLeDiff, Nat.reduceEqDiff, Nat.add_assoc, Int.reduceAdd, Int.reduceSub, Int.reduceMul, Int.reduceLT, Int.reduceLE, Int.reduceEq, Int.reduceNeg, strOp_add, e1, e2, e3, e4, s0, s1, s8, s13, hi, List.length_map, ha, w1, o1]
    refine (d_plan (ord := [0, 1, 2, 3, 4, 5, 6, 7, 8, 9, 10, 11]) (prs := [(1, 3), (1, 6), (1, 7), (1, 8)]) (by kernel_rfl)).2 ?_
    simp +decide (disch := first | decide | omega) only [go_sem, Nat.reduceAdd, Nat.reduceMul, Nat.reduceSub, Nat.reduceLT, Nat.reduceLeDiff, Nat.reduceEqDiff, Nat.add_assoc, Int.reduceAdd, Int.reduceSub, Int.reduceMul, Int.reduceLT, Int.reduceLE, Int.reduceEq, Int.reduceNeg, strOp_add, e1, e2, e3, e4, s0, s1, s8, s13, hi, List.length_map, ha, w1, o1]
    refine plain_far (by simp [still]) (hIH _ _ fun lv nb B2 m' c1 c2 c3 c4 c5 c6 => ?_)
    have n1 : (mask [] ⟨st.sto, st.nid + 12⟩ : Mem).nid = st.nid + 12 := rfl
    rw [n1] at c1 c2 c3 c4 c6
    dsimp only
    have j1 : ∀ j, j < st.nid + 12 → (joinM [] (st.nid + 12) ⟨st.sto, st.nid + 12⟩ m').sto j = st.sto j := fun j hj => by
      simp only [joinM]
      rw [if_neg (by simp; omega)]
    have j2 : ∀ j, st.nid + 12 ≤ j → (joinM [] (st.nid + 12) ⟨st.sto, st.nid + 12⟩ m').sto j = m'.sto j := fun j hj => by
      simp only [joinM]
      rw [if_pos (by simp; omega)]
    generalize hJ : (joinM [] (st.nid + 12) ⟨st.sto, st.nid + 12⟩ m').sto = J at *
    have J0 := (j1 m.nid (by omega)).trans s0
    have J1 := (j1 (m.nid + 1) (by omega)).trans s1
    have J8 := (j1 (m.nid + 8) (by omega)).trans s8
    have J13 := (j1 (m.nid + 13) (by omega)).trans s13
    have o2 := lstR_one c1.lst
    simp only [AV.one] at o2
    rcases hC with ⟨hl0, rfl, rfl⟩ | ⟨id, g, cs', B', ty, rfl, hs, hcel, hnid, rfl, hin⟩
    · have hi0 : i = 0 := by rw [hl0] at hln; exact hln.symm
      simp +decide (disch := first | decide | omega) only [go_sem, Nat.reduceAdd, Nat.reduceMul, Nat.reduceSub, Nat.reduceLT, Nat.reduceLeDiff, Nat.reduceEqDiff, Nat.add_assoc, Int.reduceAdd, Int.reduceSub, Int.reduceMul, Int.reduceLT, Int.reduceLE, Int.reduceEq, Int.reduceNeg, strOp_add, hJ, e1, e2, e3, e4, J0, J1, J8, J13, o1, o2, w1]
      have hM : ∀ x y z : Blk, ∀ j, st.nid + 12 ≤ j → upd (upd (upd J (st.nid + 8) x) (st.nid + 9) y) (m.nid + 13) z j = m'.sto j := fun x y z j hj => by
        simp (disch := omega) only [upd_hit, upd_miss]
        exact j2 j hj
      refine ⟨by omega, by omega, fun j hj => ?_, _, (st.nid + 9) :: (B2 ++ [nb]), rfl, CpyR.mk1 (g := 0) (cs' := [.int .i64 k2, .int .i64 n2, .str t2, lv, .arr nb 1 0 ns2.length 1 true]) (ty := some (26, false)) ?_ (by rw [hln1, hi0]) ?_ ?_ ?_⟩
      · simp (disch := omega) only [upd_hit, upd_miss]
        exact (j1 j (by omega)).trans (hfr j hj)
      · simp (disch := omega) only [upd_hit, upd_miss]
        rfl
      · rw [hl0]
        refine celR_cons.2 ⟨_, _, [], [], (List.append_nil _).symm, (List.append_nil _).symm, cpy_dat (lo := st.nid + 12 + 15) _ _ _ (c1.keep (M' := ⟨_, m'.nid⟩) (Nat.le_refl _) fun x d1 d2 => ?_) (c5.keep ?_), celR_nil.2 ⟨rfl, rfl⟩⟩
        · exact hM _ _ _ x (by omega)
        · exact hM _ _ _ nb c2
      · intro hx
        rcases List.mem_append.1 hx with hx | hx
        · have := (c1.in _ hx).1; omega
        · have := List.mem_singleton.1 hx; omega
      · intro x hx
        show _ ∧ x < m'.nid
        rcases List.mem_cons.1 hx with rfl | hx
        · omega
        rcases List.mem_append.1 hx with hx | hx
        · have := c1.in _ hx; omega
        · have := List.mem_singleton.1 hx; omega
    · have hc1 : (l.take i).length * 5 = cs'.length := (celR_len _ hcel).symm
      have hc2 : (l.take i).length + 1 ≤ most := by rw [hln]; simp only [most]; omega
      have hidn : m.nid + 15 ≤ id ∧ id < st.nid := hin id (by simp)
      have Jid := (j1 id (by omega)).trans hs
      simp +decide (disch := first | decide | omega) only [go_sem, Nat.reduceAdd, Nat.reduceMul, Nat.reduceSub, Nat.reduceLT, Nat.reduceLeDiff, Nat.reduceEqDiff, Nat.add_assoc, Int.reduceAdd, Int.reduceSub, Int.reduceMul, Int.reduceLT, Int.reduceLE, Int.reduceEq, Int.reduceNeg, strOp_add, hJ, e1, e2, e3, e4, J0, J1, J8, J13, Jid, o1, o2, w1, hc1, hc2]
      have hM : ∀ x y z : Blk, ∀ j, st.nid + 12 ≤ j → upd (upd (upd J (st.nid + 8) x) id y) (m.nid + 13) z j = m'.sto j := fun x y z j hj => by
        simp (disch := omega) only [upd_hit, upd_miss]
        exact j2 j hj
      have hM2 : ∀ x y z : Blk, ∀ j, m.nid + 15 ≤ j → j < st.nid → j ≠ id → upd (upd (upd J (st.nid + 8) x) id y) (m.nid + 13) z j = st.sto j := fun x y z j h1 h2 h3 => by
        simp (disch := omega) only [upd_hit, upd_miss]
        exact j1 j (by omega)
      have hB' : ∀ x ∈ B', m.nid + 15 ≤ x ∧ x < st.nid := fun x hx => hin x (by simp [hx])
      refine ⟨by omega, by omega, fun j hj => ?_, _, id :: (B' ++ (B2 ++ [nb])), rfl, CpyR.mk1 (g := g + 1) (cs' := cs' ++ [.int .i64 k2, .int .i64 n2, .str t2, lv, .arr nb 1 0 ns2.length 1 true]) (ty := grewT 26 ty) ?_ (by rw [hln1, hln]) ?_ ?_ ?_⟩
      · simp (disch := omega) only [upd_hit, upd_miss]
        exact (j1 j (by omega)).trans (hfr j hj)
      · simp (disch := omega) only [upd_hit, upd_miss]
        rfl
      · refine celR_snoc _ (hcel.same fun x hx => ?_) (cpy_dat (lo := st.nid + 12 + 15) _ _ _ (c1.keep (M' := ⟨_, m'.nid⟩) (Nat.le_refl _) fun x d1 d2 => ?_) (c5.keep ?_))
        · dsimp only
          rw [hM2 _ _ _ x (hB' x hx).1 (hB' x hx).2 fun e => hnid (e ▸ hx)]
          exact ⟨rfl, rfl⟩
        · exact hM _ _ _ x (by omega)
        · exact hM _ _ _ nb c2
      · intro hx
        rcases List.mem_append.1 hx with hx | hx
        · exact hnid hx
        rcases List.mem_append.1 hx with hx | hx
        · have := (c1.in _ hx).1; omega
        · have := List.mem_singleton.1 hx; omega
      · intro x hx
        show _ ∧ x < m'.nid
        rcases List.mem_cons.1 hx with rfl | hx
        · omega
        rcases List.mem_append.1 hx with hx | hx
        · have := hB' x hx; omega
        rcases List.mem_append.1 hx with hx | hx
        · have := c1.in _ hx; omega
        · have := List.mem_singleton.1 hx; omega
  · rintro st ⟨e1, e2, e3, e4, en, s0, s1, s8, hfr, v, B, s13, hC⟩
    rw [List.take_length] at hC
    have o1 := lstR_one hC.lst
    simp only [AV.one] at o1
    simp +decide (disch := first | decide | omega) only [go_sem, Nat.reduceAdd, Nat.reduceMul, Nat.reduceSub, Nat.reduceLT, Nat.reduceLeDiff, Nat.reduceEqDiff, Nat.add_assoc, Int.reduceAdd, Int.reduceSub, Int.reduceMul, Int.reduceLT, Int.reduceLE, Int.reduceEq, Int.reduceNeg, strOp_add, e1, e2, e3, e4, s0, s1, s8, s13, List.length_map, o1]
    refine hQ v (m.nid + 8) B _ (hC.keep (M' := ⟨_, st.nid⟩) (Nat.le_refl _) fun x c1 c2 => ?_) (by omega) (by omega) en (cells_at (fz := false) (ty := none) ?_) fun j hj => ?_
    · simp (disch := omega) only [upd_hit, upd_miss]
    · simp (disch := omega) only [upd_hit, upd_miss]
      exact s8
    · simp (disch := omega) only [upd_hit, upd_miss]
      exact hfr j hj
  · simp +decide (disch := first | decide | omega) only [go_sem, Nat.reduceAdd, Nat.reduceMul, Nat.reduceSub, Nat.reduceLT, Nat.reduceLeDiff, Nat.reduceEqDiff, Nat.add_assoc, Int.reduceAdd, Int.reduceSub, Int.reduceMul, Int.reduceLT, Int.reduceLE, Int.reduceEq, Int.reduceNeg, strOp_add]
    refine ⟨rfl, Nat.le_refl _, fun j hj => ?_, _, [], rfl, .inl ⟨rfl, rfl, rfl⟩⟩
    simp (disch := omega) only [upd_hit, upd_miss]
end Go.Ev.Tryz
end
section
namespace Go.Ev.Tryz
open Go.Proofs
set_option maxRecDepth 10000
set_option linter.unusedSimpArgs false
set_option linter.unusedVariables false
attribute [local congr] comes_congr bB_congr gK_congr gdK_congr

/-- l11Step tells a part's place, or -1. -/
theorem l11Step_ok (d : Dat) (hd : d.Sane) (hs : d.kind = 4 → d.names.length = d.list.length) (s : ByteArray) : fnA CC PR 32 [d.av, .str s] = some (.int .i64 (-1)) ∨ ∃ i : Nat, i < d.list.length ∧ fnA CC PR 32 [d.av, .str s] = some (.int .i64 i) := by
  have key : Comes (fnA CC PR 32 [d.av, .str s]) (fun r => r = .int .i64 (-1) ∨ ∃ i : Nat, i < d.list.length ∧ r = .int .i64 i) := by
    cases hd with
    | mk k n t l ns hk hn ht hl hns hss h =>
    have hs' : k = 4 → ns.length = l.length := hs
    rw [Dat.av_mk]
    refine fnA_wp (rs := [.tmp 4]) Tryz.func32 rfl rfl (Nat.le_of_ble_eq_true rfl) rfl ?_
    simp +decide only [go_sem, Nat.reduceAdd, Nat.reduceMul, Nat.reduceSub, Nat.reduceLT, Nat.reduceLeDiff, Nat.reduceEqDiff, Nat.add_assoc, Int.reduceAdd, Int.reduceSub, Int.reduceMul, Int.reduceLT, Int.reduceLE, Int.reduceEq, Int.reduceNeg, strOp_add, List.length_map]
    refine comes_upto l.length (fun i st => st.env 1 = .str s ∧ st.env 2 = .ptr 0 0 0 ∧ st.env 5 = .int .i64 i ∧ st.sto 0 = ⟨[.int .i64 k, .int .i64 n, .str t, .slice 5 (l.map Dat.av), .slice 1 (ns.map AV.str)], 0, false, none⟩) ?_ ?_ _ ?_
    · rintro i st hi ⟨e1, e2, e5, s0⟩
      have w1 : IntKind.wrap .i64 ((i : Int) + 1) = ((i + 1 : Nat) : Int) := wrap_succ (by omega)
      have hfin : ∃ j : Nat, j < (Dat.mk k n t l ns).list.length ∧ AV.int .i64 (i : Int) = .int .i64 j := ⟨i, hi, rfl⟩
      by_cases h4 : k = 4
      · have hin : i < ns.length := by rw [hs' h4]; exact hi
        subst h4
        simp +decide only [go_sem, Nat.reduceAdd, Nat.reduceMul, Nat.reduceSub, Nat.reduceLT, Nat.reduceLeDiff, Nat.reduceEqDiff, Nat.add_assoc, Int.reduceAdd, Int.reduceSub, Int.reduceMul, Int.reduceLT, Int.reduceLE, Int.reduceEq, Int.reduceNeg, strOp_add, e1, e2, e5, s0, hi, hin, strs_at hin, List.length_map, w1]
        refine bB_split (fun hB => ?_) (fun hB => ?_)
        · simp only [decide_eq_true_eq] at hB
          simp +decide only [go_sem, Nat.reduceAdd, Nat.reduceMul, Nat.reduceSub, Nat.reduceLT, Nat.reduceLeDiff, Nat.reduceEqDiff, Nat.add_assoc, Int.reduceAdd, Int.reduceSub, Int.reduceMul, Int.reduceLT, Int.reduceLE, Int.reduceEq, Int.reduceNeg, strOp_add, e1, e2, e5, s0, hi, List.length_map, w1, hB]
          exact .inr hfin
        · simp only [decide_eq_false_iff_not] at hB
          simp +decide only [go_sem, Nat.reduceAdd, Nat.reduceMul, Nat.reduceSub, Nat.reduceLT, Nat.reduceLeDiff, Nat.reduceEqDiff, Nat.add_assoc, Int.reduceAdd, Int.reduceSub, Int.reduceMul, Int.reduceLT, Int.reduceLE, Int.reduceEq, Int.reduceNeg, strOp_add, e1, e2, e5, s0, hi, List.length_map, w1, hB]
      · by_cases h3 : k = 3
        · subst h3
          have hq := l1Dec_nat i (by omega)
          simp +decide only [go_sem, Nat.reduceAdd, Nat.reduceMul, Nat.reduceSub, Nat.reduceLT, Nat.reduceLeDiff, Nat.reduceEqDiff, Nat.add_assoc, Int.reduceAdd, Int.reduceSub, Int.reduceMul, Int.reduceLT, Int.reduceLE, Int.reduceEq, Int.reduceNeg, strOp_add, e1, e2, e5, s0, hi, List.length_map, hq, w1]
          refine bB_split (fun hB => ?_) (fun hB => ?_)
          · simp only [decide_eq_true_eq] at hB
            simp +decide only [go_sem, Nat.reduceAdd, Nat.reduceMul, Nat.reduceSub, Nat.reduceLT, Nat.reduceLeDiff, Nat.reduceEqDiff, Nat.add_assoc, Int.reduceAdd, Int.reduceSub, Int.reduceMul, Int.reduceLT, Int.reduceLE, Int.reduceEq, Int.reduceNeg, strOp_add, e1, e2, e5, s0, hi, List.length_map, hq, w1]
            exact .inr hfin
          · simp only [decide_eq_false_iff_not] at hB
            simp +decide only [go_sem, Nat.reduceAdd, Nat.reduceMul, Nat.reduceSub, Nat.reduceLT, Nat.reduceLeDiff, Nat.reduceEqDiff, Nat.add_assoc, Int.reduceAdd, Int.reduceSub, Int.reduceMul, Int.reduceLT, Int.reduceLE, Int.reduceEq, Int.reduceNeg, strOp_add, e1, e2, e5, s0, hi, List.length_map, hq, w1]
        · simp +decide only [go_sem, Nat.reduceAdd, Nat.reduceMul, Nat.reduceSub, Nat.reduceLT, Nat.reduceLeDiff, Nat.reduceEqDiff, Nat.add_assoc, Int.reduceAdd, Int.reduceSub, Int.reduceMul, Int.reduceLT, Int.reduceLE, Int.reduceEq, Int.reduceNeg, strOp_add, e1, e2, e5, s0, hi, List.length_map, h3, h4, w1]
    · rintro st ⟨e1, e2, e5, s0⟩
      simp +decide only [go_sem, Nat.reduceAdd, Nat.reduceMul, Nat.reduceSub, Nat.reduceLT, Nat.reduceLeDiff, Nat.reduceEqDiff, Nat.add_assoc, Int.reduceAdd, Int.reduceSub, Int.reduceMul, Int.reduceLT, Int.reduceLE, Int.reduceEq, Int.reduceNeg, strOp_add, e1, e2, e5, s0, List.length_map]
      exact .inl trivial
    · simp +decide only [go_sem, Nat.reduceAdd, Nat.reduceMul, Nat.reduceSub, Nat.reduceLT, Nat.reduceLeDiff, Nat.reduceEqDiff, Nat.add_assoc, Int.reduceAdd, Int.reduceSub, Int.reduceMul, Int.reduceLT, Int.reduceLE, Int.reduceEq, Int.reduceNeg, strOp_add]
      rfl
  obtain ⟨r, hr, rfl | ⟨i, hi, rfl⟩⟩ := key
  · exact .inl hr
  · exact .inr ⟨i, hi, hr⟩
theorem foldr_le {α : Type} (f : α → Nat) (H : Nat) : ∀ (l : List α), (∀ x ∈ l, f x ≤ H) → (l.map f).foldr max 0 ≤ H
  | [], _ => Nat.zero_le _
  | x :: l, h => by
    simp only [List.map_cons, List.foldr_cons]
    exact Nat.max_le.2 ⟨h x (by simp), foldr_le f H l fun y hy => h y (by simp [hy])⟩
theorem hgt_set {k n : Int} {t : ByteArray} {l : List Dat} {ns : List ByteArray} {y : Dat} {i D : Nat} (hi : i < l.length) (hy : hgt y ≤ hgt l[i] + D) : hgt (.mk k n t (l.set i y) ns) ≤ hgt (.mk k n t l ns) + D := by
  rw [hgt.eq_1 k n t l ns, hgt.eq_1 k n t (l.set i y) ns, List.length_set]
  have h1 := foldr_le hgt ((l.map hgt).foldr max 0 + D) (l.set i y) fun z hz => by
    rcases List.mem_or_eq_of_mem_set hz with hz | rfl
    · have := foldr_max hgt l z hz
      omega
    · have := foldr_max hgt l l[i] (List.getElem_mem hi)
      omega
  omega
theorem celR_set {M : Mem} {y : Dat} {c : List AV} {B1 : List Nat} (hy : DatR M y c B1) : ∀ (l : List Dat) (i : Nat) {cs : List AV} {B : List Nat}, i < l.length → CelR M l cs B → ∃ B', CelR M (l.set i y) (cs.take (i * 5) ++ c ++ cs.drop (i * 5 + 5)) B'
  | [], i, cs, B, hi, h => by cases hi
  | d :: l, 0, cs, B, hi, h => by
    obtain ⟨c1, B1', c2, B2, rfl, rfl, h1, h2⟩ := celR_cons.1 h
    have h5 : c1.length = 5 := by
      obtain ⟨_, _, _, _, _⟩ := d
      obtain ⟨_, _, _, _, rfl, _⟩ := datR_iff.1 h1
      rfl
    refine ⟨_, celR_cons.2 ⟨c, B1, c2, B2, ?_, rfl, hy, h2⟩⟩
    simp [← h5]
  | d :: l, i + 1, cs, B, hi, h => by
    obtain ⟨c1, B1', c2, B2, rfl, rfl, h1, h2⟩ := celR_cons.1 h
    have h5 : c1.length = 5 := by
      obtain ⟨_, _, _, _, _⟩ := d
      obtain ⟨_, _, _, _, rfl, _⟩ := datR_iff.1 h1
      rfl
    obtain ⟨B', h3⟩ := celR_set hy l i (by simpa using hi) h2
    refine ⟨_, celR_cons.2 ⟨c1, B1', _, B', ?_, rfl, h1, h3⟩⟩
    have e1 : (i + 1) * 5 = c1.length + i * 5 := by omega
    have e2 : (i + 1) * 5 + 5 = c1.length + (i * 5 + 5) := by omega
    rw [e2, e1, List.take_length_add_append, List.drop_length_add_append]
    simp [List.append_assoc]
theorem CopyM_wp {k n : Int} {t : ByteArray} {l : List Dat} {ns : List ByteArray} (hx : (Dat.mk k n t l ns).Sane) (m : Mem) (Q : AV × Mem → Prop)
    (hQ : ∀ lv nb B m', CpyR m' (m.nid + 15) l lv B → m.nid ≤ nb → nb < m.nid + 15 → m.nid + 15 ≤ m'.nid → CellsAt m' nb 1 (ns.map AV.str) → (∀ j, j < m.nid → m'.sto j = m.sto j) → Q (.agg [.int .i64 k, .int .i64 n, .str t, lv, .arr nb 1 0 ns.length 1 true], m')) :
    Comes (fnI CC PR 31 [.agg [.int .i64 k, .int .i64 n, .str t, .slice 5 (l.map Dat.av), .slice 1 (ns.map AV.str)]] m) Q := by
  have h := Copy_wp _ hx m Q hQ
  rwa [Dat.av_mk] at h
set_option maxHeartbeats 4000000 in
/-- l11Put by value, whatever it puts where. -/
theorem Put_ok : ∀ (p : List ByteArray) (d x : Dat), p.length ≤ 2000 → d.Sane → x.Sane → hgt d + hgt x ≤ 1000 → ∃ (y : Dat) (b : Bool), fnA CC PR 15 [d.av, strsA p, x.av] = some (.tup [y.av, .bool b]) ∧ y.Sane ∧ hgt y ≤ hgt d + hgt x
  | [], d, x, hp, hd, hx, hh => by
    have key : Comes (fnA CC PR 15 [d.av, strsA [], x.av]) (fun r => ∃ (y : Dat) (b : Bool), r = .tup [y.av, .bool b] ∧ y.Sane ∧ hgt y ≤ hgt d + hgt x) := by
      obtain ⟨d1, d2, d3, d4, d5, hdc⟩ := cells_of d
      obtain ⟨k, n, t, l, ns⟩ := x
      rw [Dat.av_mk]
      rw [hdc]
      unfold strsA
      refine fnA_wp (rs := [.cell 6 26, .tmp 7]) Tryz.func15 rfl rfl (Nat.le_of_ble_eq_true rfl) rfl ?_
      simp +decide only [go_sem, Nat.reduceAdd, Nat.reduceMul, Nat.reduceSub, Nat.reduceLT, Nat.reduceLeDiff, Nat.reduceEqDiff, Nat.add_assoc, Int.reduceAdd, Int.reduceSub, Int.reduceMul, Int.reduceLT, Int.reduceLE, Int.reduceEq, Int.reduceNeg, strOp_add, List.map_nil]
      refine CopyM_wp hx _ _ fun lv nb B m' c1 c2 c3 c4 c5 c6 => ?_
      have o1 := lstR_one c1.lst
      simp only [AV.one] at o1
      dsimp only at c1 c2 c3 c4 c5 c6
      have f2 := (c6 2 (by omega)).trans (upd_hit _ _ _)
      have hs : ∀ z : Blk, snapD ⟨upd m'.sto 2 z, m'.nid⟩ 2097150 lv = some (.slice 5 (l.map Dat.av)) := fun z =>
        snap_lstR (c1.keep (M' := ⟨upd m'.sto 2 z, m'.nid⟩) (Nat.le_refl _) fun w h1 h2 => upd_miss _ _ _ _ (by omega)).lst 2097148 fun w hw => by
          have := hgt_lt (k := k) (n := n) (t := t) (ns := ns) hw
          omega
      obtain ⟨g1, g2⟩ := c5
      have htn : List.take ns.length (ns.map AV.str) = ns.map AV.str := List.take_of_length_le (by simp)
      have hnb : ¬ nb = 2 := by omega
      simp +decide (disch := first | decide | omega) only [go_sem, Nat.reduceAdd, Nat.reduceMul, Nat.reduceSub, Nat.reduceLT, Nat.reduceLeDiff, Nat.reduceEqDiff, Nat.add_assoc, Int.reduceAdd, Int.reduceSub, Int.reduceMul, Int.reduceLT, Int.reduceLE, Int.reduceEq, Int.reduceNeg, strOp_add, f2, o1, hs, g1, g2, hnb, htn, snaps_strs, elems_strs, List.length_map, Nat.le_refl]
      exact ⟨.mk k n t l ns, true, by rw [Dat.av_mk], hx, by omega⟩
    obtain ⟨r, hr, y, b, rfl, h1, h2⟩ := key
    exact ⟨y, b, hr, h1, h2⟩
  | s :: p, d, x, hp, hd, hx, hh => by
    have key : Comes (fnA CC PR 15 [d.av, strsA (s :: p), x.av]) (fun r => ∃ (y : Dat) (b : Bool), r = .tup [y.av, .bool b] ∧ y.Sane ∧ hgt y ≤ hgt d + hgt x) := by
      have hd4 : d.kind = 4 → d.names.length = d.list.length := by
        obtain ⟨k, n, t, l, ns⟩ := d
        intro h4
        rw [hgt.eq_1 k n t l ns] at hh
        by_cases hc : ns.length = l.length
        · exact hc
        · rw [if_pos ⟨h4, hc⟩] at hh
          omega
      have hst := l11Step_ok d hd hd4 s
      have hIH : ∀ i, (hi : i < d.list.length) → ∃ (y : Dat) (b : Bool), fnA CC PR 15 [d.list[i].av, strsA p, x.av] = some (.tup [y.av, .bool b]) ∧ y.Sane ∧ hgt y ≤ hgt d.list[i] + hgt x := fun i hi => by
        have h1 : hgt d.list[i] < hgt d := by
          obtain ⟨k, n, t, l, ns⟩ := d
          exact hgt_lt (List.getElem_mem hi)
        exact Put_ok p d.list[i] x (by simp at hp; omega) (hd.elem (List.getElem_mem hi)) hx (by omega)
      obtain ⟨x1, x2, x3, x4, x5, hxc⟩ := cells_of x
      rw [hxc] at hIH ⊢
      obtain ⟨k, n, t, l, ns⟩ := d
      rw [Dat.av_mk] at hst ⊢
      have hz1 : ¬ (((p.length + 1 : Nat) : Int) = 0) := by omega
      have hz2 : (0 : Int) < ((p.length + 1 : Nat) : Int) := by omega
      have hz3 : (1 : Int) ≤ ((p.length + 1 : Nat) : Int) := by omega
      have htk : (p.map AV.str).take p.length = p.map AV.str := List.take_of_length_le (by simp)
      unfold strsA at hIH ⊢
      refine fnA_wp (rs := [.cell 6 26, .tmp 7]) Tryz.func15 rfl rfl (Nat.le_of_ble_eq_true rfl) rfl ?_
      simp +decide only [go_sem, Nat.reduceAdd, Nat.reduceMul, Nat.reduceSub, Nat.reduceLT, Nat.reduceLeDiff, Nat.reduceEqDiff, Nat.add_assoc, Int.reduceAdd, Int.reduceSub, Int.reduceMul, Int.reduceLT, Int.reduceLE, Int.reduceEq, Int.reduceNeg, strOp_add, List.map_cons, List.length_cons, List.length_map, hz1]
      refine CopyM_wp hd _ _ fun lv nb B m' c1 c2 c3 c4 c5 c6 => ?_
      have o1 := lstR_one c1.lst
      simp only [AV.one] at o1
      dsimp only at c1 c2 c3 c4 c5 c6
      have f0 := (c6 0 (by omega)).trans ((upd_miss _ _ _ _ (by omega)).trans ((upd_miss _ _ _ _ (by omega)).trans (upd_hit _ _ _)))
      have f1 := (c6 1 (by omega)).trans ((upd_miss _ _ _ _ (by omega)).trans (upd_hit _ _ _))
      have f2 := (c6 2 (by omega)).trans (upd_hit _ _ _)
      obtain ⟨g1, g2⟩ := c5
      have htn : List.take ns.length (ns.map AV.str) = ns.map AV.str := List.take_of_length_le (by simp)
      have hnb : ¬ nb = 2 := by omega
      have hsM : ∀ M : Mem, (∀ j, 18 ≤ j → j < m'.nid → M.sto j = m'.sto j) → snapD M 2097150 lv = some (.slice 5 (l.map Dat.av)) := fun M hM => by
        have h1 : snapD ⟨M.sto, m'.nid⟩ 2097150 lv = some (.slice 5 (l.map Dat.av)) := snap_lstR (c1.keep (M' := ⟨M.sto, m'.nid⟩) (Nat.le_refl _) hM).lst 2097148 fun w hw => by
          have := hgt_lt (k := k) (n := n) (t := t) (ns := ns) hw
          omega
        exact (snap_local (m := ⟨M.sto, m'.nid⟩) (m' := M) _ _ fun _ _ => rfl).trans h1
      have hs : ∀ (v w z : Blk) (N : Nat), snapD ⟨upd (upd (upd m'.sto m'.nid v) m'.nid w) 2 z, N⟩ 2097150 lv = some (.slice 5 (l.map Dat.av)) := fun v w z N => hsM _ fun j h1 h2 => by simp (disch := omega) only [upd_hit, upd_miss]
      have hnb2 : ¬ nb = m'.nid := by omega
      rcases hst with hst | ⟨i, hi, hst⟩
      · simp +decide (disch := first | decide | omega) only [go_sem, Nat.reduceAdd, Nat.reduceMul, Nat.reduceSub, Nat.reduceLT, Nat.reduceLeDiff, Nat.reduceEqDiff, Nat.add_assoc, Int.reduceAdd, Int.reduceSub, Int.reduceMul, Int.reduceLT, Int.reduceLE, Int.reduceEq, Int.reduceNeg, strOp_add, f0, f1, f2, o1]
        refine (d_plan (ord := [0, 1, 2, 3, 4, 5]) (prs := [(0, 3)]) (by kernel_rfl)).2 ?_
        simp +decide (disch := first | decide | omega) only [go_sem, Nat.reduceAdd, Nat.reduceMul, Nat.reduceSub, Nat.reduceLT, Nat.reduceLeDiff, Nat.reduceEqDiff, Nat.add_assoc, Int.reduceAdd, Int.reduceSub, Int.reduceMul, Int.reduceLT, Int.reduceLE, Int.reduceEq, Int.reduceNeg, strOp_add, f0, f1, f2, o1, hst, hz2, List.length_map]
        simp +decide (disch := first | decide | omega) only [go_sem, Nat.reduceAdd, Nat.reduceMul, Nat.reduceSub, Nat.reduceLT, Nat.reduceLeDiff, Nat.reduceEqDiff, Nat.add_assoc, Int.reduceAdd, Int.reduceSub, Int.reduceMul, Int.reduceLT, Int.reduceLE, Int.reduceEq, Int.reduceNeg, strOp_add, f0, f1, f2, o1, hs, g1, g2, hnb, hnb2, htn, snaps_strs, elems_strs, List.length_map, Nat.le_refl]
        exact ⟨.mk k n t l ns, false, by rw [Dat.av_mk], hd, by omega⟩
      · simp +decide (disch := first | decide | omega) only [go_sem, Nat.reduceAdd, Nat.reduceMul, Nat.reduceSub, Nat.reduceLT, Nat.reduceLeDiff, Nat.reduceEqDiff, Nat.add_assoc, Int.reduceAdd, Int.reduceSub, Int.reduceMul, Int.reduceLT, Int.reduceLE, Int.reduceEq, Int.reduceNeg, strOp_add, f0, f1, f2, o1]
        refine (d_plan (ord := [0, 1, 2, 3, 4, 5]) (prs := [(0, 3)]) (by kernel_rfl)).2 ?_
        have hlo : ¬ ((i : Int) < 0) := by omega
        have hi' : i < l.length := hi
        obtain ⟨y, b, hq, hy, hyh⟩ := hIH i hi
        obtain ⟨k2, n2, t2, l2, ns2, hcs⟩ := cells_of l[i]
        have ha := av_at hi'
        change fnA CC PR 15 [l[i].av, _, _] = _ at hq
        change hgt y ≤ hgt l[i] + _ at hyh
        obtain ⟨k3, n3, t3, l3, ns3, hcs3⟩ := cells_of y
        rw [hcs] at ha hq
        have hyp := datR_plain
        rw [hcs3] at hq
        simp +decide (disch := first | decide | omega) only [go_sem, Nat.reduceAdd, Nat.reduceMul, Nat.reduceSub, Nat.reduceLT, Nat.reduceLeDiff, Nat.reduceEqDiff, Nat.add_assoc, Int.reduceAdd, Int.reduceSub, Int.reduceMul, Int.reduceLT, Int.reduceLE, Int.reduceEq, Int.reduceNeg, strOp_add, f0, f1, f2, o1, hst, hz2, hlo, List.length_map]
        refine (d_plan (ord := [0, 1, 2, 3, 4, 5, 6, 7, 8, 9, 10, 11, 12, 13, 14]) (prs := [(1, 7), (4, 7), (1, 12), (4, 12), (7, 12), (8, 12)]) (by kernel_rfl)).2 ?_
        simp +decide (disch := first | decide | omega) only [go_sem, Nat.reduceAdd, Nat.reduceMul, Nat.reduceSub, Nat.reduceLT, Nat.reduceLeDiff, Nat.reduceEqDiff, Nat.add_assoc, Int.reduceAdd, Int.reduceSub, Int.reduceMul, Int.reduceLT, Int.reduceLE, Int.reduceEq, Int.reduceNeg, strOp_add, f0, f1, f2, o1, hst, hz2, hz3, hlo, hi', ha, hq, htk, List.length_map, Nat.min_self, List.take_succ_cons, List.drop_succ_cons, List.drop_zero]
        cases b
        · have hs2 : ∀ (v w v2 w2 z : Blk) (N : Nat), snapD ⟨upd (upd (upd (upd (upd m'.sto m'.nid v) m'.nid w) (m'.nid + 19) v2) (m'.nid + 19) w2) 2 z, N⟩ 2097150 lv = some (.slice 5 (l.map Dat.av)) := fun v w v2 w2 z N => hsM _ fun j h1 h2 => by simp (disch := omega) only [upd_hit, upd_miss]
          have hnb3 : ¬ nb = m'.nid + 19 := by omega
          simp +decide (disch := first | decide | omega) only [go_sem, Nat.reduceAdd, Nat.reduceMul, Nat.reduceSub, Nat.reduceLT, Nat.reduceLeDiff, Nat.reduceEqDiff, Nat.add_assoc, Int.reduceAdd, Int.reduceSub, Int.reduceMul, Int.reduceLT, Int.reduceLE, Int.reduceEq, Int.reduceNeg, strOp_add, f0, f1, f2, o1, hs2, g1, g2, hnb, hnb2, hnb3, htn, snaps_strs, elems_strs, List.length_map, Nat.le_refl]
          exact ⟨.mk k n t l ns, false, by rw [Dat.av_mk], hd, by omega⟩
        · have hl1 := c1.lst
          rcases c1 with ⟨h0, _, _⟩ | ⟨id, g, cs', B', ty, rfl, hl2, hcel, hni, rfl, hin⟩
          · subst h0
            cases hi'
          · have hidm : 18 ≤ id ∧ id < m'.nid := hin id (by simp)
            have hcl : i * 5 + 5 ≤ cs'.length := by rw [celR_len _ hcel]; omega
            have hset : ∀ z ∈ l.set i y, hgt z ≤ 1000 := fun z hz => by
              have h1 : hgt l[i] < hgt (.mk k n t l ns) := hgt_lt (List.getElem_mem hi')
              rcases List.mem_or_eq_of_mem_set hz with hz | rfl
              · have := hgt_lt (k := k) (n := n) (t := t) (ns := ns) hz
                omega
              · omega
            obtain ⟨C, hCe⟩ : ∃ C : List AV, C = cs'.take (i * 5) ++ [.int .i64 k3, .int .i64 n3, .str t3, .slice 5 l3, .slice 1 ns3] ++ cs'.drop (i * 5 + 5) := ⟨_, rfl⟩
            have hC3 : ∀ M : Mem, (∀ j, 18 ≤ j → j < m'.nid → j ≠ id → M.sto j = m'.sto j) → List.mapM (snapD M 2097149) C = some (datC (l.set i y)) := fun M hM => by
              have h1 : CelR M l cs' B' := hcel.same fun b hb => by
                rw [hM b (hin b (by simp [hb])).1 (hin b (by simp [hb])).2 fun e => hni (e ▸ hb)]
                exact ⟨rfl, rfl⟩
              have h2 := datR_plain M y
              rw [hcs3] at h2
              simp only [AV.cells] at h2
              obtain ⟨B3, h3⟩ := celR_set h2 l i hi' h1
              rw [← hCe] at h3
              exact celR_snap 2097149 (l.set i y) (fun x hx cs B h => snap_datR x _ (by have := hset x hx; omega) h) h3
            have hCl : C.length = l.length * 5 := by
              rw [celR_len _ hcel] at hcl
              rw [hCe]
              simp only [List.length_append, List.length_take, List.length_drop, List.length_cons, List.length_nil, celR_len _ hcel]
              omega
            have hel : elems 5 l.length (datC (l.set i y)) = (l.set i y).map Dat.av := by
              have := elems_datC (l.set i y)
              rwa [List.length_set] at this
            simp +decide (disch := first | decide | omega) only [go_sem, Nat.reduceAdd, Nat.reduceMul, Nat.reduceSub, Nat.reduceLT, Nat.reduceLeDiff, Nat.reduceEqDiff, Nat.add_assoc, Int.reduceAdd, Int.reduceSub, Int.reduceMul, Int.reduceLT, Int.reduceLE, Int.reduceEq, Int.reduceNeg, strOp_add, f0, f1, f2, hi', hl2, hcl, List.length_map]
            rw [← hCe, if_pos (by rw [hCl]; exact Nat.le_refl _), List.take_of_length_le (l := C) (by rw [hCl]; exact Nat.le_refl _), hC3 _ fun j h1 h2 h3 => by simp (disch := omega) only [upd_hit, upd_miss]]
            have hnb3 : ¬ nb = m'.nid + 19 := by omega
            simp +decide (disch := first | decide | omega) only [go_sem, Nat.reduceAdd, Nat.reduceMul, Nat.reduceSub, Nat.reduceLT, Nat.reduceLeDiff, Nat.reduceEqDiff, Nat.add_assoc, Int.reduceAdd, Int.reduceSub, Int.reduceMul, Int.reduceLT, Int.reduceLE, Int.reduceEq, Int.reduceNeg, strOp_add, g1, g2, hnb, hnb2, hnb3, htn, snaps_strs, elems_strs, List.length_map, Nat.le_refl, hel]
            refine ⟨.mk k n t (l.set i y) ns, true, by rw [Dat.av_mk], ?_, hgt_set hi' hyh⟩
            cases hd with
            | mk k n t l ns hk hn ht hl hns hss h =>
            refine .mk _ _ _ _ _ hk hn ht (by rw [List.length_set]; exact hl) hns hss (fun z hz => ?_)
            rcases List.mem_or_eq_of_mem_set hz with hz | rfl
            · exact h z hz
            · exact hy
    obtain ⟨r, hr, y, b, rfl, h1, h2⟩ := key
    exact ⟨y, b, hr, h1, h2⟩
end Go.Ev.Tryz
end
