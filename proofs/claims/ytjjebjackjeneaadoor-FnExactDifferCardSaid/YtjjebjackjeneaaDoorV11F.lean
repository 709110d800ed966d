/- Part of the proof of a statement about the given program: V11F. No condition of its own. -/
import Derived.Test.YtjjebjackjeneaaDoorV8F
import Derived.Test.YtjjebjackjeneaaDoorP3aF
namespace Go.Ev.Tryd
open Go.Proofs
set_option maxRecDepth 10000
set_option linter.unusedSimpArgs false
set_option linter.unusedVariables false
attribute [local congr] comes_congr bB_congr gK_congr gdK_congr

/-- Texts in a block of their own. -/
def OArr (M : Mem) (ns : List ByteArray) (v : AV) (B : List Nat) : Prop := ∃ id g app ty, v = .arr id g 0 ns.length 1 app ∧ M.sto id = ⟨ns.map AV.str, g, false, ty⟩ ∧ B = [id]
theorem OArr.str {M : Mem} {ns : List ByteArray} {v : AV} {B : List Nat} (h : OArr M ns v B) : OStr M ns v B := .inr h
theorem OArr.keep {M M' : Mem} {ns : List ByteArray} {v : AV} {B : List Nat} (h : OArr M ns v B) (e : ∀ b ∈ B, M'.sto b = M.sto b) : OArr M' ns v B := by
  obtain ⟨id, g, app, ty, h1, h2, rfl⟩ := h
  exact ⟨id, g, app, ty, h1, by rw [e id (by simp)]; exact h2, rfl⟩
/-- Paths, each in a block of its own. -/
def OPc (M : Mem) : List (List ByteArray) → List AV → List Nat → Prop
  | [], cs, B => cs = [] ∧ B = []
  | p :: ps, cs, B => ∃ v B1 cs' B2, cs = v :: cs' ∧ B = B1 ++ B2 ∧ OArr M p v B1 ∧ OPc M ps cs' B2
def OPs (M : Mem) (ps : List (List ByteArray)) (v : AV) (B : List Nat) : Prop :=
  (ps = [] ∧ v = .nils 1 ∧ B = []) ∨ ∃ id g app ty cs B', v = .arr id g 0 ps.length 1 app ∧ M.sto id = ⟨cs, g, false, ty⟩ ∧ OPc M ps cs B' ∧ B = id :: B'
theorem opc_nil {M : Mem} {cs : List AV} {B : List Nat} : OPc M [] cs B ↔ cs = [] ∧ B = [] := by rw [OPc]
theorem opc_cons {M : Mem} {p : List ByteArray} {ps : List (List ByteArray)} {cs : List AV} {B : List Nat} : OPc M (p :: ps) cs B ↔ ∃ v B1 cs' B2, cs = v :: cs' ∧ B = B1 ++ B2 ∧ OArr M p v B1 ∧ OPc M ps cs' B2 := by rw [OPc]
theorem opc_app {M : Mem} : ∀ (a b : List (List ByteArray)) {cs : List AV} {B : List Nat}, OPc M (a ++ b) cs B ↔ ∃ c1 B1 c2 B2, cs = c1 ++ c2 ∧ B = B1 ++ B2 ∧ OPc M a c1 B1 ∧ OPc M b c2 B2
  | [], b, cs, B => by
    constructor
    · intro h; exact ⟨[], [], cs, B, rfl, rfl, opc_nil.2 ⟨rfl, rfl⟩, h⟩
    · rintro ⟨c1, B1, c2, B2, rfl, rfl, h1, h2⟩
      obtain ⟨rfl, rfl⟩ := opc_nil.1 h1
      exact h2
  | d :: a, b, cs, B => by
    rw [List.cons_append, opc_cons]
    constructor
    · rintro ⟨v, B1, c2, B2, rfl, rfl, h1, h2⟩
      obtain ⟨c3, B3, c4, B4, rfl, rfl, h3, h4⟩ := (opc_app a b).1 h2
      exact ⟨v :: c3, B1 ++ B3, c4, B4, by simp, by simp, opc_cons.2 ⟨v, B1, c3, B3, rfl, rfl, h1, h3⟩, h4⟩
    · rintro ⟨c1, B1, c2, B2, rfl, rfl, h1, h2⟩
      obtain ⟨v, B3, c4, B4, rfl, rfl, h3, h4⟩ := opc_cons.1 h1
      exact ⟨v, B3, c4 ++ c2, B4 ++ B2, by simp, by simp, h3, (opc_app a b).2 ⟨c4, B4, c2, B2, rfl, rfl, h4, h2⟩⟩
theorem OPc.keep {M M' : Mem} : ∀ (l : List (List ByteArray)) {cs : List AV} {B : List Nat}, OPc M l cs B → (∀ b ∈ B, M'.sto b = M.sto b) → OPc M' l cs B
  | [], cs, B, h, _ => opc_nil.2 (opc_nil.1 h)
  | d :: l, cs, B, h, e => by
    obtain ⟨v, B1, c2, B2, rfl, rfl, h1, h2⟩ := opc_cons.1 h
    exact opc_cons.2 ⟨v, B1, c2, B2, rfl, rfl, h1.keep fun b hb => e b (List.mem_append_left _ hb), OPc.keep l h2 fun b hb => e b (List.mem_append_right _ hb)⟩
theorem OPs.keep {M M' : Mem} {ps : List (List ByteArray)} {v : AV} {B : List Nat} (h : OPs M ps v B) (e : ∀ b ∈ B, M'.sto b = M.sto b) : OPs M' ps v B := by
  rcases h with h2 | ⟨id, g, app, ty, cs', B', q1, q2, q3, rfl⟩
  · exact .inl h2
  · exact .inr ⟨id, g, app, ty, cs', B', q1, by rw [e id (by simp)]; exact q2, q3.keep _ fun b hb => e b (by simp [hb]), rfl⟩
theorem opc_len {M : Mem} : ∀ (l : List (List ByteArray)) {cs : List AV} {B : List Nat}, OPc M l cs B → cs.length = l.length
  | [], cs, B, h => by obtain ⟨rfl, _⟩ := opc_nil.1 h; rfl
  | d :: l, cs, B, h => by
    obtain ⟨v, B1, c2, B2, rfl, rfl, h1, h2⟩ := opc_cons.1 h
    rw [List.length_cons, List.length_cons, opc_len l h2]
theorem opc_one {M : Mem} {p : List ByteArray} {v : AV} {B : List Nat} (h : OArr M p v B) : OPc M [p] [v] B := opc_cons.2 ⟨v, B, [], [], rfl, by simp, h, opc_nil.2 ⟨rfl, rfl⟩⟩
/-- One path of them. -/
theorem OPc.at {M : Mem} {l : List (List ByteArray)} {cs : List AV} {B : List Nat} (h : OPc M l cs B) {i : Nat} (hi : i < l.length) : ∃ v r Bi, cs.drop i = v :: r ∧ OArr M l[i] v Bi ∧ Bi.Sublist B := by
  rw [← List.take_append_drop i l, List.drop_eq_getElem_cons hi] at h
  obtain ⟨c1, B1, c2, B2, rfl, rfl, h1, h2⟩ := (opc_app _ _).1 h
  obtain ⟨v, B3, c4, B4, rfl, rfl, h3, h4⟩ := opc_cons.1 h2
  have hal : c1.length = i := by rw [opc_len _ h1, List.length_take, Nat.min_eq_left (by omega)]
  exact ⟨v, c4, B3, by rw [← hal, List.drop_left], h3, (List.sublist_append_left _ _).trans (List.sublist_append_right _ _)⟩
theorem opc_snap {M : Mem} (q : Nat) : ∀ (l : List (List ByteArray)) {cs : List AV} {B : List Nat}, OPc M l cs B → cs.mapM (snapD M (q + 2)) = some (l.map strsA)
  | [], cs, B, h => by obtain ⟨rfl, _⟩ := opc_nil.1 h; rfl
  | d :: l, cs, B, h => by
    obtain ⟨v, B1, c2, B2, rfl, rfl, h1, h2⟩ := opc_cons.1 h
    rw [List.mapM_cons, snap_strR h1.str.str q, opc_snap q l h2]
    rfl
theorem snap_ps {M : Mem} {ps : List (List ByteArray)} {v : AV} {B : List Nat} (h : OPs M ps v B) (q : Nat) : snapD M (q + 3) v = some (pathsA ps) := by
  rcases h with ⟨rfl, rfl, _⟩ | ⟨id, g, app, ty, cs, B', rfl, h2, h3, rfl⟩
  · rfl
  · have hs := opc_snap q ps h3
    have hl := opc_len ps h3
    simp only [snapD, h2, List.drop_zero, true_and, Nat.mul_one]
    rw [if_pos (by omega), List.take_of_length_le (by omega), hs]
    simp only [Option.map_some, pathsA]
    rw [elems_paths]
theorem OPs.one {M : Mem} {ps : List (List ByteArray)} {v : AV} {B : List Nat} (h : OPs M ps v B) : v.one = true ∧ v.loud = false := by
  rcases h with ⟨rfl, rfl, _⟩ | ⟨id, g, app, ty, cs, B', rfl, h2, h3, rfl⟩ <;> exact ⟨rfl, rfl⟩

set_option maxHeartbeats 2000000 in
theorem Concat_wp (q : ByteArray) (p : List ByteArray) (hp : p.length ≤ 1000000) (v1 v2 : AV) (B1 B2 : List Nat) (id g : Nat) (app : Bool) (ty : Option (TypeId × Bool)) (m : Mem) (hs : m.sto id = ⟨[v1, v2], g, false, ty⟩) (hid : id < m.nid) (h1 : OArr m [q] v1 B1) (h2 : OArr m p v2 B2) (hB1 : ∀ b ∈ B1, b < m.nid) (hB2 : ∀ b ∈ B2, b < m.nid) (Q : AV × Mem → Prop)
    (hQ : ∀ v m' B, OArr m' (q :: p) v B → Own m.nid m'.nid B → m.nid ≤ m'.nid → (∀ j, j < m.nid → m'.sto j = m.sto j) → v.one = true → Q (v, m')) :
    Comes (fnI CC PR 70 [.arr id g 0 2 1 app] m) Q := by
  obtain ⟨i1, g1, app1, ty1, rfl, s1, rfl⟩ := h1
  obtain ⟨i2, g2, app2, ty2, rfl, s2, rfl⟩ := h2
  have hi1 := hB1 i1 (by simp)
  have hi2 := hB2 i2 (by simp)
  simp only [List.length_cons, List.length_nil, Nat.zero_add, List.map_cons, List.map_nil] at s1 hs
  refine fnI_wp (rs := [.tmp 2]) Tryd.func70 rfl rfl (Nat.le_of_ble_eq_true rfl) rfl rfl ?_
  simp +decide only [go_sem, Nat.reduceAdd, Nat.reduceMul, Nat.reduceSub, Nat.reduceLT, Nat.reduceLeDiff, Nat.reduceEqDiff, Nat.add_assoc, Int.reduceAdd, Int.reduceSub, Int.reduceMul, Int.reduceLT, Int.reduceLE, Int.reduceEq, Int.reduceNeg, strOp_add]
  refine comes_upto 2 (fun i st => st.env 0 = .arr id g 0 2 1 app ∧ st.env 3 = .int .i64 ((pre2 q p i).length : Nat) ∧ st.env 9 = .arr id g 0 2 1 app ∧ st.env 10 = .int .i64 2 ∧ st.env 11 = .int .i64 i ∧ st.sto = m.sto ∧ st.nid = m.nid) ?_ ?_ _ ?_
  · rintro i st hi ⟨e0, e3, e9, e10, e11, es, en⟩
    match i, hi with
    | 0, _ =>
      simp only [pre2, List.length_nil] at e3
      simp +decide only [go_sem, Nat.reduceAdd, Nat.reduceMul, Nat.reduceSub, Nat.reduceLT, Nat.reduceLeDiff, Nat.reduceEqDiff, Nat.add_assoc, Int.reduceAdd, Int.reduceSub, Int.reduceMul, Int.reduceLT, Int.reduceLE, Int.reduceEq, Int.reduceNeg, strOp_add, e0, e3, e9, e10, e11, es, en, hs, s1]
      exact ⟨rfl, rfl⟩
    | 1, _ =>
      simp only [pre2, List.length_cons, List.length_nil, Nat.zero_add] at e3
      have w1 : IntKind.wrap .i64 (((1 : Nat) : Int) + (p.length : Int)) = ((p.length + 1 : Nat) : Int) := by rw [wrap_id (by omega) (by omega)]; omega
      have k1 : (((p.length + 1 : Nat) : Int) < 0) = False := eq_false (by omega)
      simp +decide only [go_sem, Nat.reduceAdd, Nat.reduceMul, Nat.reduceSub, Nat.reduceLT, Nat.reduceLeDiff, Nat.reduceEqDiff, Nat.add_assoc, Int.reduceAdd, Int.reduceSub, Int.reduceMul, Int.reduceLT, Int.reduceLE, Int.reduceEq, Int.reduceNeg, strOp_add, e0, e3, e9, e10, e11, es, en, hs, s2, w1, k1, List.length_map]
      exact ⟨rfl, rfl⟩
  · rintro st ⟨e0, e3, e9, e10, e11, es, en⟩
    simp only [pre2, List.length_cons] at e3
    simp +decide only [go_sem, Nat.reduceAdd, Nat.reduceMul, Nat.reduceSub, Nat.reduceLT, Nat.reduceLeDiff, Nat.reduceEqDiff, Nat.add_assoc, Int.reduceAdd, Int.reduceSub, Int.reduceMul, Int.reduceLT, Int.reduceLE, Int.reduceEq, Int.reduceNeg, strOp_add, e0, e3, e9, e10, e11, es, en, hs, growS_eq (show 0 < ((p.length + 1 : Nat) : Int) by omega) (by omega)]
    refine comes_upto 2 (fun i st => st.env 25 = .arr id g 0 2 1 app ∧ st.env 26 = .int .i64 2 ∧ st.env 27 = .int .i64 i ∧ m.nid + 1 ≤ st.nid ∧ (∀ j, j < m.nid → st.sto j = m.sto j) ∧ ∃ g, st.env 6 = .arr m.nid g 0 (pre2 q p i).length 1 true ∧ ∃ ty, st.sto m.nid = ⟨(pre2 q p i).map AV.str, g, false, ty⟩) ?_ ?_ _ ?_
    · rintro i st hi ⟨e25, e26, e27, en, hfr, g', e6, ty', s0⟩
      have hs' := (hfr id hid).trans hs
      have s1' := (hfr i1 hi1).trans s1
      have s2' := (hfr i2 hi2).trans s2
      have n1 : ¬ i1 = st.nid := by omega
      have n2 : ¬ i2 = st.nid := by omega
      have n3 : ¬ i1 = m.nid := by omega
      have n4 : ¬ i2 = m.nid := by omega
      have n5 : ¬ id = m.nid := by omega
      match i, hi with
      | 0, _ =>
        simp only [pre2, List.length_nil, List.map_nil] at e6 s0
        have hm : 1 ≤ most := by decide
        simp +decide only [go_sem, Nat.reduceAdd, Nat.reduceMul, Nat.reduceSub, Nat.reduceLT, Nat.reduceLeDiff, Nat.reduceEqDiff, Nat.add_assoc, Int.reduceAdd, Int.reduceSub, Int.reduceMul, Int.reduceLT, Int.reduceLE, Int.reduceEq, Int.reduceNeg, strOp_add, e25, e26, e27, e6, s0, hs', s1', hm, n1, n3, n5]
        refine ⟨rfl, en, fun j hj => ?_, g' + 1, rfl, _, rfl⟩
        simp (disch := omega) only [upd_hit, upd_miss]
        exact hfr j hj
      | 1, _ =>
        simp only [pre2, List.length_cons, List.length_nil, List.map_cons, List.map_nil, Nat.zero_add] at e6 s0
        have hm : 1 + p.length ≤ most := by simp only [most]; omega
        have htk : (p.map AV.str).take p.length = p.map AV.str := List.take_of_length_le (by simp)
        simp +decide only [go_sem, Nat.reduceAdd, Nat.reduceMul, Nat.reduceSub, Nat.reduceLT, Nat.reduceLeDiff, Nat.reduceEqDiff, Nat.add_assoc, Int.reduceAdd, Int.reduceSub, Int.reduceMul, Int.reduceLT, Int.reduceLE, Int.reduceEq, Int.reduceNeg, strOp_add, e25, e26, e27, e6, s0, hs', s2', hm, n2, n4, n5, htk, List.length_map, Nat.le_refl]
        refine ⟨rfl, en, fun j hj => ?_, g' + 1, ?_, _, rfl⟩
        · simp (disch := omega) only [upd_hit, upd_miss]
          exact hfr j hj
        · simp only [pre2, List.length_cons, Nat.add_comm]
    · rintro st ⟨e25, e26, e27, en, hfr, g', e6, ty', s0⟩
      simp only [pre2] at e6 s0
      simp +decide only [go_sem, Nat.reduceAdd, Nat.reduceMul, Nat.reduceSub, Nat.reduceLT, Nat.reduceLeDiff, Nat.reduceEqDiff, Nat.add_assoc, Int.reduceAdd, Int.reduceSub, Int.reduceMul, Int.reduceLT, Int.reduceLE, Int.reduceEq, Int.reduceNeg, strOp_add, e25, e26, e27, e6, s0, List.length_map]
      have en' : m.nid < st.nid := en
      exact hQ _ _ [m.nid] ⟨m.nid, g', true, ty', rfl, s0, rfl⟩ ⟨by simp, by simp; exact en'⟩ (Nat.le_of_lt en') hfr rfl
    · simp +decide only [go_sem, Nat.reduceAdd, Nat.reduceMul, Nat.reduceSub, Nat.reduceLT, Nat.reduceLeDiff, Nat.reduceEqDiff, Nat.add_assoc, Int.reduceAdd, Int.reduceSub, Int.reduceMul, Int.reduceLT, Int.reduceLE, Int.reduceEq, Int.reduceNeg, strOp_add]
      refine ⟨rfl, rfl, Nat.le_refl _, fun j hj => ?_, 0, rfl, _, rfl⟩
      simp (disch := omega) only [upd_hit, upd_miss]
  · simp +decide only [go_sem, Nat.reduceAdd, Nat.reduceMul, Nat.reduceSub, Nat.reduceLT, Nat.reduceLeDiff, Nat.reduceEqDiff, Nat.add_assoc, Int.reduceAdd, Int.reduceSub, Int.reduceMul, Int.reduceLT, Int.reduceLE, Int.reduceEq, Int.reduceNeg, strOp_add]
    exact ⟨rfl, rfl, rfl⟩
end Go.Ev.Tryd
