/- Part of the proof of a statement about the given program: R2ZD. No condition of its own. -/
import Derived.Test.YtmnpcdchlobdlaaGreatDoorR1ZD
namespace Go.Ev.Tryz
open Go.Proofs
set_option maxRecDepth 10000
set_option linter.unusedSimpArgs false
set_option linter.unusedVariables false
attribute [local congr] comes_congr bB_congr gK_congr gdK_congr

/-- A field of a struct. -/
structure Dcl where
  name : ByteArray
  ord : Int
  base : ByteArray
  list : Bool
  choice : Bool
  els : Int
def Dcl.cells (d : Dcl) : List AV := [.str d.name, .int .i64 d.ord, .str d.base, .bool d.list, .bool d.choice, .int .i64 d.els]
def Dcl.av (d : Dcl) : AV := .agg d.cells
def dclC (l : List Dcl) : List AV := (l.map Dcl.cells).flatten
theorem dclC_len (l : List Dcl) : (dclC l).length = l.length * 6 := by
  induction l with
  | nil => rfl
  | cons d l ih =>
    simp only [dclC, List.map_cons, List.flatten_cons, List.length_append, List.length_cons] at ih ⊢
    rw [ih]
    simp only [Dcl.cells, List.length_cons, List.length_nil]
    omega
theorem dclC_app (a b : List Dcl) : dclC (a ++ b) = dclC a ++ dclC b := by simp [dclC]
theorem dclC_one (d : Dcl) : dclC [d] = d.cells := by simp [dclC]
theorem RdAt.mono {m : Mem} {id : Nat} {bs : List Int} {P P' : Nat} (h : RdAt m id bs P) (hp : P ≤ P') : RdAt m id bs P' := by
  obtain ⟨h1, p, h2, h3⟩ := h
  exact ⟨h1, p, by omega, h3⟩
theorem RdAt.keep {m : Mem} {id : Nat} {bs : List Int} {P : Nat} (h : RdAt m id bs P) {sto : Nat → Blk} {n : Nat} (hs : sto id = m.sto id) (hn : m.nid ≤ n) : RdAt ⟨sto, n⟩ id bs P := by
  obtain ⟨h1, p, h2, h3⟩ := h
  exact ⟨Nat.lt_of_lt_of_le h1 hn, p, h2, hs.trans h3⟩
def smallI (x : Int) : Prop := -1000000 ≤ x ∧ x ≤ 1000000
/-- A field as they are drawn. -/
def Dcl.Ok (bases : List ByteArray) (d : Dcl) : Prop := d.name.size ≤ 30 ∧ d.base ∈ bases ∧ smallI d.els ∧ smallI d.ord
theorem Turn_eq (x y : Dcl) : fnA CC PR 80 [.agg [.str x.name, .int .i64 x.ord, .str x.base, .bool x.list, .bool x.choice, .int .i64 x.els], .agg [.str y.name, .int .i64 y.ord, .str y.base, .bool y.list, .bool y.choice, .int .i64 y.els]] = some (.tup [.agg [.str y.name, .int .i64 y.ord, .str y.base, .bool y.list, .bool y.choice, .int .i64 y.els], .agg [.str x.name, .int .i64 x.ord, .str x.base, .bool x.list, .bool x.choice, .int .i64 x.els]]) := by
  apply comes_eq.1
  refine fnA_wp (rs := [.cell 4 68, .cell 5 68]) Tryz.func80 rfl rfl (Nat.le_of_ble_eq_true rfl) rfl ?_
  simp +decide only [go_sem, Nat.reduceAdd, Nat.reduceMul, Nat.reduceSub, Nat.reduceLT, Nat.reduceLeDiff, Nat.reduceEqDiff, Nat.add_assoc, Int.reduceAdd, Int.reduceSub, Int.reduceMul, Int.reduceLT, Int.reduceLE, Int.reduceEq, Int.reduceNeg, strOp_add]
  refine (d_plan (ord := [0, 1, 2, 3]) (prs := [(0, 1), (1, 2)]) (by kernel_rfl)).2 ?_
  simp +decide only [go_sem, Nat.reduceAdd, Nat.reduceMul, Nat.reduceSub, Nat.reduceLT, Nat.reduceLeDiff, Nat.reduceEqDiff, Nat.add_assoc, Int.reduceAdd, Int.reduceSub, Int.reduceMul, Int.reduceLT, Int.reduceLE, Int.reduceEq, Int.reduceNeg, strOp_add]
/-- What stands while fields are drawn: m is the memory before. -/
def DeclI (bases : List ByteArray) (m : Mem) (id : Nat) (bs : List Int) (P lid : Nat) (blk : Blk) (i : Nat) (m5 : Mem) (v : AV) : Prop :=
  RdAt m5 id bs (P + 1 + 5 * i) ∧ Fr m m5 id ∧ m.nid < m5.nid ∧ m5.sto lid = blk ∧ ∃ (l : List Dcl) (g' : Nat), l.length = i ∧ v = .arr m.nid g' 0 i 6 true ∧ (∃ ty', m5.sto m.nid = ⟨dclC l, g', false, ty'⟩) ∧ (∀ d ∈ l, d.Ok bases) ∧ (∀ o : Nat, o < i → ∃ d ∈ l, d.ord = o)
set_option maxHeartbeats 4000000 in
theorem Decls_wp (bases : List ByteArray) (m : Mem) (id : Nat) (bs : List Int) (P : Nat) (lid g : Nat) (app fz : Bool) (ty : Option (TypeId × Bool)) (hl : m.sto lid = ⟨bases.map AV.str, g, fz, ty⟩) (hlid : lid < m.nid) (hne : lid ≠ id) (h : RdAt m id bs P) (hb : Bytes bs) (hP : P ≤ 100000000000000) (hn1 : 1 ≤ bases.length) (hn2 : bases.length ≤ 1000) (Q : AV × Mem → Prop)
    (hQ : ∀ (l : List Dcl) (g' : Nat) m', 1 ≤ l.length → l.length ≤ 5 → (∀ d ∈ l, d.Ok bases) → (∀ o : Nat, o < l.length → ∃ d ∈ l, d.ord = o) → RdAt m' id bs (P + 40) → Fr m m' id → m.nid < m'.nid → (∃ ty', m'.sto m.nid = ⟨dclC l, g', false, ty'⟩) → Q (.arr m.nid g' 0 l.length 6 true, m')) :
    Comes (fnI CC PR 57 [.ptr id 0 0, .arr lid g 0 bases.length 1 app] m) Q := by
  refine fnI_wp (rs := [.tmp 4]) Tryz.func57 rfl rfl (Nat.le_of_ble_eq_true rfl) rfl rfl ?_
  have hid := h.1
  simp +decide only [go_sem, Nat.reduceAdd, Nat.reduceMul, Nat.reduceSub, Nat.reduceLT, Nat.reduceLeDiff, Nat.reduceEqDiff, Nat.add_assoc, Int.reduceAdd, Int.reduceSub, Int.reduceMul, Int.reduceLT, Int.reduceLE, Int.reduceEq, Int.reduceNeg, strOp_add]
  refine pick_wp 5 _ id bs P ⟨by show id < m.nid + 1; omega, ?_⟩ hb (by omega) (by omega) (by omega) _ fun N m1 hN h1 h2 => ?_
  · obtain ⟨p, hp, hs⟩ := h.2
    exact ⟨p, hp, (upd_miss _ _ _ _ (by omega)).trans hs⟩
  have w1 : IntKind.wrap .i64 (1 + (N : Int)) = ((N + 1 : Nat) : Int) := by rw [wrap_id (by omega) (by omega)]; omega
  have f0 := h2.1
  have f1 : m1.sto m.nid = ⟨[], 0, false, none⟩ := (h2.2 m.nid (Nat.lt_succ_self _) (by omega)).trans (upd_hit _ _ _)
  have f2 : m1.sto lid = ⟨bases.map AV.str, g, fz, ty⟩ := (h2.2 lid (Nat.lt_succ_of_lt hlid) hne).trans ((upd_miss _ _ _ _ (by omega)).trans hl)
  have f3 : Fr m m1 id := ⟨by have : m.nid + 1 ≤ m1.nid := f0; omega, fun j hj hn => (h2.2 j (Nat.lt_succ_of_lt hj) hn).trans (upd_miss _ _ _ _ (by omega))⟩
  have f4 : m.nid < m1.nid := f0
  clear h2 f0
  simp +decide only [go_sem, Nat.reduceAdd, Nat.reduceMul, Nat.reduceSub, Nat.reduceLT, Nat.reduceLeDiff, Nat.reduceEqDiff, Nat.add_assoc, Int.reduceAdd, Int.reduceSub, Int.reduceMul, Int.reduceLT, Int.reduceLE, Int.reduceEq, Int.reduceNeg, strOp_add, w1]
  refine comes_upto (N + 1) (fun i st => st.env 0 = .ptr id 0 0 ∧ st.env 1 = .arr lid g 0 bases.length 1 app ∧ st.env 6 = .int .i64 (((N + 1 : Nat) : Int) - i) ∧ DeclI bases m id bs P lid ⟨bases.map AV.str, g, fz, ty⟩ i st.toMem (st.env 5)) ?_ ?_ _ ?_
  · rintro i st hi ⟨e0, e1, e6, hR, hF, hn, hL, l, g', hli, e5, ⟨ty', hs⟩, hok, hord⟩
    have hpos : (0 : Int) < ((N + 1 : Nat) : Int) - i := by omega
    have w2 : IntKind.wrap .i64 ((((N + 1 : Nat) : Int) - i) - 1) = ((N + 1 : Nat) : Int) - ((i + 1 : Nat) : Int) := by rw [wrap_id (by omega) (by omega)]; omega
    have hds := dec_size i (by omega) (by omega)
    have z1 : ((dec (i : Nat)).size ≤ 9223372036854775806) = True := eq_true (by omega)
    have z2 : (1 + (dec (i : Nat)).size ≤ 9223372036854775807) = True := eq_true (by omega)
    simp +decide only [go_sem, Nat.reduceAdd, Nat.reduceMul, Nat.reduceSub, Nat.reduceLT, Nat.reduceLeDiff, Nat.reduceEqDiff, Nat.add_assoc, Int.reduceAdd, Int.reduceSub, Int.reduceMul, Int.reduceLT, Int.reduceLE, Int.reduceEq, Int.reduceNeg, strOp_add, e0, e1, e5, e6, hpos, l1Dec_nat i (by omega), z1, z2]
    refine ofA_wp bases _ id bs (P + 1 + 5 * i) lid g app fz ty hL (by show lid < st.nid; omega) hne hR hb (by omega) hn1 (by omega) _ fun base m2 hbase k1 k2 => ?_
    simp +decide only [go_sem, Nat.reduceAdd, Nat.reduceMul, Nat.reduceSub, Nat.reduceLT, Nat.reduceLeDiff, Nat.reduceEqDiff, Nat.add_assoc, Int.reduceAdd, Int.reduceSub, Int.reduceMul, Int.reduceLT, Int.reduceLE, Int.reduceEq, Int.reduceNeg, strOp_add, e0, e1, e5, e6]
    refine pick_wp 4 _ id bs _ k1 hb (by omega) (by omega) (by omega) _ fun a m3 ha k3 k4 => ?_
    simp +decide only [go_sem, Nat.reduceAdd, Nat.reduceMul, Nat.reduceSub, Nat.reduceLT, Nat.reduceLeDiff, Nat.reduceEqDiff, Nat.add_assoc, Int.reduceAdd, Int.reduceSub, Int.reduceMul, Int.reduceLT, Int.reduceLE, Int.reduceEq, Int.reduceNeg, strOp_add, e0, e1, e5, e6]
    refine pick_wp 4 _ id bs _ k3 hb (by omega) (by omega) (by omega) _ fun b m4 hb4 k5 k6 => ?_
    have q1 := k2.trans (k4.trans k6)
    have hs4 : m4.sto m.nid = ⟨dclC l, g', false, ty'⟩ := (q1.2 m.nid hn (by omega)).trans hs
    have hL4 : m4.sto lid = ⟨bases.map AV.str, g, fz, ty⟩ := (q1.2 lid (by show lid < st.nid; omega) hne).trans hL
    have hn4 : m.nid < m4.nid := Nat.lt_of_lt_of_le hn q1.1
    have hF4 : Fr m m4 id := hF.trans q1
    clear q1 k2 k4 k6 k1 k3 hR hs hL hn hF
    have hm4 : ¬ m.nid = m4.nid := by omega
    have hi4 : ¬ id = m4.nid := by have := k5.1; omega
    have hl4 : ¬ lid = m4.nid := by omega
    have hc1 : i * 6 = (dclC l).length := by rw [dclC_len, hli]
    have hc2 : i + 1 ≤ most := by simp only [most]; omega
    have leaf : ∀ (sto5 : Nat → Blk) (n5 : Nat) (els : Int) (la lb : Bool), m4.nid ≤ n5 → (∀ j, j < m4.nid → j ≠ id → j ≠ m.nid → sto5 j = m4.sto j) → RdAt ⟨sto5, n5⟩ id bs (P + 1 + 5 * i + 5) → (∃ ty', sto5 m.nid = ⟨dclC l ++ [.str (⟨#[102]⟩ ++ dec (i : Nat)), .int .i64 i, .str base, .bool la, .bool lb, .int .i64 els], g' + 1, false, ty'⟩) → smallI els →
        DeclI bases m id bs P lid ⟨bases.map AV.str, g, fz, ty⟩ (i + 1) ⟨sto5, n5⟩ (.arr m.nid (g' + 1) 0 (i + 1) 6 true) := by
      intro sto5 n5 els la lb r0 r1 r2 r5 he
      refine ⟨r2.mono (by omega), ⟨Nat.le_trans hF4.1 r0, fun j hj hn => ?_⟩, by show m.nid < n5; omega, ?_, l ++ [⟨⟨#[102]⟩ ++ dec (i : Nat), i, base, la, lb, els⟩], g' + 1, by simp [hli], rfl, ?_, fun d hd => ?_, fun o ho => ?_⟩
      · exact (r1 j (by omega) hn (by omega)).trans (hF4.2 j hj hn)
      · exact (r1 lid (by omega) hne (by omega)).trans hL4
      · rw [dclC_app, dclC_one]
        exact r5
      · rcases List.mem_append.1 hd with h | h
        · exact hok d h
        · rw [List.mem_singleton.1 h]
          refine ⟨?_, hbase, he, ?_⟩
          · show (⟨#[102]⟩ ++ dec (i : Nat) : ByteArray).size ≤ 30
            rw [size_app]
            show 1 + _ ≤ 30
            omega
          · show smallI (i : Int)
            unfold smallI
            omega
      · rcases Nat.lt_or_ge o i with h | h
        · obtain ⟨d, hd, e⟩ := hord o h
          exact ⟨d, List.mem_append_left _ hd, e⟩
        · have : o = i := by omega
          subst this
          exact ⟨_, List.mem_append_right _ (List.mem_singleton.2 rfl), rfl⟩
    have k50 := k5.1
    simp +decide (disch := first | decide | omega) only [go_sem, Nat.reduceAdd, Nat.reduceMul, Nat.reduceSub, Nat.reduceLT, Nat.reduceLeDiff, Nat.reduceEqDiff, Nat.add_assoc, Int.reduceAdd, Int.reduceSub, Int.reduceMul, Int.reduceLT, Int.reduceLE, Int.reduceEq, Int.reduceNeg, strOp_add, e0, e1, e5, e6, hs4, hL4, hm4]
    refine bB_split (fun hB => ?_) (fun hB => ?_)
    · have hB' : decide ((a : Int) = 0) = true := hB
      simp only [decide_eq_true_eq] at hB
      simp +decide (disch := first | decide | omega) only [go_sem, Nat.reduceAdd, Nat.reduceMul, Nat.reduceSub, Nat.reduceLT, Nat.reduceLeDiff, Nat.reduceEqDiff, Nat.add_assoc, Int.reduceAdd, Int.reduceSub, Int.reduceMul, Int.reduceLT, Int.reduceLE, Int.reduceEq, Int.reduceNeg, strOp_add, e0, e1, e5, e6, hs4, hL4, hm4, hB', hc1, hc2, w2]
      refine leaf _ _ 0 _ _ ?_ (fun j h1 h2 h3 => ?_) (RdAt.mono (RdAt.keep k5 ?_ ?_) ?_) ⟨_, upd_hit _ _ _⟩ ?_
      · omega
      · repeat rw [upd_miss _ _ _ _ (by omega)]
      · repeat rw [upd_miss _ _ _ _ (by omega)]
      · omega
      · omega
      · unfold smallI; omega
    · have hB' : decide ((a : Int) = 0) = false := hB
      simp only [decide_eq_false_iff_not] at hB
      simp +decide (disch := first | decide | omega) only [go_sem, Nat.reduceAdd, Nat.reduceMul, Nat.reduceSub, Nat.reduceLT, Nat.reduceLeDiff, Nat.reduceEqDiff, Nat.add_assoc, Int.reduceAdd, Int.reduceSub, Int.reduceMul, Int.reduceLT, Int.reduceLE, Int.reduceEq, Int.reduceNeg, strOp_add, e0, e1, e5, e6, hs4, hL4, hm4, hB', hc1, hc2, w2]
      refine bB_split (fun hC => ?_) (fun hC => ?_)
      · simp +decide (disch := first | decide | omega) only [go_sem, Nat.reduceAdd, Nat.reduceMul, Nat.reduceSub, Nat.reduceLT, Nat.reduceLeDiff, Nat.reduceEqDiff, Nat.add_assoc, Int.reduceAdd, Int.reduceSub, Int.reduceMul, Int.reduceLT, Int.reduceLE, Int.reduceEq, Int.reduceNeg, strOp_add, e0, e1, e5, e6, hs4, hL4, hm4, hB', hC, hc1, hc2, w2]
        refine pick_wp 3 _ id bs (P + 1 + 5 * i + 3) (RdAt.keep (k5.mono (by omega)) (by repeat rw [upd_miss _ _ _ _ (by omega)]) (Nat.le_succ _)) hb (by omega) (by omega) (by omega) _ fun c m5 hc5 k7 k8 => ?_
        have k80 : m4.nid + 1 ≤ m5.nid := k8.1
        have k81 : ∀ j, j < m4.nid → j ≠ id → m5.sto j = m4.sto j := fun j hj hn => (k8.2 j (Nat.lt_succ_of_lt hj) hn).trans ((upd_miss _ _ _ _ (by omega)).trans (upd_miss _ _ _ _ (by omega)))
        have hD5 : m5.sto m4.nid = ⟨[.str (⟨#[102]⟩ ++ dec (i : Nat)), .int .i64 i, .str base, .bool false, .bool (decide ((b : Int) = 0)), .int .i64 0], 0, false, some (68, true)⟩ := (k8.2 m4.nid (Nat.lt_succ_self _) (by omega)).trans (upd_hit _ _ _)
        have hs5 : m5.sto m.nid = ⟨dclC l, g', false, ty'⟩ := (k81 m.nid hn4 (by omega)).trans hs4
        clear k8
        have k70 := k7.1
        simp +decide (disch := first | decide | omega) only [go_sem, Nat.reduceAdd, Nat.reduceMul, Nat.reduceSub, Nat.reduceLT, Nat.reduceLeDiff, Nat.reduceEqDiff, Nat.add_assoc, Int.reduceAdd, Int.reduceSub, Int.reduceMul, Int.reduceLT, Int.reduceLE, Int.reduceEq, Int.reduceNeg, strOp_add, e0, e1, e5, e6, hs5, hD5, hc1, hc2, w2]
        refine bB_split (fun hE => ?_) (fun hE => ?_)
        · simp +decide (disch := first | decide | omega) only [go_sem, Nat.reduceAdd, Nat.reduceMul, Nat.reduceSub, Nat.reduceLT, Nat.reduceLeDiff, Nat.reduceEqDiff, Nat.add_assoc, Int.reduceAdd, Int.reduceSub, Int.reduceMul, Int.reduceLT, Int.reduceLE, Int.reduceEq, Int.reduceNeg, strOp_add, e0, e1, e5, e6, hs5, hD5, hc1, hc2, w2]
          refine oneA_wp [1, 5, 7] _ id bs (P + 1 + 5 * i + 4) m5.nid 0 true false none (upd_hit _ _ _) (Nat.lt_succ_self _) (by omega) (RdAt.keep (k7.mono (by omega)) (by repeat rw [upd_miss _ _ _ _ (by omega)]) (Nat.le_succ _)) hb (by omega) (by decide) (by decide) _ fun x m6 hx k9 k10 => ?_
          have k100 : m5.nid + 1 ≤ m6.nid := k10.1
          have k101 : ∀ j, j < m5.nid → j ≠ id → m6.sto j = m5.sto j := fun j hj hn => (k10.2 j (Nat.lt_succ_of_lt hj) hn).trans (upd_miss _ _ _ _ (by omega))
          have hD6 : m6.sto m4.nid = ⟨[.str (⟨#[102]⟩ ++ dec (i : Nat)), .int .i64 i, .str base, .bool false, .bool (decide ((b : Int) = 0)), .int .i64 0], 0, false, some (68, true)⟩ := (k101 m4.nid (by omega) (by omega)).trans hD5
          have hs6 : m6.sto m.nid = ⟨dclC l, g', false, ty'⟩ := (k101 m.nid (by omega) (by omega)).trans hs5
          have k90 := k9.1
          clear k10
          simp +decide (disch := first | decide | omega) only [go_sem, Nat.reduceAdd, Nat.reduceMul, Nat.reduceSub, Nat.reduceLT, Nat.reduceLeDiff, Nat.reduceEqDiff, Nat.add_assoc, Int.reduceAdd, Int.reduceSub, Int.reduceMul, Int.reduceLT, Int.reduceLE, Int.reduceEq, Int.reduceNeg, strOp_add, e0, e1, e5, e6, hs6, hD6, hc1, hc2, w2]
          refine leaf _ _ x _ _ ?_ (fun j h1 h2 h3 => ?_) (RdAt.mono (RdAt.keep k9 ?_ ?_) ?_) ⟨_, upd_hit _ _ _⟩ ?_
          · omega
          · rw [upd_miss _ _ _ _ (by omega), upd_miss _ _ _ _ (by omega), upd_miss _ _ _ _ (by omega), k101 j (by omega) h2, k81 j h1 h2]
          · repeat rw [upd_miss _ _ _ _ (by omega)]
          · omega
          · omega
          · simp only [List.mem_cons, List.mem_nil_iff, or_false] at hx
            unfold smallI; omega
        · simp +decide (disch := first | decide | omega) only [go_sem, Nat.reduceAdd, Nat.reduceMul, Nat.reduceSub, Nat.reduceLT, Nat.reduceLeDiff, Nat.reduceEqDiff, Nat.add_assoc, Int.reduceAdd, Int.reduceSub, Int.reduceMul, Int.reduceLT, Int.reduceLE, Int.reduceEq, Int.reduceNeg, strOp_add, e0, e1, e5, e6, hs5, hD5, hc1, hc2, w2]
          refine leaf _ _ 0 _ _ ?_ (fun j h1 h2 h3 => ?_) (RdAt.mono (RdAt.keep k7 ?_ ?_) ?_) ⟨_, upd_hit _ _ _⟩ ?_
          · omega
          · rw [upd_miss _ _ _ _ (by omega), upd_miss _ _ _ _ (by omega), k81 j h1 h2]
          · repeat rw [upd_miss _ _ _ _ (by omega)]
          · omega
          · omega
          · unfold smallI; omega
      · simp +decide (disch := first | decide | omega) only [go_sem, Nat.reduceAdd, Nat.reduceMul, Nat.reduceSub, Nat.reduceLT, Nat.reduceLeDiff, Nat.reduceEqDiff, Nat.add_assoc, Int.reduceAdd, Int.reduceSub, Int.reduceMul, Int.reduceLT, Int.reduceLE, Int.reduceEq, Int.reduceNeg, strOp_add, e0, e1, e5, e6, hs4, hL4, hm4, hB', hC, hc1, hc2, w2]
        refine bB_split (fun hC2 => ?_) (fun hC2 => ?_)
        · simp +decide (disch := first | decide | omega) only [go_sem, Nat.reduceAdd, Nat.reduceMul, Nat.reduceSub, Nat.reduceLT, Nat.reduceLeDiff, Nat.reduceEqDiff, Nat.add_assoc, Int.reduceAdd, Int.reduceSub, Int.reduceMul, Int.reduceLT, Int.reduceLE, Int.reduceEq, Int.reduceNeg, strOp_add, e0, e1, e5, e6, hs4, hL4, hm4, hB', hC, hC2, hc1, hc2, w2]
          refine pick_wp 3 _ id bs (P + 1 + 5 * i + 3) (RdAt.keep (k5.mono (by omega)) (by repeat rw [upd_miss _ _ _ _ (by omega)]) (Nat.le_succ _)) hb (by omega) (by omega) (by omega) _ fun c m5 hc5 k7 k8 => ?_
          have k80 : m4.nid + 1 ≤ m5.nid := k8.1
          have k81 : ∀ j, j < m4.nid → j ≠ id → m5.sto j = m4.sto j := fun j hj hn => (k8.2 j (Nat.lt_succ_of_lt hj) hn).trans ((upd_miss _ _ _ _ (by omega)).trans (upd_miss _ _ _ _ (by omega)))
          have hD5 : m5.sto m4.nid = ⟨[.str (⟨#[102]⟩ ++ dec (i : Nat)), .int .i64 i, .str base, .bool false, .bool (decide ((b : Int) = 0)), .int .i64 0], 0, false, some (68, true)⟩ := (k8.2 m4.nid (Nat.lt_succ_self _) (by omega)).trans (upd_hit _ _ _)
          have hs5 : m5.sto m.nid = ⟨dclC l, g', false, ty'⟩ := (k81 m.nid hn4 (by omega)).trans hs4
          clear k8
          have k70 := k7.1
          simp +decide (disch := first | decide | omega) only [go_sem, Nat.reduceAdd, Nat.reduceMul, Nat.reduceSub, Nat.reduceLT, Nat.reduceLeDiff, Nat.reduceEqDiff, Nat.add_assoc, Int.reduceAdd, Int.reduceSub, Int.reduceMul, Int.reduceLT, Int.reduceLE, Int.reduceEq, Int.reduceNeg, strOp_add, e0, e1, e5, e6, hs5, hD5, hc1, hc2, w2]
          refine bB_split (fun hE => ?_) (fun hE => ?_)
          · simp +decide (disch := first | decide | omega) only [go_sem, Nat.reduceAdd, Nat.reduceMul, Nat.reduceSub, Nat.reduceLT, Nat.reduceLeDiff, Nat.reduceEqDiff, Nat.add_assoc, Int.reduceAdd, Int.reduceSub, Int.reduceMul, Int.reduceLT, Int.reduceLE, Int.reduceEq, Int.reduceNeg, strOp_add, e0, e1, e5, e6, hs5, hD5, hc1, hc2, w2]
            refine oneA_wp [1, 5, 7] _ id bs (P + 1 + 5 * i + 4) m5.nid 0 true false none (upd_hit _ _ _) (Nat.lt_succ_self _) (by omega) (RdAt.keep (k7.mono (by omega)) (by repeat rw [upd_miss _ _ _ _ (by omega)]) (Nat.le_succ _)) hb (by omega) (by decide) (by decide) _ fun x m6 hx k9 k10 => ?_
            have k100 : m5.nid + 1 ≤ m6.nid := k10.1
            have k101 : ∀ j, j < m5.nid → j ≠ id → m6.sto j = m5.sto j := fun j hj hn => (k10.2 j (Nat.lt_succ_of_lt hj) hn).trans (upd_miss _ _ _ _ (by omega))
            have hD6 : m6.sto m4.nid = ⟨[.str (⟨#[102]⟩ ++ dec (i : Nat)), .int .i64 i, .str base, .bool false, .bool (decide ((b : Int) = 0)), .int .i64 0], 0, false, some (68, true)⟩ := (k101 m4.nid (by omega) (by omega)).trans hD5
            have hs6 : m6.sto m.nid = ⟨dclC l, g', false, ty'⟩ := (k101 m.nid (by omega) (by omega)).trans hs5
            have k90 := k9.1
            clear k10
            simp +decide (disch := first | decide | omega) only [go_sem, Nat.reduceAdd, Nat.reduceMul, Nat.reduceSub, Nat.reduceLT, Nat.reduceLeDiff, Nat.reduceEqDiff, Nat.add_assoc, Int.reduceAdd, Int.reduceSub, Int.reduceMul, Int.reduceLT, Int.reduceLE, Int.reduceEq, Int.reduceNeg, strOp_add, e0, e1, e5, e6, hs6, hD6, hc1, hc2, w2]
            refine leaf _ _ x _ _ ?_ (fun j h1 h2 h3 => ?_) (RdAt.mono (RdAt.keep k9 ?_ ?_) ?_) ⟨_, upd_hit _ _ _⟩ ?_
            · omega
            · rw [upd_miss _ _ _ _ (by omega), upd_miss _ _ _ _ (by omega), upd_miss _ _ _ _ (by omega), k101 j (by omega) h2, k81 j h1 h2]
            · repeat rw [upd_miss _ _ _ _ (by omega)]
            · omega
            · omega
            · simp only [List.mem_cons, List.mem_nil_iff, or_false] at hx
              unfold smallI; omega
          · simp +decide (disch := first | decide | omega) only [go_sem, Nat.reduceAdd, Nat.reduceMul, Nat.reduceSub, Nat.reduceLT, Nat.reduceLeDiff, Nat.reduceEqDiff, Nat.add_assoc, Int.reduceAdd, Int.reduceSub, Int.reduceMul, Int.reduceLT, Int.reduceLE, Int.reduceEq, Int.reduceNeg, strOp_add, e0, e1, e5, e6, hs5, hD5, hc1, hc2, w2]
            refine leaf _ _ 0 _ _ ?_ (fun j h1 h2 h3 => ?_) (RdAt.mono (RdAt.keep k7 ?_ ?_) ?_) ⟨_, upd_hit _ _ _⟩ ?_
            · omega
            · rw [upd_miss _ _ _ _ (by omega), upd_miss _ _ _ _ (by omega), k81 j h1 h2]
            · repeat rw [upd_miss _ _ _ _ (by omega)]
            · omega
            · omega
            · unfold smallI; omega
        · simp +decide (disch := first | decide | omega) only [go_sem, Nat.reduceAdd, Nat.reduceMul, Nat.reduceSub, Nat.reduceLT, Nat.reduceLeDiff, Nat.reduceEqDiff, Nat.add_assoc, Int.reduceAdd, Int.reduceSub, Int.reduceMul, Int.reduceLT, Int.reduceLE, Int.reduceEq, Int.reduceNeg, strOp_add, e0, e1, e5, e6, hs4, hL4, hm4, hB', hC, hC2, hc1, hc2, w2]
          refine bB_split (fun hC3 => ?_) (fun hC3 => ?_)
          · simp +decide (disch := first | decide | omega) only [go_sem, Nat.reduceAdd, Nat.reduceMul, Nat.reduceSub, Nat.reduceLT, Nat.reduceLeDiff, Nat.reduceEqDiff, Nat.add_assoc, Int.reduceAdd, Int.reduceSub, Int.reduceMul, Int.reduceLT, Int.reduceLE, Int.reduceEq, Int.reduceNeg, strOp_add, e0, e1, e5, e6, hs4, hL4, hm4, hB', hC, hC2, hC3, hc1, hc2, w2]
            refine pick_wp 3 _ id bs (P + 1 + 5 * i + 3) (RdAt.keep (k5.mono (by omega)) (by repeat rw [upd_miss _ _ _ _ (by omega)]) (Nat.le_succ _)) hb (by omega) (by omega) (by omega) _ fun c m5 hc5 k7 k8 => ?_
            have k80 : m4.nid + 1 ≤ m5.nid := k8.1
            have k81 : ∀ j, j < m4.nid → j ≠ id → m5.sto j = m4.sto j := fun j hj hn => (k8.2 j (Nat.lt_succ_of_lt hj) hn).trans ((upd_miss _ _ _ _ (by omega)).trans (upd_miss _ _ _ _ (by omega)))
            have hD5 : m5.sto m4.nid = ⟨[.str (⟨#[102]⟩ ++ dec (i : Nat)), .int .i64 i, .str base, .bool false, .bool (decide ((b : Int) = 0)), .int .i64 0], 0, false, some (68, true)⟩ := (k8.2 m4.nid (Nat.lt_succ_self _) (by omega)).trans (upd_hit _ _ _)
            have hs5 : m5.sto m.nid = ⟨dclC l, g', false, ty'⟩ := (k81 m.nid hn4 (by omega)).trans hs4
            clear k8
            have k70 := k7.1
            simp +decide (disch := first | decide | omega) only [go_sem, Nat.reduceAdd, Nat.reduceMul, Nat.reduceSub, Nat.reduceLT, Nat.reduceLeDiff, Nat.reduceEqDiff, Nat.add_assoc, Int.reduceAdd, Int.reduceSub, Int.reduceMul, Int.reduceLT, Int.reduceLE, Int.reduceEq, Int.reduceNeg, strOp_add, e0, e1, e5, e6, hs5, hD5, hc1, hc2, w2]
            refine bB_split (fun hE => ?_) (fun hE => ?_)
            · simp +decide (disch := first | decide | omega) only [go_sem, Nat.reduceAdd, Nat.reduceMul, Nat.reduceSub, Nat.reduceLT, Nat.reduceLeDiff, Nat.reduceEqDiff, Nat.add_assoc, Int.reduceAdd, Int.reduceSub, Int.reduceMul, Int.reduceLT, Int.reduceLE, Int.reduceEq, Int.reduceNeg, strOp_add, e0, e1, e5, e6, hs5, hD5, hc1, hc2, w2]
              refine oneA_wp [1, 5, 7] _ id bs (P + 1 + 5 * i + 4) m5.nid 0 true false none (upd_hit _ _ _) (Nat.lt_succ_self _) (by omega) (RdAt.keep (k7.mono (by omega)) (by repeat rw [upd_miss _ _ _ _ (by omega)]) (Nat.le_succ _)) hb (by omega) (by decide) (by decide) _ fun x m6 hx k9 k10 => ?_
              have k100 : m5.nid + 1 ≤ m6.nid := k10.1
              have k101 : ∀ j, j < m5.nid → j ≠ id → m6.sto j = m5.sto j := fun j hj hn => (k10.2 j (Nat.lt_succ_of_lt hj) hn).trans (upd_miss _ _ _ _ (by omega))
              have hD6 : m6.sto m4.nid = ⟨[.str (⟨#[102]⟩ ++ dec (i : Nat)), .int .i64 i, .str base, .bool false, .bool (decide ((b : Int) = 0)), .int .i64 0], 0, false, some (68, true)⟩ := (k101 m4.nid (by omega) (by omega)).trans hD5
              have hs6 : m6.sto m.nid = ⟨dclC l, g', false, ty'⟩ := (k101 m.nid (by omega) (by omega)).trans hs5
              have k90 := k9.1
              clear k10
              simp +decide (disch := first | decide | omega) only [go_sem, Nat.reduceAdd, Nat.reduceMul, Nat.reduceSub, Nat.reduceLT, Nat.reduceLeDiff, Nat.reduceEqDiff, Nat.add_assoc, Int.reduceAdd, Int.reduceSub, Int.reduceMul, Int.reduceLT, Int.reduceLE, Int.reduceEq, Int.reduceNeg, strOp_add, e0, e1, e5, e6, hs6, hD6, hc1, hc2, w2]
              refine leaf _ _ x _ _ ?_ (fun j h1 h2 h3 => ?_) (RdAt.mono (RdAt.keep k9 ?_ ?_) ?_) ⟨_, upd_hit _ _ _⟩ ?_
              · omega
              · rw [upd_miss _ _ _ _ (by omega), upd_miss _ _ _ _ (by omega), upd_miss _ _ _ _ (by omega), k101 j (by omega) h2, k81 j h1 h2]
              · repeat rw [upd_miss _ _ _ _ (by omega)]
              · omega
              · omega
              · simp only [List.mem_cons, List.mem_nil_iff, or_false] at hx
                unfold smallI; omega
            · simp +decide (disch := first | decide | omega) only [go_sem, Nat.reduceAdd, Nat.reduceMul, Nat.reduceSub, Nat.reduceLT, Nat.reduceLeDiff, Nat.reduceEqDiff, Nat.add_assoc, Int.reduceAdd, Int.reduceSub, Int.reduceMul, Int.reduceLT, Int.reduceLE, Int.reduceEq, Int.reduceNeg, strOp_add, e0, e1, e5, e6, hs5, hD5, hc1, hc2, w2]
              refine leaf _ _ 0 _ _ ?_ (fun j h1 h2 h3 => ?_) (RdAt.mono (RdAt.keep k7 ?_ ?_) ?_) ⟨_, upd_hit _ _ _⟩ ?_
              · omega
              · rw [upd_miss _ _ _ _ (by omega), upd_miss _ _ _ _ (by omega), k81 j h1 h2]
              · repeat rw [upd_miss _ _ _ _ (by omega)]
              · omega
              · omega
              · unfold smallI; omega
          · simp +decide (disch := first | decide | omega) only [go_sem, Nat.reduceAdd, Nat.reduceMul, Nat.reduceSub, Nat.reduceLT, Nat.reduceLeDiff, Nat.reduceEqDiff, Nat.add_assoc, Int.reduceAdd, Int.reduceSub, Int.reduceMul, Int.reduceLT, Int.reduceLE, Int.reduceEq, Int.reduceNeg, strOp_add, e0, e1, e5, e6, hs4, hL4, hm4, hB', hC, hC2, hC3, hc1, hc2, w2]
            refine leaf _ _ 0 _ _ ?_ (fun j h1 h2 h3 => ?_) (RdAt.mono (RdAt.keep k5 ?_ ?_) ?_) ⟨_, upd_hit _ _ _⟩ ?_
            · omega
            · repeat rw [upd_miss _ _ _ _ (by omega)]
            · repeat rw [upd_miss _ _ _ _ (by omega)]
            · omega
            · omega
            · unfold smallI; omega
  · rintro st ⟨e0, e1, e6, hR, hF, hn, hL, l, g', hli, e5, ⟨ty', hs⟩, hok, hord⟩
    have hz : ((N + 1 : Nat) : Int) - ((N + 1 : Nat) : Int) = 0 := by omega
    simp +decide only [go_sem, Nat.reduceAdd, Nat.reduceMul, Nat.reduceSub, Nat.reduceLT, Nat.reduceLeDiff, Nat.reduceEqDiff, Nat.add_assoc, Int.reduceAdd, Int.reduceSub, Int.reduceMul, Int.reduceLT, Int.reduceLE, Int.reduceEq, Int.reduceNeg, strOp_add, e0, e5, e6, hz]
    refine bB_split (fun hB => ?_) (fun hB => ?_)
    · simp only [decide_eq_true_eq] at hB
      simp +decide only [go_sem, Nat.reduceAdd, Nat.reduceMul, Nat.reduceSub, Nat.reduceLT, Nat.reduceLeDiff, Nat.reduceEqDiff, Nat.add_assoc, Int.reduceAdd, Int.reduceSub, Int.reduceMul, Int.reduceLT, Int.reduceLE, Int.reduceEq, Int.reduceNeg, strOp_add, e0, e5, e6, hB]
      refine pick_wp 3 _ id bs _ hR hb (by omega) (by omega) (by omega) _ fun c m5 hc k1 k2 => ?_
      have hs5 : m5.sto m.nid = ⟨dclC l, g', false, ty'⟩ := (k2.2 m.nid hn (by omega)).trans hs
      have hF5 := hF.trans k2
      have hn5 : m.nid < m5.nid := Nat.lt_of_lt_of_le hn k2.1
      simp +decide only [go_sem, Nat.reduceAdd, Nat.reduceMul, Nat.reduceSub, Nat.reduceLT, Nat.reduceLeDiff, Nat.reduceEqDiff, Nat.add_assoc, Int.reduceAdd, Int.reduceSub, Int.reduceMul, Int.reduceLT, Int.reduceLE, Int.reduceEq, Int.reduceNeg, strOp_add, e0, e5, e6, hB]
      refine bB_split (fun hE => ?_) (fun hE => ?_)
      · obtain ⟨x, y, r, rfl⟩ : ∃ x y r, l = x :: y :: r := by
          match l, hli with
          | [], h => simp at h
          | [_], h => simp at h; omega
          | x :: y :: r, _ => exact ⟨x, y, r, rfl⟩
        have hs5' : m5.sto m.nid = ⟨.str x.name :: .int .i64 x.ord :: .str x.base :: .bool x.list :: .bool x.choice :: .int .i64 x.els :: .str y.name :: .int .i64 y.ord :: .str y.base :: .bool y.list :: .bool y.choice :: .int .i64 y.els :: dclC r, g', false, ty'⟩ := hs5.trans (by simp [dclC, Dcl.cells])
        have h0 : (0 : Int) < ((N + 1 : Nat) : Int) := by omega
        simp +decide only [go_sem, Nat.reduceAdd, Nat.reduceMul, Nat.reduceSub, Nat.reduceLT, Nat.reduceLeDiff, Nat.reduceEqDiff, Nat.add_assoc, Int.reduceAdd, Int.reduceSub, Int.reduceMul, Int.reduceLT, Int.reduceLE, Int.reduceEq, Int.reduceNeg, strOp_add, e0, e5, e6]
        refine (d_plan (ord := [0, 1, 2, 3, 4, 5, 6, 7, 8, 9, 10, 11, 12, 13, 14, 15]) (prs := [(4, 7)]) (by kernel_rfl)).2 ?_
        simp +decide (disch := first | decide | omega) only [go_sem, Nat.reduceAdd, Nat.reduceMul, Nat.reduceSub, Nat.reduceLT, Nat.reduceLeDiff, Nat.reduceEqDiff, Nat.add_assoc, Int.reduceAdd, Int.reduceSub, Int.reduceMul, Int.reduceLT, Int.reduceLE, Int.reduceEq, Int.reduceNeg, strOp_add, e0, e5, e6, hs5', hB, h0, Turn_eq]
        rw [← hli]
        refine hQ (y :: x :: r) g' _ (by simp) (by simp at hli ⊢; omega) (fun d hd => hok d ?_) (fun o ho => ?_) ((RdAt.keep k1 ?_ ?_).mono (by omega)) ⟨Nat.le_trans hF5.1 ?_, fun j hj hn => ?_⟩ ?_ ⟨ty', (upd_hit _ _ _).trans ?_⟩
        · simp only [List.mem_cons] at hd ⊢
          rcases hd with h | h | h
          · exact .inr (.inl h)
          · exact .inl h
          · exact .inr (.inr h)
        · obtain ⟨d, hd, e⟩ := hord o (by simp only [List.length_cons] at ho hli; omega)
          refine ⟨d, ?_, e⟩
          simp only [List.mem_cons] at hd ⊢
          rcases hd with h | h | h
          · exact .inr (.inl h)
          · exact .inl h
          · exact .inr (.inr h)
        · repeat rw [upd_miss _ _ _ _ (by omega)]
        · exact Nat.le_add_right _ _
        · exact Nat.le_add_right _ _
        · exact (upd_miss _ _ _ _ (by omega)).trans ((upd_miss _ _ _ _ (by omega)).trans (hF5.2 j hj hn))
        · exact Nat.lt_of_lt_of_le hn5 (Nat.le_add_right _ _)
        · simp [dclC, Dcl.cells]
      · simp +decide only [go_sem, Nat.reduceAdd, Nat.reduceMul, Nat.reduceSub, Nat.reduceLT, Nat.reduceLeDiff, Nat.reduceEqDiff, Nat.add_assoc, Int.reduceAdd, Int.reduceSub, Int.reduceMul, Int.reduceLT, Int.reduceLE, Int.reduceEq, Int.reduceNeg, strOp_add, e0, e5, e6]
        rw [← hli]
        exact hQ l g' m5 (by omega) (by omega) hok (by rw [hli]; exact hord) (k1.mono (by omega)) hF5 hn5 ⟨_, hs5⟩
    · simp only [decide_eq_false_iff_not] at hB
      simp +decide only [go_sem, Nat.reduceAdd, Nat.reduceMul, Nat.reduceSub, Nat.reduceLT, Nat.reduceLeDiff, Nat.reduceEqDiff, Nat.add_assoc, Int.reduceAdd, Int.reduceSub, Int.reduceMul, Int.reduceLT, Int.reduceLE, Int.reduceEq, Int.reduceNeg, strOp_add, e0, e5, e6, hB]
      rw [← hli]
      exact hQ l g' _ (by omega) (by omega) hok (by rw [hli]; exact hord) (hR.mono (by omega)) hF hn ⟨_, hs⟩
  · simp +decide only [go_sem, Nat.reduceAdd, Nat.reduceMul, Nat.reduceSub, Nat.reduceLT, Nat.reduceLeDiff, Nat.reduceEqDiff, Nat.add_assoc, Int.reduceAdd, Int.reduceSub, Int.reduceMul, Int.reduceLT, Int.reduceLE, Int.reduceEq, Int.reduceNeg, strOp_add]
    exact ⟨by simp, h1, f3, f4, f2, [], 0, rfl, rfl, ⟨none, f1⟩, (by intro d hd; cases hd), (by intro o ho; omega)⟩
end Go.Ev.Tryz
