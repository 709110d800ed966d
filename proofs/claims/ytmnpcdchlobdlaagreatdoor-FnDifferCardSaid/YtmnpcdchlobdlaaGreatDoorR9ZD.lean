/- Part of the proof of a statement about the given program: R9ZD. No condition of its own. -/
import Derived.Test.YtmnpcdchlobdlaaGreatDoorR8ZD
namespace Go.Ev.Tryz
open Go.Proofs
set_option maxRecDepth 10000
set_option linter.unusedSimpArgs false
set_option linter.unusedVariables false
attribute [local congr] comes_congr bB_congr gK_congr gdK_congr

/-- What l13Datum does at these bases. -/
def DatumOk (sv ev : AV) (bases : List ByteArray) (c H W : Nat) : Prop :=
  ∀ b ∈ bases, ∀ (deep : Int) (m : Mem) (id : Nat) (bs : List Int) (P : Nat), RdAt m id bs P → Bytes bs → P ≤ W → ∀ Q : AV × Mem → Prop,
    (∀ d m', Dat.Sane d → hgt d ≤ H → RdAt m' id bs (P + c) → Fr m m' id → Q (d.av, m')) →
    Comes (fnI CC PR 29 [.ptr id 0 0, .agg [sv, ev], .str b, .int .i64 deep] m) Q
/-- What a tree has so far: values and names. -/
def OutL (M : Mem) (lo : Nat) (L : List Dat) (N : List ByteArray) (lv nv : AV) : Prop :=
  (L = [] ∧ N = [] ∧ lv = .nils 5 ∧ nv = .nils 1) ∨ ∃ a g b h ty ty' cs B, lv = .arr a g 0 L.length 5 true ∧ nv = .arr b h 0 L.length 1 true ∧ M.sto a = ⟨cs, g, false, ty⟩ ∧ M.sto b = ⟨N.map AV.str, h, false, ty'⟩ ∧
    N.length = L.length ∧ CelR M L cs B ∧ a ∉ B ∧ b ∉ B ∧ a ≠ b ∧ lo ≤ a ∧ a < M.nid ∧ lo ≤ b ∧ b < M.nid ∧ ∀ x ∈ B, lo ≤ x ∧ x < M.nid
def OkL (H i : Nat) (L : List Dat) (N : List ByteArray) : Prop := L.length ≤ i ∧ N.length ≤ i ∧ (∀ d ∈ L, Dat.Sane d ∧ hgt d ≤ H + 1) ∧ (∀ s ∈ N, s.size ≤ 30) ∧ N.length = L.length
/-- While a tree is drawn. -/
def TreeI (m : Mem) (id : Nat) (bs : List Int) (P H i : Nat) (sv ev : AV) (n : ByteArray) (l : List Dcl) (M : Mem) : Prop :=
  RdAt M id bs P ∧ Fr m M id ∧ m.nid + 4 ≤ M.nid ∧ M.sto m.nid = ⟨[sv, ev], 0, false, none⟩ ∧ M.sto (m.nid + 1) = ⟨[.str n, .slice 6 (l.map Dcl.av)], 0, false, none⟩ ∧
    M.sto (m.nid + 2) = ⟨[.int .i64 0, .int .i64 0, .str ⟨#[]⟩, .nils 5, .nils 1], 0, false, some (26, true)⟩ ∧
    ∃ L N lv nv, M.sto (m.nid + 3) = ⟨[.int .i64 4, .int .i64 0, .str ⟨#[]⟩, lv, nv], 0, false, some (26, true)⟩ ∧ OutL M (m.nid + 4) L N lv nv ∧ OkL H i L N
theorem OutL.keep {M M' : Mem} {lo : Nat} {L : List Dat} {N : List ByteArray} {lv nv : AV} (h : OutL M lo L N lv nv) (hn : M.nid ≤ M'.nid) (e : ∀ j, lo ≤ j → j < M.nid → M'.sto j = M.sto j) : OutL M' lo L N lv nv := by
  rcases h with h | ⟨a, g, b, q, ty, ty', cs, B, h1, h2, h3, h4, h5, h6, h7, h8, h9, h10, h11, h12, h13, h14⟩
  · exact .inl h
  · exact .inr ⟨a, g, b, q, ty, ty', cs, B, h1, h2, (e a h10 h11).trans h3, (e b h12 h13).trans h4, h5, h6.same fun x hx => by rw [e x (h14 x hx).1 (h14 x hx).2]; exact ⟨rfl, rfl⟩, h7, h8, h9, h10, by omega, h12, by omega, fun x hx => ⟨(h14 x hx).1, by have := (h14 x hx).2; omega⟩⟩
theorem OutL.less {M : Mem} {lo lo' : Nat} {L : List Dat} {N : List ByteArray} {lv nv : AV} (h : OutL M lo L N lv nv) (hl : lo' ≤ lo) : OutL M lo' L N lv nv := by
  rcases h with h | ⟨a, g, b, q, ty, ty', cs, B, h1, h2, h3, h4, h5, h6, h7, h8, h9, h10, h11, h12, h13, h14⟩
  · exact .inl h
  · exact .inr ⟨a, g, b, q, ty, ty', cs, B, h1, h2, h3, h4, h5, h6, h7, h8, h9, by omega, h11, by omega, h13, fun x hx => ⟨by have := (h14 x hx).1; omega, (h14 x hx).2⟩⟩
theorem OkL.mono {H i j : Nat} {L : List Dat} {N : List ByteArray} (h : OkL H i L N) (hij : i ≤ j) : OkL H j L N := ⟨Nat.le_trans h.1 hij, Nat.le_trans h.2.1 hij, h.2.2⟩
theorem TreeI.next {m : Mem} {id : Nat} {bs : List Int} {P P' H i i' : Nat} {sv ev : AV} {n : ByteArray} {l : List Dcl} {M M' : Mem} (h : TreeI m id bs P H i sv ev n l M) (hR : RdAt M' id bs P') (hF : Fr M M' id) (hi : i ≤ i') (hid : id < m.nid := by omega) : TreeI m id bs P' H i' sv ev n l M' := by
  obtain ⟨h1, h2, h3, h4, h5, h6, L, N, lv, nv, h7, h8, h9⟩ := h
  have hn := hF.1
  exact ⟨hR, h2.trans hF, by omega, (hF.2 _ (by omega) (by omega)).trans h4, (hF.2 _ (by omega) (by omega)).trans h5, (hF.2 _ (by omega) (by omega)).trans h6, L, N, lv, nv, (hF.2 _ (by omega) (by omega)).trans h7, h8.keep hn fun j hj hj2 => hF.2 j hj2 (by omega), h9.mono hi⟩
set_option maxHeartbeats 8000000 in
theorem Tree_wp (ss : List (ByteArray × List Dcl)) (es : List (ByteArray × List ByteArray)) (hss : ss.length ≤ 1000) (hes : es.length ≤ 1000) (bases : List ByteArray) (c H W : Nat) (hc : c ≤ 1000000) (hH : H ≤ 1000) (hW : W ≤ 1000000000000) (hD : DatumOk (.slice 2 (ss.map strA)) (.slice 2 (es.map enA)) bases c H W)
    (n : ByteArray) (l : List Dcl) (hl5 : l.length ≤ 5) (hok : ∀ d ∈ l, d.Ok bases) (hord : ∀ o : Nat, o < l.length → ∃ d ∈ l, d.ord = o)
    (deep : Int) (m : Mem) (id : Nat) (bs : List Int) (P : Nat) (h : RdAt m id bs P) (hb : Bytes bs) (hP : P + 100000000 ≤ W) (Q : AV × Mem → Prop)
    (hQ : ∀ lv nv L N m', OutL m' m.nid L N lv nv → OkL H 5 L N → RdAt m' id bs (P + 100 + 20 * c) → Fr m m' id → Q (.agg [.int .i64 4, .int .i64 0, .str ⟨#[]⟩, lv, nv], m')) :
    Comes (fnI CC PR 14 [.ptr id 0 0, .agg [.slice 2 (ss.map strA), .slice 2 (es.map enA)], .agg [.str n, .slice 6 (l.map Dcl.av)], .int .i64 deep] m) Q := by
  obtain ⟨fs, hfs, hF⟩ := l9Fields_ok ss es (by omega) (by omega) n l (by omega) hord
  obtain ⟨k, hk, hC⟩ := l8Choice_ok fs l.length (by omega) (by omega)
  obtain ⟨sv, hsv⟩ : ∃ sv, sv = AV.slice 2 (ss.map strA) := ⟨_, rfl⟩
  obtain ⟨ev, hev⟩ : ∃ ev, ev = AV.slice 2 (es.map enA) := ⟨_, rfl⟩
  have o1 : sv.one = true := by rw [hsv]; rfl
  have o2 : ev.one = true := by rw [hev]; rfl
  rw [← hsv, ← hev] at hF hD ⊢
  have hid := h.1
  refine fnI_wp (rs := [.cell 8 26]) Tryz.func14 rfl rfl (Nat.le_of_ble_eq_true rfl) rfl (entry_plain ?_) ?_
  · intro a ha
    simp only [List.mem_cons, List.mem_nil_iff, or_false] at ha
    rcases ha with rfl | rfl | rfl | rfl
    · exact .inl rfl
    · exact .inr (by rw [hsv, hev]; exact ⟨rfl, rfl⟩)
    · exact .inr ⟨rfl, rfl⟩
    · exact .inr ⟨rfl, rfl⟩
  have p1 : snapD = snapD := rfl
  have n1 : ∀ M, snapD M 2097151 sv = some sv := fun M => by rw [hsv]; rfl
  have n2 : ∀ M, snapD M 2097151 ev = some ev := fun M => by rw [hev]; rfl
  have n3 : ∀ M, reachD M 2097151 sv = [] := fun M => by rw [hsv]; rfl
  have n4 : ∀ M, reachD M 2097151 ev = [] := fun M => by rw [hev]; rfl
  simp only [AV.one] at o1 o2
  simp +decide (disch := first | decide | omega) only [go_sem, Nat.reduceAdd, Nat.reduceMul, Nat.reduceSub, Nat.reduceLT, Nat.reduceLeDiff, Nat.reduceEqDiff, Nat.add_assoc, Int.reduceAdd, Int.reduceSub, Int.reduceMul, Int.reduceLT, Int.reduceLE, Int.reduceEq, Int.reduceNeg, strOp_add, o1, o2, List.length_map]
  refine (d_plan (ord := [0, 1, 2, 3, 4, 5, 6, 7]) (prs := [(0, 1), (0, 4), (1, 4), (2, 4)]) (by kernel_rfl)).2 ?_
  simp +decide (disch := first | decide | omega) only [go_sem, Nat.reduceAdd, Nat.reduceMul, Nat.reduceSub, Nat.reduceLT, Nat.reduceLeDiff, Nat.reduceEqDiff, Nat.add_assoc, Int.reduceAdd, Int.reduceSub, Int.reduceMul, Int.reduceLT, Int.reduceLE, Int.reduceEq, Int.reduceNeg, strOp_add, o1, o2, List.length_map, n1, n2, n3, n4, hF, hC]
  have w0 : (0 : Nat) = 0 := rfl
  refine abs_st (F := fun st => bB _ (Comes (evc CC (fnI CC PR) (fnA CC PR) lpL _ st) _) (Comes (evc CC (fnI CC PR) (fnA CC PR) lpL _ st) _)) (fun st => st.env 0 = .ptr id 0 0 ∧ st.env 3 = .int .i64 deep ∧ st.env 5 = .ptr m.nid 0 0 ∧ st.env 6 = .ptr (m.nid + 1) 0 0 ∧ st.env 8 = .ptr (m.nid + 2) 0 0 ∧ st.env 9 = .ptr (m.nid + 3) 0 0 ∧ st.env 10 = .int .i64 k ∧ (∃ ch, st.env 11 = .int .i64 ch) ∧ TreeI m id bs P H 0 sv ev n l st.toMem) ?_ ?_
  · simp +decide only [go_sem, Nat.reduceAdd, Nat.reduceMul, Nat.reduceSub, Nat.reduceLT, Nat.reduceLeDiff, Nat.reduceEqDiff, Nat.add_assoc, Int.reduceAdd, Int.reduceSub, Int.reduceMul, Int.reduceLT, Int.reduceLE, Int.reduceEq, Int.reduceNeg, strOp_add]
    refine ⟨⟨_, rfl⟩, h.fr (by show m.nid ≤ m.nid + 12; omega) (by simp (disch := omega) only [upd_hit, upd_miss]), ⟨by show m.nid ≤ m.nid + 12; omega, fun j hj hn => by simp (disch := omega) only [upd_hit, upd_miss]⟩, by show m.nid + 4 ≤ m.nid + 12; omega, by simp (disch := omega) only [upd_hit, upd_miss], by simp (disch := omega) only [upd_hit, upd_miss], by simp (disch := omega) only [upd_hit, upd_miss], [], [], .nils 5, .nils 1, by simp (disch := omega) only [upd_hit, upd_miss], .inl ⟨rfl, rfl, rfl, rfl⟩, Nat.le_refl _, Nat.le_refl _, by simp, by simp⟩
  rintro st ⟨e0, e3, e5, e6, e8, e9, e10, ⟨ch, e11⟩, hT⟩
  refine bB_merge (fun r => ∃ s', r = (Ex.normal, s') ∧ s'.env 0 = .ptr id 0 0 ∧ s'.env 3 = .int .i64 deep ∧ s'.env 5 = .ptr m.nid 0 0 ∧ s'.env 6 = .ptr (m.nid + 1) 0 0 ∧ s'.env 8 = .ptr (m.nid + 2) 0 0 ∧ s'.env 9 = .ptr (m.nid + 3) 0 0 ∧ (∃ ch, s'.env 11 = .int .i64 ch) ∧ TreeI m id bs (P + 1) H 0 sv ev n l s'.toMem) (fun hB => ?_) (fun hB => ?_) ?_
  · simp only [decide_eq_true_eq] at hB
    simp +decide only [go_sem, Nat.reduceAdd, Nat.reduceMul, Nat.reduceSub, Nat.reduceLT, Nat.reduceLeDiff, Nat.reduceEqDiff, Nat.add_assoc, Int.reduceAdd, Int.reduceSub, Int.reduceMul, Int.reduceLT, Int.reduceLE, Int.reduceEq, Int.reduceNeg, strOp_add, e0, e3, e5, e6, e8, e9, e10]
    refine pick_wp k _ id bs P hT.1 hb (by omega) (by omega) (by omega) _ fun q m1 hq h1 h2 => ?_
    simp +decide only [go_sem, Nat.reduceAdd, Nat.reduceMul, Nat.reduceSub, Nat.reduceLT, Nat.reduceLeDiff, Nat.reduceEqDiff, Nat.add_assoc, Int.reduceAdd, Int.reduceSub, Int.reduceMul, Int.reduceLT, Int.reduceLE, Int.reduceEq, Int.reduceNeg, strOp_add, e0, e3, e5, e6, e8, e9, e10]
    refine ⟨_, rfl, ?_⟩
    simp +decide only [go_sem, Nat.reduceAdd, Nat.reduceMul, Nat.reduceSub, Nat.reduceLT, Nat.reduceLeDiff, Nat.reduceEqDiff, Nat.add_assoc, Int.reduceAdd, Int.reduceSub, Int.reduceMul, Int.reduceLT, Int.reduceLE, Int.reduceEq, Int.reduceNeg, strOp_add, e0, e3, e5, e6, e8, e9]
    exact ⟨⟨_, rfl⟩, hT.next h1 h2 (Nat.le_refl _)⟩
  · simp +decide only [go_sem, Nat.reduceAdd, Nat.reduceMul, Nat.reduceSub, Nat.reduceLT, Nat.reduceLeDiff, Nat.reduceEqDiff, Nat.add_assoc, Int.reduceAdd, Int.reduceSub, Int.reduceMul, Int.reduceLT, Int.reduceLE, Int.reduceEq, Int.reduceNeg, strOp_add, e0, e3, e5, e6, e8, e9, e10, e11]
    exact ⟨_, rfl, e0, e3, e5, e6, e8, e9, ⟨_, e11⟩, hT.next (hT.1.mono (by omega)) (Fr.refl _ _) (Nat.le_refl _)⟩
  clear hT e0 e3 e5 e6 e8 e9 e10 e11 ch st
  rintro _ ⟨st, rfl, e0, e3, e5, e6, e8, e9, ⟨ch, e11⟩, hT⟩
  simp +decide only [go_sem, Nat.reduceAdd, Nat.reduceMul, Nat.reduceSub, Nat.reduceLT, Nat.reduceLeDiff, Nat.reduceEqDiff, Nat.add_assoc, Int.reduceAdd, Int.reduceSub, Int.reduceMul, Int.reduceLT, Int.reduceLE, Int.reduceEq, Int.reduceNeg, strOp_add, e0, e3, e5, e6, e8, e9]
  refine comes_upto l.length (fun i st => st.env 0 = .ptr id 0 0 ∧ st.env 3 = .int .i64 deep ∧ st.env 5 = .ptr m.nid 0 0 ∧ st.env 6 = .ptr (m.nid + 1) 0 0 ∧ st.env 8 = .ptr (m.nid + 2) 0 0 ∧ st.env 9 = .ptr (m.nid + 3) 0 0 ∧ st.env 12 = .int .i64 i ∧ (∃ ch, st.env 11 = .int .i64 ch) ∧ TreeI m id bs (P + 1 + i * (4 * c + 4)) H i sv ev n l st.toMem) ?_ ?_ _ ?_
  · clear hT e0 e3 e5 e6 e8 e9 e11 ch st
    rintro i st hi ⟨e0, e3, e5, e6, e8, e9, e12, ⟨ch, e11⟩, hT⟩
    obtain ⟨Pi, hPi⟩ : ∃ Pi, Pi = P + 1 + i * (4 * c + 4) := ⟨_, rfl⟩
    have hPn : P + 1 + (i + 1) * (4 * c + 4) = Pi + (4 * c + 4) := by rw [hPi, Nat.succ_mul]; omega
    have hPb : Pi + 50000000 ≤ W := by
      rw [hPi]
      have : i * (4 * c + 4) ≤ 5 * (4 * c + 4) := Nat.mul_le_mul_right _ (by omega)
      omega
    rw [← hPi] at hT
    rw [hPn]
    clear hPi hPn
    have hT2 := hT
    obtain ⟨hR, hF2, hn, s0, s1, s2, hO⟩ := hT2
    have hd := l9Decl_eq n l (by omega) (i : Int)
    obtain ⟨j, hj, hfj⟩ : ∃ j, j < l.length ∧ firstI (fun d => decide (d.ord = (i : Int))) l = j := by
      rcases firstI_cases (fun d => decide (d.ord = (i : Int))) l with hf | ⟨j, hj, hf⟩
      · exfalso
        obtain ⟨d, hdl, hdo⟩ := hord i hi
        have h1 : (0 : Int) ≤ firstI (fun d => decide (d.ord = (i : Int))) l := firstI_ge.2 (List.any_eq_true.2 ⟨d, hdl, by simpa using hdo⟩)
        omega
      · exact ⟨j, hj, hf⟩
    rw [hfj] at hd
    have w1 : IntKind.wrap .i64 ((i : Int) + 1) = ((i + 1 : Nat) : Int) := wrap_succ (by omega)
    simp +decide only [go_sem, Nat.reduceAdd, Nat.reduceMul, Nat.reduceSub, Nat.reduceLT, Nat.reduceLeDiff, Nat.reduceEqDiff, Nat.add_assoc, Int.reduceAdd, Int.reduceSub, Int.reduceMul, Int.reduceLT, Int.reduceLE, Int.reduceEq, Int.reduceNeg, strOp_add, e0, e3, e5, e6, e8, e9, e12, s1, hi, List.length_map]
    refine (d_plan (ord := [0, 1, 2, 3, 4, 5, 6, 7, 8]) (prs := [(1, 2), (1, 4), (1, 7), (2, 7), (4, 7), (6, 7)]) (by kernel_rfl)).2 ?_
    have d1 : (m.nid + 1 = st.nid + 7) = False := eq_false (by omega)
    simp +decide (disch := first | decide | omega) only [go_sem, Nat.reduceAdd, Nat.reduceMul, Nat.reduceSub, Nat.reduceLT, Nat.reduceLeDiff, Nat.reduceEqDiff, Nat.add_assoc, Int.reduceAdd, Int.reduceSub, Int.reduceMul, Int.reduceLT, Int.reduceLE, Int.reduceEq, Int.reduceNeg, strOp_add, e0, e3, e5, e6, e8, e9, e12, s1, hi, List.length_map, hd, hj, dcl_at hj, d1]
    refine ⟨by omega, ?_⟩
    have hidn : id < st.nid := hR.1
    refine abs_st (F := fun st => bB _ (Comes (evc CC (fnI CC PR) (fnA CC PR) lpL _ st) _) (Comes (evc CC (fnI CC PR) (fnA CC PR) lpL _ st) _)) (fun s => s.env 0 = .ptr id 0 0 ∧ s.env 3 = .int .i64 deep ∧ s.env 5 = .ptr m.nid 0 0 ∧ s.env 6 = .ptr (m.nid + 1) 0 0 ∧ s.env 8 = .ptr (m.nid + 2) 0 0 ∧ s.env 9 = .ptr (m.nid + 3) 0 0 ∧ s.env 12 = .int .i64 i ∧ (∃ ch, s.env 11 = .int .i64 ch) ∧ s.env 13 = .ptr (st.nid + 7) 0 0 ∧ RdAt s.toMem id bs Pi ∧ Fr st.toMem s.toMem id ∧ st.nid + 7 < s.nid ∧ s.sto (st.nid + 7) = ⟨[.str l[j].name, .int .i64 l[j].ord, .str l[j].base, .bool l[j].list, .bool l[j].choice, .int .i64 l[j].els], 0, false, some (68, true)⟩) ?_ ?_
    · simp +decide only [go_sem, Nat.reduceAdd, Nat.reduceMul, Nat.reduceSub, Nat.reduceLT, Nat.reduceLeDiff, Nat.reduceEqDiff, Nat.add_assoc, Int.reduceAdd, Int.reduceSub, Int.reduceMul, Int.reduceLT, Int.reduceLE, Int.reduceEq, Int.reduceNeg, strOp_add, e0, e3, e5, e6, e8, e9, e12, e11]
      refine ⟨⟨_, rfl⟩, hR.fr (by show st.nid ≤ st.nid + 9; omega) (by simp (disch := omega) only [upd_hit, upd_miss]), ⟨by show st.nid ≤ st.nid + 9; omega, fun j hj hn => by have hj' : j < st.nid := hj; simp (disch := omega) only [upd_hit, upd_miss]⟩⟩
    rintro s ⟨f0, f3, f5, f6, f8, f9, f12, ⟨ch2, f11⟩, f13, gR, gF, gX, gs⟩
    refine bB_merge (fun r => ∃ s, (r = (Ex.exit 1, s) ∨ r = (Ex.normal, s)) ∧ s.env 0 = .ptr id 0 0 ∧ s.env 3 = .int .i64 deep ∧ s.env 5 = .ptr m.nid 0 0 ∧ s.env 6 = .ptr (m.nid + 1) 0 0 ∧ s.env 8 = .ptr (m.nid + 2) 0 0 ∧ s.env 9 = .ptr (m.nid + 3) 0 0 ∧ s.env 12 = .int .i64 i ∧ (∃ ch, s.env 11 = .int .i64 ch) ∧ s.env 13 = .ptr (st.nid + 7) 0 0 ∧ RdAt s.toMem id bs (Pi + 1) ∧ Fr st.toMem s.toMem id ∧ st.nid + 7 < s.nid ∧ s.sto (st.nid + 7) = ⟨[.str l[j].name, .int .i64 l[j].ord, .str l[j].base, .bool l[j].list, .bool l[j].choice, .int .i64 l[j].els], 0, false, some (68, true)⟩) (fun hB => ?_) (fun hB => ?_) ?_
    · simp +decide only [go_sem, Nat.reduceAdd, Nat.reduceMul, Nat.reduceSub, Nat.reduceLT, Nat.reduceLeDiff, Nat.reduceEqDiff, Nat.add_assoc, Int.reduceAdd, Int.reduceSub, Int.reduceMul, Int.reduceLT, Int.reduceLE, Int.reduceEq, Int.reduceNeg, strOp_add, f0, f3, f5, f6, f8, f9, f12, f13, f11]
      refine bB_split (fun hB => ?_) (fun hB => ?_)
      · simp +decide only [go_sem, Nat.reduceAdd, Nat.reduceMul, Nat.reduceSub, Nat.reduceLT, Nat.reduceLeDiff, Nat.reduceEqDiff, Nat.add_assoc, Int.reduceAdd, Int.reduceSub, Int.reduceMul, Int.reduceLT, Int.reduceLE, Int.reduceEq, Int.reduceNeg, strOp_add, f0, f3, f5, f6, f8, f9, f12, f13, f11]
        refine ⟨_, .inr rfl, ?_⟩
        simp +decide only [go_sem, Nat.reduceAdd, Nat.reduceMul, Nat.reduceSub, Nat.reduceLT, Nat.reduceLeDiff, Nat.reduceEqDiff, Nat.add_assoc, Int.reduceAdd, Int.reduceSub, Int.reduceMul, Int.reduceLT, Int.reduceLE, Int.reduceEq, Int.reduceNeg, strOp_add, f0, f3, f5, f6, f8, f9, f12, f13, f11]
        exact ⟨⟨_, rfl⟩, gR.mono (by omega), gF, gX, gs⟩
      · simp +decide only [go_sem, Nat.reduceAdd, Nat.reduceMul, Nat.reduceSub, Nat.reduceLT, Nat.reduceLeDiff, Nat.reduceEqDiff, Nat.add_assoc, Int.reduceAdd, Int.reduceSub, Int.reduceMul, Int.reduceLT, Int.reduceLE, Int.reduceEq, Int.reduceNeg, strOp_add, f0, f3, f5, f6, f8, f9, f12, f13, f11]
        refine ⟨_, .inl rfl, ?_⟩
        simp +decide only [go_sem, Nat.reduceAdd, Nat.reduceMul, Nat.reduceSub, Nat.reduceLT, Nat.reduceLeDiff, Nat.reduceEqDiff, Nat.add_assoc, Int.reduceAdd, Int.reduceSub, Int.reduceMul, Int.reduceLT, Int.reduceLE, Int.reduceEq, Int.reduceNeg, strOp_add, f0, f3, f5, f6, f8, f9, f12, f13, f11]
        exact ⟨⟨_, rfl⟩, gR.mono (by omega), gF, gX, gs⟩
    · simp +decide only [go_sem, Nat.reduceAdd, Nat.reduceMul, Nat.reduceSub, Nat.reduceLT, Nat.reduceLeDiff, Nat.reduceEqDiff, Nat.add_assoc, Int.reduceAdd, Int.reduceSub, Int.reduceMul, Int.reduceLT, Int.reduceLE, Int.reduceEq, Int.reduceNeg, strOp_add, f0]
      refine pick_wp 4 _ id bs Pi gR hb (by omega) (by omega) (by omega) _ fun q m1 hq h1 h2 => ?_
      have gs' := h2.at gX (by omega) gs
      have gF' := gF.trans h2
      have gX' := Nat.lt_of_lt_of_le gX h2.1
      simp +decide only [go_sem, Nat.reduceAdd, Nat.reduceMul, Nat.reduceSub, Nat.reduceLT, Nat.reduceLeDiff, Nat.reduceEqDiff, Nat.add_assoc, Int.reduceAdd, Int.reduceSub, Int.reduceMul, Int.reduceLT, Int.reduceLE, Int.reduceEq, Int.reduceNeg, strOp_add, f0, f3, f5, f6, f8, f9, f12, f13, f11]
      refine bB_split (fun hB => ?_) (fun hB => ?_)
      · simp +decide only [go_sem, Nat.reduceAdd, Nat.reduceMul, Nat.reduceSub, Nat.reduceLT, Nat.reduceLeDiff, Nat.reduceEqDiff, Nat.add_assoc, Int.reduceAdd, Int.reduceSub, Int.reduceMul, Int.reduceLT, Int.reduceLE, Int.reduceEq, Int.reduceNeg, strOp_add]
        refine ⟨_, .inl rfl, ?_⟩
        simp +decide only [go_sem, Nat.reduceAdd, Nat.reduceMul, Nat.reduceSub, Nat.reduceLT, Nat.reduceLeDiff, Nat.reduceEqDiff, Nat.add_assoc, Int.reduceAdd, Int.reduceSub, Int.reduceMul, Int.reduceLT, Int.reduceLE, Int.reduceEq, Int.reduceNeg, strOp_add, f0, f3, f5, f6, f8, f9, f12, f13, f11]
        exact ⟨⟨_, rfl⟩, h1, gF', gX', gs'⟩
      · simp +decide only [go_sem, Nat.reduceAdd, Nat.reduceMul, Nat.reduceSub, Nat.reduceLT, Nat.reduceLeDiff, Nat.reduceEqDiff, Nat.add_assoc, Int.reduceAdd, Int.reduceSub, Int.reduceMul, Int.reduceLT, Int.reduceLE, Int.reduceEq, Int.reduceNeg, strOp_add]
        refine ⟨_, .inr rfl, ?_⟩
        simp +decide only [go_sem, Nat.reduceAdd, Nat.reduceMul, Nat.reduceSub, Nat.reduceLT, Nat.reduceLeDiff, Nat.reduceEqDiff, Nat.add_assoc, Int.reduceAdd, Int.reduceSub, Int.reduceMul, Int.reduceLT, Int.reduceLE, Int.reduceEq, Int.reduceNeg, strOp_add, f0, f3, f5, f6, f8, f9, f12, f13, f11]
        exact ⟨⟨_, rfl⟩, h1, gF', gX', gs'⟩
    clear f0 f3 f5 f6 f8 f9 f12 f11 f13 gR gF gX gs s ch2
    rintro _ ⟨s, rfl | rfl, f0, f3, f5, f6, f8, f9, f12, ⟨ch2, f11⟩, f13, gR, gF, gX, gs⟩
    · simp +decide only [go_sem, Nat.reduceAdd, Nat.reduceMul, Nat.reduceSub, Nat.reduceLT, Nat.reduceLeDiff, Nat.reduceEqDiff, Nat.add_assoc, Int.reduceAdd, Int.reduceSub, Int.reduceMul, Int.reduceLT, Int.reduceLE, Int.reduceEq, Int.reduceNeg, strOp_add, f0, f3, f5, f6, f8, f9, f12, f13, f11, w1]
      exact ⟨⟨_, rfl⟩, hT.next (gR.mono (by omega)) gF (by omega)⟩
    simp +decide only [go_sem, Nat.reduceAdd, Nat.reduceMul, Nat.reduceSub, Nat.reduceLT, Nat.reduceLeDiff, Nat.reduceEqDiff, Nat.add_assoc, Int.reduceAdd, Int.reduceSub, Int.reduceMul, Int.reduceLT, Int.reduceLE, Int.reduceEq, Int.reduceNeg, strOp_add, f0, f3, f5, f6, f8, f9, f12, f13, f11, gs]
    have d2 : (st.nid + 7 = s.nid) = False := eq_false (by omega)
    simp +decide only [go_sem, Nat.reduceAdd, Nat.reduceMul, Nat.reduceSub, Nat.reduceLT, Nat.reduceLeDiff, Nat.reduceEqDiff, Nat.add_assoc, Int.reduceAdd, Int.reduceSub, Int.reduceMul, Int.reduceLT, Int.reduceLE, Int.reduceEq, Int.reduceNeg, strOp_add, f13, d2, gs]
    obtain ⟨E, hE⟩ : ∃ E, E = s.nid := ⟨_, rfl⟩
    have hEn : st.nid + 7 < E := by omega
    refine abs_st (F := fun st => bB _ (Comes (evc CC (fnI CC PR) (fnA CC PR) lpL _ st) _) (Comes (evc CC (fnI CC PR) (fnA CC PR) lpL _ st) _)) (fun s => s.env 0 = .ptr id 0 0 ∧ s.env 3 = .int .i64 deep ∧ s.env 5 = .ptr m.nid 0 0 ∧ s.env 6 = .ptr (m.nid + 1) 0 0 ∧ s.env 8 = .ptr (m.nid + 2) 0 0 ∧ s.env 9 = .ptr (m.nid + 3) 0 0 ∧ s.env 12 = .int .i64 i ∧ (∃ ch, s.env 11 = .int .i64 ch) ∧ s.env 13 = .ptr (st.nid + 7) 0 0 ∧ s.env 14 = .ptr E 0 0 ∧ RdAt s.toMem id bs (Pi + 1) ∧ Fr st.toMem s.toMem id ∧ E < s.nid ∧ s.sto (st.nid + 7) = ⟨[.str l[j].name, .int .i64 l[j].ord, .str l[j].base, .bool l[j].list, .bool l[j].choice, .int .i64 l[j].els], 0, false, some (68, true)⟩ ∧ s.sto E = ⟨[.int .i64 0, .int .i64 0, .str ⟨#[]⟩, .nils 5, .nils 1], 0, false, some (26, true)⟩) ?_ ?_
    · simp +decide only [go_sem, Nat.reduceAdd, Nat.reduceMul, Nat.reduceSub, Nat.reduceLT, Nat.reduceLeDiff, Nat.reduceEqDiff, Nat.add_assoc, Int.reduceAdd, Int.reduceSub, Int.reduceMul, Int.reduceLT, Int.reduceLE, Int.reduceEq, Int.reduceNeg, strOp_add, f0, f3, f5, f6, f8, f9, f12, f13, f11, hE, d2, gs]
      refine ⟨⟨_, rfl⟩, gR.fr (by show s.nid ≤ s.nid + 1; omega) (by simp (disch := omega) only [upd_hit, upd_miss]), ?_⟩
      exact gF.trans ⟨by show s.nid ≤ s.nid + 1; omega, fun j hj hn => by have hj' : j < s.nid := hj; simp (disch := omega) only [upd_hit, upd_miss]⟩
    clear f0 f3 f5 f6 f8 f9 f12 f11 f13 gR gF gX gs d2 hE s ch2
    rintro s ⟨f0, f3, f5, f6, f8, f9, f12, ⟨ch2, f11⟩, f13, f14, gR, gF, gX, gs, gE⟩
    have hbase := (hok _ (List.getElem_mem hj)).2.1
    refine bB_merge (fun r => ∃ s, r = (Ex.normal, s) ∧ s.env 0 = .ptr id 0 0 ∧ s.env 3 = .int .i64 deep ∧ s.env 5 = .ptr m.nid 0 0 ∧ s.env 6 = .ptr (m.nid + 1) 0 0 ∧ s.env 8 = .ptr (m.nid + 2) 0 0 ∧ s.env 9 = .ptr (m.nid + 3) 0 0 ∧ s.env 12 = .int .i64 i ∧ (∃ ch, s.env 11 = .int .i64 ch) ∧ s.env 13 = .ptr (st.nid + 7) 0 0 ∧ s.env 14 = .ptr E 0 0 ∧ RdAt s.toMem id bs (Pi + 2 + 3 * c) ∧ Fr st.toMem s.toMem id ∧ E < s.nid ∧ s.sto (st.nid + 7) = ⟨[.str l[j].name, .int .i64 l[j].ord, .str l[j].base, .bool l[j].list, .bool l[j].choice, .int .i64 l[j].els], 0, false, some (68, true)⟩ ∧ ∃ d cs B, s.sto E = ⟨cs, 0, false, some (26, true)⟩ ∧ DatR s.toMem d cs B ∧ (∀ b ∈ B, E < b ∧ b < s.nid) ∧ Dat.Sane d ∧ hgt d ≤ H + 1) (fun hB => ?_) (fun hB => ?_) ?_
    · simp +decide only [go_sem, Nat.reduceAdd, Nat.reduceMul, Nat.reduceSub, Nat.reduceLT, Nat.reduceLeDiff, Nat.reduceEqDiff, Nat.add_assoc, Int.reduceAdd, Int.reduceSub, Int.reduceMul, Int.reduceLT, Int.reduceLE, Int.reduceEq, Int.reduceNeg, strOp_add, f0, f3, f5, f6, f8, f9, f12, f13, f14, f11, gE]
      refine pick_wp 3 _ id bs (Pi + 1) (gR.put (by omega) (Nat.le_refl _)) hb (by omega) (by omega) (by omega) _ fun q m1 hq h1 h2 => ?_
      have w2 : IntKind.wrap .i64 (1 + (q : Int)) = ((q + 1 : Nat) : Int) := by rw [wrap_id (by omega) (by omega)]; omega
      have hE1 : m1.sto E = ⟨[.int .i64 3, .int .i64 0, .str ⟨#[]⟩, .nils 5, .nils 1], 0, false, some (26, true)⟩ := h2.at gX (by omega) (upd_hit _ _ _)
      have gs1 := h2.at (show st.nid + 7 < s.nid by omega) (by omega) ((upd_miss _ _ _ _ (by omega)).trans gs)
      have gF1 : Fr st.toMem m1 id := (gF.put (by omega) (Nat.le_refl _)).trans h2
      have gX1 : E < m1.nid := Nat.lt_of_lt_of_le gX h2.1
      simp +decide only [go_sem, Nat.reduceAdd, Nat.reduceMul, Nat.reduceSub, Nat.reduceLT, Nat.reduceLeDiff, Nat.reduceEqDiff, Nat.add_assoc, Int.reduceAdd, Int.reduceSub, Int.reduceMul, Int.reduceLT, Int.reduceLE, Int.reduceEq, Int.reduceNeg, strOp_add, f0, f3, f5, f6, f8, f9, f12, f13, f14, f11, w2]
      refine comes_upto (q + 1) (fun a s => s.env 0 = .ptr id 0 0 ∧ s.env 3 = .int .i64 deep ∧ s.env 5 = .ptr m.nid 0 0 ∧ s.env 6 = .ptr (m.nid + 1) 0 0 ∧ s.env 8 = .ptr (m.nid + 2) 0 0 ∧ s.env 9 = .ptr (m.nid + 3) 0 0 ∧ s.env 12 = .int .i64 i ∧ (∃ ch, s.env 11 = .int .i64 ch) ∧ s.env 13 = .ptr (st.nid + 7) 0 0 ∧ s.env 14 = .ptr E 0 0 ∧ s.env 15 = .int .i64 (((q + 1 : Nat) : Int) - a) ∧ RdAt s.toMem id bs (Pi + 2 + a * c) ∧ Fr st.toMem s.toMem id ∧ E < s.nid ∧ s.sto (st.nid + 7) = ⟨[.str l[j].name, .int .i64 l[j].ord, .str l[j].base, .bool l[j].list, .bool l[j].choice, .int .i64 l[j].els], 0, false, some (68, true)⟩ ∧ ∃ lv L, s.sto E = ⟨[.int .i64 3, .int .i64 0, .str ⟨#[]⟩, lv, .nils 1], 0, false, some (26, true)⟩ ∧ DatsAt s.toMem (E + 1) lv L ∧ L.length = a ∧ ∀ d ∈ L, Dat.Sane d ∧ hgt d ≤ H) ?_ ?_ _ ?_
      · clear f0 f3 f5 f6 f8 f9 f12 f11 f13 f14 gR gF gX gs gE h1 h2 hE1 gs1 gF1 gX1 s m1 ch2
        rintro a s ha ⟨f0, f3, f5, f6, f8, f9, f12, ⟨ch2, f11⟩, f13, f14, f15, gR, gF, gX, gs, lv, L, gE, hL, hLa, hLd⟩
        have hpos : (0 : Int) < ((q + 1 : Nat) : Int) - a := by omega
        have w3 : IntKind.wrap .i64 ((((q + 1 : Nat) : Int) - a) - 1) = ((q + 1 : Nat) : Int) - ((a + 1 : Nat) : Int) := by rw [wrap_id (by omega) (by omega)]; omega
        have gs0 : s.sto m.nid = ⟨[sv, ev], 0, false, none⟩ := (gF.2 m.nid (by omega) (by omega)).trans s0
        have hac : a * c ≤ 3 * c := Nat.mul_le_mul_right _ (by omega)
        simp +decide only [go_sem, Nat.reduceAdd, Nat.reduceMul, Nat.reduceSub, Nat.reduceLT, Nat.reduceLeDiff, Nat.reduceEqDiff, Nat.add_assoc, Int.reduceAdd, Int.reduceSub, Int.reduceMul, Int.reduceLT, Int.reduceLE, Int.reduceEq, Int.reduceNeg, strOp_add, f0, f3, f5, f6, f8, f9, f12, f13, f14, f15, f11, hpos]
        refine (d_plan (ord := [0, 1, 2, 3, 4, 5, 6, 7, 8, 9, 10, 11, 12, 13]) (prs := [(1, 3), (1, 6), (3, 6), (1, 9), (1, 10)]) (by kernel_rfl)).2 ?_
        simp +decide (disch := first | decide | omega) only [go_sem, Nat.reduceAdd, Nat.reduceMul, Nat.reduceSub, Nat.reduceLT, Nat.reduceLeDiff, Nat.reduceEqDiff, Nat.add_assoc, Int.reduceAdd, Int.reduceSub, Int.reduceMul, Int.reduceLT, Int.reduceLE, Int.reduceEq, Int.reduceNeg, strOp_add, f0, f3, f5, f6, f8, f9, f12, f13, f14, f15, f11, gE, gs, gs0]
        have hq1 : Quiet (.agg [sv, ev]) := quiet_agg (by rw [hsv, hev]; simp [still])
        have hq2 : ∀ b : ByteArray, Quiet (.str b) := fun b => quiet_still rfl
        have hq3 : ∀ x : Int, Quiet (.int .i64 x) := fun x => quiet_still rfl
        refine rd_far (P' := Pi + 2 + a * c + c) (gR.more (Nat.le_add_right _ _)) (by rw [reach_rd (gR.more (Nat.le_add_right _ _)), hq1.1, (hq2 _).1, (hq3 _).1]; rfl) (by
          intro x hx
          simp only [List.mem_cons, List.mem_nil_iff, or_false] at hx
          rcases hx with rfl | rfl | rfl
          · exact hq1
          · exact hq2 _
          · exact hq3 _) (fun v m' => ∃ d, Dat.Sane d ∧ hgt d ≤ H ∧ v = d.av) (fun Q hQ => ?_) (fun v m' hv j1 j2 j3 => ?_)
        · exact hD _ hbase _ _ id bs _ (rd_mask (gR.more (Nat.le_add_right _ _)) (by simp)) hb (by omega) _ fun d m' h1 h2 h3 h4 => hQ _ _ ⟨d, h1, h2, rfl⟩ h3 h4
        · obtain ⟨d, hd1, hd2, rfl⟩ := hv
          obtain ⟨d1, d2, d3, d4, d5, hcs⟩ := cells_of d
          have cE := j2.at (show E < s.nid + 14 by omega) (by omega) gE
          have cs := j2.at (show st.nid + 7 < s.nid + 14 by omega) (by omega) gs
          have cn : s.nid + 14 ≤ m'.nid := j2.1
          rcases hL with ⟨rfl, rfl⟩ | ⟨x, g, hx1, hx2, rfl, ty, hx⟩
          · dsimp only at cE cs j1 j2 j3
            generalize hJ : (joinM [id] (s.nid + 14) ⟨s.sto, s.nid + 14⟩ m').sto = J at *
            simp +decide (disch := first | decide | omega) only [go_sem, Nat.reduceAdd, Nat.reduceMul, Nat.reduceSub, Nat.reduceLT, Nat.reduceLeDiff, Nat.reduceEqDiff, Nat.add_assoc, Int.reduceAdd, Int.reduceSub, Int.reduceMul, Int.reduceLT, Int.reduceLE, Int.reduceEq, Int.reduceNeg, strOp_add, f0, f3, f5, f6, f8, f9, f12, f13, f14, f15, f11, cE, cs, hJ, hcs, w3]
            have hsc : (a + 1) * c = a * c + c := Nat.succ_mul a c
            refine ⟨⟨by omega, by omega⟩, ⟨_, rfl⟩, (j1.mono (by omega)).fr (Nat.le_refl _) (by simp (disch := omega) only [upd_hit, upd_miss]), ((((gF.more (n := s.nid + 14) (Nat.le_add_right _ _)).trans j2).put (by omega) (Nat.le_refl _)).put (by omega) (Nat.le_refl _)).put (by omega) (Nat.le_refl _), by omega, _, [d], rfl, .inr ⟨s.nid + 11, 0, by omega, by show s.nid + 11 < m'.nid; omega, rfl, some (26, false), ?_⟩, ?_, by intro y hy; rw [List.mem_singleton.1 hy]; exact ⟨hd1, hd2⟩⟩
            · simp (disch := omega) only [upd_hit, upd_miss]
              rw [datC_one, hcs]
              rfl
            · simp only [List.length_cons, List.length_nil] at hLa ⊢
              omega
          · have cx := j2.at (show x < s.nid + 14 by omega) (by omega) hx
            have hc1 : L.length * 5 = (datC L).length := (datC_len L).symm
            have hc2 : L.length + 1 ≤ most := by simp only [most]; omega
            dsimp only at cE cs j1 j2 j3 cx
            generalize hJ : (joinM [id] (s.nid + 14) ⟨s.sto, s.nid + 14⟩ m').sto = J at *
            simp +decide (disch := first | decide | omega) only [go_sem, Nat.reduceAdd, Nat.reduceMul, Nat.reduceSub, Nat.reduceLT, Nat.reduceLeDiff, Nat.reduceEqDiff, Nat.add_assoc, Int.reduceAdd, Int.reduceSub, Int.reduceMul, Int.reduceLT, Int.reduceLE, Int.reduceEq, Int.reduceNeg, strOp_add, f0, f3, f5, f6, f8, f9, f12, f13, f14, f15, f11, cE, cs, cx, hJ, hcs, w3, hc1, hc2]
            have hsc : (a + 1) * c = a * c + c := Nat.succ_mul a c
            refine ⟨⟨by omega, by omega⟩, ⟨_, rfl⟩, (j1.mono (by omega)).fr (Nat.le_refl _) (by simp (disch := omega) only [upd_hit, upd_miss]), ((((gF.more (n := s.nid + 14) (Nat.le_add_right _ _)).trans j2).put (by omega) (Nat.le_refl _)).put (by omega) (Nat.le_refl _)).put (by omega) (Nat.le_refl _), by omega, _, L ++ [d], rfl, .inr ⟨x, g + 1, hx1, by show x < m'.nid; omega, by simp, grewT 26 ty, ?_⟩, ?_, ?_⟩
            · simp (disch := omega) only [upd_hit, upd_miss]
              rw [datC_app, datC_one, hcs]
              rfl
            · simpa using hLa
            · intro y hy
              rcases List.mem_append.1 hy with hy | hy
              · exact hLd y hy
              · rw [List.mem_singleton.1 hy]; exact ⟨hd1, hd2⟩
      · clear f0 f3 f5 f6 f8 f9 f12 f11 f13 f14 gR gF gX gs gE h1 h2 hE1 gs1 gF1 gX1 s m1 ch2
        rintro s ⟨f0, f3, f5, f6, f8, f9, f12, ⟨ch2, f11⟩, f13, f14, f15, gR, gF, gX, gs, lv, L, gE, hL, hLa, hLd⟩
        have hpos : ((0 : Int) < ((q + 1 : Nat) : Int) - ((q + 1 : Nat) : Int)) = False := eq_false (by omega)
        have hac : (q + 1) * c ≤ 3 * c := Nat.mul_le_mul_right _ (by omega)
        simp +decide only [go_sem, Nat.reduceAdd, Nat.reduceMul, Nat.reduceSub, Nat.reduceLT, Nat.reduceLeDiff, Nat.reduceEqDiff, Nat.add_assoc, Int.reduceAdd, Int.reduceSub, Int.reduceMul, Int.reduceLT, Int.reduceLE, Int.reduceEq, Int.reduceNeg, strOp_add, f0, f3, f5, f6, f8, f9, f12, f13, f14, f15, f11, hpos]
        refine ⟨_, rfl, ?_⟩
        simp +decide only [go_sem, Nat.reduceAdd, Nat.reduceMul, Nat.reduceSub, Nat.reduceLT, Nat.reduceLeDiff, Nat.reduceEqDiff, Nat.add_assoc, Int.reduceAdd, Int.reduceSub, Int.reduceMul, Int.reduceLT, Int.reduceLE, Int.reduceEq, Int.reduceNeg, strOp_add, f0, f3, f5, f6, f8, f9, f12, f13, f14, f15, f11]
        obtain ⟨B, hB1, hB2⟩ := lstR_dats hL
        exact ⟨⟨_, rfl⟩, gR.mono (by omega), gF, gX, gs, .mk 3 0 ⟨#[]⟩ L [], _, B, gE, datR_iff.2 ⟨lv, .nils 1, B, [], rfl, by simp, .inr (.inl ⟨rfl, rfl, rfl⟩), hB1⟩, fun b hb => hB2 b hb, .mk _ _ _ _ _ (by unfold i64; omega) (by unfold i64; omega) (by decide) (by omega) (by decide) (by simp) fun x hx => (hLd x hx).1, hgt_le (fun x hx => (hLd x hx).2) (fun h => absurd h (by decide))⟩
      · simp +decide only [go_sem, Nat.reduceAdd, Nat.reduceMul, Nat.reduceSub, Nat.reduceLT, Nat.reduceLeDiff, Nat.reduceEqDiff, Nat.add_assoc, Int.reduceAdd, Int.reduceSub, Int.reduceMul, Int.reduceLT, Int.reduceLE, Int.reduceEq, Int.reduceNeg, strOp_add, f0, f3, f5, f6, f8, f9, f12, f13, f14, f11]
        exact ⟨⟨_, rfl⟩, by congr 1, h1.mono (by omega), gF1, gX1, gs1, .nils 5, [], hE1, .inl ⟨rfl, rfl⟩, rfl, by simp⟩
    · simp +decide only [go_sem, Nat.reduceAdd, Nat.reduceMul, Nat.reduceSub, Nat.reduceLT, Nat.reduceLeDiff, Nat.reduceEqDiff, Nat.add_assoc, Int.reduceAdd, Int.reduceSub, Int.reduceMul, Int.reduceLT, Int.reduceLE, Int.reduceEq, Int.reduceNeg, strOp_add, f0, f3, f5, f6, f8, f9, f12, f13, f14, f11, gE]
      have gs0 : s.sto m.nid = ⟨[sv, ev], 0, false, none⟩ := (gF.2 m.nid (by omega) (by omega)).trans s0
      simp +decide only [go_sem, Nat.reduceAdd, Nat.reduceMul, Nat.reduceSub, Nat.reduceLT, Nat.reduceLeDiff, Nat.reduceEqDiff, Nat.add_assoc, Int.reduceAdd, Int.reduceSub, Int.reduceMul, Int.reduceLT, Int.reduceLE, Int.reduceEq, Int.reduceNeg, strOp_add, f0, f3, f5, f6, f8, f9, f12, f13, f14, f11, gE, gs, gs0]
      refine hD _ hbase _ _ id bs _ gR hb (by omega) _ fun d m' hd1 hd2 k1 k2 => ?_
      obtain ⟨d1, d2, d3, d4, d5, hcs⟩ := cells_of d
      have gE' := k2.at gX (by omega) gE
      have gs' := k2.at (show st.nid + 7 < s.nid by omega) (by omega) gs
      simp +decide only [go_sem, Nat.reduceAdd, Nat.reduceMul, Nat.reduceSub, Nat.reduceLT, Nat.reduceLeDiff, Nat.reduceEqDiff, Nat.add_assoc, Int.reduceAdd, Int.reduceSub, Int.reduceMul, Int.reduceLT, Int.reduceLE, Int.reduceEq, Int.reduceNeg, strOp_add, f0, f3, f5, f6, f8, f9, f12, f13, f14, f11, gE', hcs]
      refine ⟨_, rfl, ?_⟩
      simp +decide only [go_sem, Nat.reduceAdd, Nat.reduceMul, Nat.reduceSub, Nat.reduceLT, Nat.reduceLeDiff, Nat.reduceEqDiff, Nat.add_assoc, Int.reduceAdd, Int.reduceSub, Int.reduceMul, Int.reduceLT, Int.reduceLE, Int.reduceEq, Int.reduceNeg, strOp_add, f0, f3, f5, f6, f8, f9, f12, f13, f14, f11]
      have hdr := datR_plain ⟨upd m'.sto E ⟨[.int .i64 d1, .int .i64 d2, .str d3, .slice 5 d4, .slice 1 d5], 0, false, some (26, true)⟩, m'.nid⟩ d
      rw [hcs] at hdr
      exact ⟨⟨_, rfl⟩, (k1.mono (by omega)).put (by omega) (Nat.le_refl _), (gF.trans k2).put (by omega) (Nat.le_refl _), Nat.lt_of_lt_of_le gX k2.1, (upd_miss _ _ _ _ (by omega)).trans gs', d, _, [], rfl, hdr, by simp, hd1, by omega⟩
    · clear f0 f3 f5 f6 f8 f9 f12 f11 f13 f14 gR gF gX gs gE s ch2
      rintro _ ⟨s, rfl, f0, f3, f5, f6, f8, f9, f12, ⟨ch2, f11⟩, f13, f14, gR, gF, gX, gs, d, cs, B, gE, hDR, hBr, hSane, hHd⟩
      obtain ⟨pb, hpb⟩ := l10Plain_ok l[j] d
      obtain ⟨k2, n2, t2, l2, ns2⟩ := d
      rw [Dat.av_mk] at hpb
      unfold Dcl.av Dcl.cells at hpb
      have hDR2 := hDR
      obtain ⟨lv2, nv2, Bl, Bn, rfl, rfl, hStr, hLst⟩ := datR_iff.1 hDR2
      have hhg : hgt (.mk k2 n2 t2 l2 ns2) ≤ 1000000 := by omega
      have sn1 : ∀ q, snapD ⟨s.sto, q⟩ 2097151 lv2 = some (.slice 5 (l2.map Dat.av)) := fun q => snap_lstR (M := ⟨s.sto, q⟩) (LstR.same hLst fun b _ => ⟨rfl, rfl⟩) 2097149 fun x hx => by
        have := hgt_lt (k := k2) (n := n2) (t := t2) (ns := ns2) hx
        omega
      have sn2 : ∀ q, snapD ⟨s.sto, q⟩ 2097151 nv2 = some (.slice 1 (ns2.map AV.str)) := fun q => snap_strR (M := ⟨s.sto, q⟩) (StrR.same hStr fun b _ => ⟨rfl, rfl⟩) 2097149
      have q1 : AV.one lv2 = true := lstR_one hLst
      have q2 : AV.one nv2 = true := strR_one hStr
      simp only [AV.one] at q1 q2
      have hbool : (l[j].choice = true) ∨ (l[j].choice = false ∧ pb = false) ∨ (l[j].choice = false ∧ pb = true) := by cases l[j].choice <;> cases pb <;> simp
      have hgap : st.nid + 7 < s.nid := by omega
      obtain ⟨L, N, lv, nv, s3, hO2, hOk⟩ := hO
      have s3' := (gF.2 (m.nid + 3) (by omega) (by omega)).trans s3
      rcases hbool with hch | ⟨hch, rfl⟩ | ⟨hch, rfl⟩
      all_goals rw [hch] at hpb gs
      rotate_left 2
      · simp +decide only [go_sem, Nat.reduceAdd, Nat.reduceMul, Nat.reduceSub, Nat.reduceLT, Nat.reduceLeDiff, Nat.reduceEqDiff, Nat.add_assoc, Int.reduceAdd, Int.reduceSub, Int.reduceMul, Int.reduceLT, Int.reduceLE, Int.reduceEq, Int.reduceNeg, strOp_add, f0, f3, f5, f6, f8, f9, f12, f13, f14, f11, gs, gE, sn1, sn2, hpb, hch, w1]
        exact ⟨⟨_, rfl⟩, hT.next (gR.mono (by omega)) gF (by omega)⟩
      all_goals
        rcases hO2 with ⟨rfl, rfl, rfl, rfl⟩ | ⟨a, g, b, q, ty, ty', cs0, B0, rfl, rfl, ha, hbq, hNl, hcel, haB, hbB, hab, ha1, ha2, hb1, hb2, hB0⟩
        · simp (maxSteps := 2000000) +decide (disch := first | decide | omega) only [go_sem, Nat.reduceAdd, Nat.reduceMul, Nat.reduceSub, Nat.reduceLT, Nat.reduceLeDiff, Nat.reduceEqDiff, Nat.add_assoc, Int.reduceAdd, Int.reduceSub, Int.reduceMul, Int.reduceLT, Int.reduceLE, Int.reduceEq, Int.reduceNeg, strOp_add, f0, f3, f5, f6, f8, f9, f12, f13, f14, f11, gs, gE, sn1, sn2, hpb, hch, w1, s3', q1, q2]
          have s0s := (gF.2 m.nid (by omega) (by omega)).trans s0
          have s1s := (gF.2 (m.nid + 1) (by omega) (by omega)).trans s1
          have s2s := (gF.2 (m.nid + 2) (by omega) (by omega)).trans s2
          have hFF := hF2.trans gF
          have hnm : l[j].name.size ≤ 30 := (hok _ (List.getElem_mem hj)).1
          refine ⟨⟨_, rfl⟩, (gR.mono (by omega)).fr (by show s.nid ≤ s.nid + 4; omega) (by simp (disch := omega) only [upd_hit, upd_miss]), ⟨by show m.nid ≤ s.nid + 4; omega, fun x hx hne => ?_⟩, by show m.nid + 4 ≤ s.nid + 4; omega, ?_, ?_, ?_, [.mk k2 n2 t2 l2 ns2], [l[j].name], _, _, upd_hit _ _ _, .inr ⟨s.nid + 3, 0, s.nid + 1, 0, some (26, false), some (9, false), _, Bl ++ Bn, rfl, rfl, ?_, ?_, rfl, celR_cons.2 ⟨_, _, [], [], (List.append_nil _).symm, (List.append_nil _).symm, DatR.same _ hDR fun x hx => ?_, celR_nil.2 ⟨rfl, rfl⟩⟩, fun hx => ?_, fun hx => ?_, by omega, by omega, by show s.nid + 3 < s.nid + 4; omega, by omega, by show s.nid + 1 < s.nid + 4; omega, fun x hx => ?_⟩, ⟨by simp, by simp, ?_, ?_⟩⟩
          · have hx' : x < m.nid := hx
            simp (disch := omega) only [upd_hit, upd_miss]
            exact hFF.2 x hx hne
          · simp (disch := omega) only [upd_hit, upd_miss]
            exact s0s
          · simp (disch := omega) only [upd_hit, upd_miss]
            exact s1s
          · simp (disch := omega) only [upd_hit, upd_miss]
            exact s2s
          · simp (disch := omega) only [upd_hit, upd_miss]
          · simp (disch := omega) only [upd_hit, upd_miss]
            rfl
          · have := hBr x hx
            show Same (upd _ _ _ x) _
            simp (disch := omega) only [upd_hit, upd_miss]
            exact ⟨rfl, rfl⟩
          · have := hBr _ hx
            omega
          · have := hBr _ hx
            omega
          · have := hBr x hx
            exact ⟨by omega, by show x < s.nid + 4; omega⟩
          · intro y hy
            rw [List.mem_singleton.1 hy]
            exact ⟨hSane, hHd⟩
          · refine ⟨fun y hy => ?_, rfl⟩
            rw [List.mem_singleton.1 hy]
            exact hnm
        · have ha' := (gF.2 a ha2 (by omega)).trans ha
          have hb' := (gF.2 b hb2 (by omega)).trans hbq
          have hc1 : N.length * 5 = cs0.length := by rw [hNl]; exact (celR_len L hcel).symm
          have hc2 : N.length + 1 ≤ most := by have := hOk.2.1; simp only [most]; omega
          have hc3 : L.length = N.length := hNl.symm
          have ha2' : a < s.nid := by have := gF.1; omega
          have hb2' : b < s.nid := by have := gF.1; omega
          simp (maxSteps := 2000000) +decide (disch := first | decide | omega) only [go_sem, Nat.reduceAdd, Nat.reduceMul, Nat.reduceSub, Nat.reduceLT, Nat.reduceLeDiff, Nat.reduceEqDiff, Nat.add_assoc, Int.reduceAdd, Int.reduceSub, Int.reduceMul, Int.reduceLT, Int.reduceLE, Int.reduceEq, Int.reduceNeg, strOp_add, f0, f3, f5, f6, f8, f9, f12, f13, f14, f11, gs, gE, sn1, sn2, hpb, hch, w1, s3', q1, q2, ha', hb', hc1, hc2, hc3, List.length_map]
          have s0s := (gF.2 m.nid (by omega) (by omega)).trans s0
          have s1s := (gF.2 (m.nid + 1) (by omega) (by omega)).trans s1
          have s2s := (gF.2 (m.nid + 2) (by omega) (by omega)).trans s2
          have hFF := hF2.trans gF
          have hnm : l[j].name.size ≤ 30 := (hok _ (List.getElem_mem hj)).1
          refine ⟨⟨_, rfl⟩, (gR.mono (by omega)).fr (by show s.nid ≤ s.nid + 2; omega) (by simp (disch := omega) only [upd_hit, upd_miss]), ⟨by show m.nid ≤ s.nid + 2; omega, fun x hx hne => ?_⟩, by show m.nid + 4 ≤ s.nid + 2; omega, ?_, ?_, ?_, L ++ [.mk k2 n2 t2 l2 ns2], N ++ [l[j].name], _, _, upd_hit _ _ _, .inr ⟨a, g + 1, b, q + 1, grewT 26 ty, grewT 9 ty', _, B0 ++ (Bl ++ Bn), ?_, ?_, ?_, ?_, ?_, celR_snoc L (CelR.same hcel fun x hx => ?_) (DatR.same _ hDR fun x hx => ?_), fun hx => ?_, fun hx => ?_, hab, by omega, by show a < s.nid + 2; omega, by omega, by show b < s.nid + 2; omega, fun x hx => ?_⟩, ⟨?_, ?_, ?_, ?_⟩⟩
          · have hx' : x < m.nid := hx
            simp (disch := omega) only [upd_hit, upd_miss]
            exact hFF.2 x hx hne
          · simp (disch := omega) only [upd_hit, upd_miss]
            exact s0s
          · simp (disch := omega) only [upd_hit, upd_miss]
            exact s1s
          · simp (disch := omega) only [upd_hit, upd_miss]
            exact s2s
          · simp [hNl]
          · simp [hNl]
          · simp (disch := omega) only [upd_hit, upd_miss]
            rfl
          · simp (disch := omega) only [upd_hit, upd_miss]
            rw [List.map_append]
            rfl
          · simp [hNl]
          · have h1 : x ≠ a := fun e => haB (e ▸ hx)
            have h2 : x ≠ b := fun e => hbB (e ▸ hx)
            have h3 := hB0 x hx
            have h4 := gF.1
            show Same (upd _ _ _ x) _
            simp (disch := omega) only [upd_hit, upd_miss]
            rw [gF.2 x h3.2 (by omega)]
            exact ⟨rfl, rfl⟩
          · have := hBr x hx
            show Same (upd _ _ _ x) _
            simp (disch := omega) only [upd_hit, upd_miss]
            exact ⟨rfl, rfl⟩
          · rcases List.mem_append.1 hx with hx | hx
            · exact haB hx
            · have := hBr _ hx
              omega
          · rcases List.mem_append.1 hx with hx | hx
            · exact hbB hx
            · have := hBr _ hx
              omega
          · rcases List.mem_append.1 hx with hx | hx
            · have := hB0 x hx
              have h4 := gF.1
              exact ⟨this.1, by show x < s.nid + 2; omega⟩
            · have := hBr x hx
              exact ⟨by omega, by show x < s.nid + 2; omega⟩
          · have := hOk.1
            simp only [List.length_append, List.length_cons, List.length_nil]
            omega
          · have := hOk.2.1
            simp only [List.length_append, List.length_cons, List.length_nil]
            omega
          · intro y hy
            rcases List.mem_append.1 hy with hy | hy
            · exact hOk.2.2.1 y hy
            · rw [List.mem_singleton.1 hy]
              exact ⟨hSane, hHd⟩
          · refine ⟨fun y hy => ?_, by have := hOk.2.2.2.2; simp only [List.length_append, List.length_cons, List.length_nil]; omega⟩
            rcases List.mem_append.1 hy with hy | hy
            · exact hOk.2.2.2.1 y hy
            · rw [List.mem_singleton.1 hy]
              exact hnm
  · clear hT e0 e3 e5 e6 e8 e9 e11 ch st
    rintro st ⟨e0, e3, e5, e6, e8, e9, e12, ⟨ch, e11⟩, hT⟩
    have hPb : l.length * (4 * c + 4) ≤ 5 * (4 * c + 4) := Nat.mul_le_mul_right _ hl5
    obtain ⟨hR, hF2, hn, s0, s1, s2, L, N, lv, nv, s3, hO, hOk⟩ := hT
    have q1 : lv.one = true := by
      rcases hO with ⟨_, _, rfl, _⟩ | ⟨a, g, b, q, ty, ty', cs, B, rfl, _⟩ <;> rfl
    have q2 : nv.one = true := by
      rcases hO with ⟨_, _, _, rfl⟩ | ⟨a, g, b, q, ty, ty', cs, B, _, rfl, _⟩ <;> rfl
    simp only [AV.one] at q1 q2
    simp +decide (disch := first | decide | omega) only [go_sem, Nat.reduceAdd, Nat.reduceMul, Nat.reduceSub, Nat.reduceLT, Nat.reduceLeDiff, Nat.reduceEqDiff, Nat.add_assoc, Int.reduceAdd, Int.reduceSub, Int.reduceMul, Int.reduceLT, Int.reduceLE, Int.reduceEq, Int.reduceNeg, strOp_add, e0, e3, e5, e6, e8, e9, e12, s1, s2, s3, List.length_map, q1, q2]
    have hO' : OutL ⟨upd st.sto (m.nid + 2) ⟨[.int .i64 4, .int .i64 0, .str ⟨#[]⟩, lv, nv], 0, false, some (26, true)⟩, st.nid⟩ m.nid L N lv nv := (hO.keep (M' := ⟨upd st.sto (m.nid + 2) ⟨[.int .i64 4, .int .i64 0, .str ⟨#[]⟩, lv, nv], 0, false, some (26, true)⟩, st.nid⟩) (Nat.le_refl _) fun j h1 h2 => upd_miss _ _ _ _ (by omega)).less (by omega)
    refine hQ lv nv L N _ hO' (hOk.mono hl5) ((hR.mono (by omega)).put (by omega) (Nat.le_refl _)) (hF2.put (by omega) (Nat.le_refl _))
  · simp +decide only [go_sem, Nat.reduceAdd, Nat.reduceMul, Nat.reduceSub, Nat.reduceLT, Nat.reduceLeDiff, Nat.reduceEqDiff, Nat.add_assoc, Int.reduceAdd, Int.reduceSub, Int.reduceMul, Int.reduceLT, Int.reduceLE, Int.reduceEq, Int.reduceNeg, strOp_add, e0, e3, e5, e6, e8, e9, e11]
    first
      | exact ⟨⟨_, rfl⟩, by simpa using hT⟩
      | simpa using hT
end Go.Ev.Tryz
