/- Part of the proof of a statement about the given program: R10ZD. No condition of its own. -/
import Derived.Test.YtmnpcdchlobdlaaGreatDoorR9ZD
namespace Go.Ev.Tryz
open Go.Proofs
set_option maxRecDepth 10000
set_option linter.unusedSimpArgs false
set_option linter.unusedVariables false
attribute [local congr] comes_congr bB_congr gK_congr gdK_congr

theorem reachD_strR {M : Mem} {ns : List ByteArray} {v : AV} {B : List Nat} (h : StrR M ns v B) (k : Nat) : ∀ x ∈ reachD M k v, x ∈ B := by
  intro x hx
  cases k with
  | zero => cases hx
  | succ k =>
    rcases h with ⟨rfl, rfl⟩ | ⟨_, rfl, rfl⟩ | ⟨id, g, app, rfl, ⟨h1, h2⟩, rfl⟩
    · exact hx
    · exact hx
    · simp only [reachD] at hx
      rw [h1, reachesD_still (still_strs ns)] at hx
      exact hx
theorem reachD_celR {M : Mem} (k : Nat) : ∀ (l : List Dat), (∀ d ∈ l, ∀ cs B, DatR M d cs B → ∀ x ∈ (cs.map (reachD M k)).flatten, x ∈ B) → ∀ {cs : List AV} {B : List Nat}, CelR M l cs B → ∀ x ∈ (cs.map (reachD M k)).flatten, x ∈ B
  | [], _, cs, B, h, x, hx => by obtain ⟨rfl, _⟩ := celR_nil.1 h; cases hx
  | d :: l, ih, cs, B, h, x, hx => by
    obtain ⟨c1, B1, c2, B2, rfl, rfl, h1, h2⟩ := celR_cons.1 h
    rw [List.map_append, List.flatten_append] at hx
    rcases List.mem_append.1 hx with hx | hx
    · exact List.mem_append_left _ (ih d (by simp) _ _ h1 x hx)
    · exact List.mem_append_right _ (reachD_celR k l (fun y hy => ih y (by simp [hy])) h2 x hx)
theorem reachD_datR {M : Mem} : ∀ (d : Dat) (k : Nat) {cs : List AV} {B : List Nat}, DatR M d cs B → ∀ x ∈ (cs.map (reachD M k)).flatten, x ∈ B := by
  intro d
  induction d using Dat.ind with
  | h q n t l ns ih =>
  intro k cs B h x hx
  obtain ⟨lv, nv, Bl, Bn, rfl, rfl, h1, h2⟩ := datR_iff.1 h
  have e1 : reachD M k (.int .i64 q) = [] := reachD_still rfl M k
  have e2 : reachD M k (.int .i64 n) = [] := reachD_still rfl M k
  have e3 : reachD M k (.str t) = [] := reachD_still rfl M k
  simp only [List.map_cons, List.map_nil, List.flatten_cons, List.flatten_nil, e1, e2, e3, List.nil_append, List.append_nil, List.mem_append] at hx
  rcases hx with hx | hx
  · refine List.mem_append_left _ ?_
    cases k with
    | zero => cases hx
    | succ k =>
      rcases h2 with ⟨rfl, rfl⟩ | ⟨rfl, rfl, rfl⟩ | ⟨id, g, app, cs', B', rfl, ⟨q1, q2⟩, q3, rfl⟩
      · exact hx
      · exact hx
      · simp only [reachD] at hx
        rcases List.mem_cons.1 hx with rfl | hx
        · simp
        · rw [q1] at hx
          exact List.mem_cons_of_mem _ (reachD_celR k l (fun y hy cs B h => ih y hy k h) q3 x hx)
  · exact List.mem_append_right _ (reachD_strR h1 k x hx)
/-- A result that is data in memory, as a plain value. -/
theorem snapI_dat {f : FuncId} (hf : CC.snaps.contains f = true) {M : Mem} {d : Dat} {cs : List AV} {B : List Nat} (h : DatR M d cs B) (hh : hgt d ≤ 1000000) {Q : AV × Mem → Prop} (hQ : ∀ ids, (∀ x ∈ ids, x ∈ B) → Q (d.av, frozM M ids)) : Comes (snapI CC f (.agg cs) M) Q := by
  unfold snapI
  rw [if_pos hf]
  have e : snapD M 2097152 (.agg cs) = some d.av := by
    have h1 := snap_datR d 2097151 (by omega) h
    obtain ⟨k, n, t, l, ns⟩ := d
    rw [snapD, h1, Dat.av_mk]
    rfl
  rw [e]
  exact comes_some.2 (hQ _ fun x hx => by
    rw [reachD] at hx
    exact reachD_datR d _ h x hx)
theorem Fr.froz {m m' : Mem} {id : Nat} {ids : List Nat} (h : Fr m m' id) (hi : ∀ x ∈ ids, m.nid ≤ x) : Fr m (frozM m' ids) id := ⟨h.1, fun j hj hn => by
  show (if j ∈ ids then _ else _) = _
  rw [if_neg fun hx => by have := hi j hx; omega]
  exact h.2 j hj hn⟩
theorem RdAt.froz {m : Mem} {id : Nat} {bs : List Int} {P : Nat} {ids : List Nat} (h : RdAt m id bs P) (hi : id ∉ ids) : RdAt (frozM m ids) id bs P := by
  refine RdAt.fr (m' := frozM m ids) h (Nat.le_refl _) ?_
  show (if id ∈ ids then _ else _) = _
  rw [if_neg hi]
theorem out_dat {M : Mem} {lo : Nat} {L : List Dat} {N : List ByteArray} {lv nv : AV} (h : OutL M lo L N lv nv) (k n : Int) (t : ByteArray) : ∃ B, DatR M (.mk k n t L N) [.int .i64 k, .int .i64 n, .str t, lv, nv] B ∧ ∀ x ∈ B, lo ≤ x ∧ x < M.nid := by
  rcases h with ⟨rfl, rfl, rfl, rfl⟩ | ⟨a, g, b, q, ty, ty', cs, B, rfl, rfl, h3, h4, h5, h6, h7, h8, h9, h10, h11, h12, h13, h14⟩
  · exact ⟨[], datR_iff.2 ⟨_, _, [], [], rfl, rfl, .inr (.inl ⟨rfl, rfl, rfl⟩), .inr (.inl ⟨rfl, rfl, rfl⟩)⟩, by simp⟩
  · refine ⟨(a :: B) ++ [b], datR_iff.2 ⟨_, _, _, _, rfl, rfl, .inr (.inr ⟨b, q, true, by rw [h5], cells_at h4, rfl⟩), .inr (.inr ⟨a, g, true, cs, B, rfl, cells_at h3, h6, rfl⟩)⟩, fun x hx => ?_⟩
    simp only [List.mem_append, List.mem_cons, List.mem_nil_iff, or_false] at hx
    rcases hx with (rfl | hx) | rfl
    · exact ⟨h10, h11⟩
    · exact h14 x hx
    · exact ⟨h12, h13⟩
theorem out_snap {M : Mem} {lo : Nat} {L : List Dat} {N : List ByteArray} {lv nv : AV} (h : OutL M lo L N lv nv) (hh : ∀ d ∈ L, hgt d ≤ 1000) : snapD M 2097151 lv = some (.slice 5 (L.map Dat.av)) ∧ snapD M 2097151 nv = some (.slice 1 (N.map AV.str)) ∧ ∀ x ∈ reachD M 2097151 lv ++ reachD M 2097151 nv, lo ≤ x := by
  obtain ⟨B, hD, hB⟩ := out_dat h 0 0 ⟨#[]⟩
  have hr := reachD_datR _ 2097151 hD
  obtain ⟨lv', nv', Bl, Bn, he, rfl, h1, h2⟩ := datR_iff.1 hD
  simp only [List.cons.injEq, and_true, true_and] at he
  obtain ⟨rfl, rfl⟩ := he
  refine ⟨snap_lstR h2 2097149 fun x hx => by have := hh x hx; omega, snap_strR h1 2097149, fun x hx => (hB x (hr x ?_)).1⟩
  simp only [List.map_cons, List.map_nil, List.flatten_cons, List.flatten_nil, List.append_nil]
  exact List.mem_append_right _ (List.mem_append_right _ (List.mem_append_right _ hx))
theorem OutL.ones {M : Mem} {lo : Nat} {L : List Dat} {N : List ByteArray} {lv nv : AV} (h : OutL M lo L N lv nv) : lv.one = true ∧ nv.one = true := by
  rcases h with ⟨_, _, rfl, rfl⟩ | ⟨a, g, b, q, ty, ty', cs, B, rfl, rfl, _⟩ <;> exact ⟨rfl, rfl⟩
theorem OkL.sane {H i : Nat} {L : List Dat} {N : List ByteArray} (h : OkL H i L N) (hi : i ≤ 1000000) {k n : Int} (hk : smallI k) (hn : smallI n) : Dat.Sane (.mk k n ⟨#[]⟩ L N) ∧ hgt (.mk k n ⟨#[]⟩ L N) ≤ H + 2 := by
  unfold smallI at hk hn
  obtain ⟨h1, h2, h3, h4, h5⟩ := h
  exact ⟨.mk _ _ _ _ _ (by unfold i64; omega) (by unfold i64; omega) (by decide) (by omega) (by omega) (fun s hs => by have := h4 s hs; omega) fun x hx => (h3 x hx).1, hgt_le (fun x hx => (h3 x hx).2) (fun _ => h5)⟩
set_option maxHeartbeats 2000000 in
/-- A drawn value of a plain base. -/
theorem Datum0_wp (tone : Bool) (part : Option (List Dcl)) (main : List Dcl) : DatumOk (.slice 2 ((plainS part main).map strA)) (.slice 2 ((plainE tone).map enA)) (basesT tone) 1 1 1000000000000 := by
  intro b hbb deep m id bs P h hb hP Q hQ
  have hst := l9Struct_eq (plainS part main) ((plainE tone).map enA) (by cases part <;> simp [plainS]) b
  rw [base_none hbb] at hst
  have hen := l9Enum_eq (plainE tone) ((plainS part main).map strA) (by cases tone <;> simp [plainE]) b
  obtain ⟨e, he⟩ : ∃ e, e = firstI (fun d : ByteArray × List ByteArray => decide (d.1 = b)) (plainE tone) := ⟨_, rfl⟩
  rw [← he] at hen
  have he2 : e = -1 ∨ e = 0 ∧ tone = true := by
    rcases firstI_cases (fun d : ByteArray × List ByteArray => decide (d.1 = b)) (plainE tone) with h | ⟨i, hi, h⟩
    · exact .inl (he.trans h)
    · cases tone
      · simp [plainE] at hi
      · simp [plainE] at hi
        subst hi
        exact .inr ⟨he.trans h, rfl⟩
  obtain ⟨sv, hsv⟩ : ∃ sv, sv = AV.slice 2 ((plainS part main).map strA) := ⟨_, rfl⟩
  obtain ⟨ev, hev⟩ : ∃ ev, ev = AV.slice 2 ((plainE tone).map enA) := ⟨_, rfl⟩
  have o1 : sv.one = true := by rw [hsv]; rfl
  have o2 : ev.one = true := by rw [hev]; rfl
  have n1 : ∀ M, snapD M 2097151 sv = some sv := fun M => by rw [hsv]; rfl
  have n2 : ∀ M, snapD M 2097151 ev = some ev := fun M => by rw [hev]; rfl
  rw [← hsv, ← hev] at hst hen ⊢
  have hid := h.1
  refine fnI_wp (rs := [.cell 8 26]) Tryz.func29 rfl rfl (Nat.le_of_ble_eq_true rfl) rfl (entry_plain ?_) ?_
  · intro a ha
    simp only [List.mem_cons, List.mem_nil_iff, or_false] at ha
    rcases ha with rfl | rfl | rfl | rfl
    · exact .inl rfl
    · exact .inr (by rw [hsv, hev]; exact ⟨rfl, rfl⟩)
    · exact .inr ⟨rfl, rfl⟩
    · exact .inr ⟨rfl, rfl⟩
  simp only [AV.one] at o1 o2
  have hM : ∀ {x y : Blk}, RdAt ⟨upd (upd m.sto m.nid x) (m.nid + 1) y, m.nid + 2⟩ id bs P := fun {x y} => (h.put (n := m.nid) (by omega) (Nat.le_refl _)).put (by omega) (by show m.nid ≤ m.nid + 2; omega)
  have hFM : ∀ {x y : Blk}, Fr m ⟨upd (upd m.sto m.nid x) (m.nid + 1) y, m.nid + 2⟩ id := fun {x y} => ((Fr.refl m id).put (n := m.nid) (Nat.le_refl _) (Nat.le_refl _)).put (by omega) (by show m.nid ≤ m.nid + 2; omega)
  have fin : ∀ (k n : Int) (t : ByteArray) (M : Mem), smallI k → i64 n → t.size ≤ 2000000000 → RdAt M id bs (P + 1) → Fr m M id → Q (.agg [.int .i64 k, .int .i64 n, .str t, .slice 5 [], .slice 1 []], M) := by
    intro k n t M hk hn ht hR hF
    unfold smallI at hk
    have := hQ (.mk k n t [] []) M (.mk _ _ _ _ _ (by unfold i64; omega) hn (by omega) (by decide) (by decide) (by simp) (by simp)) (hgt_le (by simp) (by simp)) hR hF
    rw [Dat.av_mk] at this
    exact this
  have fT : ∀ {m1 m' : Mem} {x : Blk}, Fr m m1 id → Fr m1 m' id → RdAt m' id bs (P + 1) → RdAt ⟨upd m'.sto (m.nid + 1) x, m'.nid⟩ id bs (P + 1) ∧ Fr m ⟨upd m'.sto (m.nid + 1) x, m'.nid⟩ id := fun h1 h2 h3 => ⟨h3.put (by omega) (Nat.le_refl _), (h1.trans h2).put (by omega) (Nat.le_refl _)⟩
  rcases he2 with rfl | ⟨rfl, ht⟩
  · simp +decide (disch := first | decide | omega) only [go_sem, Nat.reduceAdd, Nat.reduceMul, Nat.reduceSub, Nat.reduceLT, Nat.reduceLeDiff, Nat.reduceEqDiff, Nat.add_assoc, Int.reduceAdd, Int.reduceSub, Int.reduceMul, Int.reduceLT, Int.reduceLE, Int.reduceEq, Int.reduceNeg, strOp_add, o1, o2, n1, n2, hst, hen]
    refine bB_split (fun hB => ?_) (fun hB => ?_)
    · obtain ⟨r, hr, hr2⟩ := l1Many_ok ⟨#[119]⟩ 40 (by decide) (by omega)
      rw [show ((40 : Nat) : Int) = 40 from rfl] at hr
      simp +decide (disch := first | decide | omega) only [go_sem, Nat.reduceAdd, Nat.reduceMul, Nat.reduceSub, Nat.reduceLT, Nat.reduceLeDiff, Nat.reduceEqDiff, Nat.add_assoc, Int.reduceAdd, Int.reduceSub, Int.reduceMul, Int.reduceLT, Int.reduceLE, Int.reduceEq, Int.reduceNeg, strOp_add, hr]
      refine ofA_wp [⟨#[]⟩, ⟨#[104, 105]⟩, ⟨#[115, 97, 121, 32, 34, 120, 34]⟩, ⟨#[1, 92]⟩, r] _ id bs P (m.nid + 2) 0 true false none (upd_hit _ _ _) (by show m.nid + 2 < m.nid + 3; omega) (by omega) (hM.put (by omega) (by show m.nid + 2 ≤ m.nid + 3; omega)) hb (by omega) (by simp) (by simp) _ fun x m' hx h1 h2 => ?_
      have f8 := h2.at (show m.nid + 1 < m.nid + 3 by omega) (by omega) ((upd_miss _ _ _ _ (by omega)).trans (upd_hit _ _ _))
      simp +decide (disch := first | decide | omega) only [go_sem, Nat.reduceAdd, Nat.reduceMul, Nat.reduceSub, Nat.reduceLT, Nat.reduceLeDiff, Nat.reduceEqDiff, Nat.add_assoc, Int.reduceAdd, Int.reduceSub, Int.reduceMul, Int.reduceLT, Int.reduceLE, Int.reduceEq, Int.reduceNeg, strOp_add, f8]
      have hx2 : x.size ≤ 2000000000 := by
        simp only [List.mem_cons, List.mem_nil_iff, or_false] at hx
        rcases hx with rfl | rfl | rfl | rfl | rfl
        · decide
        · decide
        · decide
        · decide
        · exact hr2
      obtain ⟨g1, g2⟩ := fT (hFM.put (by omega) (by show m.nid + 2 ≤ m.nid + 3; omega)) h2 h1
      exact fin _ _ _ _ (by unfold smallI; omega) (by unfold i64; omega) hx2 g1 g2
    · simp only [decide_eq_false_iff_not] at hB
      simp +decide (disch := first | decide | omega) only [go_sem, Nat.reduceAdd, Nat.reduceMul, Nat.reduceSub, Nat.reduceLT, Nat.reduceLeDiff, Nat.reduceEqDiff, Nat.add_assoc, Int.reduceAdd, Int.reduceSub, Int.reduceMul, Int.reduceLT, Int.reduceLE, Int.reduceEq, Int.reduceNeg, strOp_add]
      refine bB_split (fun hB2 => ?_) (fun hB2 => ?_)
      · simp +decide (disch := first | decide | omega) only [go_sem, Nat.reduceAdd, Nat.reduceMul, Nat.reduceSub, Nat.reduceLT, Nat.reduceLeDiff, Nat.reduceEqDiff, Nat.add_assoc, Int.reduceAdd, Int.reduceSub, Int.reduceMul, Int.reduceLT, Int.reduceLE, Int.reduceEq, Int.reduceNeg, strOp_add]
        refine pick_wp 2 _ id bs P hM hb (by omega) (by omega) (by omega) _ fun x m' hx h1 h2 => ?_
        have f8 := h2.at (show m.nid + 1 < m.nid + 2 by omega) (by omega) (upd_hit _ _ _)
        simp +decide (disch := first | decide | omega) only [go_sem, Nat.reduceAdd, Nat.reduceMul, Nat.reduceSub, Nat.reduceLT, Nat.reduceLeDiff, Nat.reduceEqDiff, Nat.add_assoc, Int.reduceAdd, Int.reduceSub, Int.reduceMul, Int.reduceLT, Int.reduceLE, Int.reduceEq, Int.reduceNeg, strOp_add, f8]
        obtain ⟨g1, g2⟩ := fT hFM h2 h1
        exact fin _ _ _ _ (by unfold smallI; omega) (by unfold i64; omega) (by decide) g1 g2
      · simp only [decide_eq_false_iff_not] at hB2
        simp +decide (disch := first | decide | omega) only [go_sem, Nat.reduceAdd, Nat.reduceMul, Nat.reduceSub, Nat.reduceLT, Nat.reduceLeDiff, Nat.reduceEqDiff, Nat.add_assoc, Int.reduceAdd, Int.reduceSub, Int.reduceMul, Int.reduceLT, Int.reduceLE, Int.reduceEq, Int.reduceNeg, strOp_add]
        refine bB_split (fun hB3 => ?_) (fun hB3 => ?_)
        · simp +decide (disch := first | decide | omega) only [go_sem, Nat.reduceAdd, Nat.reduceMul, Nat.reduceSub, Nat.reduceLT, Nat.reduceLeDiff, Nat.reduceEqDiff, Nat.add_assoc, Int.reduceAdd, Int.reduceSub, Int.reduceMul, Int.reduceLT, Int.reduceLE, Int.reduceEq, Int.reduceNeg, strOp_add]
          refine oneA_wp [0, -1, 5, 999999999999999999] _ id bs P (m.nid + 2) 0 true false none (upd_hit _ _ _) (by show m.nid + 2 < m.nid + 3; omega) (by omega) (hM.put (by omega) (by show m.nid + 2 ≤ m.nid + 3; omega)) hb (by omega) (by simp) (by simp) _ fun x m' hx h1 h2 => ?_
          have f8 := h2.at (show m.nid + 1 < m.nid + 3 by omega) (by omega) ((upd_miss _ _ _ _ (by omega)).trans (upd_hit _ _ _))
          simp +decide (disch := first | decide | omega) only [go_sem, Nat.reduceAdd, Nat.reduceMul, Nat.reduceSub, Nat.reduceLT, Nat.reduceLeDiff, Nat.reduceEqDiff, Nat.add_assoc, Int.reduceAdd, Int.reduceSub, Int.reduceMul, Int.reduceLT, Int.reduceLE, Int.reduceEq, Int.reduceNeg, strOp_add, f8]
          have hx2 : i64 x := by
            simp only [List.mem_cons, List.mem_nil_iff, or_false] at hx
            unfold i64
            omega
          obtain ⟨g1, g2⟩ := fT (hFM.put (by omega) (by show m.nid + 2 ≤ m.nid + 3; omega)) h2 h1
          exact fin _ _ _ _ (by unfold smallI; omega) hx2 (by decide) g1 g2
        · simp only [decide_eq_false_iff_not] at hB3
          simp +decide (disch := first | decide | omega) only [go_sem, Nat.reduceAdd, Nat.reduceMul, Nat.reduceSub, Nat.reduceLT, Nat.reduceLeDiff, Nat.reduceEqDiff, Nat.add_assoc, Int.reduceAdd, Int.reduceSub, Int.reduceMul, Int.reduceLT, Int.reduceLE, Int.reduceEq, Int.reduceNeg, strOp_add]
          refine oneA_wp [0, 1, 5, 200, 255] _ id bs P (m.nid + 2) 0 true false none (upd_hit _ _ _) (by show m.nid + 2 < m.nid + 3; omega) (by omega) (hM.put (by omega) (by show m.nid + 2 ≤ m.nid + 3; omega)) hb (by omega) (by simp) (by simp) _ fun x m' hx h1 h2 => ?_
          have f8 := h2.at (show m.nid + 1 < m.nid + 3 by omega) (by omega) ((upd_miss _ _ _ _ (by omega)).trans (upd_hit _ _ _))
          simp +decide (disch := first | decide | omega) only [go_sem, Nat.reduceAdd, Nat.reduceMul, Nat.reduceSub, Nat.reduceLT, Nat.reduceLeDiff, Nat.reduceEqDiff, Nat.add_assoc, Int.reduceAdd, Int.reduceSub, Int.reduceMul, Int.reduceLT, Int.reduceLE, Int.reduceEq, Int.reduceNeg, strOp_add, f8]
          have hx2 : i64 x := by
            simp only [List.mem_cons, List.mem_nil_iff, or_false] at hx
            unfold i64
            omega
          obtain ⟨g1, g2⟩ := fT (hFM.put (by omega) (by show m.nid + 2 ≤ m.nid + 3; omega)) h2 h1
          exact fin _ _ _ _ (by unfold smallI; omega) hx2 (by decide) g1 g2
  · subst ht
    obtain ⟨ws, hws, hwl⟩ : ∃ ws, ws = words3.map AV.str ∧ ws.length = 3 := ⟨_, rfl, rfl⟩
    have hev2 : ev = .slice 2 [.agg [.str nTone, .slice 1 ws]] := by rw [hev, hws]; rfl
    subst hev2
    simp +decide (disch := first | decide | omega) only [go_sem, Nat.reduceAdd, Nat.reduceMul, Nat.reduceSub, Nat.reduceLT, Nat.reduceLeDiff, Nat.reduceEqDiff, Nat.add_assoc, Int.reduceAdd, Int.reduceSub, Int.reduceMul, Int.reduceLT, Int.reduceLE, Int.reduceEq, Int.reduceNeg, strOp_add, o1, n1, n2, hst, hen, hwl]
    refine pick_wp 3 _ id bs P hM hb (by omega) (by omega) (by omega) _ fun x m' hx h1 h2 => ?_
    have f8 := h2.at (show m.nid + 1 < m.nid + 2 by omega) (by omega) (upd_hit _ _ _)
    simp +decide (disch := first | decide | omega) only [go_sem, Nat.reduceAdd, Nat.reduceMul, Nat.reduceSub, Nat.reduceLT, Nat.reduceLeDiff, Nat.reduceEqDiff, Nat.add_assoc, Int.reduceAdd, Int.reduceSub, Int.reduceMul, Int.reduceLT, Int.reduceLE, Int.reduceEq, Int.reduceNeg, strOp_add, f8]
    obtain ⟨g1, g2⟩ := fT hFM h2 h1
    exact fin _ _ _ _ (by unfold smallI; omega) (by unfold i64; omega) (by decide) g1 g2
theorem DatumOk.mono {sv ev : AV} {bases : List ByteArray} {c c' H H' W W' : Nat} (h : DatumOk sv ev bases c H W) (hc : c ≤ c') (hH : H ≤ H') (hW : W' ≤ W) : DatumOk sv ev bases c' H' W' :=
  fun b hb deep m id bs P h1 h2 h3 Q hQ => h b hb deep m id bs P h1 h2 (by omega) Q fun d m' k1 k2 k3 k4 => hQ d m' k1 (by omega) (k3.mono (by omega)) k4
set_option maxHeartbeats 2000000 in
/-- A drawn value of any base. -/
theorem Datum1_wp (tone : Bool) (part : Option (List Dcl)) (main : List Dcl) (hp : ∀ p, part = some p → GoodL (basesT tone) p) : DatumOk (.slice 2 ((plainS part main).map strA)) (.slice 2 ((plainE tone).map enA)) (basesM tone part) 120 3 900000000000 := by
  cases part with
  | none =>
    have : basesM tone none = basesT tone := by simp [basesM]
    rw [this]
    exact (Datum0_wp tone none main).mono (by omega) (by omega) (by omega)
  | some p =>
  have hD0 := Datum0_wp tone (some p) main
  obtain ⟨g1, g2, g3, g4⟩ := hp p rfl
  intro b hbb deep m id bs P h hb hP Q hQ
  by_cases hbT : b ∈ basesT tone
  · exact hD0.mono (by omega) (by omega) (by omega) b hbT deep m id bs P h hb hP Q hQ
  obtain rfl : b = nPart := by
    have : b ∈ basesT tone ++ [nPart, nPart] := by simpa [basesM] using hbb
    rcases List.mem_append.1 this with h | h
    · exact absurd h hbT
    · simpa using h
  clear hbb hbT
  have hst := l9Struct_eq (plainS (some p) main) ((plainE tone).map enA) (by simp [plainS]) nPart
  rw [show firstI (fun d : ByteArray × List Dcl => decide (d.1 = nPart)) (plainS (some p) main) = 0 from by simp [firstI, plainS, List.findIdx?_cons]] at hst
  obtain ⟨ne, hen⟩ : ∃ e : Int, fnA CC PR 60 [.agg [.slice 2 ((plainS (some p) main).map strA), .slice 2 ((plainE tone).map enA)], .str nPart] = some (.int .i64 e) := ⟨_, l9Enum_eq (plainE tone) ((plainS (some p) main).map strA) (by cases tone <;> simp [plainE]) nPart⟩
  have hT := Tree_wp (plainS (some p) main) (plainE tone) (by simp [plainS]) (by cases tone <;> simp [plainE]) (basesT tone) 1 1 1000000000000 (by omega) (by omega) (by omega) hD0 nPart p g2 g3 g4
  have hsv : (plainS (some p) main).map strA = [.agg [.str nPart, .slice 6 (p.map Dcl.av)], .agg [.str nMain, .slice 6 (main.map Dcl.av)]] := rfl
  rw [hsv] at hst hen hT ⊢
  obtain ⟨ev, hev⟩ : ∃ ev, ev = AV.slice 2 ((plainE tone).map enA) := ⟨_, rfl⟩
  have o2 : ev.one = true := by rw [hev]; rfl
  have n2 : ∀ M, snapD M 2097151 ev = some ev := fun M => by rw [hev]; rfl
  have q2 : Quiet (.agg [.slice 2 [.agg [.str nPart, .slice 6 (p.map Dcl.av)], .agg [.str nMain, .slice 6 (main.map Dcl.av)]], ev]) := quiet_agg (by rw [hev]; simp [still])
  have q3 : Quiet (.agg [.str nPart, .slice 6 (p.map Dcl.av)]) := quiet_agg (by simp [still])
  rw [← hev] at hst hen hT ⊢
  have hid := h.1
  refine fnI_wp (rs := [.cell 8 26]) Tryz.func29 rfl rfl (Nat.le_of_ble_eq_true rfl) rfl (entry_plain ?_) ?_
  · intro a ha
    simp only [List.mem_cons, List.mem_nil_iff, or_false] at ha
    rcases ha with rfl | rfl | rfl | rfl
    · exact .inl rfl
    · exact .inr (by rw [hev]; exact ⟨rfl, rfl⟩)
    · exact .inr ⟨rfl, rfl⟩
    · exact .inr ⟨rfl, rfl⟩
  simp only [AV.one] at o2
  have hM : ∀ {x y : Blk} {k : Nat}, 2 ≤ k → RdAt ⟨upd (upd m.sto m.nid x) (m.nid + 1) y, m.nid + k⟩ id bs P := fun {x y k} hk => (h.put (n := m.nid) (by omega) (Nat.le_refl _)).put (by omega) (by show m.nid ≤ m.nid + k; omega)
  have hFM : ∀ {x y : Blk} {k : Nat}, Fr m ⟨upd (upd m.sto m.nid x) (m.nid + 1) y, m.nid + k⟩ id := fun {x y k} => ((Fr.refl m id).put (n := m.nid) (Nat.le_refl _) (Nat.le_refl _)).put (by omega) (by show m.nid ≤ m.nid + k; omega)
  simp +decide (disch := first | decide | omega) only [go_sem, Nat.reduceAdd, Nat.reduceMul, Nat.reduceSub, Nat.reduceLT, Nat.reduceLeDiff, Nat.reduceEqDiff, Nat.add_assoc, Int.reduceAdd, Int.reduceSub, Int.reduceMul, Int.reduceLT, Int.reduceLE, Int.reduceEq, Int.reduceNeg, strOp_add, o2, n2, hst, hen]
  refine (d_plan (ord := [0, 1, 2, 3, 4, 5, 6, 7, 8, 9, 10]) (prs := [(1, 3), (1, 6)]) (by kernel_rfl)).2 ?_
  simp +decide (disch := first | decide | omega) only [go_sem, Nat.reduceAdd, Nat.reduceMul, Nat.reduceSub, Nat.reduceLT, Nat.reduceLeDiff, Nat.reduceEqDiff, Nat.add_assoc, Int.reduceAdd, Int.reduceSub, Int.reduceMul, Int.reduceLT, Int.reduceLE, Int.reduceEq, Int.reduceNeg, strOp_add, o2, n2]
  refine rd_far (P' := P + 120) (hM (by omega)) (by rw [reach_rd (hM (by omega)), q2.1, q3.1, (quiet_still rfl).1]; rfl) (by
    intro x hx
    simp only [List.mem_cons, List.mem_nil_iff, or_false] at hx
    rcases hx with rfl | rfl | rfl
    · exact q2
    · exact q3
    · exact quiet_still rfl) (fun v m' => ∃ lv nv L N, OutL m' (m.nid + 13) L N lv nv ∧ OkL 1 5 L N ∧ v = .agg [.int .i64 4, .int .i64 0, .str ⟨#[]⟩, lv, nv]) (fun Q hQ => ?_) (fun v m' hv j1 j2 j3 => ?_)
  · exact hT _ _ id bs _ (rd_mask (hM (by omega)) (by simp)) hb (by omega) Q fun lv nv L N m' h1 h2 h3 h4 => hQ _ _ ⟨lv, nv, L, N, h1, h2, rfl⟩ (h3.mono (by omega)) h4
  · obtain ⟨lv, nv, L, N, hO, hOk, rfl⟩ := hv
    have f8 := j2.at (show m.nid + 1 < m.nid + 13 by omega) (by omega) (upd_hit _ _ _)
    have hF1 := (hFM (k := 13)).trans j2
    obtain ⟨o3, o4⟩ := hO.ones
    simp only [AV.one] at o3 o4
    dsimp only at f8 j1 j3 hF1
    clear j2
    generalize hJ : (joinM [id] (m.nid + 13) ⟨upd (upd m.sto m.nid _) (m.nid + 1) _, m.nid + 13⟩ m').sto = J at *
    have hO1 : OutL ⟨J, m'.nid⟩ (m.nid + 13) L N lv nv := hO.keep (M' := ⟨J, m'.nid⟩) (Nat.le_refl _) fun j h1 h2 => j3 j h1
    have hO2 : ∀ x, OutL ⟨upd J (m.nid + 1) x, m'.nid⟩ (m.nid + 13) L N lv nv := fun x => hO1.keep (M' := ⟨upd J (m.nid + 1) x, m'.nid⟩) (Nat.le_refl _) fun j h1 h2 => upd_miss _ _ _ _ (by omega)
    have hs := fun x => out_snap (hO2 x) fun d hd => by have := (hOk.2.2.1 d hd).2; omega
    have hs1 := fun x => (hs x).1
    have hs2 := fun x => (hs x).2.1
    simp +decide (disch := first | decide | omega) only [go_sem, Nat.reduceAdd, Nat.reduceMul, Nat.reduceSub, Nat.reduceLT, Nat.reduceLeDiff, Nat.reduceEqDiff, Nat.add_assoc, Int.reduceAdd, Int.reduceSub, Int.reduceMul, Int.reduceLT, Int.reduceLE, Int.reduceEq, Int.reduceNeg, strOp_add, hJ, f8, o3, o4, hs1, hs2]
    obtain ⟨k1, k2⟩ := hOk.sane (k := 4) (n := 0) (by omega) (by unfold smallI; omega) (by unfold smallI; omega)
    have hq := hQ (.mk 4 0 ⟨#[]⟩ L N)
    rw [Dat.av_mk] at hq
    have hi := (hs ⟨[.int .i64 4, .int .i64 0, .str ⟨#[]⟩, lv, nv], 0, false, some (26, true)⟩).2.2
    exact hq _ k1 (by omega) ((j1.put (by omega) (Nat.le_refl _)).froz fun hx => by have := hi _ hx; omega) ((hF1.put (by omega) (Nat.le_refl _)).froz fun x hx => by have := hi x hx; omega)
end Go.Ev.Tryz
