/- Part of the proof of a statement about the given program: R12ZD. No condition of its own. -/
import Derived.Test.YtmnpcdchlobdlaaGreatDoorR11ZD
import Derived.Test.YtmnpcdchlobdlaaGreatDoorR10ZD
namespace Go.Ev.Tryz
open Go.Proofs
set_option maxRecDepth 10000
set_option linter.unusedSimpArgs false
set_option linter.unusedVariables false
attribute [local congr] comes_congr bB_congr gK_congr gdK_congr

theorem EnsR.one {M : Mem} {lo : Nat} {ev : AV} {L : EnL} (h : EnsR M lo ev L) : ev.one = true := by
  rcases h with ⟨_, rfl⟩ | ⟨s, g, _, _, _, rfl, _⟩ <;> rfl
/-- A call that draws out of a list in a block, in a region whose order is drawn. -/
theorem rdl_far {f : FuncId} {lid g n sz : Nat} {app : Bool} {m : Mem} {id P P' : Nat} {bs : List Int} {ids : List Nat} (h : RdAt m id bs P) (hlid : lid < m.nid) (hne : lid ≠ id) (hst : ∀ c ∈ (m.sto lid).cells, still c = true) (hg : (m.sto lid).gen = g) (hids : ids = [id, lid]) (post : AV → Mem → Prop) {K : Do → Prop}
    (hc : ∀ Q : AV × Mem → Prop, (∀ v m', post v m' → RdAt m' id bs P' → Fr (mask [id, lid] m) m' id → Q (v, m')) → Comes (fnI CC PR f [.ptr id 0 0, .arr lid g 0 n sz app] (mask [id, lid] m)) Q)
    (hK : ∀ v m', post v m' → RdAt ⟨(joinM [id, lid] m.nid m m').sto, m'.nid⟩ id bs P' → Fr m ⟨(joinM [id, lid] m.nid m m').sto, m'.nid⟩ id → (∀ k, m.nid ≤ k → (joinM [id, lid] m.nid m m').sto k = m'.sto k) → K (.call [id, lid] m.nid v m')) :
    closedB m ids [.ptr id 0 0, .arr lid g 0 n sz app] = true ∧ Comes (fnI CC PR f [.ptr id 0 0, .arr lid g 0 n sz app] (mask ids m)) (farK ids m K) := by
  subst hids
  have hci : List.contains [id, lid] id = true := by simp
  have hcl2 : List.contains [id, lid] lid = true := by simp
  refine ⟨?_, hc _ fun v m' hv hR hF => ?_⟩
  · simp only [closedB, Bool.and_eq_true, List.all_eq_true, List.mem_cons, List.mem_nil_iff, or_false]
    refine ⟨?_, ?_⟩
    · rintro v (rfl | rfl)
      · simp [leadsB, rd_gen h]
      · simp [leadsB, hg]
    · rintro v (rfl | rfl)
      · exact fun c hc => leads_still (rd_still h c hc) _ _ _
      · exact fun c hc => leads_still (hst c hc) _ _ _
  · obtain ⟨j1, j2, j3⟩ := join_fr hF hci hR
    refine ⟨?_, hK v m' hv j1 j2 j3⟩
    intro i hi
    simp only [List.mem_cons, List.mem_nil_iff, or_false] at hi
    rcases hi with rfl | rfl
    · rw [rd_gen h]; exact Nat.zero_le _
    · have hq := hF.2 i hlid hne
      have e : ((mask [id, i] m).sto i).gen = (m.sto i).gen := by simp only [mask, hcl2, if_true]
      show (m.sto i).gen ≤ (m'.sto i).gen
      rw [hq, e]
      exact Nat.le_refl _
theorem ens_set {M M' : Mem} {lo : Nat} {ev : AV} {L : EnL} (h : EnsR M lo ev L) (hn : M.nid ≤ M'.nid) {d : Nat} {a : AV} {k : IntKind} {z : Int} {r : List AV} (hd : (M.sto d).cells = a :: .int k z :: r) (e : ∀ j, lo ≤ j → j < M.nid → j ≠ d → M'.sto j = M.sto j) : EnsR M' lo ev L := by
  rcases h with h | ⟨s, g, h0, h1, h2, h3, h4, h5⟩
  · exact .inl h
  · have hs : s ≠ d := by
      rintro rfl
      rw [h4.1] at hd
      cases L with
      | nil => cases hd
      | cons x L =>
        obtain ⟨_, _, _, _, hx, _⟩ := h5 x (by simp)
        have : enC (x :: L) = .str x.1 :: x.2.1 :: enC L := rfl
        rw [this, hx] at hd
        simp at hd
    refine .inr ⟨s, g, h0, h1, by omega, h3, h4.same (by rw [e s h1 h2 hs]; exact ⟨rfl, rfl⟩), fun x hx => ?_⟩
    obtain ⟨w, wg, w1, w2, w3, w4⟩ := h5 x hx
    have hw : w ≠ d := by
      rintro rfl
      rw [w4.1] at hd
      match x.2.2, hd with
      | [], hd => cases hd
      | [_], hd => simp at hd
      | _ :: _ :: _, hd => simp at hd
    exact ⟨w, wg, w1, by omega, w3, w4.same (by rw [e w w1 w2 hw]; exact ⟨rfl, rfl⟩)⟩
theorem sane_set {L : StL} {es : List (ByteArray × List ByteArray)} (h : SaneS (stP L) es) {k : Nat} (hk : k < L.length) {v : AV} {l' : List Dcl} (h1 : 1 ≤ l'.length) (h2 : l'.length ≤ 10) (h3 : ∀ d ∈ l', DclS d) : SaneS (stP (L.set k (L[k].1, v, l'))) es := by
  obtain ⟨⟨a1, a2, a3⟩, a4⟩ := h
  have hn := (a3 (L[k].1, L[k].2.2) (List.mem_map.2 ⟨L[k], List.getElem_mem hk, rfl⟩)).1
  have e : stP (L.set k (L[k].1, v, l')) = (stP L).set k (L[k].1, l') := by unfold stP; rw [List.map_set]
  rw [e]
  refine ⟨⟨by rw [List.length_set]; exact a1, by rw [List.length_set]; exact a2, fun s hs => ?_⟩, a4⟩
  rcases List.mem_or_eq_of_mem_set hs with hs | rfl
  · exact a3 s hs
  · exact ⟨hn, h1, h2, h3⟩
theorem reachD_dec {u : Bool} {M : Mem} {lo : Nat} {v : AV} {l : List Dcl} (h : DecAt u M lo v l) (k : Nat) : ∀ x ∈ reachD M k v, lo ≤ x := by
  obtain ⟨d, g, h1, h2, rfl, h3⟩ := h
  cases k with
  | zero => intro x hx; cases hx
  | succ k =>
    rw [reachD_arr (by rw [h3.1]; exact still_dclC l)]
    intro x hx
    rw [List.mem_singleton.1 hx]
    exact h1
theorem reachD_sts {u : Bool} {M : Mem} {lo : Nat} {v : AV} {L : StL} (h : StsR u M lo v L) (k : Nat) : ∀ x ∈ reachD M k v, lo ≤ x := by
  obtain ⟨s, g, h1, h2, rfl, h3, h4⟩ := h
  cases k with
  | zero => intro x hx; cases hx
  | succ k =>
    intro x hx
    simp only [reachD, h3.1] at hx
    rcases List.mem_cons.1 hx with rfl | hx
    · exact h1
    · obtain ⟨l, hl, hxl⟩ := List.mem_flatten.1 hx
      obtain ⟨c, hc, rfl⟩ := List.mem_map.1 hl
      obtain ⟨p, hp, hcp⟩ := List.mem_flatten.1 hc
      obtain ⟨y, hy, rfl⟩ := List.mem_map.1 hp
      simp only [List.mem_cons, List.mem_nil_iff, or_false] at hcp
      rcases hcp with rfl | rfl
      · rw [reachD_still rfl] at hxl; cases hxl
      · exact reachD_dec (h4 y hy) k x hxl
theorem reachD_wd {M : Mem} {lo : Nat} {v : AV} {l : List ByteArray} (h : WdAt M lo v l) (k : Nat) : ∀ x ∈ reachD M k v, lo ≤ x := by
  obtain ⟨d, g, h1, h2, rfl, h3⟩ := h
  cases k with
  | zero => intro x hx; cases hx
  | succ k =>
    rw [reachD_arr (by rw [h3.1]; exact still_strs l)]
    intro x hx
    rw [List.mem_singleton.1 hx]
    exact h1
theorem reachD_ens {M : Mem} {lo : Nat} {v : AV} {L : EnL} (h : EnsR M lo v L) (k : Nat) : ∀ x ∈ reachD M k v, lo ≤ x := by
  rcases h with ⟨_, rfl⟩ | ⟨s, g, _, h1, h2, rfl, h3, h4⟩
  · intro x hx; cases k <;> cases hx
  cases k with
  | zero => intro x hx; cases hx
  | succ k =>
    intro x hx
    simp only [reachD, h3.1] at hx
    rcases List.mem_cons.1 hx with rfl | hx
    · exact h1
    · obtain ⟨l, hl, hxl⟩ := List.mem_flatten.1 hx
      obtain ⟨c, hc, rfl⟩ := List.mem_map.1 hl
      obtain ⟨p, hp, hcp⟩ := List.mem_flatten.1 hc
      obtain ⟨y, hy, rfl⟩ := List.mem_map.1 hp
      simp only [List.mem_cons, List.mem_nil_iff, or_false] at hcp
      rcases hcp with rfl | rfl
      · rw [reachD_still rfl] at hxl; cases hxl
      · exact reachD_wd (h4 y hy) k x hxl
def l5 : List ByteArray := [⟨#[77, 97, 105, 110]⟩, ⟨#[79, 100, 100]⟩, ⟨#[85, 56]⟩]
def l6 : List ByteArray := [⟨#[97]⟩, ⟨#[98]⟩, ⟨#[57]⟩]
set_option maxHeartbeats 8000000 in
theorem AnySchema_wp (m : Mem) (id : Nat) (bs : List Int) (P : Nat) (h : RdAt m id bs P) (hb : Bytes bs) (hP : P ≤ 80000000000000) (Q : AV × Mem → Prop)
    (hQ : ∀ ss es m', SaneS ss es → RdAt m' id bs (P + 110) → Fr m m' id → Q (.agg [.slice 2 (ss.map strA), .slice 2 (es.map enA)], m')) :
    Comes (fnI CC PR 35 [.ptr id 0 0] m) Q := by
  have hid := h.1
  refine fnI_wp (rs := [.cell 2 42]) Tryz.func35 rfl rfl (Nat.le_of_ble_eq_true rfl) rfl rfl ?_
  simp +decide only [go_sem, Nat.reduceAdd, Nat.reduceMul, Nat.reduceSub, Nat.reduceLT, Nat.reduceLeDiff, Nat.reduceEqDiff, Nat.add_assoc, Int.reduceAdd, Int.reduceSub, Int.reduceMul, Int.reduceLT, Int.reduceLE, Int.reduceEq, Int.reduceNeg, strOp_add]
  refine Schema_wp _ id bs P (h.put (by omega) (Nat.le_succ _)) hb (by omega) _ fun v m1 tone part main hS h1 h2 => ?_
  obtain ⟨sv, ev, rfl, hSt, hEn, hp, hm⟩ := hS
  obtain ⟨L, hL, hLP, hLw⟩ := sts_of hSt
  obtain ⟨En, hE, hEP⟩ := ens_of hEn
  have hsane := plain_sane hp hm
  rw [← hLP, ← hEP] at hsane
  have hL2n : L.length ≤ 2 := by
    have h1 : (stP L).length = L.length := List.length_map _
    rw [hLP] at h1
    cases part <;> simp [plainS] at h1 <;> omega
  have hE2n : En.length ≤ 1 := by
    have h1 : (enP En).length = En.length := List.length_map _
    rw [hEP] at h1
    cases tone <;> simp [plainE] at h1 <;> omega
  have hEw : ∀ x ∈ En, 1 ≤ x.2.2.length := by
    intro x hx
    have h1 : (x.1, x.2.2) ∈ plainE tone := by rw [← hEP]; exact List.mem_map.2 ⟨x, hx, rfl⟩
    cases tone
    · simp [plainE] at h1
    · simp [plainE] at h1
      rw [h1.2]
      decide
  have hLd : ∀ x ∈ L, 1 ≤ x.2.2.length := fun x hx => (hsane.1.2.2 (x.1, x.2.2) (List.mem_map.2 ⟨x, hx, rfl⟩)).2.1
  clear hSt hEn hp hm hLP hEP
  have fr1 : Fr m m1 id := ((Fr.refl m id).put (n := m.nid + 1) (Nat.le_refl _) (Nat.le_succ _)).trans h2
  have f1 := h2.at (show m.nid < m.nid + 1 by omega) (by omega) (upd_hit _ _ _)
  have n1 : m.nid + 1 ≤ m1.nid := h2.1
  have o2 := hE.one
  simp only [AV.one] at o2
  have hL0 := hL
  obtain ⟨s, g, s1, s2, rfl, ⟨s4, s5, s6⟩, s7⟩ := hL0
  have hLl : 1 ≤ L.length ∧ L.length ≤ 10 := by
    have h1 := hsane.1.1
    have h2 := hsane.1.2.1
    rw [show (stP L).length = L.length from List.length_map _] at h1 h2
    exact ⟨h1, h2⟩
  have idm : id < m1.nid := h1.1
  simp +decide (disch := first | decide | omega) only [go_sem, Nat.reduceAdd, Nat.reduceMul, Nat.reduceSub, Nat.reduceLT, Nat.reduceLeDiff, Nat.reduceEqDiff, Nat.add_assoc, Int.reduceAdd, Int.reduceSub, Int.reduceMul, Int.reduceLT, Int.reduceLE, Int.reduceEq, Int.reduceNeg, strOp_add, f1, o2]
  refine pick_wp L.length _ id bs _ ((h1.put (n := m1.nid + 1) (by omega) (Nat.le_succ _)).put (by omega) (Nat.le_refl _)) hb (by omega) (by omega) (by omega) _ fun k m2 hk h3 h4 => ?_
  have n2 : m1.nid + 1 ≤ m2.nid := h4.1
  have f2 := h4.at (show m1.nid < m1.nid + 1 by omega) (by omega) (upd_hit _ _ _)
  have fr2 : Fr m m2 id := ((fr1.put (n := m1.nid + 1) (by omega) (Nat.le_succ _)).put (by omega) (Nat.le_refl _)).trans h4
  have same2 : ∀ j, m.nid + 1 ≤ j → j < m1.nid → m2.sto j = m1.sto j := fun j a b => (h4.2 j (by show j < m1.nid + 1; omega) (by omega)).trans ((upd_miss _ _ _ _ (by omega)).trans (upd_miss _ _ _ _ (by omega)))
  have hL2 := hL.keep (M' := m2) (by omega) same2
  have hE2 := hE.same (M' := m2) (by omega) fun j a b => by rw [same2 j a b]; exact ⟨rfl, rfl⟩
  have f12 := (h4.2 m.nid (by show m.nid < m1.nid + 1; omega) (by omega)).trans ((upd_miss _ _ _ _ (by omega)).trans ((upd_miss _ _ _ _ (by omega)).trans f1))
  clear hL hE h4 same2 f1 s4 s5 s6 s7 h1 fr1
  have hL3 := hL2
  obtain ⟨s', g', t1, t2, t3, ⟨t4, t5, t6⟩, t7⟩ := hL3
  simp only [AV.arr.injEq, and_true, true_and] at t3
  obtain ⟨rfl, rfl⟩ := t3
  replace t6 := t6 rfl
  obtain ⟨d, gd, a1, a2, a3, a4, a5, a6⟩ := t7 L[k] (List.getElem_mem hk)
  replace a6 := a6 rfl
  obtain ⟨y1, y2⟩ := stC_at L k hk
  rw [a3] at y1
  have hat : (List.drop (k * 2 + 1) (stC L)).head? = some (.arr d gd 0 L[k].2.2.length 6 true) := by
    have : ((List.drop (k * 2) (stC L)).take 2)[1]? = some (.arr d gd 0 L[k].2.2.length 6 true) := by rw [y1]; rfl
    rw [List.head?_drop]
    rw [List.getElem?_take, if_pos (by omega), List.getElem?_drop] at this
    exact this
  obtain ⟨z1, z2, z3⟩ := hsane.1.2.2 (L[k].1, L[k].2.2) (List.mem_map.2 ⟨L[k], List.getElem_mem hk, rfl⟩)
  have hlo : (⟨upd m.sto m.nid ⟨[.nils 2, .nils 2], 0, false, some (42, true)⟩, m.nid.succ⟩ : Mem).nid = m.nid + 1 := rfl
  rw [hlo] at hL2 hE2 a1 t1 t7
  clear s1 h2 hlo t7
  simp +decide (disch := first | decide | omega) only [go_sem, Nat.reduceAdd, Nat.reduceMul, Nat.reduceSub, Nat.reduceLT, Nat.reduceLeDiff, Nat.reduceEqDiff, Nat.add_assoc, Int.reduceAdd, Int.reduceSub, Int.reduceMul, Int.reduceLT, Int.reduceLE, Int.reduceEq, Int.reduceNeg, strOp_add, f2, t4, t5, hk, hat]
  refine pick_wp 14 _ id bs _ h3 hb (by omega) (by omega) (by omega) _ fun q m3 hq h5 h6 => ?_
  have n3 : m2.nid ≤ m3.nid := h6.1
  have same3 : ∀ j, m.nid + 1 ≤ j → j < m2.nid → m3.sto j = m2.sto j := fun j a b => h6.2 j b (by omega)
  have hL4 := hL2.keep (M' := m3) n3 same3
  have hE4 := hE2.same (M' := m3) n3 fun j a b => by rw [same3 j a b]; exact ⟨rfl, rfl⟩
  have f3 := (h6.2 m1.nid (by omega) (by omega)).trans f2
  have f13 := (h6.2 m.nid (by omega) (by omega)).trans f12
  have fr3 := fr2.trans h6
  rw [← same3 s t1 t2] at t4 t5 t6
  rw [← same3 d a1 a2] at a4 a5 a6
  clear h6 same3 hL2 hE2 f2 f12 fr2 h3 idm
  have ht2 : s < m3.nid := by omega
  have ha2 : d < m3.nid := by omega
  clear t2 a2
  cases hl2 : L[k].2.2 with
  | nil => rw [hl2] at z2; simp at z2
  | cons y ys =>
  rw [hl2] at a4 hat z2 z3
  have a4' : (m3.sto d).cells = .str y.name :: .int .i64 y.ord :: .str y.base :: .bool y.list :: .bool y.choice :: .int .i64 y.els :: dclC ys := a4
  have hyS := z3.2 y (by simp)
  have hysS : ∀ d ∈ ys, DclS d := fun d hd => z3.2 d (by simp [hd])
  simp +decide only [go_sem, Nat.reduceAdd, Nat.reduceMul, Nat.reduceSub, Nat.reduceLT, Nat.reduceLeDiff, Nat.reduceEqDiff, Nat.add_assoc, Int.reduceAdd, Int.reduceSub, Int.reduceMul, Int.reduceLT, Int.reduceLE, Int.reduceEq, Int.reduceNeg, strOp_add]
  refine abs_st (F := fun st => bB _ (Comes (evc CC (fnI CC PR) (fnA CC PR) lpL _ st) _) (Comes (evc CC (fnI CC PR) (fnA CC PR) lpL _ st) _)) (fun st => st.toMem = m3 ∧ st.env 0 = .ptr id 0 0 ∧ st.env 2 = .ptr m.nid 0 0 ∧ st.env 3 = .ptr m1.nid 0 0 ∧ st.env 5 = .arr d gd 0 (ys.length + 1) 6 true ∧ st.env 20 = .int .i64 q) ?_ ?_
  · simp +decide only [go_sem, Nat.reduceAdd, Nat.reduceMul, Nat.reduceSub, Nat.reduceLT, Nat.reduceLeDiff, Nat.reduceEqDiff, Nat.add_assoc, Int.reduceAdd, Int.reduceSub, Int.reduceMul, Int.reduceLT, Int.reduceLE, Int.reduceEq, Int.reduceNeg, strOp_add, hl2]
  rintro st ⟨rfl, e0, e2, e3, e5, e20⟩
  have hpos : ((0 : Int) < ((ys.length + 1 : Nat) : Int)) = True := eq_true (by omega)
  have hdm : d ≠ m1.nid := by
    rintro rfl
    rw [f3] at a4'
    simp at a4'
  have leaf : ∀ (M : Mem) (y' : Dcl), DclS y' → st.nid ≤ M.nid → (∀ j, m.nid ≤ j → j < st.nid → j ≠ d → M.sto j = st.sto j) → CellsAt M d gd (dclC (y' :: ys)) →
      M.sto m.nid = ⟨[.nils 2, .nils 2], 0, false, some (42, true)⟩ ∧ ∃ sv' ev' L' E', M.sto m1.nid = ⟨[sv', ev'], 0, false, some (42, true)⟩ ∧ StsR false M (m.nid + 1) sv' L' ∧ EnsR M (m.nid + 1) ev' E' ∧ SaneS (stP L') (enP E') := by
    intro M y' hy' hn he hc
    refine ⟨(he m.nid (Nat.le_refl _) (by omega) (by omega)).trans f13, _, _, L.set k (L[k].1, L[k].2.1, y' :: ys), En, (he m1.nid (by omega) (by omega) (Ne.symm hdm)).trans f3, ?_, ?_, ?_⟩
    · exact sts_set hL4 hn hk hLw a3 (by rw [hl2]; rfl) hc fun j b1 b2 b3 => he j (by omega) b2 b3
    · exact ens_set hE4 hn a4' fun j b1 b2 b3 => he j (by omega) b2 b3
    · refine sane_set hsane hk (by simp) (by have := z3.1; simpa using this) ?_
      intro x hx
      rcases List.mem_cons.1 hx with rfl | hx
      · exact hy'
      · exact hysS x hx
  have leaf2 : ∀ (m4 : Mem) (ty : Option (TypeId × Bool)) (y' : Dcl), DclS y' → RdAt m4 id bs (P + 110) → Fr st.toMem m4 id → RdAt ⟨upd m4.sto d ⟨dclC (y' :: ys), gd, false, ty⟩, m4.nid⟩ id bs (P + 110) ∧ Fr m ⟨upd m4.sto d ⟨dclC (y' :: ys), gd, false, ty⟩, m4.nid⟩ id ∧ m1.nid < m4.nid ∧
      (⟨upd m4.sto d ⟨dclC (y' :: ys), gd, false, ty⟩, m4.nid⟩ : Mem).sto m.nid = ⟨[.nils 2, .nils 2], 0, false, some (42, true)⟩ ∧ ∃ sv' ev' L' E', (⟨upd m4.sto d ⟨dclC (y' :: ys), gd, false, ty⟩, m4.nid⟩ : Mem).sto m1.nid = ⟨[sv', ev'], 0, false, some (42, true)⟩ ∧ StsR false ⟨upd m4.sto d ⟨dclC (y' :: ys), gd, false, ty⟩, m4.nid⟩ (m.nid + 1) sv' L' ∧ EnsR ⟨upd m4.sto d ⟨dclC (y' :: ys), gd, false, ty⟩, m4.nid⟩ (m.nid + 1) ev' E' ∧ SaneS (stP L') (enP E') := by
    intro m4 ty y' hy hR hF
    have hn := hF.1
    exact ⟨hR.put (by omega) (Nat.le_refl _), (fr3.trans hF).put (by omega) (Nat.le_refl _), by omega, leaf _ y' hy hn (fun j b1 b2 b3 => (upd_miss _ _ _ _ b3).trans (hF.2 j b2 (by omega))) (cells_at (upd_hit _ _ _))⟩
  have sI : ∀ x : Int, x ∈ [(-1 : Int), 9, 1] ∨ x ∈ [(-1 : Int), 256, 70000] → smallI x := by
    intro x hx
    unfold smallI
    simp only [List.mem_cons, List.mem_nil_iff, or_false] at hx
    omega
  have frN : ∀ {x : Blk}, Fr st.toMem ⟨upd st.sto st.nid x, st.nid + 1⟩ id := fun {x} => (Fr.refl st.toMem id).put (Nat.le_refl _) (Nat.le_succ _)
  have rdN : ∀ {x : Blk}, RdAt ⟨upd st.sto st.nid x, st.nid + 1⟩ id bs (P + 100 + 1 + 1) := fun {x} => h5.put (by have := h5.1; omega) (Nat.le_succ _)
  refine bB_merge (fun r => ∃ s', r = (Ex.normal, s') ∧ s'.env 2 = .ptr m.nid 0 0 ∧ s'.env 3 = .ptr m1.nid 0 0 ∧ RdAt s'.toMem id bs (P + 110) ∧ Fr m s'.toMem id ∧ m1.nid < s'.nid ∧ s'.sto m.nid = ⟨[.nils 2, .nils 2], 0, false, some (42, true)⟩ ∧ ∃ sv' ev' L' E', s'.sto m1.nid = ⟨[sv', ev'], 0, false, some (42, true)⟩ ∧ StsR false s'.toMem (m.nid + 1) sv' L' ∧ EnsR s'.toMem (m.nid + 1) ev' E' ∧ SaneS (stP L') (enP E')) (fun hB => ?_) (fun hB => ?_) ?_
  · simp +decide (disch := first | decide | omega) only [go_sem, Nat.reduceAdd, Nat.reduceMul, Nat.reduceSub, Nat.reduceLT, Nat.reduceLeDiff, Nat.reduceEqDiff, Nat.add_assoc, Int.reduceAdd, Int.reduceSub, Int.reduceMul, Int.reduceLT, Int.reduceLE, Int.reduceEq, Int.reduceNeg, strOp_add, e0, e2, e3, e5, e20]
    refine ofA_wp [⟨#[]⟩, ⟨#[57, 97]⟩, ⟨#[102, 49]⟩, ⟨#[111, 114]⟩, ⟨#[116, 111, 111, 108, 111, 110, 103, 110, 97, 109, 101, 49]⟩] _ id bs _ st.nid 0 true false none (upd_hit _ _ _) (by show st.nid < st.nid + 1; omega) (by have := h5.1; omega) rdN hb (by omega) (by simp) (by simp) _ fun x m4 hx h7 h8 => ?_
    have n4 : st.nid + 1 ≤ m4.nid := h8.1
    have fr4 := frN.trans h8
    rw [← fr4.2 d ha2 (by omega)] at a4' a5 a6
    simp +decide (disch := first | decide | omega) only [go_sem, Nat.reduceAdd, Nat.reduceMul, Nat.reduceSub, Nat.reduceLT, Nat.reduceLeDiff, Nat.reduceEqDiff, Nat.add_assoc, Int.reduceAdd, Int.reduceSub, Int.reduceMul, Int.reduceLT, Int.reduceLE, Int.reduceEq, Int.reduceNeg, strOp_add, e0, e2, e3, e5, e20, a4', a5, a6, hpos, Nat.zero_mul, Nat.succ_le_succ_iff, Nat.zero_le, Nat.le_add_left]
    refine ⟨_, rfl, ?_⟩
    simp +decide only [go_sem, Nat.reduceAdd, Nat.reduceMul, Nat.reduceSub, Nat.reduceLT, Nat.reduceLeDiff, Nat.reduceEqDiff, Nat.add_assoc, Int.reduceAdd, Int.reduceSub, Int.reduceMul, Int.reduceLT, Int.reduceLE, Int.reduceEq, Int.reduceNeg, strOp_add, e2, e3]
    have hxs : x.size ≤ 30 := by
      have : ∀ x ∈ ([⟨#[]⟩, ⟨#[57, 97]⟩, ⟨#[102, 49]⟩, ⟨#[111, 114]⟩, ⟨#[116, 111, 111, 108, 111, 110, 103, 110, 97, 109, 101, 49]⟩] : List ByteArray), x.size ≤ 30 := by decide
      exact this x hx
    exact leaf2 m4 _ { y with name := x } ⟨hxs, hyS.2.1, hyS.2.2.1, hyS.2.2.2⟩ (h7.mono (by omega)) fr4
  · simp +decide (disch := first | decide | omega) only [go_sem, Nat.reduceAdd, Nat.reduceMul, Nat.reduceSub, Nat.reduceLT, Nat.reduceLeDiff, Nat.reduceEqDiff, Nat.add_assoc, Int.reduceAdd, Int.reduceSub, Int.reduceMul, Int.reduceLT, Int.reduceLE, Int.reduceEq, Int.reduceNeg, strOp_add, e0, e2, e3, e5, e20, hB]
    refine bB_split (fun hB1 => ?_) (fun hB1 => ?_)
    · simp +decide (disch := first | decide | omega) only [go_sem, Nat.reduceAdd, Nat.reduceMul, Nat.reduceSub, Nat.reduceLT, Nat.reduceLeDiff, Nat.reduceEqDiff, Nat.add_assoc, Int.reduceAdd, Int.reduceSub, Int.reduceMul, Int.reduceLT, Int.reduceLE, Int.reduceEq, Int.reduceNeg, strOp_add, e0, e2, e3, e5, e20]
      refine oneA_wp [-1, 9, 1] _ id bs _ st.nid 0 true false none (upd_hit _ _ _) (by show st.nid < st.nid + 1; omega) (by have := h5.1; omega) rdN hb (by omega) (by simp) (by simp) _ fun x m4 hx h7 h8 => ?_
      have n4 : st.nid + 1 ≤ m4.nid := h8.1
      have fr4 := frN.trans h8
      rw [← fr4.2 d ha2 (by omega)] at a4' a5 a6
      simp +decide (disch := first | decide | omega) only [go_sem, Nat.reduceAdd, Nat.reduceMul, Nat.reduceSub, Nat.reduceLT, Nat.reduceLeDiff, Nat.reduceEqDiff, Nat.add_assoc, Int.reduceAdd, Int.reduceSub, Int.reduceMul, Int.reduceLT, Int.reduceLE, Int.reduceEq, Int.reduceNeg, strOp_add, e0, e2, e3, e5, e20, a4', a5, a6, hpos, Nat.zero_mul, Nat.succ_le_succ_iff, Nat.zero_le, Nat.le_add_left]
      refine ⟨_, rfl, ?_⟩
      simp +decide only [go_sem, Nat.reduceAdd, Nat.reduceMul, Nat.reduceSub, Nat.reduceLT, Nat.reduceLeDiff, Nat.reduceEqDiff, Nat.add_assoc, Int.reduceAdd, Int.reduceSub, Int.reduceMul, Int.reduceLT, Int.reduceLE, Int.reduceEq, Int.reduceNeg, strOp_add, e2, e3]
      exact leaf2 m4 _ { y with ord := x } ⟨hyS.1, hyS.2.1, hyS.2.2.1, sI x (.inl hx)⟩ (h7.mono (by omega)) fr4
    · simp +decide (disch := first | decide | omega) only [go_sem, Nat.reduceAdd, Nat.reduceMul, Nat.reduceSub, Nat.reduceLT, Nat.reduceLeDiff, Nat.reduceEqDiff, Nat.add_assoc, Int.reduceAdd, Int.reduceSub, Int.reduceMul, Int.reduceLT, Int.reduceLE, Int.reduceEq, Int.reduceNeg, strOp_add, e0, e2, e3, e5, e20, hB]
      refine bB_split (fun hB2 => ?_) (fun hB2 => ?_)
      · simp +decide (disch := first | decide | omega) only [go_sem, Nat.reduceAdd, Nat.reduceMul, Nat.reduceSub, Nat.reduceLT, Nat.reduceLeDiff, Nat.reduceEqDiff, Nat.add_assoc, Int.reduceAdd, Int.reduceSub, Int.reduceMul, Int.reduceLT, Int.reduceLE, Int.reduceEq, Int.reduceNeg, strOp_add, e0, e2, e3, e5, e20]
        refine ofA_wp [⟨#[78, 111, 110, 101]⟩, ⟨#[77, 97, 105, 110]⟩, ⟨#[76, 105, 115, 116]⟩, ⟨#[]⟩] _ id bs _ st.nid 0 true false none (upd_hit _ _ _) (by show st.nid < st.nid + 1; omega) (by have := h5.1; omega) rdN hb (by omega) (by simp) (by simp) _ fun x m4 hx h7 h8 => ?_
        have n4 : st.nid + 1 ≤ m4.nid := h8.1
        have fr4 := frN.trans h8
        rw [← fr4.2 d ha2 (by omega)] at a4' a5 a6
        simp +decide (disch := first | decide | omega) only [go_sem, Nat.reduceAdd, Nat.reduceMul, Nat.reduceSub, Nat.reduceLT, Nat.reduceLeDiff, Nat.reduceEqDiff, Nat.add_assoc, Int.reduceAdd, Int.reduceSub, Int.reduceMul, Int.reduceLT, Int.reduceLE, Int.reduceEq, Int.reduceNeg, strOp_add, e0, e2, e3, e5, e20, a4', a5, a6, hpos, Nat.zero_mul, Nat.succ_le_succ_iff, Nat.zero_le, Nat.le_add_left]
        refine ⟨_, rfl, ?_⟩
        simp +decide only [go_sem, Nat.reduceAdd, Nat.reduceMul, Nat.reduceSub, Nat.reduceLT, Nat.reduceLeDiff, Nat.reduceEqDiff, Nat.add_assoc, Int.reduceAdd, Int.reduceSub, Int.reduceMul, Int.reduceLT, Int.reduceLE, Int.reduceEq, Int.reduceNeg, strOp_add, e2, e3]
        have hxs : x.size ≤ 30 := by
          have : ∀ x ∈ ([⟨#[78, 111, 110, 101]⟩, ⟨#[77, 97, 105, 110]⟩, ⟨#[76, 105, 115, 116]⟩, ⟨#[]⟩] : List ByteArray), x.size ≤ 30 := by decide
          exact this x hx
        exact leaf2 m4 _ { y with base := x } ⟨hyS.1, hxs, hyS.2.2.1, hyS.2.2.2⟩ (h7.mono (by omega)) fr4
      · simp +decide (disch := first | decide | omega) only [go_sem, Nat.reduceAdd, Nat.reduceMul, Nat.reduceSub, Nat.reduceLT, Nat.reduceLeDiff, Nat.reduceEqDiff, Nat.add_assoc, Int.reduceAdd, Int.reduceSub, Int.reduceMul, Int.reduceLT, Int.reduceLE, Int.reduceEq, Int.reduceNeg, strOp_add, e0, e2, e3, e5, e20, hB]
        refine bB_split (fun hB3 => ?_) (fun hB3 => ?_)
        · simp +decide (disch := first | decide | omega) only [go_sem, Nat.reduceAdd, Nat.reduceMul, Nat.reduceSub, Nat.reduceLT, Nat.reduceLeDiff, Nat.reduceEqDiff, Nat.add_assoc, Int.reduceAdd, Int.reduceSub, Int.reduceMul, Int.reduceLT, Int.reduceLE, Int.reduceEq, Int.reduceNeg, strOp_add, e0, e2, e3, e5, e20]
          refine oneA_wp [-1, 256, 70000] _ id bs _ st.nid 0 true false none (upd_hit _ _ _) (by show st.nid < st.nid + 1; omega) (by have := h5.1; omega) rdN hb (by omega) (by simp) (by simp) _ fun x m4 hx h7 h8 => ?_
          have n4 : st.nid + 1 ≤ m4.nid := h8.1
          have fr4 := frN.trans h8
          rw [← fr4.2 d ha2 (by omega)] at a4' a5 a6
          simp +decide (disch := first | decide | omega) only [go_sem, Nat.reduceAdd, Nat.reduceMul, Nat.reduceSub, Nat.reduceLT, Nat.reduceLeDiff, Nat.reduceEqDiff, Nat.add_assoc, Int.reduceAdd, Int.reduceSub, Int.reduceMul, Int.reduceLT, Int.reduceLE, Int.reduceEq, Int.reduceNeg, strOp_add, e0, e2, e3, e5, e20, a4', a5, a6, hpos, Nat.zero_mul, Nat.succ_le_succ_iff, Nat.zero_le, Nat.le_add_left]
          refine ⟨_, rfl, ?_⟩
          simp +decide only [go_sem, Nat.reduceAdd, Nat.reduceMul, Nat.reduceSub, Nat.reduceLT, Nat.reduceLeDiff, Nat.reduceEqDiff, Nat.add_assoc, Int.reduceAdd, Int.reduceSub, Int.reduceMul, Int.reduceLT, Int.reduceLE, Int.reduceEq, Int.reduceNeg, strOp_add, e2, e3]
          exact leaf2 m4 _ { y with els := x } ⟨hyS.1, hyS.2.1, sI x (.inr hx), hyS.2.2.2⟩ (h7.mono (by omega)) fr4
        · simp +decide (disch := first | decide | omega) only [go_sem, Nat.reduceAdd, Nat.reduceMul, Nat.reduceSub, Nat.reduceLT, Nat.reduceLeDiff, Nat.reduceEqDiff, Nat.add_assoc, Int.reduceAdd, Int.reduceSub, Int.reduceMul, Int.reduceLT, Int.reduceLE, Int.reduceEq, Int.reduceNeg, strOp_add, e0, e2, e3, e5, e20, hB]
          refine bB_split (fun hB4 => ?_) (fun hB4 => ?_)
          · simp +decide (disch := first | decide | omega) only [go_sem, Nat.reduceAdd, Nat.reduceMul, Nat.reduceSub, Nat.reduceLT, Nat.reduceLeDiff, Nat.reduceEqDiff, Nat.add_assoc, Int.reduceAdd, Int.reduceSub, Int.reduceMul, Int.reduceLT, Int.reduceLE, Int.reduceEq, Int.reduceNeg, strOp_add, e0, e2, e3, e5, e20]
            refine (d_plan (ord := [0, 1, 2, 3, 4, 5, 6, 7, 8, 9]) (prs := [(1, 3), (1, 5), (1, 6)]) (by kernel_rfl)).2 ?_
            have hp1 : ((0 : Int) < ((L.length : Nat) : Int)) = True := eq_true (by omega)
            have hL0 : 0 < L.length := by omega
            obtain ⟨u1, u2⟩ := stC_at L 0 hL0
            obtain ⟨d0, g0, b1, b2, b3, b4⟩ := hL4.choose_spec.choose_spec.2.2.2.2 L[0] (List.getElem_mem hL0)
            rw [b3, Nat.zero_mul, List.drop_zero] at u1
            rw [Nat.zero_mul] at u2
            have hc1 : L.length * 2 = (stC L).length := (stC_len L).symm
            have hc2 : L.length + 1 ≤ most := by simp only [most]; omega
            simp +decide (disch := first | decide | omega) only [go_sem, Nat.reduceAdd, Nat.reduceMul, Nat.reduceSub, Nat.reduceLT, Nat.reduceLeDiff, Nat.reduceEqDiff, Nat.add_assoc, Int.reduceAdd, Int.reduceSub, Int.reduceMul, Int.reduceLT, Int.reduceLE, Int.reduceEq, Int.reduceNeg, strOp_add, e0, e2, e3, e5, e20, f3, t4, t5, hp1, u1, u2, Nat.zero_mul, hc1, hc2]
            have v0 : (stC L)[0]? = some (.str L[0].1) := by
              have : ((stC L).take 2)[0]? = some (.str L[0].1) := by rw [u1]; rfl
              rwa [List.getElem?_take, if_pos (by omega)] at this
            have v1 : (stC L)[1]? = some (.arr d0 g0 0 L[0].2.2.length 6 true) := by
              have : ((stC L).take 2)[1]? = some (.arr d0 g0 0 L[0].2.2.length 6 true) := by rw [u1]; rfl
              rwa [List.getElem?_take, if_pos (by omega)] at this
            have hsm : s ≠ m1.nid := by
              rintro rfl
              rw [f3] at t4
              rw [← t4] at v0
              simp at v0
            refine ⟨by omega, _, rfl, ?_⟩
            simp +decide only [go_sem, Nat.reduceAdd, Nat.reduceMul, Nat.reduceSub, Nat.reduceLT, Nat.reduceLeDiff, Nat.reduceEqDiff, Nat.add_assoc, Int.reduceAdd, Int.reduceSub, Int.reduceMul, Int.reduceLT, Int.reduceLE, Int.reduceEq, Int.reduceNeg, strOp_add, e2, e3]
            have hoth : ∀ (x y z : Blk) (j : Nat), m.nid ≤ j → j < st.nid → j ≠ s → j ≠ m1.nid → upd (upd (upd st.sto (st.nid + 6) x) s y) m1.nid z j = st.sto j := fun x y z j c1 c2 c3 c4 => by simp (disch := omega) only [upd_hit, upd_miss]
            refine ⟨(h5.mono (by omega)).fr (by show st.nid ≤ st.nid + 10; omega) (by have := h5.1; simp (disch := omega) only [upd_hit, upd_miss]), ((fr3.put (E := st.nid + 6) (n := st.nid + 10) (by omega) (by show st.nid ≤ st.nid + 10; omega)).put (by omega) (Nat.le_refl _)).put (by omega) (Nat.le_refl _), by omega, (hoth _ _ _ m.nid (Nat.le_refl _) (by omega) (by omega) (by omega)).trans f13, _, _, L ++ [L[0]], En, rfl, ⟨s, g + 1, t1, by show s < st.nid + 10; omega, by simp, ⟨?_, ?_, fun h => by cases h⟩, fun x hx => ?_⟩, ?_, ?_⟩
            · dsimp only
              rw [upd_miss _ _ _ _ hsm, upd_hit]
              rw [stC_app]
              simp only [stC, List.map_cons, List.map_nil, List.flatten_cons, List.flatten_nil, b3, List.append_nil]
            · dsimp only
              rw [upd_miss _ _ _ _ hsm, upd_hit]
            · have hx' : x ∈ L := by
                rcases List.mem_append.1 hx with h | h
                · exact h
                · rw [List.mem_singleton.1 h]; exact List.getElem_mem hL0
              refine dec_keep (hL4.choose_spec.choose_spec.2.2.2.2 x hx') (hLd x hx') (by show st.nid ≤ st.nid + 10; omega) fun j c1 c2 c3 => ?_
              obtain ⟨kk, z, c3⟩ := c3
              show Same (upd (upd (upd st.sto (st.nid + 6) _) s _) m1.nid _ j) _
              rw [hoth _ _ _ j (by omega) c2 (by rintro rfl; rw [t4, v1] at c3; simp at c3) (by rintro rfl; rw [f3] at c3; rcases hE4 with ⟨_, rfl⟩ | ⟨_, _, _, _, _, rfl, _⟩ <;> simp at c3)]
              exact ⟨rfl, rfl⟩
            · refine ens_keep hE4 hEw (by show st.nid ≤ st.nid + 10; omega) fun j c1 c2 c3 => ?_
              obtain ⟨⟨cx, c3⟩, c4⟩ := c3
              show Same (upd (upd (upd st.sto (st.nid + 6) _) s _) m1.nid _ j) _
              rw [hoth _ _ _ j (by omega) c2 (by rintro rfl; rw [t4, v1] at c4; exact c4 _ _ _ _ _ rfl) (by rintro rfl; rw [f3] at c3; simp at c3)]
              exact ⟨rfl, rfl⟩
            · obtain ⟨⟨g1, g2, g3⟩, g4⟩ := hsane
              refine ⟨⟨?_, ?_, fun x hx => ?_⟩, g4⟩
              · simp [stP]
              · simp [stP]; omega
              · have e : stP (L ++ [L[0]]) = stP L ++ [(L[0].1, L[0].2.2)] := by simp [stP]
                rw [e] at hx
                rcases List.mem_append.1 hx with h | h
                · exact g3 x h
                · rw [List.mem_singleton.1 h]
                  exact g3 _ (List.mem_map.2 ⟨L[0], List.getElem_mem hL0, rfl⟩)
          · simp +decide (disch := first | decide | omega) only [go_sem, Nat.reduceAdd, Nat.reduceMul, Nat.reduceSub, Nat.reduceLT, Nat.reduceLeDiff, Nat.reduceEqDiff, Nat.add_assoc, Int.reduceAdd, Int.reduceSub, Int.reduceMul, Int.reduceLT, Int.reduceLE, Int.reduceEq, Int.reduceNeg, strOp_add, e0, e2, e3, e5, e20, hB]
            refine bB_split (fun hB5 => ?_) (fun hB5 => ?_)
            · simp +decide (disch := first | decide | omega) only [go_sem, Nat.reduceAdd, Nat.reduceMul, Nat.reduceSub, Nat.reduceLT, Nat.reduceLeDiff, Nat.reduceEqDiff, Nat.add_assoc, Int.reduceAdd, Int.reduceSub, Int.reduceMul, Int.reduceLT, Int.reduceLE, Int.reduceEq, Int.reduceNeg, strOp_add, e0, e2, e3, e5, e20]
              refine (d_plan (ord := [0, 1, 2, 3, 4, 5, 6, 7, 8, 9, 10, 11, 12, 13]) (prs := [(1, 3), (1, 4), (1, 6), (3, 6), (4, 6), (1, 7), (1, 8), (1, 10)]) (by kernel_rfl)).2 ?_
              simp +decide (disch := first | decide | omega) only [go_sem, Nat.reduceAdd, Nat.reduceMul, Nat.reduceSub, Nat.reduceLT, Nat.reduceLeDiff, Nat.reduceEqDiff, Nat.add_assoc, Int.reduceAdd, Int.reduceSub, Int.reduceMul, Int.reduceLT, Int.reduceLE, Int.reduceEq, Int.reduceNeg, strOp_add, e0, e2, e3, e5, e20, f3, t4, t5]
              have id5 := h5.1
              refine rdl_far (P' := P + 100 + 1 + 1 + 1) ((h5.put (E := st.nid + 3) (n := st.nid + 14) (by omega) (by show st.nid ≤ st.nid + 14; omega))) (by show st.nid + 3 < st.nid + 14; omega) (by omega) (by dsimp only; rw [upd_hit]; exact still_strs l5) (by dsimp only; rw [upd_hit]) (by rw [reach_rd (h5.put (E := st.nid + 3) (n := st.nid + 14) (by omega) (by show st.nid ≤ st.nid + 14; omega)), reach_arr (by dsimp only; rw [upd_hit]; exact still_strs l5) 2097151]; rfl) (fun v m' => ∃ x ∈ l5, v = .str x) (fun Q hQ => ?_) (fun v m' hv j1 j2 j3 => ?_)
              · exact ofA_wp l5 _ id bs _ (st.nid + 3) 0 true false none (by simp only [mask]; rw [if_pos (by simp)]; exact upd_hit _ _ _) (by show st.nid + 3 < st.nid + 14; omega) (by omega) (rd_mask ((h5.put (E := st.nid + 3) (n := st.nid + 14) (by omega) (by show st.nid ≤ st.nid + 14; omega))) (by simp)) hb (by omega) (by decide) (by decide) _ fun x m' hx k1 k2 => hQ _ _ ⟨x, hx, rfl⟩ k1 k2
              · obtain ⟨x, hx, rfl⟩ := hv
                have nJ : st.nid + 14 ≤ m'.nid := j2.1
                have frJ := ((Fr.refl st.toMem id).put (E := st.nid + 3) (n := st.nid + 14) (by omega) (by show st.nid ≤ st.nid + 14; omega)).trans j2
                dsimp only at j1 frJ
                clear j2 j3
                generalize hJ : (joinM [id, st.nid + 3] (st.nid + 14) ⟨upd st.sto (st.nid + 3) _, st.nid + 14⟩ m').sto = J at *
                have fJ := (frJ.2 m1.nid (by omega) (by omega)).trans f3
                dsimp only at fJ
                simp +decide (disch := first | decide | omega) only [go_sem, Nat.reduceAdd, Nat.reduceMul, Nat.reduceSub, Nat.reduceLT, Nat.reduceLeDiff, Nat.reduceEqDiff, Nat.add_assoc, Int.reduceAdd, Int.reduceSub, Int.reduceMul, Int.reduceLT, Int.reduceLE, Int.reduceEq, Int.reduceNeg, strOp_add, e0, e2, e3, e5, e20, hJ, fJ]
                refine rdl_far (P' := P + 100 + 1 + 1 + 1 + 1) ((j1.put (E := st.nid + 6) (n := m'.nid) (by omega) (Nat.le_refl _))) (by show st.nid + 6 < m'.nid; omega) (by omega) (by dsimp only; rw [upd_hit]; exact still_strs l6) (by dsimp only; rw [upd_hit]) (by rw [reach_rd (j1.put (E := st.nid + 6) (n := m'.nid) (by omega) (Nat.le_refl _)), reach_arr (by dsimp only; rw [upd_hit]; exact still_strs l6) 2097151]; rfl) (fun v m' => ∃ x ∈ l6, v = .str x) (fun Q hQ => ?_) (fun v m2' hv k1 k2 k3 => ?_)
                · exact ofA_wp l6 _ id bs _ (st.nid + 6) 0 true false none (by simp only [mask]; rw [if_pos (by simp)]; exact upd_hit _ _ _) (by show st.nid + 6 < m'.nid; omega) (by omega) (rd_mask ((j1.put (E := st.nid + 6) (n := m'.nid) (by omega) (Nat.le_refl _))) (by simp)) hb (by omega) (by decide) (by decide) _ fun x m' hx k1 k2 => hQ _ _ ⟨x, hx, rfl⟩ k1 k2
                · obtain ⟨y6, hy6, rfl⟩ := hv
                  have nK : m'.nid ≤ m2'.nid := k2.1
                  have frK := (frJ.put (E := st.nid + 6) (n := m'.nid) (by omega) (Nat.le_refl _)).trans k2
                  dsimp only at k1 frK
                  clear k2 k3 frJ j1 fJ
                  generalize hK : (joinM [id, st.nid + 6] m'.nid ⟨upd J (st.nid + 6) _, m'.nid⟩ m2').sto = J2 at *
                  have fK := (frK.2 m1.nid (by omega) (by omega)).trans f3
                  dsimp only at fK
                  have x5 : x.size ≤ 30 := (by decide : ∀ x ∈ l5, x.size ≤ 30) x hx
                  have y5 : y6.size ≤ 30 := (by decide : ∀ x ∈ l6, x.size ≤ 30) y6 hy6
                  have hE4' := hE4
                  rcases hE4' with ⟨rfl, rfl⟩ | ⟨e, ge, q0, q1, q2, rfl, ⟨q3, q4⟩, q5⟩
                  · simp +decide (disch := first | decide | omega) only [go_sem, Nat.reduceAdd, Nat.reduceMul, Nat.reduceSub, Nat.reduceLT, Nat.reduceLeDiff, Nat.reduceEqDiff, Nat.add_assoc, Int.reduceAdd, Int.reduceSub, Int.reduceMul, Int.reduceLT, Int.reduceLE, Int.reduceEq, Int.reduceNeg, strOp_add, e0, e2, e3, e5, e20, hK, fK]
                    have hoth : ∀ (a b c z : Blk) (j : Nat), m.nid ≤ j → j < st.nid → j ≠ m1.nid → upd (upd (upd (upd J2 (st.nid + 8) a) (st.nid + 10) b) (st.nid + 11) c) m1.nid z j = st.sto j := fun a b c z j c1 c2 c3 => by
                      simp (disch := omega) only [upd_hit, upd_miss]
                      exact frK.2 j c2 (by omega)
                    refine ⟨⟨by omega, by simp; omega, by omega, by simp, by simp; omega, ⟨by simp; omega, by omega⟩, by omega, by omega⟩, _, rfl, ?_⟩
                    simp +decide only [go_sem, Nat.reduceAdd, Nat.reduceMul, Nat.reduceSub, Nat.reduceLT, Nat.reduceLeDiff, Nat.reduceEqDiff, Nat.add_assoc, Int.reduceAdd, Int.reduceSub, Int.reduceMul, Int.reduceLT, Int.reduceLE, Int.reduceEq, Int.reduceNeg, strOp_add, e2, e3]
                    refine ⟨(k1.mono (by omega)).fr (Nat.le_refl _) (by simp (disch := omega) only [upd_hit, upd_miss]), (((((fr3.trans frK).put (E := st.nid + 8) (n := m2'.nid) (by omega) (Nat.le_refl _)).put (by omega) (Nat.le_refl _)).put (by omega) (Nat.le_refl _)).put (by omega) (Nat.le_refl _)), by omega, (hoth _ _ _ _ m.nid (Nat.le_refl _) (by omega) (by omega)).trans f13, _, _, L, [(x, .arr (st.nid + 8) 0 0 2 1 true, [⟨#[97]⟩, y6])], rfl, sts_keep hL4 (by omega) hLd (by show st.nid ≤ m2'.nid; omega) fun j c1 c2 c3 => ?_, .inr ⟨st.nid + 11, 0, by simp, by omega, by show st.nid + 11 < m2'.nid; omega, rfl, ⟨?_, ?_⟩, fun z hz => ?_⟩, ?_⟩
                    · show Same (upd (upd (upd (upd J2 (st.nid + 8) _) (st.nid + 10) _) (st.nid + 11) _) m1.nid _ j) _
                      rw [hoth _ _ _ _ j (by omega) c2 (by rintro rfl; rcases c3 with ⟨_, _, _, _, _, c3⟩ | ⟨_, _, c3⟩ <;> rw [f3] at c3 <;> simp at c3)]
                      exact ⟨rfl, rfl⟩
                    · dsimp only
                      simp (disch := omega) only [upd_hit, upd_miss]
                      rfl
                    · dsimp only
                      simp (disch := omega) only [upd_hit, upd_miss]
                    · rw [List.mem_singleton.1 hz]
                      refine ⟨st.nid + 8, 0, by omega, by show st.nid + 8 < m2'.nid; omega, rfl, ?_, ?_⟩
                      · dsimp only
                        simp (disch := omega) only [upd_hit, upd_miss]
                        rfl
                      · dsimp only
                        simp (disch := omega) only [upd_hit, upd_miss]
                    · obtain ⟨g1, g4⟩ := hsane
                      refine ⟨g1, by simp [enP], fun z hz => ?_⟩
                      simp only [enP, List.map_cons, List.map_nil, List.mem_singleton] at hz
                      subst hz
                      exact ⟨x5, by simp, by simpa using ⟨(by decide : (⟨#[97]⟩ : ByteArray).size ≤ 30), y5⟩⟩
                  · have em : e ≠ m1.nid := by
                      rintro rfl
                      rw [f3] at q3
                      cases En with
                      | nil => simp at q0
                      | cons z zs => simp [enC] at q3
                    have q3' : (J2 e).cells = enC En := by rw [show J2 e = st.sto e from frK.2 e q2 (by omega)]; exact q3
                    have q4' : (J2 e).gen = ge := by rw [show J2 e = st.sto e from frK.2 e q2 (by omega)]; exact q4
                    have hc1 : En.length * 2 = (enC En).length := (enC_len En).symm
                    have hc2 : En.length + 1 ≤ most := by simp only [most]; omega
                    simp +decide (disch := first | decide | omega) only [go_sem, Nat.reduceAdd, Nat.reduceMul, Nat.reduceSub, Nat.reduceLT, Nat.reduceLeDiff, Nat.reduceEqDiff, Nat.add_assoc, Int.reduceAdd, Int.reduceSub, Int.reduceMul, Int.reduceLT, Int.reduceLE, Int.reduceEq, Int.reduceNeg, strOp_add, e0, e2, e3, e5, e20, hK, fK, q3', q4', hc1, hc2]
                    obtain ⟨ez, ezs, hEn⟩ : ∃ z zs, En = z :: zs := by cases En with
                      | nil => simp at q0
                      | cons z zs => exact ⟨z, zs, rfl⟩
                    obtain ⟨w0, wg0, _, _, w3, _⟩ := q5 ez (by rw [hEn]; simp)
                    have ve : (st.sto e).cells[1]? = some (.arr w0 wg0 0 ez.2.2.length 1 true) := by
                      rw [q3, hEn]
                      show some ez.2.1 = _
                      rw [w3]
                    have hoth : ∀ (a b c z : Blk) (j : Nat), m.nid ≤ j → j < st.nid → j ≠ e → j ≠ m1.nid → upd (upd (upd (upd J2 (st.nid + 8) a) (st.nid + 10) b) e c) m1.nid z j = st.sto j := fun a b c z j c1 c2 c3 c4 => by
                      simp (disch := omega) only [upd_hit, upd_miss]
                      exact frK.2 j c2 (by omega)
                    refine ⟨⟨by omega, by simp; omega, by omega, by simp, by simp; omega, ⟨by simp; omega, by omega⟩, by omega, by omega⟩, _, rfl, ?_⟩
                    simp +decide only [go_sem, Nat.reduceAdd, Nat.reduceMul, Nat.reduceSub, Nat.reduceLT, Nat.reduceLeDiff, Nat.reduceEqDiff, Nat.add_assoc, Int.reduceAdd, Int.reduceSub, Int.reduceMul, Int.reduceLT, Int.reduceLE, Int.reduceEq, Int.reduceNeg, strOp_add, e2, e3]
                    refine ⟨(k1.mono (by omega)).fr (Nat.le_refl _) (by simp (disch := omega) only [upd_hit, upd_miss]), (((((fr3.trans frK).put (E := st.nid + 8) (n := m2'.nid) (by omega) (Nat.le_refl _)).put (by omega) (Nat.le_refl _)).put (by omega) (Nat.le_refl _)).put (by omega) (Nat.le_refl _)), by omega, (hoth _ _ _ _ m.nid (Nat.le_refl _) (by omega) (by omega) (by omega)).trans f13, _, _, L, En ++ [(x, .arr (st.nid + 8) 0 0 2 1 true, [⟨#[97]⟩, y6])], rfl, sts_keep hL4 (by omega) hLd (by show st.nid ≤ m2'.nid; omega) fun j c1 c2 c3 => ?_, .inr ⟨e, ge + 1, by simp, q1, by show e < m2'.nid; omega, by simp, ⟨?_, ?_⟩, fun z hz => ?_⟩, ?_⟩
                    · show Same (upd (upd (upd (upd J2 (st.nid + 8) _) (st.nid + 10) _) e _) m1.nid _ j) _
                      rw [hoth _ _ _ _ j (by omega) c2 (by rintro rfl; rcases c3 with ⟨_, _, _, _, _, c3⟩ | ⟨_, _, c3⟩ <;> rw [ve] at c3 <;> simp at c3) (by rintro rfl; rcases c3 with ⟨_, _, _, _, _, c3⟩ | ⟨_, _, c3⟩ <;> rw [f3] at c3 <;> simp at c3)]
                      exact ⟨rfl, rfl⟩
                    · dsimp only
                      rw [upd_miss _ _ _ _ em, upd_hit, enC_app]
                      rfl
                    · dsimp only
                      rw [upd_miss _ _ _ _ em, upd_hit]
                    · rcases List.mem_append.1 hz with hz | hz
                      · obtain ⟨w, wg, w1, w2, w3', w4⟩ := q5 z hz
                        have hzl := hEw z hz
                        refine ⟨w, wg, w1, by show w < m2'.nid; omega, w3', w4.same ?_⟩
                        show Same (upd (upd (upd (upd J2 (st.nid + 8) _) (st.nid + 10) _) e _) m1.nid _ w) _
                        rw [hoth _ _ _ _ w (by omega) w2 ?_ ?_]
                        · exact ⟨rfl, rfl⟩
                        · rintro rfl
                          rw [w4.1] at ve
                          match z.2.2, hzl, ve with
                          | y :: [], _, ve => simp at ve
                          | y :: y' :: r, _, ve => simp at ve
                        · rintro rfl
                          have := w4.1
                          rw [f3] at this
                          match z.2.2, hzl, this with
                          | y :: r, _, this => simp at this
                      · rw [List.mem_singleton.1 hz]
                        refine ⟨st.nid + 8, 0, by omega, by show st.nid + 8 < m2'.nid; omega, rfl, ?_, ?_⟩
                        · dsimp only
                          simp (disch := omega) only [upd_hit, upd_miss]
                          rfl
                        · dsimp only
                          simp (disch := omega) only [upd_hit, upd_miss]
                    · obtain ⟨g1, g2, g3⟩ := hsane
                      refine ⟨g1, by simp [enP]; omega, fun z hz => ?_⟩
                      have e : enP (En ++ [(x, .arr (st.nid + 8) 0 0 2 1 true, [⟨#[97]⟩, y6])]) = enP En ++ [(x, [⟨#[97]⟩, y6])] := by simp [enP]
                      rw [e] at hz
                      rcases List.mem_append.1 hz with hz | hz
                      · exact g3 z hz
                      · rw [List.mem_singleton.1 hz]
                        exact ⟨x5, by simp, by simpa using ⟨(by decide : (⟨#[97]⟩ : ByteArray).size ≤ 30), y5⟩⟩
            · simp +decide (disch := first | decide | omega) only [go_sem, Nat.reduceAdd, Nat.reduceMul, Nat.reduceSub, Nat.reduceLT, Nat.reduceLeDiff, Nat.reduceEqDiff, Nat.add_assoc, Int.reduceAdd, Int.reduceSub, Int.reduceMul, Int.reduceLT, Int.reduceLE, Int.reduceEq, Int.reduceNeg, strOp_add]
              refine ⟨_, rfl, ?_⟩
              simp +decide only [go_sem, Nat.reduceAdd, Nat.reduceMul, Nat.reduceSub, Nat.reduceLT, Nat.reduceLeDiff, Nat.reduceEqDiff, Nat.add_assoc, Int.reduceAdd, Int.reduceSub, Int.reduceMul, Int.reduceLT, Int.reduceLE, Int.reduceEq, Int.reduceNeg, strOp_add, e2, e3]
              exact ⟨h5.mono (by omega), fr3, by omega, f13, _, _, L, En, f3, hL4.keepF, hE4, hsane⟩
  · clear leaf leaf2 e0 e2 e3 e5 e20 f3 f13 fr3 hL4 hE4 t4 t5 t6 a4 a5 a6 a4' h5 frN rdN ht2 ha2 n3
    rintro _ ⟨s', rfl, e2, e3, hR, hF, hn, f13, sv', ev', L', E', f3, hS, hE, hs⟩
    have hS2 := fun x : Blk => hS.keep (M' := ⟨upd s'.sto m.nid x, s'.nid⟩) (Nat.le_refl _) fun j c1 c2 => upd_miss _ _ _ _ (by omega)
    have hE2 := fun x : Blk => hE.same (M' := ⟨upd s'.sto m.nid x, s'.nid⟩) (Nat.le_refl _) fun j c1 c2 => by
      show Same (upd s'.sto m.nid x j) _
      rw [upd_miss _ _ _ _ (by omega)]
      exact ⟨rfl, rfl⟩
    have ls := fun x => snap_sts (hS2 x) 2097148
    have le := fun x => snap_ens (hE2 x) 2097148
    have o3 : sv'.one = true := by obtain ⟨s, g, _, _, rfl, _⟩ := hS; rfl
    have o4 := hE.one
    simp only [AV.one] at o3 o4
    simp +decide (disch := first | decide | omega) only [go_sem, Nat.reduceAdd, Nat.reduceMul, Nat.reduceSub, Nat.reduceLT, Nat.reduceLeDiff, Nat.reduceEqDiff, Nat.add_assoc, Int.reduceAdd, Int.reduceSub, Int.reduceMul, Int.reduceLT, Int.reduceLE, Int.reduceEq, Int.reduceNeg, strOp_add, e2, e3, f3, f13, o3, o4, ls, le]
    refine hQ _ _ _ hs ((hR.put (by omega) (Nat.le_refl _)).froz fun hx => ?_) ((hF.put (Nat.le_refl _) (Nat.le_refl _)).froz fun x hx => ?_)
    · rcases List.mem_append.1 hx with hx | hx
      · have := reachD_sts (hS2 _) _ _ hx; omega
      · have := reachD_ens (hE2 _) _ _ hx; omega
    · rcases List.mem_append.1 hx with hx | hx
      · have := reachD_sts (hS2 _) _ _ hx; omega
      · have := reachD_ens (hE2 _) _ _ hx; omega
end Go.Ev.Tryz
