/- Part of the proof of a statement about the given program: R3ZD. No condition of its own. -/
import Derived.Test.YtmnpcdchlobdlaaGreatDoorR2ZD
import Derived.Test.YtmnpcdchlobdlaaGreatDoorX1ZD
namespace Go.Ev.Tryz
open Go.Proofs
set_option maxRecDepth 10000
set_option linter.unusedSimpArgs false
set_option linter.unusedVariables false
attribute [local congr] comes_congr bB_congr gK_congr gdK_congr

theorem Fr.at {m m' : Mem} {id k : Nat} {b : Blk} (h : Fr m m' id) (hk : k < m.nid) (hn : k ≠ id) (hb : m.sto k = b) : m'.sto k = b := (h.2 k hk hn).trans hb
theorem reach_still {c : AV} (h : still c = true) (m : Mem) (k : Nat) : reachL m k c = [] := by
  cases k with
  | zero => rfl
  | succ k => cases c <;> first | rfl | (simp [still] at h; done) | (rename_i f cap; cases cap <;> first | rfl | (simp [still] at h))
theorem leads_still {c : AV} (h : still c = true) (m : Mem) (ids : List Nat) (k : Nat) : leadsB m ids (k + 1) c = true := by
  cases c <;> first | rfl | (simp [still] at h; done) | (rename_i f cap; cases cap <;> first | rfl | (simp [still] at h))
theorem reaches_still {cs : List AV} (h : ∀ c ∈ cs, still c = true) (m : Mem) (k : Nat) : (cs.map (reachL m k)).flatten = [] := by
  rw [List.flatten_eq_nil_iff]
  intro l hl
  obtain ⟨c, hc, rfl⟩ := List.mem_map.1 hl
  exact reach_still (h c hc) m k
theorem leadsA_still {cs : List AV} (h : ∀ c ∈ cs, still c = true) (m : Mem) (ids : List Nat) (k : Nat) : cs.all (leadsB m ids (k + 1)) = true := List.all_eq_true.2 fun c hc => leads_still (h c hc) m ids k
theorem reach_ptr {m : Mem} {id g off : Nat} (h : ∀ c ∈ (m.sto id).cells, still c = true) (k : Nat) : reachL m (k + 1) (.ptr id g off) = [id] := by
  simp only [reachL]
  rw [reaches_still h]
theorem reach_arr {m : Mem} {id g off n sz : Nat} {app : Bool} (h : ∀ c ∈ (m.sto id).cells, still c = true) (k : Nat) : reachL m (k + 1) (.arr id g off n sz app) = [id] := by
  simp only [reachL]
  rw [reaches_still h]
/-- What a call behind a mask leaves of the reader, and of the rest. -/
theorem join_fr {L : List Nat} {M m' : Mem} {id : Nat} {bs : List Int} {P : Nat} (hF : Fr (mask L M) m' id) (hid : L.contains id = true) (hR : RdAt m' id bs P) :
    RdAt ⟨(joinM L M.nid M m').sto, m'.nid⟩ id bs P ∧ Fr M ⟨(joinM L M.nid M m').sto, m'.nid⟩ id ∧ ∀ k, M.nid ≤ k → (joinM L M.nid M m').sto k = m'.sto k := by
  refine ⟨hR.keep ?_ (Nat.le_refl _), ⟨hF.1, fun j hj hn => ?_⟩, fun k hk => ?_⟩
  · simp only [joinM, hid, Bool.true_or, if_true]
  · simp only [joinM]
    split
    · rename_i hc
      have hj' : ¬ M.nid ≤ j := by omega
      simp only [hj', decide_false, Bool.or_false] at hc
      rw [hF.2 j hj hn]
      simp only [mask]
      rw [if_pos hc]
    · rfl
  · simp only [joinM, hk, decide_true, Bool.or_true, if_true]
theorem rd_still {m : Mem} {id : Nat} {bs : List Int} {P : Nat} (h : RdAt m id bs P) : ∀ c ∈ (m.sto id).cells, still c = true := by
  obtain ⟨_, p, _, hs⟩ := h
  rw [hs]
  intro c hc
  simp only [List.mem_cons, List.mem_nil_iff, or_false] at hc
  rcases hc with rfl | rfl <;> rfl
theorem rd_mask {L : List Nat} {m : Mem} {id : Nat} {bs : List Int} {P : Nat} (h : RdAt m id bs P) (hid : L.contains id = true) : RdAt (mask L m) id bs P := by
  obtain ⟨h1, p, h2, h3⟩ := h
  exact ⟨h1, p, h2, by simp only [mask, hid, if_true]; exact h3⟩
theorem rd_gen {m : Mem} {id : Nat} {bs : List Int} {P : Nat} (h : RdAt m id bs P) : (m.sto id).gen = 0 := by
  obtain ⟨h1, p, h2, h3⟩ := h
  rw [h3]
/-- l13Decls behind a mask. -/
theorem Decls_far (bases : List ByteArray) (M : Mem) (id : Nat) (bs : List Int) (P : Nat) (lid g : Nat) (app fz : Bool) (ty : Option (TypeId × Bool)) (hl : M.sto lid = ⟨bases.map AV.str, g, fz, ty⟩) (hlid : lid < M.nid) (hne : lid ≠ id) (h : RdAt M id bs P) (hb : Bytes bs) (hP : P ≤ 100000000000000) (hn1 : 1 ≤ bases.length) (hn2 : bases.length ≤ 1000) (K : Do → Prop)
    (hQ : ∀ (l : List Dcl) (g' : Nat) m', 1 ≤ l.length → l.length ≤ 5 → (∀ d ∈ l, d.Ok bases) → (∀ o : Nat, o < l.length → ∃ d ∈ l, d.ord = o) → RdAt ⟨(joinM [id, lid] M.nid M m').sto, m'.nid⟩ id bs (P + 40) → Fr M ⟨(joinM [id, lid] M.nid M m').sto, m'.nid⟩ id → M.nid < m'.nid → (∃ ty', (joinM [id, lid] M.nid M m').sto M.nid = ⟨dclC l, g', false, ty'⟩) → K (.call [id, lid] M.nid (.arr M.nid g' 0 l.length 6 true) m')) :
    closedB M (reachL M 2097152 (.ptr id 0 0) ++ reachL M 2097152 (.arr lid g 0 bases.length 1 app)) [.ptr id 0 0, .arr lid g 0 bases.length 1 app] = true ∧
      Comes (fnI CC PR 57 [.ptr id 0 0, .arr lid g 0 bases.length 1 app] (mask (reachL M 2097152 (.ptr id 0 0) ++ reachL M 2097152 (.arr lid g 0 bases.length 1 app)) M)) (farK (reachL M 2097152 (.ptr id 0 0) ++ reachL M 2097152 (.arr lid g 0 bases.length 1 app)) M K) := by
  have hcl : ∀ c ∈ (M.sto lid).cells, still c = true := by rw [hl]; exact still_strs bases
  rw [reach_ptr (rd_still h) 2097151, reach_arr hcl 2097151]
  refine ⟨?_, ?_⟩
  · simp only [closedB, Bool.and_eq_true, List.all_eq_true, List.mem_cons, List.mem_nil_iff, or_false, List.cons_append, List.nil_append]
    refine ⟨?_, ?_⟩
    · rintro v (rfl | rfl)
      · simp [leadsB, rd_gen h]
      · simp [leadsB, hl]
    · rintro v (rfl | rfl)
      · exact fun c hc => leads_still (rd_still h c hc) _ _ _
      · exact fun c hc => leads_still (hcl c hc) _ _ _
  · have hci : ([id] ++ [lid]).contains id = true := by simp
    have hcl2 : ([id] ++ [lid]).contains lid = true := by simp
    refine Decls_wp bases (mask ([id] ++ [lid]) M) id bs P lid g app fz ty (by simp only [mask, hcl2, if_true]; exact hl) hlid hne (rd_mask h hci) hb hP hn1 hn2 _ fun l g' m' k1 k2 k3 k4 k5 k6 k7 k8 => ?_
    obtain ⟨j1, j2, j3⟩ := join_fr k6 hci k5
    refine ⟨?_, hQ l g' m' k1 k2 k3 k4 j1 j2 k7 ?_⟩
    · intro i hi
      simp only [List.cons_append, List.nil_append, List.mem_cons, List.mem_nil_iff, or_false] at hi
      rcases hi with rfl | rfl
      · rw [rd_gen h]; exact Nat.zero_le _
      · have hq := k6.2 i hlid hne
        have e : ((mask ([id] ++ [i]) M).sto i).gen = (M.sto i).gen := by simp only [mask, hcl2, if_true]
        show (M.sto i).gen ≤ (m'.sto i).gen
        rw [hq, e]
        exact Nat.le_refl _
    · obtain ⟨ty', k8⟩ := k8
      exact ⟨ty', (j3 _ (Nat.le_refl _)).trans k8⟩
def basesB : List ByteArray := [⟨#[66, 111, 111, 108]⟩, ⟨#[85, 56]⟩, ⟨#[85, 49, 54]⟩, ⟨#[85, 51, 50]⟩, ⟨#[73, 54, 52]⟩, ⟨#[84, 101, 120, 116]⟩]
def nMain : ByteArray := ⟨#[77, 97, 105, 110]⟩
def nPart : ByteArray := ⟨#[80, 97, 114, 116]⟩
def nTone : ByteArray := ⟨#[84, 111, 110, 101]⟩
def words3 : List ByteArray := [⟨#[108, 111, 119]⟩, ⟨#[109, 105, 100]⟩, ⟨#[104, 105, 103, 104]⟩]
/-- What a block holds; u: it is not frozen. -/
def CellsA (u : Bool) (M : Mem) (b g : Nat) (cs : List AV) : Prop := (M.sto b).cells = cs ∧ (M.sto b).gen = g ∧ (u = true → (M.sto b).froz = false)
theorem cells_a {u : Bool} {M : Mem} {b g : Nat} {cs : List AV} {ty : Option (TypeId × Bool)} (h : M.sto b = ⟨cs, g, false, ty⟩) : CellsA u M b g cs := by
  unfold CellsA
  rw [h]
  exact ⟨rfl, rfl, fun _ => rfl⟩
theorem CellsA.keep {u : Bool} {M M' : Mem} {b g : Nat} {cs : List AV} (h : CellsA u M b g cs) (e : M'.sto b = M.sto b) : CellsA u M' b g cs := by
  unfold CellsA at h ⊢
  rw [e]
  exact h
theorem CellsA.same {u : Bool} {M M' : Mem} {b g : Nat} {cs : List AV} (h : CellsA u M b g cs) (e : Same (M'.sto b) (M.sto b)) : CellsA false M' b g cs := by
  obtain ⟨h1, h2, _⟩ := h
  exact ⟨e.1.trans h1, e.2.trans h2, fun h => by cases h⟩
def DecAt (u : Bool) (M : Mem) (lo : Nat) (v : AV) (l : List Dcl) : Prop := ∃ d g, lo ≤ d ∧ d < M.nid ∧ v = .arr d g 0 l.length 6 true ∧ CellsA u M d g (dclC l)
def EnAt (u : Bool) (M : Mem) (lo : Nat) (v : AV) (tone : Bool) : Prop :=
  if tone = true then ∃ e g w wg, lo ≤ e ∧ e < M.nid ∧ lo ≤ w ∧ w < M.nid ∧ v = .arr e g 0 1 2 true ∧ CellsA u M e g [.str nTone, .arr w wg 0 3 1 true] ∧ CellsA u M w wg (words3.map AV.str)
  else v = .nils 2
def StAt (u : Bool) (M : Mem) (lo : Nat) (v : AV) (part : Option (List Dcl)) (main : List Dcl) : Prop :=
  match part with
  | none => ∃ s g dv, lo ≤ s ∧ s < M.nid ∧ v = .arr s g 0 1 2 true ∧ CellsA u M s g [.str nMain, dv] ∧ DecAt u M lo dv main
  | some p => ∃ s g d1 d2, lo ≤ s ∧ s < M.nid ∧ v = .arr s g 0 2 2 true ∧ CellsA u M s g [.str nPart, d1, .str nMain, d2] ∧ DecAt u M lo d1 p ∧ DecAt u M lo d2 main ∧ d1 ≠ d2
def GoodL (bases : List ByteArray) (l : List Dcl) : Prop := 1 ≤ l.length ∧ l.length ≤ 5 ∧ (∀ d ∈ l, d.Ok bases) ∧ ∀ o : Nat, o < l.length → ∃ d ∈ l, d.ord = o
def basesT (tone : Bool) : List ByteArray := basesB ++ if tone = true then [nTone] else []
def basesM (tone : Bool) (part : Option (List Dcl)) : List ByteArray := basesT tone ++ if part.isSome = true then [nPart, nPart] else []
/-- A schema as it is drawn. -/
def SchAt (u : Bool) (M : Mem) (lo : Nat) (v : AV) (tone : Bool) (part : Option (List Dcl)) (main : List Dcl) : Prop :=
  ∃ sv ev, v = .agg [sv, ev] ∧ StAt u M lo sv part main ∧ EnAt u M lo ev tone ∧ (∀ p, part = some p → GoodL (basesT tone) p) ∧ GoodL (basesM tone part) main
theorem EnAt.keep {u : Bool} {M M' : Mem} {lo : Nat} {v : AV} {tone : Bool} (h : EnAt u M lo v tone) (hn : M.nid ≤ M'.nid) (e : ∀ j, lo ≤ j → j < M.nid → M'.sto j = M.sto j) : EnAt u M' lo v tone := by
  unfold EnAt at h ⊢
  split
  · rename_i ht
    rw [if_pos ht] at h
    obtain ⟨a, g, w, wg, h1, h2, h3, h4, h5, h6, h7⟩ := h
    exact ⟨a, g, w, wg, h1, Nat.lt_of_lt_of_le h2 hn, h3, Nat.lt_of_lt_of_le h4 hn, h5, h6.keep (e a h1 h2), h7.keep (e w h3 h4)⟩
  · rename_i ht
    rw [if_neg ht] at h
    exact h
theorem DecAt.keep {u : Bool} {M M' : Mem} {lo : Nat} {v : AV} {l : List Dcl} (h : DecAt u M lo v l) (hn : M.nid ≤ M'.nid) (e : ∀ j, lo ≤ j → j < M.nid → M'.sto j = M.sto j) : DecAt u M' lo v l := by
  obtain ⟨d, g, h1, h2, h3, h4⟩ := h
  exact ⟨d, g, h1, Nat.lt_of_lt_of_le h2 hn, h3, h4.keep (e d h1 h2)⟩
theorem EnAt.less {u : Bool} {M : Mem} {lo lo' : Nat} {v : AV} {tone : Bool} (h : EnAt u M lo v tone) (hl : lo' ≤ lo) : EnAt u M lo' v tone := by
  unfold EnAt at h ⊢
  split
  · rename_i ht
    rw [if_pos ht] at h
    obtain ⟨a, g, w, wg, h1, h2, h3, h4, h5, h6, h7⟩ := h
    exact ⟨a, g, w, wg, by omega, h2, by omega, h4, h5, h6, h7⟩
  · rename_i ht
    rw [if_neg ht] at h
    exact h
theorem DecAt.less {u : Bool} {M : Mem} {lo lo' : Nat} {v : AV} {l : List Dcl} (h : DecAt u M lo v l) (hl : lo' ≤ lo) : DecAt u M lo' v l := by
  obtain ⟨d, g, h1, h2, h3, h4⟩ := h
  exact ⟨d, g, by omega, h2, h3, h4⟩
/-- Drawing a schema, after the part. -/
def SchB (m : Mem) (id : Nat) (bs : List Int) (P : Nat) (tone : Bool) (part : Option (List Dcl)) (M : Mem) (e4 : AV) : Prop :=
  RdAt M id bs P ∧ Fr m M id ∧ m.nid + 3 ≤ M.nid ∧ M.sto m.nid = ⟨[.nils 2, .nils 2], 0, false, some (42, true)⟩ ∧
  (∃ sv ev, M.sto (m.nid + 1) = ⟨[sv, ev], 0, false, some (42, true)⟩ ∧ EnAt true M (m.nid + 3) ev tone ∧
    match part with
    | none => sv = .nils 2
    | some p => GoodL (basesT tone) p ∧ ∃ s g dd gd, m.nid + 3 ≤ s ∧ s < dd ∧ dd < M.nid ∧ sv = .arr s g 0 1 2 true ∧ (∃ ty, M.sto s = ⟨[.str nPart, .arr dd gd 0 p.length 6 true], g, false, ty⟩) ∧ CellsA true M dd gd (dclC p) ∧ EnAt true ⟨M.sto, s⟩ (m.nid + 3) ev tone) ∧
  ∃ g, M.sto (m.nid + 2) = ⟨(basesM tone part).map AV.str, g, false, none⟩ ∧ e4 = .arr (m.nid + 2) g 0 (basesM tone part).length 1 true
/-- Drawing a schema, after the enums. -/
def SchA (m : Mem) (id : Nat) (bs : List Int) (P : Nat) (tone : Bool) (M : Mem) (e4 : AV) : Prop :=
  RdAt M id bs P ∧ Fr m M id ∧ m.nid + 3 ≤ M.nid ∧ M.sto m.nid = ⟨[.nils 2, .nils 2], 0, false, some (42, true)⟩ ∧ (∃ ev, M.sto (m.nid + 1) = ⟨[.nils 2, ev], 0, false, some (42, true)⟩ ∧ EnAt true M (m.nid + 3) ev tone) ∧ ∃ g, M.sto (m.nid + 2) = ⟨(basesT tone).map AV.str, g, false, none⟩ ∧ e4 = .arr (m.nid + 2) g 0 (basesT tone).length 1 true
set_option maxHeartbeats 4000000 in
theorem Schema_wp (m : Mem) (id : Nat) (bs : List Int) (P : Nat) (h : RdAt m id bs P) (hb : Bytes bs) (hP : P ≤ 90000000000000) (Q : AV × Mem → Prop)
    (hQ : ∀ v m' tone part main, SchAt true m' m.nid v tone part main → RdAt m' id bs (P + 100) → Fr m m' id → Q (v, m')) :
    Comes (fnI CC PR 25 [.ptr id 0 0] m) Q := by
  refine fnI_wp (rs := [.cell 2 42]) Tryz.func25 rfl rfl (Nat.le_of_ble_eq_true rfl) rfl rfl ?_
  have hid := h.1
  simp +decide only [go_sem, Nat.reduceAdd, Nat.reduceMul, Nat.reduceSub, Nat.reduceLT, Nat.reduceLeDiff, Nat.reduceEqDiff, Nat.add_assoc, Int.reduceAdd, Int.reduceSub, Int.reduceMul, Int.reduceLT, Int.reduceLE, Int.reduceEq, Int.reduceNeg, strOp_add]
  refine pick_wp 2 _ id bs P (RdAt.keep h ?_ ?_) hb (by omega) (by omega) (by omega) _ fun a m1 ha h1 h2 => ?_
  · repeat rw [upd_miss _ _ _ _ (by omega)]
  · omega
  have n1 : m.nid + 3 ≤ m1.nid := h2.1
  have f2 : m1.sto m.nid = ⟨[.nils 2, .nils 2], 0, false, some (42, true)⟩ := h2.at (by show m.nid < m.nid + 3; omega) (by omega) (by
    dsimp only
    rw [upd_miss _ _ _ _ (by omega), upd_miss _ _ _ _ (by omega), upd_miss _ _ _ _ (by omega)]
    exact upd_hit _ _ _)
  have f3 : m1.sto (m.nid + 1) = ⟨[.nils 2, .nils 2], 0, false, some (42, true)⟩ := h2.at (by show m.nid + 1 < m.nid + 3; omega) (by omega) (by
    dsimp only
    rw [upd_miss _ _ _ _ (by omega)]
    exact upd_hit _ _ _)
  have f4 : m1.sto (m.nid + 2) = ⟨basesB.map AV.str, 0, false, none⟩ := h2.at (by show m.nid + 2 < m.nid + 3; omega) (by omega) (upd_hit _ _ _)
  have F1 : Fr m m1 id := ⟨by omega, fun j hj hn => (h2.2 j (by show j < m.nid + 3; omega) hn).trans (by
    dsimp only
    repeat rw [upd_miss _ _ _ _ (by omega)])⟩
  clear h2
  have h10 := h1.1
  simp +decide only [go_sem, Nat.reduceAdd, Nat.reduceMul, Nat.reduceSub, Nat.reduceLT, Nat.reduceLeDiff, Nat.reduceEqDiff, Nat.add_assoc, Int.reduceAdd, Int.reduceSub, Int.reduceMul, Int.reduceLT, Int.reduceLE, Int.reduceEq, Int.reduceNeg, strOp_add]
  refine bB_merge (fun r => ∃ s', r = (Ex.normal, s') ∧ s'.env 0 = .ptr id 0 0 ∧ s'.env 2 = .ptr m.nid 0 0 ∧ s'.env 3 = .ptr (m.nid + 1) 0 0 ∧ ∃ tone, SchA m id bs (P + 1) tone s'.toMem (s'.env 4)) (fun hB => ?_) (fun hB => ?_) ?_
  · have fb : m1.sto (m.nid + 2) = ⟨[.str ⟨#[66, 111, 111, 108]⟩, .str ⟨#[85, 56]⟩, .str ⟨#[85, 49, 54]⟩, .str ⟨#[85, 51, 50]⟩, .str ⟨#[73, 54, 52]⟩, .str ⟨#[84, 101, 120, 116]⟩], 0, false, none⟩ := f4
    have d0 : ∀ i k, i ≤ 2 → (m.nid + i = m1.nid + k) = False := fun i k h => eq_false (by omega)
    have d1 : (m.nid + 1 = m1.nid) = False := eq_false (by omega)
    have d2 : (m.nid + 2 = m1.nid) = False := eq_false (by omega)
    have d3 : ∀ k, (m.nid + 1 = m1.nid + k) = False := fun k => eq_false (by omega)
    have d4 : ∀ k, (m.nid + 2 = m1.nid + k) = False := fun k => eq_false (by omega)
    have d5 : (m.nid + 2 = m.nid + 1) = False := eq_false (by omega)
    simp +decide only [go_sem, Nat.reduceAdd, Nat.reduceMul, Nat.reduceSub, Nat.reduceLT, Nat.reduceLeDiff, Nat.reduceEqDiff, Nat.add_assoc, Int.reduceAdd, Int.reduceSub, Int.reduceMul, Int.reduceLT, Int.reduceLE, Int.reduceEq, Int.reduceNeg, strOp_add, f3, fb, d1, d2, d3, d4, d5]
    refine ⟨_, rfl, ?_⟩
    simp +decide only [go_sem, Nat.reduceAdd, Nat.reduceMul, Nat.reduceSub, Nat.reduceLT, Nat.reduceLeDiff, Nat.reduceEqDiff, Nat.add_assoc, Int.reduceAdd, Int.reduceSub, Int.reduceMul, Int.reduceLT, Int.reduceLE, Int.reduceEq, Int.reduceNeg, strOp_add]
    refine ⟨true, h1.mono (Nat.le_refl _) |>.keep ?_ (Nat.le_add_right _ _), ⟨by show m.nid ≤ m1.nid + 4; omega, fun j hj hn => ?_⟩, by show m.nid + 3 ≤ m1.nid + 4; omega, ?_, ⟨_, ?_, m1.nid + 2, 0, m1.nid, 0, by omega, by show m1.nid + 2 < m1.nid + 4; omega, by omega, by show m1.nid < m1.nid + 4; omega, rfl, ?_, ?_⟩, 1, ?_, rfl⟩
    · repeat rw [upd_miss _ _ _ _ (by omega)]
    · dsimp only
      rw [upd_miss _ _ _ _ (by omega), upd_miss _ _ _ _ (by omega), upd_miss _ _ _ _ (by omega), upd_miss _ _ _ _ (by omega), upd_miss _ _ _ _ (by omega), upd_miss _ _ _ _ (by omega)]
      exact F1.2 j hj hn
    · dsimp only
      rw [upd_miss _ _ _ _ (by omega), upd_miss _ _ _ _ (by omega), upd_miss _ _ _ _ (by omega), upd_miss _ _ _ _ (by omega), upd_miss _ _ _ _ (by omega), upd_miss _ _ _ _ (by omega)]
      exact f2
    · dsimp only
      rw [upd_miss _ _ _ _ (by omega), upd_miss _ _ _ _ (by omega)]
      exact upd_hit _ _ _
    · apply cells_a
      dsimp only
      rw [upd_miss _ _ _ _ (by omega), upd_miss _ _ _ _ (by omega), upd_miss _ _ _ _ (by omega)]
      exact upd_hit _ _ _
    · apply cells_a
      dsimp only
      rw [upd_miss _ _ _ _ (by omega), upd_miss _ _ _ _ (by omega), upd_miss _ _ _ _ (by omega), upd_miss _ _ _ _ (by omega), upd_miss _ _ _ _ (by omega)]
      exact upd_hit _ _ _
    · exact upd_hit _ _ _
  · simp +decide only [go_sem, Nat.reduceAdd, Nat.reduceMul, Nat.reduceSub, Nat.reduceLT, Nat.reduceLeDiff, Nat.reduceEqDiff, Nat.add_assoc, Int.reduceAdd, Int.reduceSub, Int.reduceMul, Int.reduceLT, Int.reduceLE, Int.reduceEq, Int.reduceNeg, strOp_add]
    refine ⟨_, rfl, ?_⟩
    simp +decide only [go_sem, Nat.reduceAdd, Nat.reduceMul, Nat.reduceSub, Nat.reduceLT, Nat.reduceLeDiff, Nat.reduceEqDiff, Nat.add_assoc, Int.reduceAdd, Int.reduceSub, Int.reduceMul, Int.reduceLT, Int.reduceLE, Int.reduceEq, Int.reduceNeg, strOp_add]
    exact ⟨false, h1, F1, n1, f2, ⟨_, f3, rfl⟩, 0, f4, rfl⟩
  · clear h1 n1 f2 f3 f4 F1 h10 ha
    rintro _ ⟨s', rfl, e0, e2, e3, tone, h1, F1, n1, f2, ⟨ev, f3, hev⟩, g4, f4, e4⟩
    have h10 := h1.1
    simp +decide only [go_sem, Nat.reduceAdd, Nat.reduceMul, Nat.reduceSub, Nat.reduceLT, Nat.reduceLeDiff, Nat.reduceEqDiff, Nat.add_assoc, Int.reduceAdd, Int.reduceSub, Int.reduceMul, Int.reduceLT, Int.reduceLE, Int.reduceEq, Int.reduceNeg, strOp_add, e0]
    refine pick_wp 2 _ id bs _ h1 hb (by omega) (by omega) (by omega) _ fun b m2 hb2 h3 h4 => ?_
    have n2 : s'.nid ≤ m2.nid := h4.1
    have g2 := h4.at (k := m.nid) (by show m.nid < s'.nid; omega) (by omega) f2
    have g3 := h4.at (k := m.nid + 1) (by show m.nid + 1 < s'.nid; omega) (by omega) f3
    have g4' := h4.at (k := m.nid + 2) (by show m.nid + 2 < s'.nid; omega) (by omega) f4
    have hev2 := hev.keep n2 (fun j h1 h2 => h4.2 j h2 (by omega))
    have F2 := F1.trans h4
    clear h4 h1 F1 f2 f3 f4 hev
    have h30 := h3.1
    simp +decide only [go_sem, Nat.reduceAdd, Nat.reduceMul, Nat.reduceSub, Nat.reduceLT, Nat.reduceLeDiff, Nat.reduceEqDiff, Nat.add_assoc, Int.reduceAdd, Int.reduceSub, Int.reduceMul, Int.reduceLT, Int.reduceLE, Int.reduceEq, Int.reduceNeg, strOp_add, e0]
    refine bB_merge (fun r => ∃ s', r = (Ex.normal, s') ∧ s'.env 0 = .ptr id 0 0 ∧ s'.env 2 = .ptr m.nid 0 0 ∧ s'.env 3 = .ptr (m.nid + 1) 0 0 ∧ ∃ tone part, SchB m id bs (P + 50) tone part s'.toMem (s'.env 4)) (fun hB => ?_) (fun hB => ?_) ?_
    · have hL : (basesT tone).length ≤ 7 ∧ 6 ≤ (basesT tone).length := by cases tone <;> decide
      have hbM : ∀ p, basesM tone (some p) = basesT tone ++ [nPart, nPart] := fun p => by simp [basesM]
      have hmost : (basesT tone).length + 2 ≤ most := by simp only [most]; omega
      simp +decide only [go_sem, Nat.reduceAdd, Nat.reduceMul, Nat.reduceSub, Nat.reduceLT, Nat.reduceLeDiff, Nat.reduceEqDiff, Nat.add_assoc, Int.reduceAdd, Int.reduceSub, Int.reduceMul, Int.reduceLT, Int.reduceLE, Int.reduceEq, Int.reduceNeg, strOp_add]
      refine (d_plan (ord := [0, 1, 2, 3, 4, 5, 6, 7, 8, 9]) (prs := [(1, 4), (1, 6)]) (by kernel_rfl)).2 ?_
      simp +decide (disch := first | decide | omega) only [go_sem, Nat.reduceAdd, Nat.reduceMul, Nat.reduceSub, Nat.reduceLT, Nat.reduceLeDiff, Nat.reduceEqDiff, Nat.add_assoc, Int.reduceAdd, Int.reduceSub, Int.reduceMul, Int.reduceLT, Int.reduceLE, Int.reduceEq, Int.reduceNeg, strOp_add, e0, e2, e3, e4, g2, g3]
      refine Decls_far (basesT tone) ⟨m2.sto, m2.nid + 10⟩ id bs _ (m.nid + 2) g4 true false none g4' (by show m.nid + 2 < m2.nid + 10; omega) (by omega) (h3.keep rfl (Nat.le_add_right _ _)) hb (by omega) (by omega) (by omega) _ fun l g' m3 k1 k2 k3 k4 k5 k6 k7 k8 => ?_
      have c2 := k6.at (k := m.nid) (by show m.nid < m2.nid + 10; omega) (by omega) g2
      have c3 := k6.at (k := m.nid + 1) (by show m.nid + 1 < m2.nid + 10; omega) (by omega) g3
      have c4 := k6.at (k := m.nid + 2) (by show m.nid + 2 < m2.nid + 10; omega) (by omega) g4'
      obtain ⟨ty', k8⟩ := k8
      dsimp only at c2 c3 c4 k5 k6 k7 k8
      generalize hJ : (joinM [id, m.nid + 2] (m2.nid + 10) ⟨m2.sto, m2.nid + 10⟩ m3).sto = J at *
      simp +decide (disch := first | decide | omega) only [go_sem, Nat.reduceAdd, Nat.reduceMul, Nat.reduceSub, Nat.reduceLT, Nat.reduceLeDiff, Nat.reduceEqDiff, Nat.add_assoc, Int.reduceAdd, Int.reduceSub, Int.reduceMul, Int.reduceLT, Int.reduceLE, Int.reduceEq, Int.reduceNeg, strOp_add, e0, e2, e3, e4, g2, g3, c2, c3, c4, k8, hJ, hmost, List.length_map]
      refine ⟨⟨by simp; omega, by omega⟩, ?_⟩
      refine ⟨_, rfl, ?_⟩
      simp +decide only [go_sem, Nat.reduceAdd, Nat.reduceMul, Nat.reduceSub, Nat.reduceLT, Nat.reduceLeDiff, Nat.reduceEqDiff, Nat.add_assoc, Int.reduceAdd, Int.reduceSub, Int.reduceMul, Int.reduceLT, Int.reduceLE, Int.reduceEq, Int.reduceNeg, strOp_add, e0, e2, e3]
      refine ⟨tone, some l, (k5.mono (by omega)).keep ?_ (Nat.le_succ _), ⟨by show m.nid ≤ m3.nid + 1; omega, fun j hj hn => ?_⟩, by show m.nid + 3 ≤ m3.nid + 1; omega, ?_, ⟨_, _, ?_, hev2.keep (by show m2.nid ≤ m3.nid + 1; omega) (fun j hj hn => ?_), ⟨k1, k2, k3, k4⟩, m2.nid + 7, 0, m2.nid + 10, g', by omega, by omega, by show m2.nid + 10 < m3.nid + 1; omega, rfl, ?_, ?_, hev2.keep (M' := ⟨_, m2.nid + 7⟩) (by show m2.nid ≤ m2.nid + 7; omega) (fun j hj hn => ?_)⟩, g4 + 1, ?_, ?_⟩
      · repeat rw [upd_miss _ _ _ _ (by omega)]
      · dsimp only
        repeat rw [upd_miss _ _ _ _ (by omega)]
        exact k6.at (by show j < m2.nid + 10; omega) hn (F2.2 j hj hn)
      · dsimp only
        repeat rw [upd_miss _ _ _ _ (by omega)]
        exact c2
      · dsimp only
        rw [upd_miss _ _ _ _ (by omega), upd_miss _ _ _ _ (by omega)]
        exact upd_hit _ _ _
      · dsimp only
        repeat rw [upd_miss _ _ _ _ (by omega)]
        exact k6.2 j (by show j < m2.nid + 10; omega) (by omega)
      · refine ⟨some (49, false), ?_⟩
        dsimp only
        rw [upd_miss _ _ _ _ (by omega), upd_miss _ _ _ _ (by omega), upd_miss _ _ _ _ (by omega)]
        exact upd_hit _ _ _
      · apply cells_a
        dsimp only
        rw [upd_miss _ _ _ _ (by omega), upd_miss _ _ _ _ (by omega), upd_miss _ _ _ _ (by omega), upd_miss _ _ _ _ (by omega), upd_miss _ _ _ _ (by omega)]
        exact k8
      · dsimp only
        repeat rw [upd_miss _ _ _ _ (by omega)]
        exact k6.2 j (by show j < m2.nid + 10; omega) (by omega)
      · refine (upd_hit _ _ _).trans ?_
        rw [hbM]
        simp [nPart]
      · rw [hbM]
        simp
    · simp +decide only [go_sem, Nat.reduceAdd, Nat.reduceMul, Nat.reduceSub, Nat.reduceLT, Nat.reduceLeDiff, Nat.reduceEqDiff, Nat.add_assoc, Int.reduceAdd, Int.reduceSub, Int.reduceMul, Int.reduceLT, Int.reduceLE, Int.reduceEq, Int.reduceNeg, strOp_add]
      refine ⟨_, rfl, ?_⟩
      simp +decide only [go_sem, Nat.reduceAdd, Nat.reduceMul, Nat.reduceSub, Nat.reduceLT, Nat.reduceLeDiff, Nat.reduceEqDiff, Nat.add_assoc, Int.reduceAdd, Int.reduceSub, Int.reduceMul, Int.reduceLT, Int.reduceLE, Int.reduceEq, Int.reduceNeg, strOp_add, e0, e2, e3]
      have hbM : basesM tone none = basesT tone := by simp [basesM]
      exact ⟨tone, none, h3.mono (by omega), F2, by show m.nid + 3 ≤ m2.nid; omega, g2, ⟨_, _, g3, hev2, rfl⟩, g4, by rw [hbM]; exact g4', by rw [hbM]; exact e4⟩
    · clear h3 n2 g2 g3 g4' hev2 F2 h30
      rintro _ ⟨s2, rfl, e0, e2, e3, tone, part, h1, F1, n1, f2, ⟨sv, ev2, f3, hev2, hpt⟩, g5, f5, e4⟩
      have hL : (basesM tone part).length ≤ 9 ∧ 6 ≤ (basesM tone part).length := by cases tone <;> cases part <;> simp [basesM, basesT, basesB]
      have h10 := h1.1
      have hsh : ev2 = .nils 2 ∨ ∃ e g, ev2 = .arr e g 0 1 2 true := by
        have h := hev2
        unfold EnAt at h
        split at h
        · obtain ⟨e, g, w, wg, _, _, _, _, h5, _⟩ := h
          exact .inr ⟨e, g, h5⟩
        · exact .inl h
      cases part with
      | none =>
        obtain rfl : sv = .nils 2 := hpt
        rcases hsh with rfl | ⟨e, ge, rfl⟩
        all_goals
          simp +decide only [go_sem, Nat.reduceAdd, Nat.reduceMul, Nat.reduceSub, Nat.reduceLT, Nat.reduceLeDiff, Nat.reduceEqDiff, Nat.add_assoc, Int.reduceAdd, Int.reduceSub, Int.reduceMul, Int.reduceLT, Int.reduceLE, Int.reduceEq, Int.reduceNeg, strOp_add]
          refine (d_plan (ord := [0, 1, 2, 3, 4, 5, 6, 7, 8, 9]) (prs := [(1, 4), (1, 6)]) (by kernel_rfl)).2 ?_
          simp +decide (disch := first | decide | omega) only [go_sem, Nat.reduceAdd, Nat.reduceMul, Nat.reduceSub, Nat.reduceLT, Nat.reduceLeDiff, Nat.reduceEqDiff, Nat.add_assoc, Int.reduceAdd, Int.reduceSub, Int.reduceMul, Int.reduceLT, Int.reduceLE, Int.reduceEq, Int.reduceNeg, strOp_add, e0, e2, e3, e4, f2, f3]
          refine Decls_far (basesM tone none) ⟨s2.sto, s2.nid + 10⟩ id bs _ (m.nid + 2) g5 true false none f5 (by show m.nid + 2 < s2.nid + 10; omega) (by omega) (h1.keep rfl (Nat.le_add_right _ _)) hb (by omega) (by omega) (by omega) _ fun l g' m3 k1 k2 k3 k4 k5 k6 k7 k8 => ?_
          have c2 := k6.at (k := m.nid) (by show m.nid < s2.nid + 10; omega) (by omega) f2
          have c3 := k6.at (k := m.nid + 1) (by show m.nid + 1 < s2.nid + 10; omega) (by omega) f3
          obtain ⟨ty', k8⟩ := k8
          dsimp only at c2 c3 k5 k6 k7 k8
          generalize hJ : (joinM [id, m.nid + 2] (s2.nid + 10) ⟨s2.sto, s2.nid + 10⟩ m3).sto = J at *
          simp +decide (disch := first | decide | omega) only [go_sem, Nat.reduceAdd, Nat.reduceMul, Nat.reduceSub, Nat.reduceLT, Nat.reduceLeDiff, Nat.reduceEqDiff, Nat.add_assoc, Int.reduceAdd, Int.reduceSub, Int.reduceMul, Int.reduceLT, Int.reduceLE, Int.reduceEq, Int.reduceNeg, strOp_add, e0, e2, e3, e4, f2, f3, c2, c3, k8, hJ]
          refine ⟨⟨by simp; omega, by omega⟩, hQ _ ⟨_, m3.nid⟩ tone none l ⟨_, _, rfl, ⟨s2.nid + 7, 0, _, by omega, by show s2.nid + 7 < m3.nid; omega, rfl, ?_, s2.nid + 10, g', by omega, by show s2.nid + 10 < m3.nid; exact k7, rfl, ?_⟩, ((hev2.keep (M' := ⟨_, m3.nid⟩) (by show s2.nid ≤ m3.nid; omega) (fun j hj hn => ?_)).less (by omega)), by simp, k1, k2, k3, k4⟩ (RdAt.mono (RdAt.keep k5 ?_ (Nat.le_refl _)) (by omega)) ⟨by show m.nid ≤ m3.nid; omega, fun j hj hn => ?_⟩⟩
          · apply cells_a
            dsimp only
            rw [upd_miss _ _ _ _ (by omega), upd_miss _ _ _ _ (by omega)]
            exact upd_hit _ _ _
          · apply cells_a
            dsimp only
            rw [upd_miss _ _ _ _ (by omega), upd_miss _ _ _ _ (by omega), upd_miss _ _ _ _ (by omega), upd_miss _ _ _ _ (by omega)]
            exact k8
          · dsimp only
            rw [upd_miss _ _ _ _ (by omega), upd_miss _ _ _ _ (by omega), upd_miss _ _ _ _ (by omega), upd_miss _ _ _ _ (by omega)]
            exact k6.2 j (by show j < s2.nid + 10; omega) (by omega)
          · dsimp only
            repeat rw [upd_miss _ _ _ _ (by omega)]
          · dsimp only
            rw [upd_miss _ _ _ _ (by omega), upd_miss _ _ _ _ (by omega), upd_miss _ _ _ _ (by omega), upd_miss _ _ _ _ (by omega)]
            exact k6.at (by show j < s2.nid + 10; omega) hn (F1.2 j hj hn)
      | some p =>
        obtain ⟨hgp, s, g, dd, gd, q1, q2, q6, rfl, ⟨ty, q3⟩, q7, q8⟩ := hpt
        have h2m : 2 ≤ most := by simp only [most]; omega
        rcases hsh with rfl | ⟨e, ge, rfl⟩
        all_goals
          simp +decide only [go_sem, Nat.reduceAdd, Nat.reduceMul, Nat.reduceSub, Nat.reduceLT, Nat.reduceLeDiff, Nat.reduceEqDiff, Nat.add_assoc, Int.reduceAdd, Int.reduceSub, Int.reduceMul, Int.reduceLT, Int.reduceLE, Int.reduceEq, Int.reduceNeg, strOp_add]
          refine (d_plan (ord := [0, 1, 2, 3, 4, 5, 6, 7, 8, 9]) (prs := [(1, 4), (1, 6)]) (by kernel_rfl)).2 ?_
          simp +decide (disch := first | decide | omega) only [go_sem, Nat.reduceAdd, Nat.reduceMul, Nat.reduceSub, Nat.reduceLT, Nat.reduceLeDiff, Nat.reduceEqDiff, Nat.add_assoc, Int.reduceAdd, Int.reduceSub, Int.reduceMul, Int.reduceLT, Int.reduceLE, Int.reduceEq, Int.reduceNeg, strOp_add, e0, e2, e3, e4, f2, f3]
          refine Decls_far (basesM tone (some p)) ⟨s2.sto, s2.nid + 10⟩ id bs _ (m.nid + 2) g5 true false none f5 (by show m.nid + 2 < s2.nid + 10; omega) (by omega) (h1.keep rfl (Nat.le_add_right _ _)) hb (by omega) (by omega) (by omega) _ fun l g' m3 k1 k2 k3 k4 k5 k6 k7 k8 => ?_
          have c2 := k6.at (k := m.nid) (by show m.nid < s2.nid + 10; omega) (by omega) f2
          have c3 := k6.at (k := m.nid + 1) (by show m.nid + 1 < s2.nid + 10; omega) (by omega) f3
          have c5 := k6.at (k := s) (by show s < s2.nid + 10; omega) (by omega) q3
          have c6 := q7.keep (k6.2 dd (by show dd < s2.nid + 10; omega) (by omega))
          obtain ⟨ty', k8⟩ := k8
          dsimp only at c2 c3 c5 c6 k5 k6 k7 k8
          generalize hJ : (joinM [id, m.nid + 2] (s2.nid + 10) ⟨s2.sto, s2.nid + 10⟩ m3).sto = J at *
          simp +decide (disch := first | decide | omega) only [go_sem, Nat.reduceAdd, Nat.reduceMul, Nat.reduceSub, Nat.reduceLT, Nat.reduceLeDiff, Nat.reduceEqDiff, Nat.add_assoc, Int.reduceAdd, Int.reduceSub, Int.reduceMul, Int.reduceLT, Int.reduceLE, Int.reduceEq, Int.reduceNeg, strOp_add, e0, e2, e3, e4, f2, f3, c2, c3, c5, k8, hJ, h2m]
          refine ⟨⟨by simp; omega, by omega⟩, hQ _ ⟨_, m3.nid⟩ tone (some p) l ⟨_, _, rfl, ⟨s, g + 1, _, _, by omega, by show s < m3.nid; omega, rfl, ?_, ⟨dd, gd, by omega, by show dd < m3.nid; omega, rfl, ?_⟩, ⟨s2.nid + 10, g', by omega, by show s2.nid + 10 < m3.nid; exact k7, rfl, ?_⟩, fun e => by injection e; omega⟩, ((q8.keep (M' := ⟨_, m3.nid⟩) (by show s ≤ m3.nid; omega) (fun j hj hn => ?_)).less (by omega)), (by intro p' hp'; cases hp'; exact hgp), k1, k2, k3, k4⟩ (RdAt.mono (RdAt.keep k5 ?_ (Nat.le_refl _)) (by omega)) ⟨by show m.nid ≤ m3.nid; omega, fun j hj hn => ?_⟩⟩
          · apply cells_a
            dsimp only
            rw [upd_miss _ _ _ _ (by omega), upd_miss _ _ _ _ (by omega)]
            exact upd_hit _ _ _
          · refine c6.keep ?_
            dsimp only
            repeat rw [upd_miss _ _ _ _ (by omega)]
          · apply cells_a
            dsimp only
            rw [upd_miss _ _ _ _ (by omega), upd_miss _ _ _ _ (by omega), upd_miss _ _ _ _ (by omega), upd_miss _ _ _ _ (by omega)]
            exact k8
          · have hj2 : j < s := hn
            dsimp only
            rw [upd_miss _ _ _ _ (by omega), upd_miss _ _ _ _ (by omega), upd_miss _ _ _ _ (by omega), upd_miss _ _ _ _ (by omega)]
            exact k6.2 j (by show j < s2.nid + 10; omega) (by omega)
          · dsimp only
            repeat rw [upd_miss _ _ _ _ (by omega)]
          · dsimp only
            rw [upd_miss _ _ _ _ (by omega), upd_miss _ _ _ _ (by omega), upd_miss _ _ _ _ (by omega), upd_miss _ _ _ _ (by omega)]
            exact k6.at (by show j < s2.nid + 10; omega) hn (F1.2 j hj hn)
end Go.Ev.Tryz
