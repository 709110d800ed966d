/- Part of the proof of a statement about the given program: W2aZD W2ZD. No condition of its own. -/
import Derived.Test.YtmnpcdchlobdlaaGreatDoorR18ZD
import Derived.Test.YtmnpcdchlobdlaaGreatDoorW1ZD
import Derived.Test.YtmnpcdchlobdlaaGreatDoorL1ZD
section
namespace Go.Ev.Tryz
open Go.Proofs
set_option maxRecDepth 10000
set_option linter.unusedSimpArgs false
set_option linter.unusedVariables false
attribute [local congr] comes_congr bB_congr gK_congr gdK_congr

/-- The blocks of data in memory lead into themselves alone. -/
theorem datR_shut {M : Mem} {lo : Nat} : ∀ (d : Dat) (k : Nat) {cs : List AV} {B : List Nat}, hgt d ≤ k → DatR M d cs B → (∀ b ∈ B, lo ≤ b ∧ b < M.nid) → ∀ c ∈ cs, ∃ B', Shut M lo k c B' := by
  intro d
  induction d using Dat.ind with
  | h kk n t l ns ih =>
  intro k cs B hk h hB c hc
  have h1 : 1 ≤ hgt (.mk kk n t l ns) := by rw [hgt]; omega
  obtain ⟨k, rfl⟩ : ∃ q, k = q + 1 := ⟨k - 1, by omega⟩
  obtain ⟨lv, nv, Bl, Bn, rfl, rfl, hn, hl⟩ := datR_iff.1 h
  simp only [List.mem_cons, List.mem_nil_iff, or_false] at hc
  rcases hc with rfl | rfl | rfl | rfl | rfl
  · exact ⟨[], still_shut rfl M lo _⟩
  · exact ⟨[], still_shut rfl M lo _⟩
  · exact ⟨[], still_shut rfl M lo _⟩
  · rcases hl with ⟨rfl, _⟩ | ⟨_, rfl, _⟩ | ⟨id, g, app, cs', B', rfl, ⟨q1, q2⟩, q3, rfl⟩
    · exact ⟨[], still_shut rfl M lo _⟩
    · exact ⟨[], nils_shut _ M lo _⟩
    · have hin := hB id (by simp)
      refine arr_shut (u := false) ⟨q1, q2, fun h => by cases h⟩ hin.1 hin.2 ?_
      have key : ∀ (l' : List Dat), (∀ x ∈ l', x ∈ l) → ∀ {cs : List AV} {B : List Nat}, CelR M l' cs B → (∀ b ∈ B, lo ≤ b ∧ b < M.nid) → ∀ c ∈ cs, ∃ B', Shut M lo k c B' := by
        intro l'
        induction l' with
        | nil =>
          intro _ cs B h _ c hc
          obtain ⟨rfl, _⟩ := celR_nil.1 h
          cases hc
        | cons x l' ih2 =>
          intro hx cs B h hb c hc
          obtain ⟨c1, B1, c2, B2, rfl, rfl, r1, r2⟩ := celR_cons.1 h
          rcases List.mem_append.1 hc with hc | hc
          · have hxl := hx x (by simp)
            have := hgt_lt (k := kk) (n := n) (t := t) (ns := ns) hxl
            exact ih x hxl k (by omega) r1 (fun b hb' => hb b (List.mem_append_left _ hb')) c hc
          · exact ih2 (fun y hy => hx y (by simp [hy])) r2 (fun b hb' => hb b (List.mem_append_right _ hb')) c hc
      exact key l (fun x hx => hx) q3 fun b hb => hB b (by simp [hb])
  · rcases hn with ⟨rfl, _⟩ | ⟨_, rfl, _⟩ | ⟨id, g, app, rfl, ⟨q1, q2⟩, rfl⟩
    · exact ⟨[], still_shut rfl M lo _⟩
    · exact ⟨[], nils_shut _ M lo _⟩
    · have hin := hB id (by simp)
      refine arr_shut (u := false) ⟨q1, q2, fun h => by cases h⟩ hin.1 hin.2 fun c hc => ⟨[], still_shut (still_strs ns c hc) M lo _⟩
/-- What a call behind a mask leaves of the rest, where it froze some of the blocks that it saw. -/
theorem join_fz {ids bl : List Nat} {M m' : Mem} {id : Nat} {bs : List Int} {P P' : Nat} (hid : id ∈ ids) (hR0 : RdAt M id bs P) (hF : Fr (frozM (mask ids M) bl) m' id) (hR : RdAt m' id bs P') (hlt : ∀ i ∈ ids, i < M.nid) :
    RdAt ⟨(joinM ids M.nid M m').sto, m'.nid⟩ id bs P' ∧ (∀ j, j < M.nid → j ≠ id → Same ((joinM ids M.nid M m').sto j) (M.sto j)) ∧ (∀ j, j < M.nid → j ∉ ids → (joinM ids M.nid M m').sto j = M.sto j) ∧ (∀ j, M.nid ≤ j → (joinM ids M.nid M m').sto j = m'.sto j) ∧ M.nid ≤ m'.nid ∧ ∀ i ∈ ids, (M.sto i).gen ≤ (m'.sto i).gen := by
  have hcont : ∀ x, ids.contains x = true ↔ x ∈ ids := fun x => by simp
  have hfz : ∀ j, Same ((frozM (mask ids M) bl).sto j) ((mask ids M).sto j) := fun j => by
    show Same (if j ∈ bl then _ else _) _
    split <;> exact ⟨rfl, rfl⟩
  have nm : M.nid ≤ m'.nid := hF.1
  refine ⟨hR.fr (Nat.le_refl _) ?_, fun j c1 c2 => ?_, fun j c1 c2 => ?_, fun j c1 => ?_, nm, fun i hi => ?_⟩
  · simp only [joinM, (hcont id).2 hid, Bool.true_or, if_true]
  · simp only [joinM]
    split
    · rename_i hc
      have hj' : ¬ M.nid ≤ j := by omega
      simp only [hj', decide_false, Bool.or_false] at hc
      rw [hF.2 j c1 c2]
      have := hfz j
      simp only [mask, hc, if_true] at this
      exact this
    · exact ⟨rfl, rfl⟩
  · simp only [joinM]
    have hj' : ¬ M.nid ≤ j := by omega
    have hc : ids.contains j = false := by
      rw [Bool.eq_false_iff]
      exact fun h => c2 ((hcont j).1 h)
    simp only [hj', decide_false, hc, Bool.or_false, Bool.false_eq_true, if_false]
  · simp only [joinM, c1, decide_true, Bool.or_true, if_true]
  · by_cases hii : i = id
    · rw [hii, rd_gen hR0]
      exact Nat.zero_le _
    · have h3 : ((frozM (mask ids M) bl).sto i).gen = (M.sto i).gen := by
        rw [(hfz i).2]
        simp only [mask, (hcont i).2 hi, if_true]
      rw [hF.2 i (hlt i hi) hii, h3]
      exact Nat.le_refl _
/-- l13Path at data in memory, by what it reads as. -/
theorem PathS_wp (d : Dat) {cs : List AV} (m : Mem) (id : Nat) (bs : List Int) (P : Nat) (e1 : snapD m 2097152 (.agg cs) = some d.av) (hr : id ∉ reachD m 2097152 (.agg cs)) (hcs : (AV.agg cs).loud = false) (hd : d.Sane) (hh : hgt d ≤ 1000) (h : RdAt m id bs P) (hb : Bytes bs) (hP : P ≤ 600000000000) (Q : AV × Mem → Prop)
    (hQ : ∀ p m', p.length ≤ 1001 → RdAt m' id bs (P + 4000) → Fr (frozM m (reachD m 2097152 (.agg cs))) m' id → Q (strsA p, m')) :
    Comes (fnI CC PR 16 [.ptr id 0 0, .agg cs] m) Q := by
  have hen : entryI CC 16 [.ptr id 0 0, .agg cs] m = some ([.ptr id 0 0, d.av], frozM m (reachD m 2097152 (.agg cs))) := by
    have hp : (AV.ptr id 0 0).loud = true := rfl
    unfold entryI
    rw [if_pos (show CC.snapA.contains 16 = true from rfl)]
    simp only [List.mapM_cons, List.mapM_nil, hp, hcs, if_true, Bool.false_eq_true, if_false, e1, List.map_cons, List.map_nil, List.flatten_cons, List.flatten_nil, List.nil_append, List.append_nil]
    rfl
  refine fnI_snap Tryz.func16 rfl (Nat.le_of_ble_eq_true rfl) (Nat.le_of_ble_eq_true rfl) rfl rfl hen (entry_plain ?_) ?_
  · intro a ha
    simp only [List.mem_cons, List.mem_nil_iff, or_false] at ha
    rcases ha with rfl | rfl
    · exact .inl rfl
    · obtain ⟨k, n, t, l, ns⟩ := d
      rw [Dat.av_mk]
      exact .inr ⟨rfl, rfl⟩
  · exact Path_wp d hd hh _ id bs P (h.froz hr) hb hP _ fun p m' h1 h2 h3 => hQ p m' h1 h2 h3
theorem PathFar {M : Mem} {lo H id : Nat} (d : Dat) {cs : List AV} {B : List Nat} (hD : DatR M d cs B) (hB : ∀ b ∈ B, lo ≤ b ∧ b < H) (hH : H ≤ M.nid) (hiH : id < H) (bs : List Int) (P : Nat) (hid : id < lo) (hd : d.Sane) (hh : hgt d ≤ 1000) (h : RdAt M id bs P) (hb : Bytes bs) (hP : P ≤ 600000000000) {K : Do → Prop}
    (hK : ∀ p m' ids, p.length ≤ 1001 → RdAt ⟨(joinM ids M.nid M m').sto, m'.nid⟩ id bs (P + 4000) → (∀ j, j < M.nid → j ≠ id → Same ((joinM ids M.nid M m').sto j) (M.sto j)) → (∀ j, j < M.nid → j ∉ ids → (joinM ids M.nid M m').sto j = M.sto j) → (∀ j ∈ ids, j = id ∨ lo ≤ j) → M.nid ≤ m'.nid → (∀ j ∈ ids, j < H) → K (.call ids M.nid (strsA p) m')) :
    closedB M (reachL M 2097152 (.ptr id 0 0) ++ reachL M 2097152 (.agg cs)) [.ptr id 0 0, .agg cs] = true ∧ Comes (fnI CC PR 16 [.ptr id 0 0, .agg cs] (mask (reachL M 2097152 (.ptr id 0 0) ++ reachL M 2097152 (.agg cs)) M)) (farK (reachL M 2097152 (.ptr id 0 0) ++ reachL M 2097152 (.agg cs)) M K) := by
  obtain ⟨B', p1', p2'⟩ := cells_shut cs (datR_shut (M := ⟨M.sto, H⟩) (lo := lo) d 2097151 (by omega) (DatR.same _ hD fun _ _ => ⟨rfl, rfl⟩) hB)
  have p1 : ∀ b ∈ B', lo ≤ b ∧ b < H := p1'
  have p2 := p2'
  obtain ⟨⟨r1, r2⟩, r3⟩ := p2 M fun b hb => ⟨rfl, rfl⟩
  have r1' : reachL M 2097152 (.agg cs) = B' := r1
  have r2' : reachD M 2097152 (.agg cs) = B' := r2
  rw [reach_rd h, r1']
  obtain ⟨ids, hids⟩ : ∃ ids, ids = [id] ++ B' := ⟨_, rfl⟩
  rw [← hids]
  have hmem : ∀ x, x ∈ ids ↔ x = id ∨ x ∈ B' := by intro x; rw [hids]; simp
  have hcont : ∀ x, ids.contains x = true ↔ x ∈ ids := fun x => by simp
  obtain ⟨q1, q2⟩ := r3 ids fun b hb => (hcont b).2 ((hmem b).2 (.inr hb))
  have hidm : id < M.nid := h.1
  have hlt : ∀ i ∈ ids, i < M.nid := fun i hi => by
    rcases (hmem i).1 hi with rfl | hi
    · exact hidm
    · have := (p1 i hi).2; omega
  refine ⟨?_, ?_⟩
  · simp only [closedB, Bool.and_eq_true, List.all_eq_true, List.mem_cons, List.mem_nil_iff, or_false]
    refine ⟨?_, ?_⟩
    · rintro a (rfl | rfl)
      · simp only [leadsB, (hcont id).2 ((hmem id).2 (.inl rfl)), rd_gen h, Bool.true_and, beq_self_eq_true]
      · simp only [leadsB, List.all_eq_true]
        exact q1 2097150
    · intro x hx c hc
      rcases (hmem x).1 hx with rfl | hx
      · exact leads_still (rd_still h c hc) _ _ _
      · exact q2 x hx c hc
  · have mk : ∀ x ∈ reachD M 2097152 (.agg cs), M.sto x = (mask ids M).sto x := fun x hx => by
      rw [r2'] at hx
      simp only [mask]
      rw [if_pos ((hcont x).2 ((hmem x).2 (.inr hx)))]
    have e1 : snapD (mask ids M) 2097152 (.agg cs) = some d.av := by
      rw [snap_local 2097152 _ mk]
      have h1 := snap_datR d 2097151 (by omega) hD
      obtain ⟨k, n, t, l, ns⟩ := d
      rw [snapD, h1, Dat.av_mk]
      rfl
    have e3 : reachD (mask ids M) 2097152 (.agg cs) = B' := (reach_local 2097152 _ mk).trans r2'
    have hcs : (AV.agg cs).loud = false := by
      obtain ⟨k, n, t, l, ns⟩ := d
      obtain ⟨lv, nv, Bl, Bn, rfl, rfl, h1, h2⟩ := datR_iff.1 hD
      rfl
    refine PathS_wp d (mask ids M) id bs P e1 (by rw [e3]; exact fun hx => by have := (p1 id hx).1; omega) hcs hd hh (rd_mask h ((hcont id).2 ((hmem id).2 (.inl rfl)))) hb hP _ fun p m' k1 k2 k3 => ?_
    obtain ⟨j1, j2, j3, j4, j5, j6⟩ := join_fz ((hmem id).2 (.inl rfl)) h k3 k2 hlt
    refine ⟨j6, hK p m' ids k1 j1 j2 j3 (fun j hj => ?_) j5 fun j hj => ?_⟩
    · rcases (hmem j).1 hj with rfl | hj
      · exact .inl rfl
      · exact .inr (p1 j hj).1
    · rcases (hmem j).1 hj with rfl | hj
      · exact hiH
      · exact (p1 j hj).2
/-- l13Tree behind a mask, at a drawn schema in memory and its main struct. -/
theorem TreeFar {M : Mem} {lo hi : Nat} {sv ev : AV} {tone : Bool} {part : Option (List Dcl)} {main : List Dcl} (hS : SchAt false ⟨M.sto, hi⟩ lo (.agg [sv, ev]) tone part main) (hhi : hi ≤ M.nid) {d gd : Nat} (hd1 : lo ≤ d) (hd2 : d < hi) (hdc : (M.sto d).cells = dclC main) (hdg : (M.sto d).gen = gd)
    (id : Nat) (bs : List Int) (P : Nat) (hid : id < lo) (h : RdAt M id bs P) (hb : Bytes bs) (hP : P ≤ 700000000000) {K : Do → Prop}
    (hK : ∀ lv nv L N m' ids, OutL ⟨(joinM ids M.nid M m').sto, m'.nid⟩ M.nid L N lv nv → OkL 3 5 L N → (∀ j, j < M.nid → j ∉ ids → (joinM ids M.nid M m').sto j = M.sto j) → (∀ j ∈ ids, j = id ∨ lo ≤ j ∧ j < hi) → M.nid ≤ m'.nid → K (.call ids M.nid (.agg [.int .i64 4, .int .i64 0, .str ⟨#[]⟩, lv, nv]) m')) :
    closedB M (reachL M 2097152 (.ptr id 0 0) ++ (reachL M 2097152 (.agg [sv, ev]) ++ (reachL M 2097152 (.agg [.str nMain, .arr d gd 0 main.length 6 true]) ++ reachL M 2097152 (.int .i64 4)))) [.ptr id 0 0, .agg [sv, ev], .agg [.str nMain, .arr d gd 0 main.length 6 true], .int .i64 4] = true ∧
      Comes (fnI CC PR 14 [.ptr id 0 0, .agg [sv, ev], .agg [.str nMain, .arr d gd 0 main.length 6 true], .int .i64 4] (mask (reachL M 2097152 (.ptr id 0 0) ++ (reachL M 2097152 (.agg [sv, ev]) ++ (reachL M 2097152 (.agg [.str nMain, .arr d gd 0 main.length 6 true]) ++ reachL M 2097152 (.int .i64 4)))) M)) (farK (reachL M 2097152 (.ptr id 0 0) ++ (reachL M 2097152 (.agg [sv, ev]) ++ (reachL M 2097152 (.agg [.str nMain, .arr d gd 0 main.length 6 true]) ++ reachL M 2097152 (.int .i64 4)))) M K) := by
  obtain ⟨B, hBr, hB⟩ := sch_shut hS 2097148
  obtain ⟨⟨r1, r2⟩, r3⟩ := hB M fun b _ => ⟨rfl, rfl⟩
  obtain ⟨sv', ev', he, hSt, hEn, hp, hm⟩ := hS
  simp only [AV.agg.injEq, List.cons.injEq, and_true] at he
  obtain ⟨rfl, rfl⟩ := he
  have dst : ∀ c ∈ (M.sto d).cells, still c = true := by rw [hdc]; exact still_dclC main
  have dr1 : reachL M 2097152 (.agg [.str nMain, .arr d gd 0 main.length 6 true]) = [d] := by
    simp only [reachL, List.map_cons, List.map_nil, List.flatten_cons, List.flatten_nil]
    rw [reaches_still dst]
    rfl
  have dr2 : reachD M 2097152 (.agg [.str nMain, .arr d gd 0 main.length 6 true]) = [d] := by
    simp only [reachD, List.map_cons, List.map_nil, List.flatten_cons, List.flatten_nil]
    rw [reachesD_still dst]
    rfl
  rw [reach_rd h, r1, dr1, (quiet_still rfl).1]
  obtain ⟨ids, hids⟩ : ∃ ids, ids = [id] ++ (B ++ ([d] ++ [])) := ⟨_, rfl⟩
  rw [← hids]
  have hmem : ∀ x, x ∈ ids ↔ x = id ∨ x ∈ B ∨ x = d := by intro x; rw [hids]; simp
  have hcont : ∀ x, ids.contains x = true ↔ x ∈ ids := fun x => by simp
  obtain ⟨q1, q2⟩ := r3 ids fun b hb => (hcont b).2 ((hmem b).2 (.inr (.inl hb)))
  have hidm : id < M.nid := h.1
  have hBr' : ∀ b ∈ B, lo ≤ b ∧ b < hi := hBr
  have hlt : ∀ i ∈ ids, i < M.nid := fun i hi => by
    rcases (hmem i).1 hi with rfl | hx | rfl
    · exact hidm
    · have := (hBr' i hx).2; omega
    · omega
  refine ⟨?_, ?_⟩
  · simp only [closedB, Bool.and_eq_true, List.all_eq_true, List.mem_cons, List.mem_nil_iff, or_false]
    refine ⟨?_, ?_⟩
    · rintro a (rfl | rfl | rfl | rfl)
      · simp only [leadsB, (hcont id).2 ((hmem id).2 (.inl rfl)), rd_gen h, Bool.true_and, beq_self_eq_true]
      · exact q1 2097151
      · simp only [leadsB, List.all_cons, List.all_nil, (hcont d).2 ((hmem d).2 (.inr (.inr rfl))), hdg, Bool.true_and, Bool.and_true, beq_self_eq_true]
      · rfl
    · intro x hx c hc
      rcases (hmem x).1 hx with rfl | hx | rfl
      · exact leads_still (rd_still h c hc) _ _ _
      · exact q2 x hx c hc
      · exact leads_still (dst c hc) _ _ _
  · have mk : ∀ x ∈ ids, M.sto x = (mask ids M).sto x := fun x hx => by simp only [mask]; rw [if_pos ((hcont x).2 hx)]
    have e1 : snapD (mask ids M) 2097152 (.agg [sv, ev]) = some (.agg [.slice 2 ((plainS part main).map strA), .slice 2 ((plainE tone).map enA)]) := by
      rw [snap_local (m := M) 2097152 _ fun x hx => mk x (by rw [r2] at hx; exact (hmem x).2 (.inr (.inl hx)))]
      have k1 := (snap_local (m := ⟨M.sto, hi⟩) (m' := M) 2097151 sv fun _ _ => rfl).trans (snap_st hSt 2097147)
      have k2 := (snap_local (m := ⟨M.sto, hi⟩) (m' := M) 2097151 ev fun _ _ => rfl).trans (snap_en hEn 2097147)
      rw [snapD]
      simp only [List.mapM_cons, List.mapM_nil, k1, k2]
      rfl
    have e2 : snapD (mask ids M) 2097152 (.agg [.str nMain, .arr d gd 0 main.length 6 true]) = some (.agg [.str nMain, .slice 6 (main.map Dcl.av)]) := by
      rw [snap_local (m := M) 2097152 _ fun x hx => mk x (by rw [dr2] at hx; exact (hmem x).2 (.inr (.inr (List.mem_singleton.1 hx))))]
      have k1 := snap_dec (u := false) (M := M) (lo := 0) (v := .arr d gd 0 main.length 6 true) (l := main) ⟨d, gd, Nat.zero_le _, by omega, rfl, hdc, hdg, fun h => by cases h⟩ 2097149
      rw [snapD]
      simp only [List.mapM_cons, List.mapM_nil, k1]
      rfl
    have e3 : reachD (mask ids M) 2097152 (.agg [sv, ev]) = B := by
      rw [reach_local (m := M) 2097152 _ fun x hx => mk x (by rw [r2] at hx; exact (hmem x).2 (.inr (.inl hx)))]
      exact r2
    have e4 : reachD (mask ids M) 2097152 (.agg [.str nMain, .arr d gd 0 main.length 6 true]) = [d] := by
      rw [reach_local (m := M) 2097152 _ fun x hx => mk x (by rw [dr2] at hx; exact (hmem x).2 (.inr (.inr (List.mem_singleton.1 hx))))]
      exact dr2
    have hidB : id ∉ B ++ [d] := by
      intro hx
      rcases List.mem_append.1 hx with hx | hx
      · have := (hBr' id hx).1; omega
      · rw [List.mem_singleton.1 hx] at hid
        omega
    refine TreeM_wp (mask ids M) hp hm e1 e2 id bs P (B ++ [d]) (by rw [e3, e4]) hidB (rd_mask h ((hcont id).2 ((hmem id).2 (.inl rfl)))) hb hP _ fun lv nv L N m' hO hOk k1 k2 => ?_
    obtain ⟨j1, j2, j3, j4, j5, j6⟩ := join_fz ((hmem id).2 (.inl rfl)) h k2 k1 hlt
    refine ⟨j6, hK lv nv L N m' ids (hO.keep (M' := ⟨_, m'.nid⟩) (Nat.le_refl _) fun j c1 c2 => j4 j c1) hOk j3 (fun j hj => ?_) j5⟩
    rcases (hmem j).1 hj with rfl | hj | rfl
    · exact .inl rfl
    · exact .inr (hBr' j hj)
    · exact .inr ⟨hd1, hd2⟩
end Go.Ev.Tryz
end
section
namespace Go.Ev.Tryz
open Go.Proofs
set_option maxRecDepth 10000
set_option linter.unusedSimpArgs false
set_option linter.unusedVariables false
attribute [local congr] comes_congr bB_congr gK_congr gdK_congr
/-- Data at a block, that reads as a plain value. -/
def ResAt (M : Mem) (i : Nat) : Prop := ∃ k n t L N lv nv, M.sto i = ⟨[.int .i64 k, .int .i64 n, .str t, lv, nv], 0, false, some (26, true)⟩ ∧ lv.one = true ∧ nv.one = true ∧ snapD M 2097150 lv = some (.slice 5 (L.map Dat.av)) ∧ snapD M 2097150 nv = some (.slice 1 (N.map AV.str)) ∧ Dat.Sane (.mk k n t L N)
theorem out_same {M M' : Mem} {lo : Nat} {L : List Dat} {N : List ByteArray} {lv nv : AV} (h : OutL M lo L N lv nv) (hh : ∀ d ∈ L, hgt d ≤ 1000) (e : ∀ j, lo ≤ j → j < M.nid → Same (M'.sto j) (M.sto j)) (q : Nat) (hq : 1000 ≤ q) : snapD M' (q + 2) lv = some (.slice 5 (L.map Dat.av)) ∧ snapD M' (q + 2) nv = some (.slice 1 (N.map AV.str)) ∧ ∀ k, ∀ x ∈ reachD M' k lv ++ reachD M' k nv, lo ≤ x ∧ x < M.nid := by
  obtain ⟨B, hD, hB⟩ := out_dat h 0 0 ⟨#[]⟩
  have hD' := DatR.same (M' := M') _ hD fun b hb => e b (hB b hb).1 (hB b hb).2
  have hr := fun k => reachD_datR _ k hD'
  obtain ⟨lv', nv', Bl, Bn, he, rfl, h1, h2⟩ := datR_iff.1 hD'
  simp only [List.cons.injEq, and_true, true_and] at he
  obtain ⟨rfl, rfl⟩ := he
  refine ⟨snap_lstR h2 q fun x hx => by have := hh x hx; omega, snap_strR h1 q, fun k x hx => hB x (hr k x ?_)⟩
  simp only [List.map_cons, List.map_nil, List.flatten_cons, List.flatten_nil, List.append_nil]
  exact List.mem_append_right _ (List.mem_append_right _ (List.mem_append_right _ hx))
set_option maxHeartbeats 8000000 in
theorem DrawDiffer_ok (bs : List Int) (hb : ∀ b ∈ bs, 0 ≤ b ∧ b ≤ 255) : ∃ (a b : Dat), fnA CC PR 4 [bytesA bs] = some (.tup [a.av, b.av]) ∧ a.Sane ∧ b.Sane := by
  have key : Comes (fnA CC PR 4 [bytesA bs]) (fun r => ∃ (a b : Dat), r = .tup [a.av, b.av] ∧ a.Sane ∧ b.Sane) := by
    unfold bytesA
    refine fnA_wp (rs := [.cell 2 26, .cell 3 26]) Tryz.func4 rfl rfl (Nat.le_of_ble_eq_true rfl) rfl ?_
    simp +decide only [go_sem, Nat.reduceAdd, Nat.reduceMul, Nat.reduceSub, Nat.reduceLT, Nat.reduceLeDiff, Nat.reduceEqDiff, Nat.add_assoc, Int.reduceAdd, Int.reduceSub, Int.reduceMul, Int.reduceLT, Int.reduceLE, Int.reduceEq, Int.reduceNeg, strOp_add]
    refine OpenF_wp bs _ hb _ fun m1 h1 n1 g1 => ?_
    simp +decide only [go_sem, Nat.reduceAdd, Nat.reduceMul, Nat.reduceSub, Nat.reduceLT, Nat.reduceLeDiff, Nat.reduceEqDiff, Nat.add_assoc, Int.reduceAdd, Int.reduceSub, Int.reduceMul, Int.reduceLT, Int.reduceLE, Int.reduceEq, Int.reduceNeg, strOp_add]
    refine Both2_wp _ _ (bs.take 2000) 0 h1 (bytes_ok hb) (by omega) _ fun sv ev tone part main Ld N lv nv lo m2 hS hlo hlo2 hO hOk h2 f2 => ?_
    dsimp only at h1 n1 h2 f2 g1 hlo hlo2
    have g0 := (g1 0 (by omega)).trans ((upd_miss _ _ _ _ (by omega)).trans (upd_hit _ _ _))
    have g1' := (g1 1 (by omega)).trans (upd_hit _ _ _)
    have hm1 := h1.1
    have f0 := f2.at (show 0 < m1.nid by omega) (by omega) g0
    have f1 := f2.at (show 1 < m1.nid by omega) (by omega) g1'
    have o1 : sv.one = true := by
      obtain ⟨sv', ev', he, hSt, hEn, _⟩ := hS
      simp only [AV.agg.injEq, List.cons.injEq, and_true] at he
      obtain ⟨rfl, rfl⟩ := he
      obtain ⟨L, hL, _⟩ := sts_of hSt
      exact hL.one
    have o2 : ev.one = true := by
      obtain ⟨sv', ev', he, hSt, hEn, _⟩ := hS
      simp only [AV.agg.injEq, List.cons.injEq, and_true] at he
      obtain ⟨rfl, rfl⟩ := he
      obtain ⟨E, hE, _⟩ := ens_of hEn
      exact hE.one
    obtain ⟨o3, o4⟩ := hO.ones
    simp only [AV.one] at o1 o2 o3 o4
    simp +decide (disch := first | decide | omega) only [go_sem, Nat.reduceAdd, Nat.reduceMul, Nat.reduceSub, Nat.reduceLT, Nat.reduceLeDiff, Nat.reduceEqDiff, Nat.add_assoc, Int.reduceAdd, Int.reduceSub, Int.reduceMul, Int.reduceLT, Int.reduceLE, Int.reduceEq, Int.reduceNeg, strOp_add, o1, o2, o3, o4]
    have put4 : ∀ {x y z w : Blk}, RdAt ⟨upd (upd (upd (upd m2.sto m2.nid x) (m2.nid + 1) y) m2.nid z) (m2.nid + 1) w, m2.nid + 2⟩ 2 (bs.take 2000) 3000 := fun {x y z w} => (((((h2.mono (by omega)).put (n := m2.nid + 2) (by omega) (by omega)).put (by omega) (Nat.le_refl _)).put (by omega) (Nat.le_refl _)).put (by omega) (Nat.le_refl _))
    refine pick_wp 3 _ 2 (bs.take 2000) _ put4 (bytes_ok hb) (by omega) (by omega) (by omega) _ fun q m3 hq h3 h4 => ?_
    have n3 : m2.nid + 2 ≤ m3.nid := h4.1
    have same3 : ∀ j, j < m2.nid → j ≠ 2 → m3.sto j = m2.sto j := fun j c1 c2 => (h4.2 j (by show j < m2.nid + 2; omega) c2).trans (by simp (disch := omega) only [upd_hit, upd_miss])
    have k0 := (same3 0 (by omega) (by omega)).trans f0
    have k1 := (same3 1 (by omega) (by omega)).trans f1
    have k5 := h4.at (show m2.nid < m2.nid + 2 by omega) (by omega) ((upd_miss _ _ _ _ (by omega)).trans (upd_hit _ _ _))
    have k6 := h4.at (show m2.nid + 1 < m2.nid + 2 by omega) (by omega) (upd_hit _ _ _)
    have hS3 := hS.same (M' := ⟨m3.sto, lo⟩) (Nat.le_refl _) fun j c1 c2 => by
      have c2' : j < lo := c2
      rw [same3 j (by omega) (by omega)]
      exact ⟨rfl, rfl⟩
    have hO3 := hO.keep (M' := ⟨m3.sto, m2.nid⟩) (Nat.le_refl _) fun j c1 c2 => same3 j c2 (by omega)
    clear h4 same3 f0 f1 hS hO h1 f2 h2 g0 g1 g1' put4
    simp +decide only [go_sem, Nat.reduceAdd, Nat.reduceMul, Nat.reduceSub, Nat.reduceLT, Nat.reduceLeDiff, Nat.reduceEqDiff, Nat.add_assoc, Int.reduceAdd, Int.reduceSub, Int.reduceMul, Int.reduceLT, Int.reduceLE, Int.reduceEq, Int.reduceNeg, strOp_add]
    refine abs_st (F := fun st => bB _ (Comes (evc CC (fnI CC PR) (fnA CC PR) lpL _ st) _) (Comes (evc CC (fnI CC PR) (fnA CC PR) lpL _ st) _)) (fun st => st.toMem = m3 ∧ st.env 2 = .ptr 0 0 0 ∧ st.env 3 = .ptr 1 0 0 ∧ st.env 4 = .ptr 2 0 0 ∧ st.env 5 = .ptr m2.nid 0 0 ∧ st.env 6 = .ptr (m2.nid + 1) 0 0 ∧ st.env 19 = .int .i64 q) ?_ ?_
    · simp +decide only [go_sem, Nat.reduceAdd, Nat.reduceMul, Nat.reduceSub, Nat.reduceLT, Nat.reduceLeDiff, Nat.reduceEqDiff, Nat.add_assoc, Int.reduceAdd, Int.reduceSub, Int.reduceMul, Int.reduceLT, Int.reduceLE, Int.reduceEq, Int.reduceNeg, strOp_add]
    rintro st ⟨rfl, e2, e3, e4, e5, e6, e19⟩
    obtain ⟨s, g, n, d, gd, cs, rfl, hn1, hn2, hs1, hs2, hdc, hdg, hsc, hsg, hcd, hcl, hd1, hd2, hp, hm, -, -, -⟩ := sch_last hS3
    dsimp only at hs2 hdc hdg hsc hsg hd2
    have c1 : ((n : Nat) : Int) - 1 = ((n - 1 : Nat) : Int) := by omega
    have w1 : IntKind.wrap .i64 (((n : Nat) : Int) - 1) = ((n - 1 : Nat) : Int) := by rw [c1, wrap_nat (by omega)]
    have hlt : n - 1 < n := by omega
    have y3 : 2 ≤ (List.drop ((n - 1) * 2) cs).length := by rw [List.length_drop]; omega
    have h25 := h3.1
    have hdh : ∀ d ∈ Ld, hgt d ≤ 1000 := fun d hd => by have := (hOk.2.2.1 d hd).2; omega
    obtain ⟨hsn, hht⟩ := hOk.sane (k := 4) (by omega) (show smallI 4 by unfold smallI; omega) (show smallI 0 by unfold smallI; omega)
    refine bB_merge (fun r => (∃ s', r = (Ex.normal, s') ∧ s'.env 2 = .ptr 0 0 0 ∧ s'.env 3 = .ptr 1 0 0 ∧ s'.env 4 = .ptr 2 0 0 ∧ s'.env 6 = .ptr (m2.nid + 1) 0 0 ∧ RdAt s'.toMem 2 (bs.take 2000) 10000 ∧ m2.nid + 2 ≤ s'.nid ∧ s'.sto 0 = ⟨[.int .i64 0, .int .i64 0, .str ⟨#[]⟩, .nils 5, .nils 1], 0, false, some (26, true)⟩ ∧ s'.sto 1 = ⟨[.int .i64 0, .int .i64 0, .str ⟨#[]⟩, .nils 5, .nils 1], 0, false, some (26, true)⟩ ∧ s'.sto (m2.nid + 1) = ⟨[.int .i64 4, .int .i64 0, .str ⟨#[]⟩, lv, nv], 0, false, some (26, true)⟩ ∧ ∀ j, lo ≤ j → j < m2.nid → Same (s'.sto j) (st.sto j)) ∨ ∃ s', r = (Ex.ret, s') ∧ s'.env 2 = .ptr 0 0 0 ∧ s'.env 3 = .ptr 1 0 0 ∧ ResAt s'.toMem 0 ∧ ResAt s'.toMem 1) (fun hB => ?_) (fun hB => ?_) ?_
    · simp +decide (disch := first | decide | omega) only [go_sem, Nat.reduceAdd, Nat.reduceMul, Nat.reduceSub, Nat.reduceLT, Nat.reduceLeDiff, Nat.reduceEqDiff, Nat.add_assoc, Int.reduceAdd, Int.reduceSub, Int.reduceMul, Int.reduceLT, Int.reduceLE, Int.reduceEq, Int.reduceNeg, strOp_add, e2, e3, e4, e5, e6, k5, k6, o1, o2, o3, o4]
      refine (d_plan (ord := [0, 1, 2, 3, 4, 5, 6, 7, 8, 9, 10, 11, 12, 13]) (prs := [(0, 2), (0, 4), (2, 4), (0, 6), (2, 6), (4, 6), (0, 10), (2, 10), (0, 11)]) (by kernel_rfl)).2 ?_
      simp +decide (disch := first | decide | omega) only [go_sem, Nat.reduceAdd, Nat.reduceMul, Nat.reduceSub, Nat.reduceLT, Nat.reduceLeDiff, Nat.reduceEqDiff, Nat.add_assoc, Int.reduceAdd, Int.reduceSub, Int.reduceMul, Int.reduceLT, Int.reduceLE, Int.reduceEq, Int.reduceNeg, strOp_add, e2, e3, e4, e5, e6, k5, k6, o1, o2, o3, o4, w1, hlt, hsc, hsg, hcd, hcl, y3]
      refine TreeFar (M := ⟨st.sto, st.nid + 14⟩) (lo := m1.nid + 2) (hi := lo) hS3 (by show lo ≤ st.nid + 14; omega) hd1 hd2 hdc hdg 2 (bs.take 2000) 3001 (by omega) (h3.more (by omega)) (bytes_ok hb) (by omega) fun lv2 nv2 L2 N2 m' ids hO2 hOk2 j3 j4 j5 => ?_
      dsimp only at j3 j5 hO2
      generalize hJ : (joinM ids (st.nid + 14) ⟨st.sto, st.nid + 14⟩ m').sto = J at *
      have J0 := (j3 0 (by omega) fun hx => by have := j4 0 hx; omega).trans k0
      have J1 := (j3 1 (by omega) fun hx => by have := j4 1 hx; omega).trans k1
      obtain ⟨o5, o6⟩ := hO2.ones
      simp only [AV.one] at o5 o6
      have hcm : ids.contains (m2.nid + 1) = false := by
        rw [Bool.eq_false_iff]
        exact fun h => by have := j4 _ (by simpa using h); omega
      simp +decide (disch := first | decide | omega) only [go_sem, Nat.reduceAdd, Nat.reduceMul, Nat.reduceSub, Nat.reduceLT, Nat.reduceLeDiff, Nat.reduceEqDiff, Nat.add_assoc, Int.reduceAdd, Int.reduceSub, Int.reduceMul, Int.reduceLT, Int.reduceLE, Int.reduceEq, Int.reduceNeg, strOp_add, hJ, e2, e3, e4, e5, e6, J0, J1, o3, o4, o5, o6, hcm]
      have hJs : ∀ j, lo ≤ j → j < m2.nid → Same (upd (upd J 0 ⟨[.int .i64 4, .int .i64 0, .str ⟨#[]⟩, lv, nv], 0, false, some (26, true)⟩) 1 ⟨[.int .i64 4, .int .i64 0, .str ⟨#[]⟩, lv2, nv2], 0, false, some (26, true)⟩ j) (st.sto j) := fun j c1 c2 => by
        simp (disch := omega) only [upd_hit, upd_miss]
        rw [j3 j (by omega) fun hx => by have := j4 j hx; omega]
        exact ⟨rfl, rfl⟩
      have hJs2 : ∀ j, st.nid + 14 ≤ j → j < m'.nid → Same (upd (upd J 0 ⟨[.int .i64 4, .int .i64 0, .str ⟨#[]⟩, lv, nv], 0, false, some (26, true)⟩) 1 ⟨[.int .i64 4, .int .i64 0, .str ⟨#[]⟩, lv2, nv2], 0, false, some (26, true)⟩ j) (J j) := fun j c1 c2 => by
        simp (disch := omega) only [upd_hit, upd_miss]
        exact ⟨rfl, rfl⟩
      obtain ⟨u1, u2, -⟩ := out_same (M' := ⟨_, m'.nid⟩) hO3 hdh hJs 2097148 (by omega)
      obtain ⟨u3, u4, -⟩ := out_same (M' := ⟨_, m'.nid⟩) hO2 (fun d hd => by have := (hOk2.2.2.1 d hd).2; omega) hJs2 2097148 (by omega)
      obtain ⟨hsn2, _⟩ := hOk2.sane (k := 4) (by omega) (show smallI 4 by unfold smallI; omega) (show smallI 0 by unfold smallI; omega)
      refine .inr ⟨_, rfl, ?_⟩
      simp +decide only [go_sem, Nat.reduceAdd, Nat.reduceMul, Nat.reduceSub, Nat.reduceLT, Nat.reduceLeDiff, Nat.reduceEqDiff, Nat.add_assoc, Int.reduceAdd, Int.reduceSub, Int.reduceMul, Int.reduceLT, Int.reduceLE, Int.reduceEq, Int.reduceNeg, strOp_add, e2, e3]
      exact ⟨⟨4, 0, ⟨#[]⟩, Ld, N, lv, nv, by simp (disch := omega) only [upd_hit, upd_miss], hO3.ones.1, hO3.ones.2, u1, u2, hsn⟩, ⟨4, 0, ⟨#[]⟩, L2, N2, lv2, nv2, by simp (disch := omega) only [upd_hit, upd_miss], hO2.ones.1, hO2.ones.2, u3, u4, hsn2⟩⟩
    · simp +decide (disch := first | decide | omega) only [go_sem, Nat.reduceAdd, Nat.reduceMul, Nat.reduceSub, Nat.reduceLT, Nat.reduceLeDiff, Nat.reduceEqDiff, Nat.add_assoc, Int.reduceAdd, Int.reduceSub, Int.reduceMul, Int.reduceLT, Int.reduceLE, Int.reduceEq, Int.reduceNeg, strOp_add, e2, e3, e4, e5, e6, e19, k5, k6, o1, o2, o3, o4]
      refine bB_split (fun hB1 => ?_) (fun hB1 => ?_)
      · simp +decide (disch := first | decide | omega) only [go_sem, Nat.reduceAdd, Nat.reduceMul, Nat.reduceSub, Nat.reduceLT, Nat.reduceLeDiff, Nat.reduceEqDiff, Nat.add_assoc, Int.reduceAdd, Int.reduceSub, Int.reduceMul, Int.reduceLT, Int.reduceLE, Int.reduceEq, Int.reduceNeg, strOp_add, e2, e3, e4, e5, e6, k5, k6, o1, o2, o3, o4]
        refine (d_plan (ord := [0, 1, 2, 3, 4, 5, 6, 7, 8, 9, 10, 11]) (prs := [(0, 2), (0, 3), (0, 9), (2, 9), (3, 9), (5, 9)]) (by kernel_rfl)).2 ?_
        simp +decide (disch := first | decide | omega) only [go_sem, Nat.reduceAdd, Nat.reduceMul, Nat.reduceSub, Nat.reduceLT, Nat.reduceLeDiff, Nat.reduceEqDiff, Nat.add_assoc, Int.reduceAdd, Int.reduceSub, Int.reduceMul, Int.reduceLT, Int.reduceLE, Int.reduceEq, Int.reduceNeg, strOp_add, e2, e3, e4, e5, e6, k5, k6, o1, o2, o3, o4]
        obtain ⟨BD, hDD, hBD⟩ := out_dat hO3 4 0 ⟨#[]⟩
        refine PathFar (M := ⟨st.sto, st.nid + 12⟩) (lo := lo) (id := 2) (.mk 4 0 ⟨#[]⟩ Ld N) (DatR.same (M' := ⟨st.sto, st.nid + 12⟩) _ hDD fun b _ => ⟨rfl, rfl⟩) (H := m2.nid) hBD (by show m2.nid ≤ st.nid + 12; omega) (by omega) (bs.take 2000) 3001 (by omega) hsn (by omega) (h3.more (by omega)) (bytes_ok hb) (by omega) fun p m' ids hp1 j1 j2 j3 j4 j5 j6 => ?_
        dsimp only at j1 j2 j3 j5 j6
        generalize hJ : (joinM ids (st.nid + 12) ⟨st.sto, st.nid + 12⟩ m').sto = J at *
        have hdS : ∀ j, lo ≤ j → j < m2.nid → Same (J j) (st.sto j) := fun j c1 c2 => j2 j (by omega) (by omega)
        have J0 := (j3 0 (by omega) fun hx => by have := j4 0 hx; omega).trans k0
        have J1 := (j3 1 (by omega) fun hx => by have := j4 1 hx; omega).trans k1
        have hx77 : Dat.Sane (.mk 1 77 ⟨#[]⟩ [] []) ∧ hgt (.mk 1 77 ⟨#[]⟩ [] []) ≤ 1 := sane_bare (by unfold i64; omega) (by unfold i64; omega)
        obtain ⟨y, b, hy1, hy2, hy3⟩ := Put_ok p (.mk 4 0 ⟨#[]⟩ Ld N) (.mk 1 77 ⟨#[]⟩ [] []) (by omega) hsn hx77.1 (by omega)
        rw [Dat.av_mk, Dat.av_mk] at hy1
        unfold strsA at hy1 ⊢
        simp only [List.map_nil] at hy1
        obtain ⟨z1, z2, z3, z4, z5⟩ := y
        rw [Dat.av_mk] at hy1
        have sn1 := fun n => (out_same (M' := ⟨J, n⟩) hO3 hdh hdS 2097149 (by omega)).1
        have sn2 := fun n => (out_same (M' := ⟨J, n⟩) hO3 hdh hdS 2097149 (by omega)).2.1
        have hR3 := (out_same (M' := ⟨J, m'.nid⟩) hO3 hdh hdS 2097149 (by omega)).2.2 2097151
        have hcm : ids.contains (m2.nid + 1) = false := by
          rw [Bool.eq_false_iff]
          exact fun h => by have := j6 _ (by simpa using h); omega
        have hcm9 : ids.contains (st.nid + 9) = false := by
          rw [Bool.eq_false_iff]
          exact fun h => by have := j6 _ (by simpa using h); omega
        simp +decide (disch := first | decide | omega) only [go_sem, Nat.reduceAdd, Nat.reduceMul, Nat.reduceSub, Nat.reduceLT, Nat.reduceLeDiff, Nat.reduceEqDiff, Nat.add_assoc, Int.reduceAdd, Int.reduceSub, Int.reduceMul, Int.reduceLT, Int.reduceLE, Int.reduceEq, Int.reduceNeg, strOp_add, hJ, e2, e3, e4, e5, e6, J0, J1, o3, o4, sn1, sn2, hy1, updL_frz_m]
        obtain ⟨R, hR⟩ : ∃ R, R = reachD ⟨J, m'.nid⟩ 2097151 lv ++ reachD ⟨J, m'.nid⟩ 2097151 nv := ⟨_, rfl⟩
        rw [← hR] at hR3 ⊢
        have hRo : ∀ j, j < lo ∨ m2.nid ≤ j → frz J R j = J j := fun j hj => frz_out fun hx => by have := hR3 j hx; dsimp only at this; omega
        have hRs : ∀ j, Same (frz J R j) (J j) := fun j => ⟨frz_cells, frz_gen⟩
        have F0 := (hRo 0 (by omega)).trans J0
        have F1 := (hRo 1 (by omega)).trans J1
        have F6 := (hRo (m2.nid + 1) (by omega)).trans ((j3 (m2.nid + 1) (by omega) fun hx => by rw [Bool.eq_false_iff] at hcm; exact hcm (by simpa using hx)).trans k6)
        refine ⟨⟨by rw [hcm]; rfl, by omega, by omega, by rw [hcm9]; rfl, List.all_eq_true.2 fun x hx => ?_, ?_⟩, ?_⟩
        · have := hR3 x hx
          dsimp only at this
          simp
          omega
        · have : R.contains (st.nid + 9) = false := by
            rw [Bool.eq_false_iff]
            exact fun h => by have := hR3 _ (by simpa using h); dsimp only at this; omega
          rw [this]
          rfl
        cases b
        · simp +decide (disch := first | decide | omega) only [go_sem, Nat.reduceAdd, Nat.reduceMul, Nat.reduceSub, Nat.reduceLT, Nat.reduceLeDiff, Nat.reduceEqDiff, Nat.add_assoc, Int.reduceAdd, Int.reduceSub, Int.reduceMul, Int.reduceLT, Int.reduceLE, Int.reduceEq, Int.reduceNeg, strOp_add, e2, e3, e4, e6]
          refine .inl ⟨_, rfl, ?_⟩
          simp +decide only [go_sem, Nat.reduceAdd, Nat.reduceMul, Nat.reduceSub, Nat.reduceLT, Nat.reduceLeDiff, Nat.reduceEqDiff, Nat.add_assoc, Int.reduceAdd, Int.reduceSub, Int.reduceMul, Int.reduceLT, Int.reduceLE, Int.reduceEq, Int.reduceNeg, strOp_add, e2, e3, e4, e6]
          refine ⟨(((RdAt.fr (m' := ⟨frz J R, m'.nid⟩) j1 (Nat.le_refl _) (hRo 2 (by omega))).mono (by omega)).put (E := st.nid + 9) (n := m'.nid) (by omega) (Nat.le_refl _)).put (by omega) (Nat.le_refl _), by omega, ?_, ?_, ?_, fun j c1 c2 => ?_⟩
          · exact F0
          · exact F1
          · simp (disch := omega) only [upd_hit, upd_miss]
            exact F6
          · simp (disch := omega) only [upd_hit, upd_miss]
            exact ⟨(hRs j).1.trans (hdS j c1 c2).1, (hRs j).2.trans (hdS j c1 c2).2⟩
        · simp +decide (disch := first | decide | omega) only [go_sem, Nat.reduceAdd, Nat.reduceMul, Nat.reduceSub, Nat.reduceLT, Nat.reduceLeDiff, Nat.reduceEqDiff, Nat.add_assoc, Int.reduceAdd, Int.reduceSub, Int.reduceMul, Int.reduceLT, Int.reduceLE, Int.reduceEq, Int.reduceNeg, strOp_add, e2, e3, e4, e6, F0, F1, F6, o3, o4]
          refine (d_plan (ord := [0, 1, 2, 3]) (prs := [(0, 1), (1, 2)]) (by kernel_rfl)).2 ?_
          simp +decide (disch := first | decide | omega) only [go_sem, Nat.reduceAdd, Nat.reduceMul, Nat.reduceSub, Nat.reduceLT, Nat.reduceLeDiff, Nat.reduceEqDiff, Nat.add_assoc, Int.reduceAdd, Int.reduceSub, Int.reduceMul, Int.reduceLT, Int.reduceLE, Int.reduceEq, Int.reduceNeg, strOp_add, e2, e3, e4, e6, F0, F1, F6, o3, o4]
          refine .inr ⟨_, rfl, ?_⟩
          simp +decide only [go_sem, Nat.reduceAdd, Nat.reduceMul, Nat.reduceSub, Nat.reduceLT, Nat.reduceLeDiff, Nat.reduceEqDiff, Nat.add_assoc, Int.reduceAdd, Int.reduceSub, Int.reduceMul, Int.reduceLT, Int.reduceLE, Int.reduceEq, Int.reduceNeg, strOp_add, e2, e3]
          have hFs : ∀ (x y u v : Blk) j, lo ≤ j → j < m2.nid → Same (upd (upd (upd (upd (frz J R) (st.nid + 9) x) (st.nid + 9) y) 0 u) 1 v j) (st.sto j) := fun x y u v j c1 c2 => by
            simp (disch := omega) only [upd_hit, upd_miss]
            exact ⟨(hRs j).1.trans (hdS j c1 c2).1, (hRs j).2.trans (hdS j c1 c2).2⟩
          obtain ⟨u1, u2, -⟩ := out_same (M' := ⟨_, m'.nid + 4⟩) hO3 hdh (hFs _ _ _ _) 2097148 (by omega)
          exact ⟨⟨4, 0, ⟨#[]⟩, Ld, N, lv, nv, by simp (disch := omega) only [upd_hit, upd_miss], hO3.ones.1, hO3.ones.2, u1, u2, hsn⟩, ⟨z1, z2, z3, z4, z5, .slice 5 (z4.map Dat.av), .slice 1 (z5.map AV.str), by simp (disch := omega) only [upd_hit, upd_miss], rfl, rfl, rfl, rfl, hy2⟩⟩
      · simp +decide (disch := first | decide | omega) only [go_sem, Nat.reduceAdd, Nat.reduceMul, Nat.reduceSub, Nat.reduceLT, Nat.reduceLeDiff, Nat.reduceEqDiff, Nat.add_assoc, Int.reduceAdd, Int.reduceSub, Int.reduceMul, Int.reduceLT, Int.reduceLE, Int.reduceEq, Int.reduceNeg, strOp_add, e2, e3, e4, e5, e6, k5, k6, o1, o2, o3, o4]
        refine .inl ⟨_, rfl, ?_⟩
        simp +decide only [go_sem, Nat.reduceAdd, Nat.reduceMul, Nat.reduceSub, Nat.reduceLT, Nat.reduceLeDiff, Nat.reduceEqDiff, Nat.add_assoc, Int.reduceAdd, Int.reduceSub, Int.reduceMul, Int.reduceLT, Int.reduceLE, Int.reduceEq, Int.reduceNeg, strOp_add, e2, e3, e4, e6]
        exact ⟨h3.mono (by omega), n3, k0, k1, k6, fun j _ _ => ⟨rfl, rfl⟩⟩
    · clear h3 k0 k1 k5 k6 hS3 e2 e3 e4 e5 e6 e19 hp hm
      rintro _ (⟨s', rfl, e2, e3, e4, e6, hR, hn, z0, z1, z6, hsm⟩ | ⟨s', rfl, e2, e3, r1, r2⟩)
      · have hid := hR.1
        simp +decide (disch := first | decide | omega) only [go_sem, Nat.reduceAdd, Nat.reduceMul, Nat.reduceSub, Nat.reduceLT, Nat.reduceLeDiff, Nat.reduceEqDiff, Nat.add_assoc, Int.reduceAdd, Int.reduceSub, Int.reduceMul, Int.reduceLT, Int.reduceLE, Int.reduceEq, Int.reduceNeg, strOp_add, e2, e3, e4, e6]
        refine AnyBoth_wp _ 2 (bs.take 2000) 10000 hR (bytes_ok hb) (by omega) _ fun ss es d m4 hs hd hh h5 f5 => ?_
        have n5 : s'.nid ≤ m4.nid := f5.1
        obtain ⟨k, n, t, l, ns⟩ := d
        rw [Dat.av_mk]
        have y0 := f5.at (show 0 < s'.nid by omega) (by omega) z0
        have y1 := f5.at (show 1 < s'.nid by omega) (by omega) z1
        have y6 := f5.at (show m2.nid + 1 < s'.nid by omega) (by omega) z6
        have ysm : ∀ j, lo ≤ j → j < m2.nid → Same (m4.sto j) (st.sto j) := fun j c1 c2 => by
          rw [f5.2 j (by show j < s'.nid; omega) (by omega)]
          exact hsm j c1 c2
        simp +decide (disch := first | decide | omega) only [go_sem, Nat.reduceAdd, Nat.reduceMul, Nat.reduceSub, Nat.reduceLT, Nat.reduceLeDiff, Nat.reduceEqDiff, Nat.add_assoc, Int.reduceAdd, Int.reduceSub, Int.reduceMul, Int.reduceLT, Int.reduceLE, Int.reduceEq, Int.reduceNeg, strOp_add, e2, e3, e4, e6, y0, y1, y6, o3, o4]
        refine (d_plan (ord := [0, 1, 2, 3]) (prs := [(0, 1), (1, 2)]) (by kernel_rfl)).2 ?_
        have hFs : ∀ (a b c d u v : Blk) j, lo ≤ j → j < m2.nid → Same (upd (upd (upd (upd (upd (upd m4.sto m4.nid a) (m4.nid + 1) b) m4.nid c) (m4.nid + 1) d) 0 u) 1 v j) (st.sto j) := fun a b c d u v j c1 c2 => by
          simp (disch := omega) only [upd_hit, upd_miss]
          exact ysm j c1 c2
        have q1 : ∀ (a b c d u v : Blk) (N' : Nat), snapD ⟨upd (upd (upd (upd (upd (upd m4.sto m4.nid a) (m4.nid + 1) b) m4.nid c) (m4.nid + 1) d) 0 u) 1 v, N'⟩ 2097150 lv = some (.slice 5 (Ld.map Dat.av)) := fun a b c d u v N => (out_same (M' := ⟨_, N⟩) hO3 hdh (hFs a b c d u v) 2097148 (by omega)).1
        have q2 : ∀ (a b c d u v : Blk) (N' : Nat), snapD ⟨upd (upd (upd (upd (upd (upd m4.sto m4.nid a) (m4.nid + 1) b) m4.nid c) (m4.nid + 1) d) 0 u) 1 v, N'⟩ 2097150 nv = some (.slice 1 (N.map AV.str)) := fun a b c d u v N => (out_same (M' := ⟨_, N⟩) hO3 hdh (hFs a b c d u v) 2097148 (by omega)).2.1
        simp +decide (disch := first | decide | omega) only [go_sem, Nat.reduceAdd, Nat.reduceMul, Nat.reduceSub, Nat.reduceLT, Nat.reduceLeDiff, Nat.reduceEqDiff, Nat.add_assoc, Int.reduceAdd, Int.reduceSub, Int.reduceMul, Int.reduceLT, Int.reduceLE, Int.reduceEq, Int.reduceNeg, strOp_add, e2, e3, e4, e6, y0, y1, y6, o3, o4, q1, q2]
        exact ⟨.mk 4 0 ⟨#[]⟩ Ld N, .mk k n t l ns, by rw [Dat.av_mk, Dat.av_mk], hsn, hd⟩
      · obtain ⟨k, n, t, L, N, lv, nv, r1, p1, p2, p3, p4, p5⟩ := r1
        obtain ⟨k', n', t', L', N', lv', nv', r2, p1', p2', p3', p4', p5'⟩ := r2
        simp only [AV.one] at p1 p2 p1' p2'
        simp +decide only [go_sem, Nat.reduceAdd, Nat.reduceMul, Nat.reduceSub, Nat.reduceLT, Nat.reduceLeDiff, Nat.reduceEqDiff, Nat.add_assoc, Int.reduceAdd, Int.reduceSub, Int.reduceMul, Int.reduceLT, Int.reduceLE, Int.reduceEq, Int.reduceNeg, strOp_add, e2, e3, r1, r2, p1, p2, p3, p4, p1', p2', p3', p4']
        exact ⟨.mk k n t L N, .mk k' n' t' L' N', by rw [Dat.av_mk, Dat.av_mk], p5, p5'⟩
  obtain ⟨a, ha, d, p, rfl, h1, h2⟩ := key
  exact ⟨d, p, ha, h1, h2⟩
end Go.Ev.Tryz
end
