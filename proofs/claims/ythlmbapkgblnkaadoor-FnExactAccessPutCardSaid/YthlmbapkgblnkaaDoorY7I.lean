/- Part of the proof of a statement about the given program: Y7I. No condition of its own. -/
import Derived.Test.YthlmbapkgblnkaaDoorY6I
namespace Go.Ev.Tryd
open Go.Proofs
set_option maxRecDepth 10000
set_option linter.unusedSimpArgs false
set_option linter.unusedVariables false
attribute [local congr] comes_congr bB_congr gK_congr gdK_congr

theorem reach_still {c : AV} (h : still c = true) (m : Mem) (k : Nat) : reachL m k c = [] := by
  cases k with
  | zero => rfl
  | succ k => cases c <;> first | rfl | (simp [still] at h; done) | (rename_i f cap; cases cap <;> first | rfl | (simp [still] at h))
theorem leads_still {c : AV} (h : still c = true) (m : Mem) (ids : List Nat) (k : Nat) : leadsB m ids (k + 1) c = true := by
  cases c <;> first | rfl | (simp [still] at h; done) | (rename_i f cap; cases cap <;> first | rfl | (simp [still] at h))
theorem reaches_still {cs : List AV} (h : ∀ c ∈ cs, still c = true) (m : Mem) (k : Nat) : (cs.map (reachL m k)).flatten = [] := by
  rw [List.flatten_eq_nil_iff]
  intro l hl
  obtain ⟨c, hc, rfl⟩ := List.mem_map.1 hl
  exact reach_still (h c hc) m k
theorem leadsA_still {cs : List AV} (h : ∀ c ∈ cs, still c = true) (m : Mem) (ids : List Nat) (k : Nat) : cs.all (leadsB m ids (k + 1)) = true := List.all_eq_true.2 fun c hc => leads_still (h c hc) m ids k
/-- A value that leads nowhere that changes. -/
def Quiet (v : AV) : Prop := (∀ m, reachL m 2097152 v = []) ∧ ∀ m ids, leadsB m ids 2097152 v = true
theorem quiet_agg {cs : List AV} (h : ∀ c ∈ cs, still c = true) : Quiet (.agg cs) := by
  refine ⟨fun m => ?_, fun m ids => ?_⟩
  · rw [reachL]
    exact reaches_still h m _
  · rw [leadsB]
    exact leadsA_still h m ids _
theorem plain_far {f : FuncId} {cs : List AV} {m : Mem} {K : Do → Prop} (h : ∀ c ∈ cs, still c = true) (hc : Comes (fnI CC PR f [.agg cs] (mask [] m)) (fun p => K (.call [] m.nid p.1 p.2))) :
    closedB m (reachL m 2097152 (.agg cs)) [.agg cs] = true ∧ Comes (fnI CC PR f [.agg cs] (mask (reachL m 2097152 (.agg cs)) m)) (farK (reachL m 2097152 (.agg cs)) m K) := by
  obtain ⟨h1, h2⟩ := quiet_agg h
  rw [h1 m]
  refine ⟨by simp [closedB, h2], Comes.mono hc fun p hp => ⟨fun i hi => (by cases hi), hp⟩⟩
/-- A call in the caller's memory, in a region whose order is drawn: what it sees is as it is, and stays so. -/
theorem far_mem {f : FuncId} {args : List AV} {M : Mem} {ids : List Nat} {K : Do → Prop} (hlt : ∀ i ∈ ids, i < M.nid) (hcl : closedB M ids args = true) (post : AV → Mem → Prop)
    (hc : ∀ Q : AV × Mem → Prop, (∀ v m', post v m' → M.nid ≤ m'.nid → (∀ j, j < M.nid → m'.sto j = (mask ids M).sto j) → Q (v, m')) → Comes (fnI CC PR f args (mask ids M)) Q)
    (hK : ∀ v m' J, post v m' → M.nid ≤ m'.nid → J = (joinM ids M.nid M m').sto → (∀ j, j < M.nid → J j = M.sto j) → (∀ j, M.nid ≤ j ∨ j ∈ ids → J j = m'.sto j) → K (.call ids M.nid v m')) :
    closedB M ids args = true ∧ Comes (fnI CC PR f args (mask ids M)) (farK ids M K) := by
  refine ⟨hcl, hc _ fun v m' hp hn hfr => ⟨fun i hi => ?_, hK v m' _ hp hn rfl (fun j hj => ?_) fun j hj => ?_⟩⟩
  · rw [hfr i (hlt i hi)]
    simp [mask, hi]
  · simp only [joinM]
    split
    · rename_i hcc
      have hj' : ¬ M.nid ≤ j := by omega
      simp only [hj', decide_false, Bool.or_false] at hcc
      rw [hfr j hj]
      simp only [mask, hcc, if_true]
    · rfl
  · simp only [joinM]
    rw [if_pos]
    simp only [Bool.or_eq_true, List.contains_iff_mem, decide_eq_true_eq]
    exact hj.symm
theorem mask_in {M : Mem} {ids : List Nat} {b : Nat} (h : b ∈ ids) : (mask ids M).sto b = M.sto b := by
  have : ids.contains b = true := by simpa using h
  simp only [mask, this, if_true]
/-! ### what nodes in memory lead to -/
theorem reach_ocel {M : Mem} (k : Nat) : ∀ (l : List Nod), (∀ x ∈ l, ∀ cs B, ONod M x cs B → (cs.map (reachL M k)).flatten = B) → ∀ cs B, OCel M l cs B → (cs.map (reachL M k)).flatten = B
  | [], _, cs, B, h => by obtain ⟨rfl, rfl⟩ := oCel_nil.1 h; rfl
  | d :: l, ih, cs, B, h => by
    obtain ⟨c1, B1, c2, B2, rfl, rfl, h1, h2⟩ := oCel_cons.1 h
    rw [List.map_append, List.flatten_append, ih d (by simp) _ _ h1, reach_ocel k l (fun x hx => ih x (by simp [hx])) _ _ h2]
theorem reach_olst0 {M : Mem} (k : Nat) (l : List Nod) (ih : ∀ x ∈ l, ∀ cs B, ONod M x cs B → (cs.map (reachL M k)).flatten = B) {v : AV} {B : List Nat} (h : OLst M l v B) : reachL M (k + 1) v = B := by
  rcases h with ⟨_, rfl, rfl⟩ | ⟨id, g, app, ty, cs', B', rfl, q2, q3, rfl⟩
  · rfl
  · simp only [reachL, q2]
    rw [reach_ocel k l ih _ _ q3]
theorem reach_onod {M : Mem} : ∀ (n : Nod) (k : Nat) {cs : List AV} {B : List Nat}, ndep n ≤ k → ONod M n cs B → (cs.map (reachL M k)).flatten = B := by
  intro n
  induction n using Nod.ind with
  | h kk d p s c i ih1 ih2 =>
  intro k cs B hk h
  have h1 : 1 ≤ ndep (.mk kk d p s c i) := by rw [ndep_mk]; omega
  obtain ⟨k, rfl⟩ : ∃ q, k = q + 1 := ⟨k - 1, by omega⟩
  obtain ⟨pv, iv, Bp, Bi, rfl, rfl, hp, hi⟩ := oNod_iff.1 h
  have e1 := reach_olst0 k p (fun x hx cs B h => ih1 x hx k (by have := ndep_p (k := kk) (d := d) (s := s) (c := c) (i := i) hx; omega) h) hp
  have e2 := reach_olst0 k i (fun x hx cs B h => ih2 x hx k (by have := ndep_i (k := kk) (d := d) (p := p) (s := s) (c := c) hx; omega) h) hi
  simp only [List.map_cons, List.map_nil, List.flatten_cons, List.flatten_nil, e1, e2, List.append_nil]
  rfl
theorem reach_olst {M : Mem} {l : List Nod} {v : AV} {B : List Nat} (h : OLst M l v B) (hd : ∀ x ∈ l, ndep x ≤ 2000000) : reachL M 2097152 v = B :=
  reach_olst0 2097151 l (fun x hx cs B h => reach_onod x 2097151 (by have := hd x hx; omega) h) h
theorem reach_agg {M : Mem} {n : Nod} {cs : List AV} {B : List Nat} (hdep : ndep n ≤ 2000000) (hO : ONod M n cs B) : reachL M 2097152 (.agg cs) = B := by
  rw [reachL]
  exact reach_onod n 2097151 (by omega) hO
def Lds (M : Mem) (L : List Nat) (q : Nat) (cs : List AV) (B : List Nat) : Prop := (∀ c ∈ cs, leadsB M L (q + 1) c = true) ∧ ∀ b ∈ B, ∀ c ∈ (M.sto b).cells, leadsB M L (q + 1) c = true
theorem leads_ocel {M : Mem} {L : List Nat} (q : Nat) : ∀ (l : List Nod), (∀ x ∈ l, ∀ cs B, ONod M x cs B → (∀ b ∈ B, L.contains b = true) → Lds M L q cs B) → ∀ cs B, OCel M l cs B → (∀ b ∈ B, L.contains b = true) → Lds M L q cs B
  | [], _, cs, B, h, _ => by obtain ⟨rfl, rfl⟩ := oCel_nil.1 h; exact ⟨fun c hc => (by cases hc), fun b hb => (by cases hb)⟩
  | d :: l, ih, cs, B, h, hL => by
    obtain ⟨c1, B1, c2, B2, rfl, rfl, h1, h2⟩ := oCel_cons.1 h
    obtain ⟨a1, a2⟩ := ih d (by simp) _ _ h1 fun b hb => hL b (List.mem_append_left _ hb)
    obtain ⟨b1, b2⟩ := leads_ocel q l (fun x hx => ih x (by simp [hx])) _ _ h2 fun b hb => hL b (List.mem_append_right _ hb)
    refine ⟨fun c hc => ?_, fun b hb => ?_⟩
    · rcases List.mem_append.1 hc with hc | hc
      · exact a1 c hc
      · exact b1 c hc
    · rcases List.mem_append.1 hb with hb | hb
      · exact a2 b hb
      · exact b2 b hb
theorem leads_olst0 {M : Mem} {L : List Nat} (q : Nat) (l : List Nod) (ih : ∀ x ∈ l, ∀ cs B, ONod M x cs B → (∀ b ∈ B, L.contains b = true) → Lds M L q cs B) {v : AV} {B : List Nat} (h : OLst M l v B) (hL : ∀ b ∈ B, L.contains b = true) : Lds M L q [v] B := by
  rcases h with ⟨_, rfl, rfl⟩ | ⟨id, g, app, ty, cs', B', rfl, q2, q3, rfl⟩
  · exact ⟨fun c hc => by rw [List.mem_singleton.1 hc]; rfl, fun b hb => by cases hb⟩
  · obtain ⟨a1, a2⟩ := leads_ocel q l ih _ _ q3 fun b hb => hL b (by simp [hb])
    refine ⟨fun c hc => ?_, fun b hb c hc => ?_⟩
    · rw [List.mem_singleton.1 hc]
      have := hL id (by simp)
      simp only [leadsB, this, q2, Bool.true_and, beq_self_eq_true]
    · rcases List.mem_cons.1 hb with rfl | hb
      · rw [q2] at hc
        exact a1 c hc
      · exact a2 b hb c hc
theorem leads_onod {M : Mem} {L : List Nat} (q : Nat) : ∀ (n : Nod) {cs : List AV} {B : List Nat}, ONod M n cs B → (∀ b ∈ B, L.contains b = true) → Lds M L q cs B := by
  intro n
  induction n using Nod.ind with
  | h kk d p s c i ih1 ih2 =>
  intro cs B h hL
  obtain ⟨pv, iv, Bp, Bi, rfl, rfl, hp, hi⟩ := oNod_iff.1 h
  obtain ⟨a1, a2⟩ := leads_olst0 q p (fun x hx cs B h hL => ih1 x hx h hL) hp fun b hb => hL b (List.mem_append_left _ hb)
  obtain ⟨b1, b2⟩ := leads_olst0 q i (fun x hx cs B h hL => ih2 x hx h hL) hi fun b hb => hL b (List.mem_append_right _ hb)
  refine ⟨fun c hc => ?_, fun b hb => ?_⟩
  · simp only [List.mem_cons, List.mem_nil_iff, or_false] at hc
    rcases hc with rfl | rfl | rfl | rfl | rfl | rfl
    · rfl
    · rfl
    · exact a1 _ (by simp)
    · rfl
    · rfl
    · exact b1 _ (by simp)
  · rcases List.mem_append.1 hb with hb | hb
    · exact a2 b hb
    · exact b2 b hb
theorem leads_olst {M : Mem} {L : List Nat} (q : Nat) {l : List Nod} {v : AV} {B : List Nat} (h : OLst M l v B) (hL : ∀ b ∈ B, L.contains b = true) : Lds M L q [v] B := leads_olst0 q l (fun x _ _ _ h hL => leads_onod q x h hL) h hL
theorem nin_lt {ids B : List Nat} {n : Nat} (h : ids = B) (hB : ∀ b ∈ B, b < n) : ∀ i ∈ ids, i < n := by subst h; exact hB
/-- Closed: what one node leads to; what a list does. -/
theorem closed1 {M : Mem} {n : Nod} {cs : List AV} {B ids : List Nat} (hO : ONod M n cs B) (hids : ids = B) : closedB M ids [.agg cs] = true := by
  subst hids
  obtain ⟨h1, h2⟩ := leads_onod (L := ids) 2097151 n hO fun b hb => by simpa using hb
  obtain ⟨h3, _⟩ := leads_onod (L := ids) 2097150 n hO fun b hb => by simpa using hb
  simp only [closedB, List.all_cons, List.all_nil, Bool.and_true, Bool.and_eq_true, List.all_eq_true]
  exact ⟨by simp only [leadsB, List.all_eq_true]; exact h3, h2⟩
theorem closedL {M : Mem} {l : List Nod} {v : AV} {B ids : List Nat} (hO : OLst M l v B) (hids : ids = B) : closedB M ids [v] = true := by
  subst hids
  obtain ⟨h1, h2⟩ := leads_olst (L := ids) 2097151 hO fun b hb => by simpa using hb
  simp only [closedB, List.all_cons, List.all_nil, Bool.and_true, Bool.and_eq_true, List.all_eq_true]
  exact ⟨h1 v (by simp), h2⟩
end Go.Ev.Tryd
