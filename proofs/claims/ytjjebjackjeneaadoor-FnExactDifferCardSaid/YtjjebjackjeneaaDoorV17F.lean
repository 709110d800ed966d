/- Part of the proof of a statement about the given program: V17F. No condition of its own. -/
import Derived.Test.YtjjebjackjeneaaDoorV15F
import Derived.Test.YtjjebjackjeneaaDoorU4F
namespace Go.Ev.Tryd
open Go.Proofs
set_option maxRecDepth 10000
set_option linter.unusedSimpArgs false
set_option linter.unusedVariables false
attribute [local congr] comes_congr bB_congr gK_congr gdK_congr

/-! ### what data in memory lead to -/
theorem reach_strs {M : Mem} (ns : List ByteArray) (k : Nat) : ((ns.map AV.str).map (reachL M k)).flatten = [] := reaches_still (fun c hc => by
  obtain ⟨s, _, rfl⟩ := List.mem_map.1 hc
  rfl) M k
theorem reach_ostr {M : Mem} {ns : List ByteArray} {v : AV} {B : List Nat} (h : OStr M ns v B) (k : Nat) : reachL M (k + 1) v = B := by
  rcases h with ⟨_, rfl, rfl⟩ | ⟨id, g, app, ty, rfl, h2, rfl⟩
  · rfl
  · simp only [reachL, h2, reach_strs]
theorem reach_ocel {M : Mem} (k : Nat) : ∀ (l : List Dat), (∀ x ∈ l, ∀ cs B, ODat M x cs B → (cs.map (reachL M k)).flatten = B) → ∀ cs B, OCel M l cs B → (cs.map (reachL M k)).flatten = B
  | [], _, cs, B, h => by obtain ⟨rfl, rfl⟩ := oCel_nil.1 h; rfl
  | d :: l, ih, cs, B, h => by
    obtain ⟨c1, B1, c2, B2, rfl, rfl, h1, h2⟩ := oCel_cons.1 h
    rw [List.map_append, List.flatten_append, ih d (by simp) _ _ h1, reach_ocel k l (fun x hx => ih x (by simp [hx])) _ _ h2]
theorem reach_odat {M : Mem} : ∀ (d : Dat) (k : Nat) {cs : List AV} {B : List Nat}, dep d ≤ k → ODat M d cs B → (cs.map (reachL M k)).flatten = B := by
  intro d
  induction d using Dat.ind with
  | h kk n t l ns ih =>
  intro k cs B hk h
  have h1 : 1 ≤ dep (.mk kk n t l ns) := by rw [dep]; omega
  obtain ⟨k, rfl⟩ : ∃ q, k = q + 1 := ⟨k - 1, by omega⟩
  obtain ⟨lv, nv, Bl, Bn, rfl, rfl, hn, hl⟩ := oDat_iff.1 h
  have e1 : reachL M (k + 1) lv = Bl := by
    rcases hl with ⟨_, rfl, rfl⟩ | ⟨id, g, app, ty, cs', B', rfl, q2, q3, rfl⟩
    · rfl
    · simp only [reachL, q2]
      rw [reach_ocel k l (fun x hx cs B h => ih x hx k (by have := dep_lt (k := kk) (n := n) (t := t) (ns := ns) hx; omega) h) _ _ q3]
  simp only [List.map_cons, List.map_nil, List.flatten_cons, List.flatten_nil, e1, reach_ostr hn k, List.append_nil]
  rfl
theorem leads_ostr {M : Mem} {ns : List ByteArray} {v : AV} {B : List Nat} (h : OStr M ns v B) {L : List Nat} (hL : ∀ b ∈ B, L.contains b = true) (q : Nat) : leadsB M L (q + 1) v = true ∧ ∀ b ∈ B, ∀ c ∈ (M.sto b).cells, leadsB M L (q + 1) c = true := by
  rcases h with ⟨_, rfl, rfl⟩ | ⟨id, g, app, ty, rfl, h2, rfl⟩
  · exact ⟨rfl, fun b hb => by cases hb⟩
  · refine ⟨by simp only [leadsB, hL id (by simp), h2, Bool.true_and, beq_self_eq_true], fun b hb c hc => ?_⟩
    rw [List.mem_singleton.1 hb, h2] at hc
    obtain ⟨s, _, rfl⟩ := List.mem_map.1 hc
    rfl
theorem leads_ocel {M : Mem} {L : List Nat} (q : Nat) : ∀ (l : List Dat), (∀ x ∈ l, ∀ cs B, ODat M x cs B → (∀ b ∈ B, L.contains b = true) → (∀ c ∈ cs, leadsB M L (q + 1) c = true) ∧ ∀ b ∈ B, ∀ c ∈ (M.sto b).cells, leadsB M L (q + 1) c = true) → ∀ cs B, OCel M l cs B → (∀ b ∈ B, L.contains b = true) → (∀ c ∈ cs, leadsB M L (q + 1) c = true) ∧ ∀ b ∈ B, ∀ c ∈ (M.sto b).cells, leadsB M L (q + 1) c = true
  | [], _, cs, B, h, _ => by obtain ⟨rfl, rfl⟩ := oCel_nil.1 h; exact ⟨fun c hc => (by cases hc), fun b hb => (by cases hb)⟩
  | d :: l, ih, cs, B, h, hL => by
    obtain ⟨c1, B1, c2, B2, rfl, rfl, h1, h2⟩ := oCel_cons.1 h
    obtain ⟨a1, a2⟩ := ih d (by simp) _ _ h1 fun b hb => hL b (List.mem_append_left _ hb)
    obtain ⟨b1, b2⟩ := leads_ocel q l (fun x hx => ih x (by simp [hx])) _ _ h2 fun b hb => hL b (List.mem_append_right _ hb)
    refine ⟨fun c hc => ?_, fun b hb => ?_⟩
    · rcases List.mem_append.1 hc with hc | hc
      · exact a1 c hc
      · exact b1 c hc
    · rcases List.mem_append.1 hb with hb | hb
      · exact a2 b hb
      · exact b2 b hb
theorem leads_odat {M : Mem} {L : List Nat} (q : Nat) : ∀ (d : Dat) {cs : List AV} {B : List Nat}, ODat M d cs B → (∀ b ∈ B, L.contains b = true) → (∀ c ∈ cs, leadsB M L (q + 1) c = true) ∧ ∀ b ∈ B, ∀ c ∈ (M.sto b).cells, leadsB M L (q + 1) c = true := by
  intro d
  induction d using Dat.ind with
  | h kk n t l ns ih =>
  intro cs B h hL
  obtain ⟨lv, nv, Bl, Bn, rfl, rfl, hn, hl⟩ := oDat_iff.1 h
  obtain ⟨n1, n2⟩ := leads_ostr hn (fun b hb => hL b (List.mem_append_right _ hb)) q
  have key : leadsB M L (q + 1) lv = true ∧ ∀ b ∈ Bl, ∀ c ∈ (M.sto b).cells, leadsB M L (q + 1) c = true := by
    rcases hl with ⟨_, rfl, rfl⟩ | ⟨id, g, app, ty, cs', B', rfl, q2, q3, rfl⟩
    · exact ⟨rfl, fun b hb => by cases hb⟩
    · obtain ⟨a1, a2⟩ := leads_ocel q l (fun x hx cs B h hL => ih x hx h hL) _ _ q3 fun b hb => hL b (by simp [hb])
      refine ⟨?_, fun b hb c hc => ?_⟩
      · have := hL id (by simp)
        simp only [leadsB, this, q2, Bool.true_and, beq_self_eq_true]
      · rcases List.mem_cons.1 hb with rfl | hb
        · rw [q2] at hc
          exact a1 c hc
        · exact a2 b hb c hc
  refine ⟨fun c hc => ?_, fun b hb => ?_⟩
  · simp only [List.mem_cons, List.mem_nil_iff, or_false] at hc
    rcases hc with rfl | rfl | rfl | rfl | rfl
    · rfl
    · rfl
    · rfl
    · exact key.1
    · exact n1
  · rcases List.mem_append.1 hb with hb | hb
    · exact key.2 b hb
    · exact n2 b hb
theorem reach_opc {M : Mem} (k : Nat) : ∀ (l : List (List ByteArray)) {cs : List AV} {B : List Nat}, OPc M l cs B → (cs.map (reachL M (k + 1))).flatten = B
  | [], cs, B, h => by obtain ⟨rfl, rfl⟩ := opc_nil.1 h; rfl
  | d :: l, cs, B, h => by
    obtain ⟨v, B1, c2, B2, rfl, rfl, h1, h2⟩ := opc_cons.1 h
    rw [List.map_cons, List.flatten_cons, reach_ostr h1.str k, reach_opc k l h2]
theorem reach_ops {M : Mem} {l : List (List ByteArray)} {v : AV} {B : List Nat} (h : OPs M l v B) (k : Nat) : reachL M (k + 2) v = B := by
  rcases h with ⟨_, rfl, rfl⟩ | ⟨id, g, app, ty, cs, B', rfl, h2, h3, rfl⟩
  · rfl
  · simp only [reachL, h2, reach_opc k l h3]
theorem leads_opc {M : Mem} {L : List Nat} (q : Nat) : ∀ (l : List (List ByteArray)) {cs : List AV} {B : List Nat}, OPc M l cs B → (∀ b ∈ B, L.contains b = true) → (∀ c ∈ cs, leadsB M L (q + 1) c = true) ∧ ∀ b ∈ B, ∀ c ∈ (M.sto b).cells, leadsB M L (q + 1) c = true
  | [], cs, B, h, _ => by obtain ⟨rfl, rfl⟩ := opc_nil.1 h; exact ⟨fun c hc => (by cases hc), fun b hb => (by cases hb)⟩
  | d :: l, cs, B, h, hL => by
    obtain ⟨v, B1, c2, B2, rfl, rfl, h1, h2⟩ := opc_cons.1 h
    obtain ⟨a1, a2⟩ := leads_ostr h1.str (fun b hb => hL b (List.mem_append_left _ hb)) q
    obtain ⟨b1, b2⟩ := leads_opc q l h2 fun b hb => hL b (List.mem_append_right _ hb)
    refine ⟨fun c hc => ?_, fun b hb => ?_⟩
    · rcases List.mem_cons.1 hc with rfl | hc
      · exact a1
      · exact b1 c hc
    · rcases List.mem_append.1 hb with hb | hb
      · exact a2 b hb
      · exact b2 b hb
theorem leads_ops {M : Mem} {L : List Nat} (q : Nat) {l : List (List ByteArray)} {v : AV} {B : List Nat} (h : OPs M l v B) (hL : ∀ b ∈ B, L.contains b = true) : leadsB M L (q + 1) v = true ∧ ∀ b ∈ B, ∀ c ∈ (M.sto b).cells, leadsB M L (q + 1) c = true := by
  rcases h with ⟨_, rfl, rfl⟩ | ⟨id, g, app, ty, cs, B', rfl, h2, h3, rfl⟩
  · exact ⟨rfl, fun b hb => by cases hb⟩
  · obtain ⟨a1, a2⟩ := leads_opc q l h3 fun b hb => hL b (by simp [hb])
    refine ⟨?_, fun b hb c hc => ?_⟩
    · have := hL id (by simp)
      simp only [leadsB, this, h2, Bool.true_and, beq_self_eq_true]
    · rcases List.mem_cons.1 hb with rfl | hb
      · rw [h2] at hc
        exact a1 c hc
      · exact a2 b hb c hc
/-- A call in the caller's memory, in a region whose order is drawn: what it sees is as it is, and stays so. -/
theorem far_mem {f : FuncId} {args : List AV} {M : Mem} {ids : List Nat} {K : Do → Prop} (hlt : ∀ i ∈ ids, i < M.nid) (hcl : closedB M ids args = true) (post : AV → Mem → Prop)
    (hc : ∀ Q : AV × Mem → Prop, (∀ v m', post v m' → M.nid ≤ m'.nid → (∀ j, j < M.nid → m'.sto j = (mask ids M).sto j) → Q (v, m')) → Comes (fnI CC PR f args (mask ids M)) Q)
    (hK : ∀ v m' J, post v m' → M.nid ≤ m'.nid → J = (joinM ids M.nid M m').sto → (∀ j, j < M.nid → J j = M.sto j) → (∀ j, M.nid ≤ j ∨ j ∈ ids → J j = m'.sto j) → K (.call ids M.nid v m')) :
    closedB M ids args = true ∧ Comes (fnI CC PR f args (mask ids M)) (farK ids M K) := by
  refine ⟨hcl, hc _ fun v m' hp hn hfr => ⟨fun i hi => ?_, hK v m' _ hp hn rfl (fun j hj => ?_) fun j hj => ?_⟩⟩
  · rw [hfr i (hlt i hi)]
    simp [mask, hi]
  · simp only [joinM]
    split
    · rename_i hcc
      have hj' : ¬ M.nid ≤ j := by omega
      simp only [hj', decide_false, Bool.or_false] at hcc
      rw [hfr j hj]
      simp only [mask, hcc, if_true]
    · rfl
  · simp only [joinM]
    rw [if_pos]
    simp only [Bool.or_eq_true, List.contains_iff_mem, decide_eq_true_eq]
    exact hj.symm
theorem mask_in {M : Mem} {ids : List Nat} {b : Nat} (h : b ∈ ids) : (mask ids M).sto b = M.sto b := by
  have : ids.contains b = true := by simpa using h
  simp only [mask, this, if_true]
end Go.Ev.Tryd
