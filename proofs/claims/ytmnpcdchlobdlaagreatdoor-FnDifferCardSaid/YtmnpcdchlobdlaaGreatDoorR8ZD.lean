/- Part of the proof of a statement about the given program: R8ZD. No condition of its own. -/
import Derived.Test.YtmnpcdchlobdlaaGreatDoorR4ZD
namespace Go.Ev.Tryz
open Go.Proofs
set_option maxRecDepth 10000
set_option linter.unusedSimpArgs false
set_option linter.unusedVariables false
attribute [local congr] comes_congr bB_congr gK_congr gdK_congr

/-- A state is looked at by what is known of it. -/
theorem abs_st {F : St → Prop} {st : St} (I : St → Prop) (h : I st) (k : ∀ st, I st → F st) : F st := k st h
theorem RdAt.fr {m m' : Mem} {id : Nat} {bs : List Int} {P : Nat} (h : RdAt m id bs P) (hn : m.nid ≤ m'.nid) (hs : m'.sto id = m.sto id) : RdAt m' id bs P := by
  obtain ⟨h1, p, h2, h3⟩ := h
  exact ⟨by omega, p, h2, hs.trans h3⟩
theorem RdAt.put {m : Mem} {id E n : Nat} {bs : List Int} {P : Nat} {x : Blk} (h : RdAt m id bs P) (hE : id ≠ E) (hn : m.nid ≤ n) : RdAt ⟨upd m.sto E x, n⟩ id bs P := h.fr hn (upd_miss _ _ _ _ hE)
theorem Fr.put {m m' : Mem} {id E n : Nat} {x : Blk} (h : Fr m m' id) (hE : m.nid ≤ E) (hn : m'.nid ≤ n) : Fr m ⟨upd m'.sto E x, n⟩ id := ⟨Nat.le_trans h.1 hn, fun j hj hne => (upd_miss _ _ _ _ (by omega)).trans (h.2 j hj hne)⟩
theorem Fr.more {m m' : Mem} {id n : Nat} (h : Fr m m' id) (hn : m'.nid ≤ n) : Fr m ⟨m'.sto, n⟩ id := ⟨Nat.le_trans h.1 hn, h.2⟩
theorem RdAt.more {m : Mem} {id n : Nat} {bs : List Int} {P : Nat} (h : RdAt m id bs P) (hn : m.nid ≤ n) : RdAt ⟨m.sto, n⟩ id bs P := h.fr hn rfl
theorem frozM_id (m : Mem) (ids : List Nat) (h : ids = []) : frozM m ids = m := by rw [h]; exact frozM_nil
/-- A function that takes plain values, of such. -/
theorem entry_plain {C : Ctx} {f : FuncId} {l : List AV} {m : Mem} (h : ∀ a ∈ l, a.loud = true ∨ (snapD m 2097152 a = some a ∧ reachD m 2097152 a = [])) : entryI C f l m = some (l, m) := by
  unfold entryI
  split
  · have e1 : (l.mapM fun (a : AV) => if a.loud then some a else snapD m 2097152 a) = some l := by
      induction l with
      | nil => rfl
      | cons a l ih =>
        rw [List.mapM_cons, ih fun b hb => h b (by simp [hb])]
        rcases h a (by simp) with h1 | h1
        · simp [h1]
        · cases a.loud <;> simp [h1.1]
    have e2 : (l.map fun (a : AV) => if a.loud then [] else reachD m 2097152 a).flatten = [] := by
      rw [List.flatten_eq_nil_iff]
      intro x hx
      obtain ⟨a, ha, rfl⟩ := List.mem_map.1 hx
      rcases h a ha with h1 | h1
      · simp [h1]
      · cases a.loud <;> simp [h1.2]
    rw [e1, frozM_id m _ e2]
    rfl
  · rfl
/-- A value that leads nowhere that changes. -/
def Quiet (v : AV) : Prop := (∀ m, reachL m 2097152 v = []) ∧ ∀ m ids, leadsB m ids 2097152 v = true
theorem quiet_still {c : AV} (h : still c = true) : Quiet c := ⟨fun m => reach_still h m _, fun m ids => leads_still h m ids _⟩
theorem quiet_agg {cs : List AV} (h : ∀ c ∈ cs, still c = true) : Quiet (.agg cs) := by
  refine ⟨fun m => ?_, fun m ids => ?_⟩
  · rw [reachL]
    exact reaches_still h m _
  · rw [leadsB]
    exact leadsA_still h m ids _
theorem reach_rd {m : Mem} {id : Nat} {bs : List Int} {P : Nat} (h : RdAt m id bs P) : reachL m 2097152 (.ptr id 0 0) = [id] := reach_ptr (rd_still h) _
/-- A call of a function that draws, in a region whose order is drawn; what it is given but the reader leads nowhere. -/
theorem rd_far {f : FuncId} {args : List AV} {m : Mem} {id P P' : Nat} {bs : List Int} {ids : List Nat} (h : RdAt m id bs P) (hids : ids = [id]) (hp : ∀ a ∈ args, Quiet a) (post : AV → Mem → Prop) {K : Do → Prop}
    (hc : ∀ Q : AV × Mem → Prop, (∀ v m', post v m' → RdAt m' id bs P' → Fr (mask [id] m) m' id → Q (v, m')) → Comes (fnI CC PR f (.ptr id 0 0 :: args) (mask [id] m)) Q)
    (hK : ∀ v m', post v m' → RdAt ⟨(joinM [id] m.nid m m').sto, m'.nid⟩ id bs P' → Fr m ⟨(joinM [id] m.nid m m').sto, m'.nid⟩ id → (∀ k, m.nid ≤ k → (joinM [id] m.nid m m').sto k = m'.sto k) → K (.call [id] m.nid v m')) :
    closedB m ids (.ptr id 0 0 :: args) = true ∧ Comes (fnI CC PR f (.ptr id 0 0 :: args) (mask ids m)) (farK ids m K) := by
  subst hids
  have hcid : List.contains [id] id = true := by simp
  refine ⟨?_, hc _ fun v m' hv hR hF => ?_⟩
  · simp only [closedB, List.all_cons, List.all_nil, Bool.and_true, Bool.and_eq_true, List.all_eq_true]
    refine ⟨⟨?_, fun a ha => (hp a ha).2 _ _⟩, fun c hc => leads_still (rd_still h c hc) _ _ _⟩
    simp only [leadsB, hcid, rd_gen h, Bool.true_and, beq_self_eq_true]
  · obtain ⟨j1, j2, j3⟩ := join_fr hF hcid hR
    refine ⟨fun i hi => ?_, hK v m' hv j1 j2 j3⟩
    rw [List.mem_singleton.1 hi, rd_gen h]
    exact Nat.zero_le _
end Go.Ev.Tryz
