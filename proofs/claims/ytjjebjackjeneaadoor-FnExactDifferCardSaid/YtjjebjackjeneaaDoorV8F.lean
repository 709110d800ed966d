/- Part of the proof of a statement about the given program: V8F. No condition of its own. -/
import Derived.Test.YtjjebjackjeneaaDoorV7F
import Derived.Test.YtjjebjackjeneaaDoorP1F
namespace Go.Ev.Tryd
open Go.Proofs
set_option maxRecDepth 10000
set_option linter.unusedSimpArgs false
set_option linter.unusedVariables false
attribute [local congr] comes_congr bB_congr gK_congr gdK_congr

theorem reach_still {c : AV} (h : still c = true) (m : Mem) (k : Nat) : reachL m k c = [] := by
  cases k with
  | zero => rfl
  | succ k => cases c <;> first | rfl | (simp [still] at h; done) | (rename_i f cap; cases cap <;> first | rfl | (simp [still] at h))
theorem leads_still {c : AV} (h : still c = true) (m : Mem) (ids : List Nat) (k : Nat) : leadsB m ids (k + 1) c = true := by
  cases c <;> first | rfl | (simp [still] at h; done) | (rename_i f cap; cases cap <;> first | rfl | (simp [still] at h))
theorem reaches_still {cs : List AV} (h : ∀ c ∈ cs, still c = true) (m : Mem) (k : Nat) : (cs.map (reachL m k)).flatten = [] := by
  rw [List.flatten_eq_nil_iff]
  intro l hl
  obtain ⟨c, hc, rfl⟩ := List.mem_map.1 hl
  exact reach_still (h c hc) m k
theorem leadsA_still {cs : List AV} (h : ∀ c ∈ cs, still c = true) (m : Mem) (ids : List Nat) (k : Nat) : cs.all (leadsB m ids (k + 1)) = true := List.all_eq_true.2 fun c hc => leads_still (h c hc) m ids k
/-- A value that leads nowhere that changes. -/
def Quiet (v : AV) : Prop := (∀ m, reachL m 2097152 v = []) ∧ ∀ m ids, leadsB m ids 2097152 v = true
theorem quiet_agg {cs : List AV} (h : ∀ c ∈ cs, still c = true) : Quiet (.agg cs) := by
  refine ⟨fun m => ?_, fun m ids => ?_⟩
  · rw [reachL]
    exact reaches_still h m _
  · rw [leadsB]
    exact leadsA_still h m ids _
theorem plain_far {f : FuncId} {cs : List AV} {m : Mem} {K : Do → Prop} (h : ∀ c ∈ cs, still c = true) (hc : Comes (fnI CC PR f [.agg cs] (mask [] m)) (fun p => K (.call [] m.nid p.1 p.2))) :
    closedB m (reachL m 2097152 (.agg cs)) [.agg cs] = true ∧ Comes (fnI CC PR f [.agg cs] (mask (reachL m 2097152 (.agg cs)) m)) (farK (reachL m 2097152 (.agg cs)) m K) := by
  obtain ⟨h1, h2⟩ := quiet_agg h
  rw [h1 m]
  refine ⟨by simp [closedB, h2], Comes.mono hc fun p hp => ⟨fun i hi => (by cases hi), hp⟩⟩
/-! ### what a path leads to is no deeper and no bigger -/
theorem step_mem {d x : Dat} {s : ByteArray} (h : d.step s = some x) : x ∈ d.list := by
  simp only [Dat.step] at h
  split at h
  · cases h
  · exact List.mem_of_getElem? h
theorem szD_list {d x : Dat} (h : x ∈ d.list) : szD x ≤ szD d := by
  obtain ⟨k, n, t, l, ns⟩ := d
  have := szL_mem (l := l) h
  rw [szD_mk]
  omega
theorem Dat.Sane.list {d x : Dat} (hd : d.Sane) (h : x ∈ d.list) : x.Sane := hd.elem h
theorem getP_fine : ∀ (p : List ByteArray) (d x : Dat), d.Sane → getP d p = some x → x.Sane ∧ dep x ≤ dep d ∧ szD x ≤ szD d
  | [], d, x, hd, h => by
    simp only [getP, Option.some.injEq] at h
    subst h
    exact ⟨hd, Nat.le_refl _, Nat.le_refl _⟩
  | s :: p, d, x, hd, h => by
    simp only [getP] at h
    cases hs : d.step s with
    | none => rw [hs] at h; cases h
    | some y =>
      rw [hs] at h
      have hm := step_mem hs
      obtain ⟨h1, h2, h3⟩ := getP_fine p y x (hd.list hm) h
      have := dep_list hm
      have := szD_list hm
      exact ⟨h1, by omega, by omega⟩
theorem zeroD_sane : zeroD.Sane := by
  unfold zeroD
  refine .mk _ _ _ _ _ ⟨by decide, by decide⟩ ⟨by decide, by decide⟩ (by decide) (by simp) (by simp) (by simp) (by simp)
theorem pathO_fine (p : List ByteArray) (d : Dat) (hd : d.Sane) (h1 : szD d ≤ 1048576) : ((pathO d p).getD zeroD).Sane ∧ dep ((pathO d p).getD zeroD) ≤ 2000000 ∧ szD ((pathO d p).getD zeroD) ≤ 1048576 := by
  cases h : pathO d p with
  | none =>
    refine ⟨zeroD_sane, ?_, ?_⟩
    · have := dep_le zeroD
      have h2 : szD zeroD = 0 := by unfold zeroD; rw [szD_mk]; rfl
      simp only [Option.getD_none]
      omega
    · have h2 : szD zeroD = 0 := by unfold zeroD; rw [szD_mk]; rfl
      simp only [Option.getD_none]
      omega
  | some x =>
    have hg : getP d p = some x := by
      unfold pathO at h
      split at h
      · exact h
      · cases h
    obtain ⟨q1, q2, q3⟩ := getP_fine p d x hd hg
    have := dep_le x
    simp only [Option.getD_some]
    exact ⟨q1, by omega, by omega⟩
/-! ### marks leave the form -/
theorem dep_mk (k n : Int) (t : ByteArray) (l : List Dat) (ns : List ByteArray) : dep (.mk k n t l ns) = 1 + (l.map dep).foldr max 0 := by rw [dep]
theorem dep_mkL : ∀ (l : List Dat), (∀ x ∈ l, ∀ k, dep (mkE k x) = dep x) → ∀ k, (mkL k l).map dep = l.map dep
  | [], _, k => by rw [mkL]
  | d :: l, ih, k => by
    rw [mkL, List.map_cons, List.map_cons, ih d (by simp), dep_mkL l fun x hx => ih x (by simp [hx])]
theorem dep_mkE : ∀ (d : Dat) (k : Nat), dep (mkE k d) = dep d := by
  intro d
  induction d using Dat.ind with
  | h k n t l ns ih =>
  intro k
  rw [mkE_mk, dep_mk, dep_mk, dep_mkL l ih]
theorem dep_mkD (d : Dat) (k : Nat) : dep (mkD k d) = dep d := by
  obtain ⟨a, n, t, l, ns⟩ := d
  rw [mkD, dep_mk, dep_mk, dep_mkL l fun x _ k => dep_mkE x k]
theorem mkD_kind (d : Dat) (k : Nat) : (mkD k d).kind = d.kind := by cases d; rw [mkD]; rfl
theorem mkD_num (d : Dat) (k : Nat) : (mkD k d).num = d.num := by cases d; rw [mkD]; rfl
theorem mkD_text (d : Dat) (k : Nat) : (mkD k d).text = d.text := by cases d; rw [mkD]; rfl
theorem updL_frz_t {m : Mem} {e : Nat → AV} {ids : List Nat} : updL m.sto (froz ({ toMem := m, env := e } : St) ids) = frz m.sto ids := updL_frz_s rfl
/-- Data of one's own in a box. -/
def BoxD (M : Mem) (d : Dat) (id : Nat) (lv nv : AV) (B : List Nat) : Prop := ODat M d [.int .i64 d.kind, .int .i64 d.num, .str d.text, lv, nv] B ∧ ∃ ty, M.sto id = ⟨[.int .i64 d.kind, .int .i64 d.num, .str d.text, lv, nv], 0, false, ty⟩
theorem ODat.std {M : Mem} {d : Dat} {k n : Int} {t : ByteArray} {lv nv : AV} {B : List Nat} (h : ODat M d [.int .i64 k, .int .i64 n, .str t, lv, nv] B) : k = d.kind ∧ n = d.num ∧ t = d.text := by
  obtain ⟨_, _, _, _, _, h1, h2, h3⟩ := h.parts
  simp only [AV.int.injEq, true_and, AV.str.injEq] at h1 h2 h3
  exact ⟨h1, h2, h3⟩
end Go.Ev.Tryd
