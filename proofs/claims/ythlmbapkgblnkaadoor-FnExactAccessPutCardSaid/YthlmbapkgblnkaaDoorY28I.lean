/- Part of the proof of a statement about the given program: Y28I. No condition of its own. -/
import Derived.Test.YthlmbapkgblnkaaDoorY27I
namespace Go.Ev.Tryd
open Go.Proofs
set_option maxRecDepth 10000
set_option linter.unusedSimpArgs false
set_option linter.unusedVariables false
attribute [local congr] comes_congr bB_congr gK_congr gdK_congr

theorem closedA {M : Mem} {n : Nod} {cs us : List AV} {B ids : List Nat} (ha : ∀ c ∈ us, still c = true) (hO : ONod M n cs B) (hids : ids = B) : closedB M ids [.agg us, .agg cs] = true := by
  have h := closed1 hO hids
  have h2 := (quiet_agg ha).2 M ids
  simp only [closedB, List.all_cons, List.all_nil, Bool.and_true, Bool.and_eq_true] at h ⊢
  exact ⟨⟨h2, h.1⟩, h.2⟩
theorem still_acc (x0 : ByteArray) (x1 x2 x3 x4 x5 x6 : Int) : ∀ c ∈ [AV.str x0, .int .i64 x1, .int .i64 x2, .int .i64 x3, .int .i64 x4, .int .i64 x5, .int .i64 x6], still c = true := by simp [still]
theorem reach_acc {M : Mem} (x0 : ByteArray) (x1 x2 x3 x4 x5 x6 : Int) : reachL M 2097152 (accA x0 x1 x2 x3 x4 x5 x6) = [] := (quiet_agg (still_acc x0 x1 x2 x3 x4 x5 x6)).1 M
theorem reachD_still {c : AV} (h : still c = true) (m : Mem) (k : Nat) : reachD m k c = [] := by
  cases k with
  | zero => rfl
  | succ k => cases c <;> first | rfl | (simp [still] at h; done) | (rename_i f cap; cases cap <;> first | rfl | (simp [still] at h))
theorem reachD_ocel {M : Mem} (k : Nat) : ∀ (l : List Nod), (∀ d ∈ l, ∀ cs B, ONod M d cs B → ∀ x ∈ (cs.map (reachD M k)).flatten, x ∈ B) → ∀ {cs : List AV} {B : List Nat}, OCel M l cs B → ∀ x ∈ (cs.map (reachD M k)).flatten, x ∈ B
  | [], _, cs, B, h => by
    obtain ⟨rfl, rfl⟩ := oCel_nil.1 h
    intro x hx
    simp at hx
  | d :: l, ih, cs, B, h => by
    obtain ⟨c1, B1, c2, B2, rfl, rfl, h1, h2⟩ := oCel_cons.1 h
    intro x hx
    rw [List.map_append, List.flatten_append] at hx
    rcases List.mem_append.1 hx with hx | hx
    · exact List.mem_append_left _ (ih d (by simp) _ _ h1 x hx)
    · exact List.mem_append_right _ (reachD_ocel k l (fun y hy => ih y (by simp [hy])) h2 x hx)
theorem reachD_olst0 {M : Mem} (l : List Nod) (ih : ∀ d ∈ l, ∀ (k : Nat) cs B, ONod M d cs B → ∀ x ∈ (cs.map (reachD M k)).flatten, x ∈ B) (k : Nat) {v : AV} {B : List Nat} (h : OLst M l v B) : ∀ x ∈ reachD M k v, x ∈ B := by
  intro x hx
  rcases h with ⟨_, rfl, rfl⟩ | ⟨id, g, app, ty, cs', B', rfl, q2, q3, rfl⟩
  · cases k <;> simp [reachD] at hx
  · cases k with
    | zero => simp [reachD] at hx
    | succ k =>
      simp only [reachD, q2] at hx
      rcases List.mem_cons.1 hx with rfl | hx
      · simp
      · exact List.mem_cons_of_mem _ (reachD_ocel k l (fun y hy cs B h => ih y hy k cs B h) q3 x hx)
theorem reachD_onod {M : Mem} : ∀ (n : Nod) (k : Nat) (cs : List AV) (B : List Nat), ONod M n cs B → ∀ x ∈ (cs.map (reachD M k)).flatten, x ∈ B := by
  intro n
  induction n using Nod.ind with
  | h kk d p s c i ih1 ih2 =>
  intro k cs B h x hx
  obtain ⟨pv, iv, Bp, Bi, rfl, rfl, h1, h2⟩ := oNod_iff.1 h
  simp only [List.map_cons, List.map_nil, List.flatten_cons, List.flatten_nil, List.append_nil, List.mem_append] at hx
  have e1 : reachD M k (.int .i64 kk) = [] := reachD_still rfl M k
  have e2 : reachD M k (.str d) = [] := reachD_still rfl M k
  have e3 : reachD M k (.int .i64 s) = [] := reachD_still rfl M k
  have e4 : reachD M k (.int .i64 c) = [] := reachD_still rfl M k
  simp only [e1, e2, e3, e4, List.not_mem_nil, false_or] at hx
  rcases hx with hx | hx
  · exact List.mem_append_left _ (reachD_olst0 p (fun y hy k cs B h => ih1 y hy k cs B h) k h1 x hx)
  · exact List.mem_append_right _ (reachD_olst0 i (fun y hy k cs B h => ih2 y hy k cs B h) k h2 x hx)
/-- The blocks that a node leads to by value are its own. -/
theorem reachD_two {M : Mem} {n : Nod} {a0 a1 pv a3 a4 iv : AV} {B : List Nat} (h : ONod M n [a0, a1, pv, a3, a4, iv] B) (k k' : Nat) : ∀ x ∈ reachD M k pv ++ reachD M k' iv, x ∈ B := by
  obtain ⟨Bp, Bi, h1, h2, rfl, -⟩ := h.parts
  intro x hx
  rcases List.mem_append.1 hx with hx | hx
  · exact List.mem_append_left _ (reachD_olst0 _ (fun y _ k cs B h => reachD_onod y k cs B h) k h1 x hx)
  · exact List.mem_append_right _ (reachD_olst0 _ (fun y _ k cs B h => reachD_onod y k cs B h) k' h2 x hx)
/-- None of them is that block. -/
theorem froz_free {ids B : List Nat} (h : ∀ x ∈ ids, x ∈ B) {lo hi : Nat} (hB : ∀ b ∈ B, lo ≤ b ∧ b < hi) {j : Nat} (hj : j < lo ∨ hi ≤ j) : (ids.all fun i => !false && i != j) = true ∧ (!ids.contains j) = true := by
  have key : ∀ x ∈ ids, x ≠ j := fun x hx e => by have := hB x (h x hx); omega
  constructor
  · rw [List.all_eq_true]
    intro x hx
    simp [key x hx]
  · simp only [Bool.not_eq_true', List.contains_eq_mem, decide_eq_false_iff_not]
    exact fun hx => key j hx rfl
set_option maxHeartbeats 1000000 in
/-- impl.AccessGet, in a drawn region. -/
theorem AccessGet_far {M : Mem} (x0 : ByteArray) (x1 x2 x3 x4 x5 x6 : Int) (n : Nod) (hd : n.Sane) (hz : szN n ≤ 1048576) (hdep : ndep n ≤ 2000000) (bits : Int) (w : Nod) (ok : Bool) (hr : getR x0 x1 x2 x3 x4 x5 x6 n = (ok, bits, w)) {a0 a1 pv a3 a4 iv : AV} {B ids : List Nat} {K : Do → Prop} (hO : ONod M n [a0, a1, pv, a3, a4, iv] B) (hB : ∀ b ∈ B, b < M.nid) (hids : ids = B)
    (hK : ∀ pv iv m' B' J, pv.one = true → iv.one = true → M.nid ≤ m'.nid → J = (joinM ids M.nid M m').sto → (∀ j, j < M.nid → J j = M.sto j) → ONod ⟨J, m'.nid⟩ w [.int .i64 w.kind, .str w.data, pv, .int .i64 w.size, .int .i64 w.count, iv] B' → Own M.nid m'.nid B' → K (.call ids M.nid (.tup [.agg [.int .i64 bits, .int .i64 w.kind, .str w.data, pv, .int .i64 w.size, .int .i64 w.count, iv], .bool ok]) m')) :
    closedB M ids [accA x0 x1 x2 x3 x4 x5 x6, .agg [a0, a1, pv, a3, a4, iv]] = true ∧ Comes (fnI CC PR 10 [accA x0 x1 x2 x3 x4 x5 x6, .agg [a0, a1, pv, a3, a4, iv]] (mask ids M)) (farK ids M K) := by
  refine far_mem (nin_lt hids hB) (closedA (still_acc x0 x1 x2 x3 x4 x5 x6) hO hids) (fun v m' => ∃ pv iv B', v = .tup [.agg [.int .i64 bits, .int .i64 w.kind, .str w.data, pv, .int .i64 w.size, .int .i64 w.count, iv], .bool ok] ∧ ONod m' w [.int .i64 w.kind, .str w.data, pv, .int .i64 w.size, .int .i64 w.count, iv] B' ∧ Own M.nid m'.nid B' ∧ pv.one = true ∧ iv.one = true) (fun Q hQ => ?_) fun v m' J hp hn hJ j1 j2 => ?_
  · refine AccessGetM_wp x0 x1 x2 x3 x4 x5 x6 n hd hz hdep _ _ _ _ _ _ B _ (hO.keep _ fun b hb => mask_in (by rw [hids]; exact hb)) hB Q fun k d pv s c iv m' B' p1 p2 p3 p4 p5 p6 => ?_
    rw [hr] at p1 ⊢
    obtain ⟨rfl, rfl, rfl, rfl⟩ := p1.std
    exact hQ _ m' ⟨pv, iv, B', rfl, p1, p2, p5, p6⟩ p3 p4
  · obtain ⟨pv, iv, B', rfl, p1, p2, p5, p6⟩ := hp
    exact hK pv iv m' B' J p5 p6 hn hJ j1 (p1.keep _ fun b hb => j2 b (.inl (p2.2 b hb).1)) p2
end Go.Ev.Tryd
