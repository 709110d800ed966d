/- Part of the proof of a statement about the given program: P1F. No condition of its own. -/
import Derived.Test.YtjjebjackjeneaaDoorD12F
namespace Go.Ev.Tryd
open Go.Proofs
set_option maxRecDepth 10000
set_option linter.unusedSimpArgs false
set_option linter.unusedVariables false
attribute [local congr] comes_congr bB_congr gK_congr gdK_congr

theorem updL_frz_m {f : Nat → Blk} {n : Nat} {e : Nat → AV} {ids : List Nat} : updL f (froz ({ sto := f, nid := n, env := e } : St) ids) = frz f ids := updL_frz_s rfl
theorem reachD_none {c : AV} (h : still c = true) (m : Mem) (k : Nat) : reachD m k c = [] := by
  cases k with
  | zero => rfl
  | succ k => cases c <;> first | rfl | (simp [still] at h; done)
theorem reachesD_none {cs : List AV} (h : ∀ c ∈ cs, still c = true) (m : Mem) (k : Nat) : (cs.map (reachD m k)).flatten = [] := by
  rw [List.flatten_eq_nil_iff]
  intro l hl
  obtain ⟨c, hc, rfl⟩ := List.mem_map.1 hl
  exact reachD_none (h c hc) m k
theorem growS_eq {sto : Nat → Blk} {nid : Nat} {n : Int} (h0 : 0 < n) (h1 : n ≤ 4294967296) : fnI CC PR 83 [.nils 1, .int .i64 n] ⟨sto, nid⟩ = some (.arr nid 0 0 0 1 true, ⟨upd sto nid ⟨[], 0, false, some (9, false)⟩, nid + 1⟩) :=
  fnI_prim CC PR (by simp [PI, growS, h0, h1])
def pre2 (q : ByteArray) (p : List ByteArray) : Nat → List ByteArray
  | 0 => []
  | 1 => [q]
  | _ => q :: p
/-- A list of paths. -/
def pathsA (ps : List (List ByteArray)) : AV := .slice 1 (ps.map strsA)
/-- A list of paths that grows, in a block of the call's own. -/
def PathsAt (m : Mem) (lo : Nat) (v : AV) (l : List (List ByteArray)) : Prop :=
  (l = [] ∧ v = .nils 1) ∨ ∃ id g, lo ≤ id ∧ id < m.nid ∧ v = .arr id g 0 l.length 1 true ∧ ∃ ty, m.sto id = ⟨l.map strsA, g, false, ty⟩
theorem still_path (p : List ByteArray) : still (strsA p) = true := by
  unfold strsA still
  simp
theorem snaps_paths (ps : List (List ByteArray)) (m : Mem) (k : Nat) : (ps.map strsA).mapM (snapD m (k + 1)) = some (ps.map strsA) := snaps_still (fun c hc => by
  obtain ⟨p, _, rfl⟩ := List.mem_map.1 hc
  exact still_path p) m k
theorem flat_paths (ps : List (List ByteArray)) : ((ps.map strsA).map AV.cells).flatten = ps.map strsA := by
  induction ps with
  | nil => rfl
  | cons x ns ih => simp only [List.map_cons, List.flatten_cons, ih]; rfl
theorem elems_paths (ps : List (List ByteArray)) : elems 1 ps.length (ps.map strsA) = ps.map strsA := by
  have := elems_one (ps.map strsA)
  rwa [List.length_map] at this
/-- The paths to what lies at the ends. -/
def lv : Nat → Dat → List (List ByteArray)
  | 0, _ => [[]]
  | n + 1, d => if d.kind = 3 ∨ d.kind = 4 then ((d.steps.zip d.list).map fun x => (lv n x.2).map (x.1 :: ·)).flatten else [[]]
theorem lv_short : ∀ (n : Nat) (d : Dat), ∀ p ∈ lv n d, p.length ≤ n
  | 0, d, p, h => by
    simp only [lv, List.mem_singleton] at h
    subst h
    exact Nat.le_refl _
  | n + 1, d, p, h => by
    unfold lv at h
    split at h
    · simp only [List.mem_flatten, List.mem_map] at h
      obtain ⟨_, ⟨x, _, rfl⟩, h⟩ := h
      obtain ⟨r, hr, rfl⟩ := List.mem_map.1 h
      have := lv_short n x.2 r hr
      simp only [List.length_cons]
      omega
    · simp only [List.mem_singleton] at h
      subst h
      exact Nat.zero_le _
theorem sum_le (b : Nat) : ∀ l : List (List (List ByteArray)), (∀ x ∈ l, x.length ≤ b) → l.flatten.length ≤ l.length * b
  | [], _ => Nat.zero_le _
  | x :: l, h => by
    have h1 := sum_le b l fun y hy => h y (List.mem_cons_of_mem _ hy)
    have h2 := h x List.mem_cons_self
    simp only [List.flatten_cons, List.length_append, List.length_cons, Nat.succ_mul]
    omega
theorem lv_few : ∀ (n : Nat) (d : Dat), writ n d = true → (lv n d).length ≤ 20 ^ n
  | 0, d, h => by cases h
  | n + 1, d, h => by
    have hd : d.list.length ≤ 20 := by
      obtain ⟨k, m, t, l, ns⟩ := d
      simp only [writ, Bool.and_eq_true] at h
      have := shaped_kind h.1
      simp only [Dat.list]
      rcases this with ⟨_, rfl⟩ | ⟨_, rfl, _⟩ | ⟨_, rfl, _⟩ | ⟨_, h⟩ | ⟨_, h, h2⟩
      all_goals first
        | exact Nat.zero_le _
        | omega
    simp only [writ, Bool.and_eq_true, List.all_eq_true] at h
    unfold lv
    split
    · have h1 := sum_le (20 ^ n) ((d.steps.zip d.list).map fun x => (lv n x.2).map (x.1 :: ·)) fun y hy => by
        obtain ⟨x, hx, rfl⟩ := List.mem_map.1 hy
        rw [List.length_map]
        exact lv_few n x.2 (h.2.2 _ (List.of_mem_zip hx).2)
      have h2 : ((d.steps.zip d.list).map fun x => (lv n x.2).map (x.1 :: ·)).length ≤ 20 := by
        rw [List.length_map, List.length_zip]
        omega
      refine Nat.le_trans h1 ?_
      rw [Nat.pow_succ, Nat.mul_comm (20 ^ n)]
      exact Nat.mul_le_mul_right _ h2
    · exact Nat.pow_pos (by decide)

theorem branches_eq (k n : Int) (t : ByteArray) (l2 n2 : List AV) (b : Bool) (hb : b = true ↔ k = 3 ∨ k = 4) : fnA CC PR 49 [.agg [.int .i64 k, .int .i64 n, .str t, .slice 5 l2, .slice 1 n2]] = some (.bool b) := by
  apply comes_eq.1
  refine fnA_wp (rs := [.tmp 2]) Tryd.func49 rfl rfl (Nat.le_of_ble_eq_true rfl) rfl ?_
  (simp +decide only [go_sem, Nat.reduceAdd, Nat.reduceMul, Nat.reduceSub, Nat.reduceLT, Nat.reduceLeDiff, Nat.reduceEqDiff, Nat.add_assoc, Int.reduceAdd, Int.reduceSub, Int.reduceMul, Int.reduceLT, Int.reduceLE, Int.reduceEq, Int.reduceNeg, strOp_add]); repeat' (refine bB_split (fun hB => ?_) (fun hB => ?_) <;> (try simp only [Bool.and_eq_true, Bool.or_eq_false_iff, decide_eq_true_eq, decide_eq_false_iff_not] at hB) <;> simp +decide only [go_sem, Nat.reduceAdd, Nat.reduceMul, Nat.reduceSub, Nat.reduceLT, Nat.reduceLeDiff, Nat.reduceEqDiff, Nat.add_assoc, Int.reduceAdd, Int.reduceSub, Int.reduceMul, Int.reduceLT, Int.reduceLE, Int.reduceEq, Int.reduceNeg, strOp_add, hB])
  all_goals cases b <;> simp_all
theorem writ_elem0 (n : Nat) {d y : Dat} (h : writ (n + 1) d = true) (hm : y ∈ d.list) : writ n y = true := by
  simp only [writ, Bool.and_eq_true, List.all_eq_true] at h
  exact h.2.2 y hm
def lvF (n : Nat) (x : ByteArray × Dat) : List (List ByteArray) := (lv n x.2).map (x.1 :: ·)
theorem pow20 : ∀ n, n ≤ 8 → 20 ^ n ≤ 25600000000 := by decide

end Go.Ev.Tryd
