/- Part of the proof of a statement about the given program: Y1I. No condition of its own. -/
import Derived.Test.YthlmbapkgblnkaaDoorSI
namespace Go.Ev.Tryd
open Go.Proofs
set_option maxRecDepth 10000
set_option linter.unusedSimpArgs false
set_option linter.unusedVariables false
attribute [local congr] comes_congr bB_congr gK_congr gdK_congr

/-! ### plain values -/
/-- A value that is the same in each memory. -/
def still : AV → Bool
  | .agg _ | .tup _ | .arr _ _ _ _ _ _ | .nils _ | .ptr _ _ _ | .undef | .void => false
  | .fn _ cap => cap.isEmpty
  | _ => true
theorem snap_still {c : AV} (h : still c = true) (m : Mem) (k : Nat) : snapD m (k + 1) c = some c := by
  cases c <;> first | rfl | (simp [still] at h; done) | (rename_i f cap; cases cap <;> first | rfl | (simp [still] at h))
theorem snaps_still {l : List AV} (h : ∀ c ∈ l, still c = true) (m : Mem) (k : Nat) : l.mapM (snapD m (k + 1)) = some l := by
  induction l with
  | nil => rfl
  | cons c l ih => rw [List.mapM_cons, snap_still (h c (by simp)), ih fun c hc => h c (by simp [hc])]; rfl
theorem elems_flat (sz : Nat) (hz : sz ≠ 1) : ∀ (L : List (List AV)) (h : ∀ c ∈ L, c.length = sz), elems sz L.length L.flatten = L.map AV.agg
  | [], _ => rfl
  | c :: L, h => by
    have hc : c.length = sz := h c (by simp)
    have e1 : (c ++ L.flatten).take sz = c := by rw [← hc]; simp
    have e2 : (c ++ L.flatten).drop sz = L.flatten := by rw [← hc]; simp
    simp only [List.length_cons, elems, List.flatten_cons, if_neg hz, e1, e2, List.map_cons]
    rw [elems_flat sz hz L fun c hc => h c (by simp [hc])]
theorem mapM_app {α β : Type} (f : α → Option β) : ∀ (a b : List α) (x y : List β), a.mapM f = some x → b.mapM f = some y → (a ++ b).mapM f = some (x ++ y)
  | [], b, x, y, h1, h2 => by simp at h1; subst h1; simpa using h2
  | c :: a, b, x, y, h1, h2 => by
    simp only [List.mapM_cons, Option.bind_eq_bind, Option.bind_eq_some_iff, Option.pure_def, Option.some.injEq] at h1
    obtain ⟨z, hz, x', hx', rfl⟩ := h1
    rw [List.cons_append, List.mapM_cons, hz, mapM_app f a b x' y hx' h2]
    rfl
theorem foldr_max {α : Type} (f : α → Nat) : ∀ (l : List α) (x : α), x ∈ l → f x ≤ (l.map f).foldr max 0
  | y :: l, x, h => by
    simp only [List.map_cons, List.foldr_cons]
    rcases List.mem_cons.1 h with rfl | h
    · exact Nat.le_max_left _ _
    · exact Nat.le_trans (foldr_max f l x h) (Nat.le_max_right _ _)
theorem updL_frz_m {f : Nat → Blk} {n : Nat} {e : Nat → AV} {ids : List Nat} : updL f (froz ({ sto := f, nid := n, env := e } : St) ids) = frz f ids := updL_frz_s rfl
theorem updL_frz_t {m : Mem} {e : Nat → AV} {ids : List Nat} : updL m.sto (froz ({ toMem := m, env := e } : St) ids) = frz m.sto ids := updL_frz_s rfl
/-! ### nodes -/
/-- A node. -/
inductive Nod where
  | mk (kind : Int) (data : ByteArray) (ptrs : List Nod) (size count : Int) (items : List Nod)
namespace Nod
def kind : Nod → Int | .mk k _ _ _ _ _ => k
def data : Nod → ByteArray | .mk _ d _ _ _ _ => d
def ptrs : Nod → List Nod | .mk _ _ p _ _ _ => p
def size : Nod → Int | .mk _ _ _ s _ _ => s
def count : Nod → Int | .mk _ _ _ _ c _ => c
def items : Nod → List Nod | .mk _ _ _ _ _ i => i
/-- As a value. -/
def av : Nod → AV
  | .mk k d p s c i => .agg [.int .i64 k, .str d, .slice 6 (p.map av), .int .i64 s, .int .i64 c, .slice 6 (i.map av)]
theorem ind {P : Nod → Prop} (h : ∀ k d p s c i, (∀ x ∈ p, P x) → (∀ x ∈ i, P x) → P (.mk k d p s c i)) : ∀ n, P n
  | .mk k d p s c i => h k d p s c i (fun x _ => ind h x) (fun x _ => ind h x)
end Nod
theorem Nod.av_mk (k : Int) (d : ByteArray) (p : List Nod) (s c : Int) (i : List Nod) : (Nod.mk k d p s c i).av = .agg [.int .i64 k, .str d, .slice 6 (p.map Nod.av), .int .i64 s, .int .i64 c, .slice 6 (i.map Nod.av)] := by
  rw [Nod.av]
theorem nav_eta (n : Nod) : n.av = .agg [.int .i64 n.kind, .str n.data, .slice 6 (n.ptrs.map Nod.av), .int .i64 n.size, .int .i64 n.count, .slice 6 (n.items.map Nod.av)] := by
  obtain ⟨k, d, p, s, c, i⟩ := n
  exact Nod.av_mk _ _ _ _ _ _
theorem nav_at {l : List Nod} {i : Nat} (h : i < l.length) : (l.map Nod.av)[i]? = some (l[i]).av := by simp [h]
theorem ncells_of (n : Nod) : ∃ k d l1 s c l2, n.av = .agg [.int .i64 k, .str d, .slice 6 l1, .int .i64 s, .int .i64 c, .slice 6 l2] := by
  obtain ⟨k, d, p, s, c, i⟩ := n
  exact ⟨_, _, _, _, _, _, Nod.av_mk _ _ _ _ _ _⟩
/-- The cells of nodes. -/
def nodC (l : List Nod) : List AV := (l.map fun d => d.av.cells).flatten
theorem nlen6 (d : Nod) : d.av.cells.length = 6 := by rw [nav_eta d]; rfl
theorem nodC_len (l : List Nod) : (nodC l).length = l.length * 6 := by
  induction l with
  | nil => rfl
  | cons d l ih =>
    have := nlen6 d
    simp only [nodC, List.map_cons, List.flatten_cons, List.length_append, this, List.length_cons] at ih ⊢
    omega
theorem flat_nodC (l : List Nod) : (List.map AV.cells (List.map Nod.av l)).flatten = nodC l := by simp [nodC, Function.comp_def]
theorem still_nodC (l : List Nod) : ∀ c ∈ nodC l, still c = true := by
  intro c hc
  simp only [nodC, List.mem_flatten, List.mem_map] at hc
  obtain ⟨_, ⟨d, _, rfl⟩, hc⟩ := hc
  rw [nav_eta d] at hc
  simp only [AV.cells, List.mem_cons, List.mem_nil_iff, or_false] at hc
  rcases hc with rfl | rfl | rfl | rfl | rfl | rfl <;> rfl
theorem one_nodC (l : List Nod) : ∀ c ∈ nodC l, c.one = true := by
  intro c hc
  simp only [nodC, List.mem_flatten, List.mem_map] at hc
  obtain ⟨_, ⟨d, _, rfl⟩, hc⟩ := hc
  rw [nav_eta d] at hc
  simp only [AV.cells, List.mem_cons, List.mem_nil_iff, or_false] at hc
  rcases hc with rfl | rfl | rfl | rfl | rfl | rfl <;> rfl
theorem elems_nodC (l : List Nod) : elems 6 l.length (nodC l) = l.map Nod.av := by
  have h := elems_flat 6 (by decide) (l.map fun d => d.av.cells) (fun c hc => by
    obtain ⟨d, _, rfl⟩ := List.mem_map.1 hc
    exact nlen6 d)
  rw [List.length_map] at h
  rw [nodC, h, List.map_map]
  apply List.map_congr_left
  intro d _
  simp only [Function.comp_apply]
  rw [nav_eta d]
  rfl
/-- Of no more than memory can hold. -/
inductive Nod.Wide : Nod → Prop
  | mk (k : Int) (d : ByteArray) (p : List Nod) (s c : Int) (i : List Nod) (hk : i64 k) (hs : i64 s) (hc : i64 c) (hd : d.size ≤ 9223372036854775807) (hp : p.length ≤ 9223372036854775807) (hi : i.length ≤ 9223372036854775807) (h1 : ∀ x ∈ p, Nod.Wide x) (h2 : ∀ x ∈ i, Nod.Wide x) : Nod.Wide (.mk k d p s c i)
/-- Of no more than is dealt with. -/
inductive Nod.Sane : Nod → Prop
  | mk (k : Int) (d : ByteArray) (p : List Nod) (s c : Int) (i : List Nod) (hk : i64 k) (hs : i64 s) (hc : i64 c) (hd : d.size ≤ 1048576) (hp : p.length ≤ 1048576) (hi : i.length ≤ 1048576) (h1 : ∀ x ∈ p, Nod.Sane x) (h2 : ∀ x ∈ i, Nod.Sane x) : Nod.Sane (.mk k d p s c i)
/-- What is left after so much. -/
def lft (left n : Nat) : Int := if n ≤ left then ((left - n : Nat) : Int) else -1
theorem lft_le {left n : Nat} (h : n ≤ left) : lft left n = ((left - n : Nat) : Int) := if_pos h
theorem lft_no {left n : Nat} (h : ¬ n ≤ left) : lft left n = -1 := if_neg h
/-- The size of a node. -/
def szN : Nod → Nat
  | .mk _ d p _ _ i => d.size + (p.length + (p.map szN).foldr (· + ·) 0) + (i.length + (i.map szN).foldr (· + ·) 0)
def szNL (l : List Nod) : Nat := (l.map szN).foldr (· + ·) 0
theorem szN_mk (k : Int) (d : ByteArray) (p : List Nod) (s c : Int) (i : List Nod) : szN (.mk k d p s c i) = d.size + (p.length + szNL p) + (i.length + szNL i) := by
  rw [szN]
  rfl
theorem szNL_cons (d : Nod) (l : List Nod) : szNL (d :: l) = szN d + szNL l := rfl
theorem szNL_app : ∀ (a b : List Nod), szNL (a ++ b) = szNL a + szNL b
  | [], b => (Nat.zero_add _).symm
  | s :: a, b => by rw [List.cons_append, szNL_cons, szNL_cons, szNL_app a b]; omega
theorem szNL_take {ns : List Nod} {i : Nat} (hi : i < ns.length) : szNL (ns.take (i + 1)) = szNL (ns.take i) + szN ns[i] := by
  rw [List.take_succ_eq_append_getElem hi, szNL_app, szNL_cons]
  rfl
theorem szNL_le (ns : List Nod) (i : Nat) : szNL (ns.take i) ≤ szNL ns := by
  have := szNL_app (ns.take i) (ns.drop i)
  rw [List.take_append_drop] at this
  omega
theorem szNL_mem {l : List Nod} {d : Nod} (h : d ∈ l) : szN d ≤ szNL l := by
  induction l with
  | nil => cases h
  | cons x l ih =>
    rw [szNL_cons]
    rcases List.mem_cons.1 h with rfl | h
    · omega
    · have := ih h; omega
theorem Nod.Wide.sane : ∀ (n : Nod), n.Wide → szN n ≤ 1048576 → n.Sane := by
  intro n
  induction n using Nod.ind with
  | h k d p s c i ih1 ih2 =>
  intro hd hz
  rw [szN_mk] at hz
  cases hd with
  | mk _ _ _ _ _ _ hk hs hc hd hp hi h1 h2 =>
  refine .mk k d p s c i hk hs hc (by omega) (by omega) (by omega) (fun x hx => ih1 x hx (h1 x hx) ?_) fun x hx => ih2 x hx (h2 x hx) ?_
  · have := szNL_mem hx; omega
  · have := szNL_mem hx; omega
/-- How deep a node is. -/
def ndep : Nod → Nat
  | .mk _ _ p _ _ i => 1 + max ((p.map ndep).foldr max 0) ((i.map ndep).foldr max 0)
theorem ndep_mk (k : Int) (d : ByteArray) (p : List Nod) (s c : Int) (i : List Nod) : ndep (.mk k d p s c i) = 1 + max ((p.map ndep).foldr max 0) ((i.map ndep).foldr max 0) := by rw [ndep]
theorem ndep_p {k : Int} {d : ByteArray} {p : List Nod} {s c : Int} {i : List Nod} {x : Nod} (h : x ∈ p) : ndep x < ndep (.mk k d p s c i) := by
  rw [ndep_mk]
  have := foldr_max ndep p x h
  omega
theorem ndep_i {k : Int} {d : ByteArray} {p : List Nod} {s c : Int} {i : List Nod} {x : Nod} (h : x ∈ i) : ndep x < ndep (.mk k d p s c i) := by
  rw [ndep_mk]
  have := foldr_max ndep i x h
  omega
theorem ndep_le : ∀ (n : Nod), ndep n ≤ szN n + 1 := by
  intro n
  induction n using Nod.ind with
  | h k d p s c i ih1 ih2 =>
  rw [ndep_mk, szN_mk]
  have key : ∀ l : List Nod, (∀ x ∈ l, ndep x ≤ szN x + 1) → (l.map ndep).foldr max 0 ≤ l.length + szNL l := by
    intro l
    induction l with
    | nil => intro _; exact Nat.zero_le _
    | cons x l ih2 =>
      intro h
      have h1 := h x (by simp)
      have h2 := ih2 fun y hy => h y (by simp [hy])
      simp only [List.map_cons, List.foldr_cons, List.length_cons, szNL_cons]
      exact Nat.max_le.2 ⟨by omega, by omega⟩
  have k1 := key p ih1
  have k2 := key i ih2
  omega
end Go.Ev.Tryd
