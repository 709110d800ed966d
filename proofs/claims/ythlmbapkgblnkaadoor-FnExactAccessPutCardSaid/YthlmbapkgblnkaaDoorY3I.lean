/- Part of the proof of a statement about the given program: Y3I. No condition of its own. -/
import Derived.Test.YthlmbapkgblnkaaDoorY2I
namespace Go.Ev.Tryd
open Go.Proofs
set_option maxRecDepth 10000
set_option linter.unusedSimpArgs false
set_option linter.unusedVariables false
attribute [local congr] comes_congr bB_congr gK_congr gdK_congr

/-! ### nodes in blocks of one's own -/
mutual
def ONod (M : Mem) : Nod → List AV → List Nat → Prop
  | .mk k d p s c i, cs, B => ∃ pv iv Bp Bi, cs = [.int .i64 k, .str d, pv, .int .i64 s, .int .i64 c, iv] ∧ B = Bp ++ Bi ∧
    ((p = [] ∧ pv = .nils 6 ∧ Bp = []) ∨ ∃ id g app ty cs' B', pv = .arr id g 0 p.length 6 app ∧ M.sto id = ⟨cs', g, false, ty⟩ ∧ OCel M p cs' B' ∧ Bp = id :: B') ∧
    ((i = [] ∧ iv = .nils 6 ∧ Bi = []) ∨ ∃ id g app ty cs' B', iv = .arr id g 0 i.length 6 app ∧ M.sto id = ⟨cs', g, false, ty⟩ ∧ OCel M i cs' B' ∧ Bi = id :: B')
def OCel (M : Mem) : List Nod → List AV → List Nat → Prop
  | [], cs, B => cs = [] ∧ B = []
  | d :: l, cs, B => ∃ c1 B1 c2 B2, cs = c1 ++ c2 ∧ B = B1 ++ B2 ∧ ONod M d c1 B1 ∧ OCel M l c2 B2
end
def OLst (M : Mem) (l : List Nod) (lv : AV) (Bl : List Nat) : Prop :=
  (l = [] ∧ lv = .nils 6 ∧ Bl = []) ∨ ∃ id g app ty cs' B', lv = .arr id g 0 l.length 6 app ∧ M.sto id = ⟨cs', g, false, ty⟩ ∧ OCel M l cs' B' ∧ Bl = id :: B'
theorem oNod_iff {M : Mem} {k : Int} {d : ByteArray} {p : List Nod} {s c : Int} {i : List Nod} {cs : List AV} {B : List Nat} : ONod M (.mk k d p s c i) cs B ↔ ∃ pv iv Bp Bi, cs = [.int .i64 k, .str d, pv, .int .i64 s, .int .i64 c, iv] ∧ B = Bp ++ Bi ∧ OLst M p pv Bp ∧ OLst M i iv Bi := by
  rw [ONod]
  rfl
theorem oCel_nil {M : Mem} {cs : List AV} {B : List Nat} : OCel M [] cs B ↔ cs = [] ∧ B = [] := by rw [OCel]
theorem oCel_cons {M : Mem} {d : Nod} {l : List Nod} {cs : List AV} {B : List Nat} : OCel M (d :: l) cs B ↔ ∃ c1 B1 c2 B2, cs = c1 ++ c2 ∧ B = B1 ++ B2 ∧ ONod M d c1 B1 ∧ OCel M l c2 B2 := by rw [OCel]
theorem oCel_app {M : Mem} : ∀ (a b : List Nod) {cs : List AV} {B : List Nat}, OCel M (a ++ b) cs B ↔ ∃ c1 B1 c2 B2, cs = c1 ++ c2 ∧ B = B1 ++ B2 ∧ OCel M a c1 B1 ∧ OCel M b c2 B2
  | [], b, cs, B => by
    constructor
    · intro h; exact ⟨[], [], cs, B, rfl, rfl, oCel_nil.2 ⟨rfl, rfl⟩, h⟩
    · rintro ⟨c1, B1, c2, B2, rfl, rfl, h1, h2⟩
      obtain ⟨rfl, rfl⟩ := oCel_nil.1 h1
      exact h2
  | d :: a, b, cs, B => by
    rw [List.cons_append, oCel_cons]
    constructor
    · rintro ⟨c1, B1, c2, B2, rfl, rfl, h1, h2⟩
      obtain ⟨c3, B3, c4, B4, rfl, rfl, h3, h4⟩ := (oCel_app a b).1 h2
      exact ⟨c1 ++ c3, B1 ++ B3, c4, B4, by simp, by simp, oCel_cons.2 ⟨c1, B1, c3, B3, rfl, rfl, h1, h3⟩, h4⟩
    · rintro ⟨c1, B1, c2, B2, rfl, rfl, h1, h2⟩
      obtain ⟨c3, B3, c4, B4, rfl, rfl, h3, h4⟩ := oCel_cons.1 h1
      exact ⟨c3, B3, c4 ++ c2, B4 ++ B2, by simp, by simp, h3, (oCel_app a b).2 ⟨c4, B4, c2, B2, rfl, rfl, h4, h2⟩⟩
theorem oCel_one {M : Mem} {d : Nod} {cs : List AV} {B : List Nat} (h : ONod M d cs B) : OCel M [d] cs B := oCel_cons.2 ⟨cs, B, [], [], by simp, by simp, h, oCel_nil.2 ⟨rfl, rfl⟩⟩
theorem oCel_keep {M M' : Mem} : ∀ (l : List Nod), (∀ x ∈ l, ∀ cs B, ONod M x cs B → (∀ b ∈ B, M'.sto b = M.sto b) → ONod M' x cs B) → ∀ cs B, OCel M l cs B → (∀ b ∈ B, M'.sto b = M.sto b) → OCel M' l cs B
  | [], _, cs, B, h, _ => oCel_nil.2 (oCel_nil.1 h)
  | d :: l, ih, cs, B, h, e => by
    obtain ⟨c1, B1, c2, B2, rfl, rfl, h1, h2⟩ := oCel_cons.1 h
    exact oCel_cons.2 ⟨c1, B1, c2, B2, rfl, rfl, ih d (by simp) _ _ h1 fun b hb => e b (List.mem_append_left _ hb), oCel_keep l (fun x hx => ih x (by simp [hx])) _ _ h2 fun b hb => e b (List.mem_append_right _ hb)⟩
theorem oLst_keep {M M' : Mem} (l : List Nod) (ih : ∀ x ∈ l, ∀ cs B, ONod M x cs B → (∀ b ∈ B, M'.sto b = M.sto b) → ONod M' x cs B) {v : AV} {B : List Nat} (h : OLst M l v B) (e : ∀ b ∈ B, M'.sto b = M.sto b) : OLst M' l v B := by
  rcases h with h2 | ⟨id, g, app, ty, cs', B', q1, q2, q3, rfl⟩
  · exact .inl h2
  · exact .inr ⟨id, g, app, ty, cs', B', q1, by rw [e id (by simp)]; exact q2, oCel_keep l ih _ _ q3 fun b hb => e b (by simp [hb]), rfl⟩
theorem ONod.keep {M M' : Mem} : ∀ (n : Nod) {cs : List AV} {B : List Nat}, ONod M n cs B → (∀ b ∈ B, M'.sto b = M.sto b) → ONod M' n cs B := by
  intro n
  induction n using Nod.ind with
  | h k d p s c i ih1 ih2 =>
  intro cs B h e
  obtain ⟨pv, iv, Bp, Bi, rfl, rfl, h1, h2⟩ := oNod_iff.1 h
  exact oNod_iff.2 ⟨pv, iv, Bp, Bi, rfl, rfl, oLst_keep p (fun x hx cs B h e => ih1 x hx h e) h1 fun b hb => e b (List.mem_append_left _ hb), oLst_keep i (fun x hx cs B h e => ih2 x hx h e) h2 fun b hb => e b (List.mem_append_right _ hb)⟩
theorem OCel.keep {M M' : Mem} {l : List Nod} {cs : List AV} {B : List Nat} (h : OCel M l cs B) (e : ∀ b ∈ B, M'.sto b = M.sto b) : OCel M' l cs B := oCel_keep l (fun x _ _ _ h e => h.keep x e) _ _ h e
theorem OLst.keep {M M' : Mem} {l : List Nod} {v : AV} {B : List Nat} (h : OLst M l v B) (e : ∀ b ∈ B, M'.sto b = M.sto b) : OLst M' l v B := oLst_keep l (fun x _ _ _ h e => h.keep x e) h e
theorem oNod_len {M : Mem} {n : Nod} {cs : List AV} {B : List Nat} (h : ONod M n cs B) : cs.length = 6 := by
  obtain ⟨k, d, p, s, c, i⟩ := n
  obtain ⟨pv, iv, Bp, Bi, rfl, _⟩ := oNod_iff.1 h
  rfl
theorem oCel_len {M : Mem} : ∀ (l : List Nod) {cs : List AV} {B : List Nat}, OCel M l cs B → cs.length = l.length * 6
  | [], cs, B, h => by obtain ⟨rfl, _⟩ := oCel_nil.1 h; rfl
  | d :: l, cs, B, h => by
    obtain ⟨c1, B1, c2, B2, rfl, rfl, h1, h2⟩ := oCel_cons.1 h
    have := oCel_len l h2
    have h6 := oNod_len h1
    simp only [List.length_append, List.length_cons, this, h6]
    omega
theorem OLst.one {M : Mem} {l : List Nod} {v : AV} {B : List Nat} (h : OLst M l v B) : v.one = true := by
  rcases h with ⟨_, rfl, _⟩ | ⟨_, _, _, _, _, _, rfl, _⟩ <;> rfl
theorem ONod.ones {M : Mem} {n : Nod} {a0 a1 pv a3 a4 iv : AV} {B : List Nat} (h : ONod M n [a0, a1, pv, a3, a4, iv] B) : pv.one = true ∧ iv.one = true := by
  obtain ⟨k, d, p, s, c, i⟩ := n
  obtain ⟨pv', iv', Bp, Bi, he, rfl, h1, h2⟩ := oNod_iff.1 h
  simp only [List.cons.injEq, and_true] at he
  obtain ⟨-, -, rfl, -, -, rfl⟩ := he
  exact ⟨h1.one, h2.one⟩
theorem ONod.parts {M : Mem} {n : Nod} {a0 a1 pv a3 a4 iv : AV} {B : List Nat} (h : ONod M n [a0, a1, pv, a3, a4, iv] B) : ∃ Bp Bi, OLst M n.ptrs pv Bp ∧ OLst M n.items iv Bi ∧ B = Bp ++ Bi ∧ a0 = .int .i64 n.kind ∧ a1 = .str n.data ∧ a3 = .int .i64 n.size ∧ a4 = .int .i64 n.count := by
  obtain ⟨k, d, p, s, c, i⟩ := n
  obtain ⟨pv', iv', Bp, Bi, he, rfl, h1, h2⟩ := oNod_iff.1 h
  simp only [List.cons.injEq, and_true] at he
  obtain ⟨rfl, rfl, rfl, rfl, rfl, rfl⟩ := he
  exact ⟨Bp, Bi, h1, h2, rfl, rfl, rfl, rfl, rfl⟩
/-- What a node in memory reads as. -/
theorem oCel_snap {M : Mem} (q : Nat) : ∀ (l : List Nod), (∀ x ∈ l, ∀ cs B, ONod M x cs B → cs.mapM (snapD M q) = some x.av.cells) → ∀ {cs : List AV} {B : List Nat}, OCel M l cs B → cs.mapM (snapD M q) = some (nodC l)
  | [], _, cs, B, h => by obtain ⟨rfl, _⟩ := oCel_nil.1 h; rfl
  | d :: l, ih, cs, B, h => by
    obtain ⟨c1, B1, c2, B2, rfl, rfl, h1, h2⟩ := oCel_cons.1 h
    rw [mapM_app _ _ _ _ _ (ih d (by simp) _ _ h1) (oCel_snap q l (fun x hx => ih x (by simp [hx])) h2)]
    simp [nodC]
theorem oLst_snap {M : Mem} (q : Nat) (l : List Nod) (ih : ∀ x ∈ l, ∀ cs B, ONod M x cs B → cs.mapM (snapD M q) = some x.av.cells) {v : AV} {B : List Nat} (h : OLst M l v B) : snapD M (q + 1) v = some (.slice 6 (l.map Nod.av)) := by
  rcases h with ⟨rfl, rfl, _⟩ | ⟨id, g, app, ty, cs', B', rfl, q2, q3, rfl⟩
  · rfl
  · have hs := oCel_snap q l ih q3
    have hl := oCel_len l q3
    simp only [snapD, q2, List.drop_zero, true_and]
    rw [if_pos (by omega), List.take_of_length_le (by omega), hs]
    simp [elems_nodC]
theorem snap_nod {M : Mem} : ∀ (n : Nod) (q : Nat) {cs : List AV} {B : List Nat}, ndep n < q → ONod M n cs B → cs.mapM (snapD M q) = some n.av.cells := by
  intro n
  induction n using Nod.ind with
  | h k d p s c i ih1 ih2 =>
  intro q cs B hq h
  obtain ⟨pv, iv, Bp, Bi, rfl, rfl, h1, h2⟩ := oNod_iff.1 h
  have hg : 1 ≤ ndep (.mk k d p s c i) := by rw [ndep_mk]; omega
  obtain ⟨q, rfl⟩ : ∃ p, q = p + 1 := ⟨q - 1, by omega⟩
  have e1 := oLst_snap q p (fun x hx cs B h => ih1 x hx q (by have := ndep_p (k := k) (d := d) (s := s) (c := c) (i := i) hx; omega) h) h1
  have e2 := oLst_snap q i (fun x hx cs B h => ih2 x hx q (by have := ndep_i (k := k) (d := d) (p := p) (s := s) (c := c) hx; omega) h) h2
  rw [Nod.av_mk]
  simp only [List.mapM_cons, List.mapM_nil, e1, e2, AV.cells]
  rfl
theorem snap_nl {M : Mem} {l : List Nod} {v : AV} {B : List Nat} (h : OLst M l v B) (hd : ∀ x ∈ l, ndep x ≤ 2000000) : snapD M 2097151 v = some (.slice 6 (l.map Nod.av)) :=
  oLst_snap 2097150 l (fun x hx cs B h => snap_nod x 2097150 (by have := hd x hx; omega) h) h
theorem ndep_ptrs {n x : Nod} (h : x ∈ n.ptrs) : ndep x < ndep n := by
  obtain ⟨k, d, p, s, c, i⟩ := n
  exact ndep_p h
theorem ndep_items {n x : Nod} (h : x ∈ n.items) : ndep x < ndep n := by
  obtain ⟨k, d, p, s, c, i⟩ := n
  exact ndep_i h
theorem snap_np {M : Mem} {n : Nod} {a0 a1 pv a3 a4 iv : AV} {B : List Nat} (h : ONod M n [a0, a1, pv, a3, a4, iv] B) (hd : ndep n ≤ 2000000) : snapD M 2097151 pv = some (.slice 6 (n.ptrs.map Nod.av)) := by
  obtain ⟨Bp, Bi, h1, h2, -⟩ := h.parts
  exact snap_nl h1 fun x hx => by have := ndep_ptrs hx; omega
theorem snap_ni {M : Mem} {n : Nod} {a0 a1 pv a3 a4 iv : AV} {B : List Nat} (h : ONod M n [a0, a1, pv, a3, a4, iv] B) (hd : ndep n ≤ 2000000) : snapD M 2097151 iv = some (.slice 6 (n.items.map Nod.av)) := by
  obtain ⟨Bp, Bi, h1, h2, -⟩ := h.parts
  exact snap_nl h2 fun x hx => by have := ndep_items hx; omega
/-- Blocks of one's own: each once, within bounds. -/
def Own (lo hi : Nat) (B : List Nat) : Prop := B.Nodup ∧ ∀ b ∈ B, lo ≤ b ∧ b < hi
theorem Own.nil (lo hi : Nat) : Own lo hi [] := ⟨List.nodup_nil, fun b h => by cases h⟩
theorem Own.wide {lo hi lo' hi' : Nat} {B : List Nat} (h : Own lo hi B) (h1 : lo' ≤ lo) (h2 : hi ≤ hi') : Own lo' hi' B := ⟨h.1, fun b hb => by have := h.2 b hb; omega⟩
theorem Own.app {lo mid hi : Nat} {A B : List Nat} (h1 : Own lo mid A) (h2 : Own mid hi B) (h : lo ≤ mid) (h' : mid ≤ hi) : Own lo hi (A ++ B) := by
  refine ⟨List.nodup_append.2 ⟨h1.1, h2.1, fun a ha b hb e => ?_⟩, fun b hb => ?_⟩
  · have := h1.2 a ha; have := h2.2 b hb; omega
  · rcases List.mem_append.1 hb with hb | hb
    · have := h1.2 b hb; omega
    · have := h2.2 b hb; omega
theorem Own.cons {lo hi x : Nat} {B : List Nat} (h : Own (x + 1) hi B) (h1 : lo ≤ x) (h2 : x < hi) : Own lo hi (x :: B) :=
  ⟨List.nodup_cons.2 ⟨fun hx => by have := h.2 x hx; omega, h.1⟩, fun b hb => by
    rcases List.mem_cons.1 hb with rfl | hb
    · omega
    · have := h.2 b hb; omega⟩
theorem splice6_at {a r : List AV} {c0 c1 c2 c3 c4 c5 x0 x1 x2 x3 x4 x5 : AV} {i : Nat} (h : a.length = i) : List.take i (a ++ c0 :: c1 :: c2 :: c3 :: c4 :: c5 :: r) ++ x0 :: x1 :: x2 :: x3 :: x4 :: x5 :: List.drop (i + 6) (a ++ c0 :: c1 :: c2 :: c3 :: c4 :: c5 :: r) = a ++ x0 :: x1 :: x2 :: x3 :: x4 :: x5 :: r := by
  subst h
  simp [List.drop_append]
end Go.Ev.Tryd
