/- Part of the proof of a statement about the given program: X1F. No condition of its own. -/
import Derived.Test.YtjjebjackjeneaaDoorD4F
namespace Go.Ev.Tryd
open Go.Proofs
set_option maxRecDepth 10000
set_option linter.unusedSimpArgs false
set_option linter.unusedVariables false

/-- The same cells, as often appended to. -/
def Same (a b : Blk) : Prop := a.cells = b.cells ∧ a.gen = b.gen
theorem Same.rfl' (a : Blk) : Same a a := ⟨rfl, rfl⟩
/-- What a block holds. -/
def CellsAt (M : Mem) (b g : Nat) (cs : List AV) : Prop := (M.sto b).cells = cs ∧ (M.sto b).gen = g
theorem cells_at {M : Mem} {b g : Nat} {cs : List AV} {fz : Bool} {ty : Option (TypeId × Bool)} (h : M.sto b = ⟨cs, g, fz, ty⟩) : CellsAt M b g cs := by
  unfold CellsAt
  rw [h]
  exact ⟨rfl, rfl⟩
theorem CellsAt.keep {M M' : Mem} {b g : Nat} {cs : List AV} (h : CellsAt M b g cs) (e : M'.sto b = M.sto b) : CellsAt M' b g cs := by
  unfold CellsAt at h ⊢
  rw [e]
  exact h
theorem CellsAt.same {M M' : Mem} {b g : Nat} {cs : List AV} (h : CellsAt M b g cs) (e : Same (M'.sto b) (M.sto b)) : CellsAt M' b g cs := by
  obtain ⟨h1, h2⟩ := h
  exact ⟨e.1.trans h1, e.2.trans h2⟩

/-- Texts in memory: a slice's value, and its blocks. -/
def StrR (M : Mem) (ns : List ByteArray) (v : AV) (B : List Nat) : Prop :=
  (v = .slice 1 (ns.map AV.str) ∧ B = []) ∨ (ns = [] ∧ v = .nils 1 ∧ B = []) ∨ ∃ id g app, v = .arr id g 0 ns.length 1 app ∧ CellsAt M id g (ns.map AV.str) ∧ B = [id]
mutual
/-- Data in memory: a value's cells, and its blocks. -/
def DatR (M : Mem) : Dat → List AV → List Nat → Prop
  | .mk k n t l ns, cs, B => ∃ lv nv Bl Bn, cs = [.int .i64 k, .int .i64 n, .str t, lv, nv] ∧ B = Bl ++ Bn ∧ StrR M ns nv Bn ∧
    ((lv = .slice 5 (l.map Dat.av) ∧ Bl = []) ∨ (l = [] ∧ lv = .nils 5 ∧ Bl = []) ∨ ∃ id g app cs' B', lv = .arr id g 0 l.length 5 app ∧ CellsAt M id g cs' ∧ CelR M l cs' B' ∧ Bl = id :: B')
def CelR (M : Mem) : List Dat → List AV → List Nat → Prop
  | [], cs, B => cs = [] ∧ B = []
  | d :: l, cs, B => ∃ c1 B1 c2 B2, cs = c1 ++ c2 ∧ B = B1 ++ B2 ∧ DatR M d c1 B1 ∧ CelR M l c2 B2
end
/-- A slice of data in memory. -/
def LstR (M : Mem) (l : List Dat) (lv : AV) (Bl : List Nat) : Prop :=
  (lv = .slice 5 (l.map Dat.av) ∧ Bl = []) ∨ (l = [] ∧ lv = .nils 5 ∧ Bl = []) ∨ ∃ id g app cs' B', lv = .arr id g 0 l.length 5 app ∧ CellsAt M id g cs' ∧ CelR M l cs' B' ∧ Bl = id :: B'
theorem datR_iff {M : Mem} {k n : Int} {t : ByteArray} {l : List Dat} {ns : List ByteArray} {cs : List AV} {B : List Nat} : DatR M (.mk k n t l ns) cs B ↔ ∃ lv nv Bl Bn, cs = [.int .i64 k, .int .i64 n, .str t, lv, nv] ∧ B = Bl ++ Bn ∧ StrR M ns nv Bn ∧ LstR M l lv Bl := by
  rw [DatR]
  rfl
theorem celR_nil {M : Mem} {cs : List AV} {B : List Nat} : CelR M [] cs B ↔ cs = [] ∧ B = [] := by rw [CelR]
theorem celR_cons {M : Mem} {d : Dat} {l : List Dat} {cs : List AV} {B : List Nat} : CelR M (d :: l) cs B ↔ ∃ c1 B1 c2 B2, cs = c1 ++ c2 ∧ B = B1 ++ B2 ∧ DatR M d c1 B1 ∧ CelR M l c2 B2 := by rw [CelR]
theorem StrR.same {M M' : Mem} {ns : List ByteArray} {v : AV} {B : List Nat} (h : StrR M ns v B) (e : ∀ b ∈ B, Same (M'.sto b) (M.sto b)) : StrR M' ns v B := by
  rcases h with h | h | ⟨id, g, app, h1, h2, h3⟩
  · exact .inl h
  · exact .inr (.inl h)
  · subst h3
    exact .inr (.inr ⟨id, g, app, h1, h2.same (e id (List.mem_singleton.2 rfl)), rfl⟩)
theorem celR_same {M M' : Mem} : ∀ (l : List Dat), (∀ x ∈ l, ∀ cs B, DatR M x cs B → (∀ b ∈ B, Same (M'.sto b) (M.sto b)) → DatR M' x cs B) → ∀ cs B, CelR M l cs B → (∀ b ∈ B, Same (M'.sto b) (M.sto b)) → CelR M' l cs B
  | [], _, cs, B, h, _ => celR_nil.2 (celR_nil.1 h)
  | d :: l, ih, cs, B, h, e => by
    obtain ⟨c1, B1, c2, B2, rfl, rfl, h1, h2⟩ := celR_cons.1 h
    exact celR_cons.2 ⟨c1, B1, c2, B2, rfl, rfl, ih d (by simp) _ _ h1 fun b hb => e b (List.mem_append_left _ hb), celR_same l (fun x hx => ih x (by simp [hx])) _ _ h2 fun b hb => e b (List.mem_append_right _ hb)⟩
theorem DatR.same {M M' : Mem} : ∀ (d : Dat) {cs : List AV} {B : List Nat}, DatR M d cs B → (∀ b ∈ B, Same (M'.sto b) (M.sto b)) → DatR M' d cs B := by
  intro d
  induction d using Dat.ind with
  | h k n t l ns ih =>
  intro cs B h e
  obtain ⟨lv, nv, Bl, Bn, rfl, rfl, h1, h2⟩ := datR_iff.1 h
  refine datR_iff.2 ⟨lv, nv, Bl, Bn, rfl, rfl, h1.same fun b hb => e b (List.mem_append_right _ hb), ?_⟩
  rcases h2 with h2 | h2 | ⟨id, g, app, cs', B', q1, q2, q3, rfl⟩
  · exact .inl h2
  · exact .inr (.inl h2)
  · exact .inr (.inr ⟨id, g, app, cs', B', q1, q2.same (e id (by simp)), celR_same l (fun x hx cs B h e => ih x hx h e) _ _ q3 fun b hb => e b (by simp [hb]), rfl⟩)
theorem CelR.same {M M' : Mem} {l : List Dat} {cs : List AV} {B : List Nat} (h : CelR M l cs B) (e : ∀ b ∈ B, Same (M'.sto b) (M.sto b)) : CelR M' l cs B := celR_same l (fun x _ _ _ h e => h.same x e) _ _ h e
theorem LstR.same {M M' : Mem} {l : List Dat} {v : AV} {B : List Nat} (h : LstR M l v B) (e : ∀ b ∈ B, Same (M'.sto b) (M.sto b)) : LstR M' l v B := by
  rcases h with h2 | h2 | ⟨id, g, app, cs', B', q1, q2, q3, rfl⟩
  · exact .inl h2
  · exact .inr (.inl h2)
  · exact .inr (.inr ⟨id, g, app, cs', B', q1, q2.same (e id (by simp)), q3.same fun b hb => e b (by simp [hb]), rfl⟩)
theorem celR_len {M : Mem} : ∀ (l : List Dat) {cs : List AV} {B : List Nat}, CelR M l cs B → cs.length = l.length * 5
  | [], cs, B, h => by obtain ⟨rfl, _⟩ := celR_nil.1 h; rfl
  | .mk k n t l' ns :: l, cs, B, h => by
    obtain ⟨c1, B1, c2, B2, rfl, rfl, h1, h2⟩ := celR_cons.1 h
    obtain ⟨lv, nv, Bl, Bn, rfl, _⟩ := datR_iff.1 h1
    have := celR_len l h2
    simp only [List.length_append, List.length_cons, List.length_nil, this]
    omega
theorem celR_snoc {M : Mem} : ∀ (l : List Dat) {cs c : List AV} {B B1 : List Nat} {d : Dat}, CelR M l cs B → DatR M d c B1 → CelR M (l ++ [d]) (cs ++ c) (B ++ B1)
  | [], cs, c, B, B1, d, h, hd => by
    obtain ⟨rfl, rfl⟩ := celR_nil.1 h
    exact celR_cons.2 ⟨c, B1, [], [], by simp, by simp, hd, celR_nil.2 ⟨rfl, rfl⟩⟩
  | x :: l, cs, c, B, B1, d, h, hd => by
    obtain ⟨c1, B2, c2, B3, rfl, rfl, h1, h2⟩ := celR_cons.1 h
    exact celR_cons.2 ⟨c1, B2, c2 ++ c, B3 ++ B1, by simp, by simp, h1, celR_snoc l h2 hd⟩
/-- How deep data is; out of reach where a tree has not as many names as parts. -/
def hgt : Dat → Nat
  | .mk k _ _ l ns => 1 + (l.map hgt).foldr max 0 + (if k = 4 ∧ ¬ ns.length = l.length then 1000000000 else 0)
theorem foldr_max {α : Type} (f : α → Nat) : ∀ (l : List α) (x : α), x ∈ l → f x ≤ (l.map f).foldr max 0
  | y :: l, x, h => by
    simp only [List.map_cons, List.foldr_cons]
    rcases List.mem_cons.1 h with rfl | h
    · exact Nat.le_max_left _ _
    · exact Nat.le_trans (foldr_max f l x h) (Nat.le_max_right _ _)
theorem hgt_lt {k n : Int} {t : ByteArray} {l : List Dat} {ns : List ByteArray} {x : Dat} (h : x ∈ l) : hgt x < hgt (.mk k n t l ns) := by
  rw [hgt.eq_1 k n t l ns]
  have := foldr_max hgt l x h
  omega
theorem snap_strR {M : Mem} {ns : List ByteArray} {v : AV} {B : List Nat} (h : StrR M ns v B) (q : Nat) : snapD M (q + 2) v = some (.slice 1 (ns.map AV.str)) := by
  rcases h with ⟨rfl, _⟩ | ⟨rfl, rfl, _⟩ | ⟨id, g, app, rfl, ⟨h1, h2⟩, _⟩
  · rfl
  · rfl
  · simp only [snapD, h1, h2, List.drop_zero, true_and, Nat.mul_one]
    rw [if_pos (by rw [List.length_map]; exact Nat.le_refl _), List.take_of_length_le (by rw [List.length_map]; exact Nat.le_refl _), snaps_strs]
    simp [elems_strs]
theorem mapM_app {α β : Type} (f : α → Option β) : ∀ (a b : List α) (x y : List β), a.mapM f = some x → b.mapM f = some y → (a ++ b).mapM f = some (x ++ y)
  | [], b, x, y, h1, h2 => by simp at h1; subst h1; simpa using h2
  | c :: a, b, x, y, h1, h2 => by
    simp only [List.mapM_cons, Option.bind_eq_bind, Option.bind_eq_some_iff, Option.pure_def, Option.some.injEq] at h1
    obtain ⟨z, hz, x', hx', rfl⟩ := h1
    rw [List.cons_append, List.mapM_cons, hz, mapM_app f a b x' y hx' h2]
    rfl
theorem celR_snap {M : Mem} (q : Nat) : ∀ (l : List Dat), (∀ x ∈ l, ∀ cs B, DatR M x cs B → cs.mapM (snapD M q) = some x.av.cells) → ∀ {cs : List AV} {B : List Nat}, CelR M l cs B → cs.mapM (snapD M q) = some (datC l)
  | [], _, cs, B, h => by obtain ⟨rfl, _⟩ := celR_nil.1 h; rfl
  | d :: l, ih, cs, B, h => by
    obtain ⟨c1, B1, c2, B2, rfl, rfl, h1, h2⟩ := celR_cons.1 h
    rw [mapM_app _ _ _ _ _ (ih d (by simp) _ _ h1) (celR_snap q l (fun x hx => ih x (by simp [hx])) h2)]
    simp [datC]
theorem snap_datR {M : Mem} : ∀ (d : Dat) (q : Nat) {cs : List AV} {B : List Nat}, hgt d < q → DatR M d cs B → cs.mapM (snapD M q) = some d.av.cells := by
  intro d
  induction d using Dat.ind with
  | h k n t l ns ih =>
  intro q cs B hq h
  obtain ⟨lv, nv, Bl, Bn, rfl, rfl, h1, h2⟩ := datR_iff.1 h
  have hg : 1 ≤ hgt (.mk k n t l ns) := by rw [hgt]; omega
  obtain ⟨q, rfl⟩ : ∃ p, q = p + 2 := ⟨q - 2, by omega⟩
  have e1 := snap_strR h1 q
  have e2 : snapD M (q + 2) lv = some (.slice 5 (l.map Dat.av)) := by
    rcases h2 with ⟨rfl, _⟩ | ⟨rfl, rfl, _⟩ | ⟨id, g, app, cs', B', rfl, ⟨q1, q2⟩, q3, rfl⟩
    · rfl
    · rfl
    · have hs := celR_snap (q + 1) l (fun x hx cs B h => ih x hx (q + 1) (by have := hgt_lt (k := k) (n := n) (t := t) (ns := ns) hx; omega) h) q3
      have hl := celR_len l q3
      simp only [snapD, q1, q2, List.drop_zero, true_and]
      rw [if_pos (by omega), List.take_of_length_le (by omega), hs]
      simp [elems_datC]
  rw [Dat.av_mk]
  simp only [List.mapM_cons, List.mapM_nil, e1, e2, AV.cells]
  rfl
theorem snap_lstR {M : Mem} {l : List Dat} {v : AV} {B : List Nat} (h : LstR M l v B) (q : Nat) (hq : ∀ x ∈ l, hgt x < q + 1) : snapD M (q + 2) v = some (.slice 5 (l.map Dat.av)) := by
  rcases h with ⟨rfl, _⟩ | ⟨rfl, rfl, _⟩ | ⟨id, g, app, cs', B', rfl, ⟨q1, q2⟩, q3, rfl⟩
  · rfl
  · rfl
  · have hs := celR_snap (q + 1) l (fun x hx cs B h => snap_datR x (q + 1) (hq x hx) h) q3
    have hl := celR_len l q3
    simp only [snapD, q1, q2, List.drop_zero, true_and]
    rw [if_pos (by omega), List.take_of_length_le (by omega), hs]
    simp [elems_datC]
theorem lstR_one {M : Mem} {l : List Dat} {v : AV} {B : List Nat} (h : LstR M l v B) : v.one = true := by
  rcases h with ⟨rfl, _⟩ | ⟨_, rfl, _⟩ | ⟨_, _, _, _, _, rfl, _⟩ <;> rfl
theorem strR_one {M : Mem} {l : List ByteArray} {v : AV} {B : List Nat} (h : StrR M l v B) : v.one = true := by
  rcases h with ⟨rfl, _⟩ | ⟨_, rfl, _⟩ | ⟨_, _, _, rfl, _⟩ <;> rfl
theorem celR_one {M : Mem} : ∀ (l : List Dat) {cs : List AV} {B : List Nat}, CelR M l cs B → ∀ c ∈ cs, c.one = true
  | [], cs, B, h, c, hc => by obtain ⟨rfl, _⟩ := celR_nil.1 h; cases hc
  | .mk k n t l' ns :: l, cs, B, h, c, hc => by
    obtain ⟨c1, B1, c2, B2, rfl, rfl, h1, h2⟩ := celR_cons.1 h
    obtain ⟨lv, nv, Bl, Bn, rfl, rfl, h3, h4⟩ := datR_iff.1 h1
    rcases List.mem_append.1 hc with hc | hc
    · simp only [List.mem_cons, List.mem_nil_iff, or_false] at hc
      rcases hc with rfl | rfl | rfl | rfl | rfl
      · rfl
      · rfl
      · rfl
      · rcases h4 with ⟨rfl, _⟩ | ⟨_, rfl, _⟩ | ⟨_, _, _, _, _, rfl, _⟩ <;> rfl
      · rcases h3 with ⟨rfl, _⟩ | ⟨_, rfl, _⟩ | ⟨_, _, _, rfl, _⟩ <;> rfl
    · exact celR_one l h2 c hc
theorem datR_plain (M : Mem) (d : Dat) : DatR M d d.av.cells [] := by
  obtain ⟨k, n, t, l, ns⟩ := d
  rw [Dat.av_mk]
  exact datR_iff.2 ⟨_, _, [], [], rfl, rfl, .inl ⟨rfl, rfl⟩, .inl ⟨rfl, rfl⟩⟩
theorem celR_plain (M : Mem) : ∀ l : List Dat, CelR M l (datC l) []
  | [] => celR_nil.2 ⟨rfl, rfl⟩
  | d :: l => celR_cons.2 ⟨d.av.cells, [], datC l, [], by simp [datC], rfl, datR_plain M d, celR_plain M l⟩
theorem hgt_le {k n : Int} {t : ByteArray} {l : List Dat} {ns : List ByteArray} {H : Nat} (h : ∀ d ∈ l, hgt d ≤ H) (hk : k = 4 → ns.length = l.length) : hgt (.mk k n t l ns) ≤ H + 1 := by
  rw [hgt.eq_1 k n t l ns, if_neg fun h => h.2 (hk h.1)]
  have key : ∀ l : List Dat, (∀ d ∈ l, hgt d ≤ H) → (l.map hgt).foldr max 0 ≤ H := by
    intro l
    induction l with
    | nil => intro _; exact Nat.zero_le _
    | cons d l ih =>
      intro h
      simp only [List.map_cons, List.foldr_cons]
      exact Nat.max_le.2 ⟨h d (by simp), ih fun x hx => h x (by simp [hx])⟩
  have := key l h
  omega
theorem lstR_dats {M : Mem} {lo : Nat} {v : AV} {l : List Dat} (h : DatsAt M lo v l) : ∃ B, LstR M l v B ∧ ∀ b ∈ B, lo ≤ b ∧ b < M.nid := by
  rcases h with ⟨rfl, rfl⟩ | ⟨id, g, h1, h2, rfl, ty, h3⟩
  · exact ⟨[], .inr (.inl ⟨rfl, rfl, rfl⟩), by simp⟩
  · exact ⟨[id], .inr (.inr ⟨id, g, true, datC l, [], rfl, cells_at h3, celR_plain M l, rfl⟩), by simp; exact ⟨h1, h2⟩⟩
end Go.Ev.Tryd
