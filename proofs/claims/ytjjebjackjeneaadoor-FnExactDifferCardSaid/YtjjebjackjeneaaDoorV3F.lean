/- Part of the proof of a statement about the given program: V3F. No condition of its own. -/
import Derived.Test.YtjjebjackjeneaaDoorV2F
namespace Go.Ev.Tryd
open Go.Proofs
set_option maxRecDepth 10000
set_option linter.unusedSimpArgs false
set_option linter.unusedVariables false
attribute [local congr] comes_congr bB_congr gK_congr gdK_congr

/-! ### data in blocks of one's own -/
def OStr (M : Mem) (ns : List ByteArray) (v : AV) (B : List Nat) : Prop :=
  (ns = [] ∧ v = .nils 1 ∧ B = []) ∨ ∃ id g app ty, v = .arr id g 0 ns.length 1 app ∧ M.sto id = ⟨ns.map AV.str, g, false, ty⟩ ∧ B = [id]
mutual
def ODat (M : Mem) : Dat → List AV → List Nat → Prop
  | .mk k n t l ns, cs, B => ∃ lv nv Bl Bn, cs = [.int .i64 k, .int .i64 n, .str t, lv, nv] ∧ B = Bl ++ Bn ∧ OStr M ns nv Bn ∧
    ((l = [] ∧ lv = .nils 5 ∧ Bl = []) ∨ ∃ id g app ty cs' B', lv = .arr id g 0 l.length 5 app ∧ M.sto id = ⟨cs', g, false, ty⟩ ∧ OCel M l cs' B' ∧ Bl = id :: B')
def OCel (M : Mem) : List Dat → List AV → List Nat → Prop
  | [], cs, B => cs = [] ∧ B = []
  | d :: l, cs, B => ∃ c1 B1 c2 B2, cs = c1 ++ c2 ∧ B = B1 ++ B2 ∧ ODat M d c1 B1 ∧ OCel M l c2 B2
end
def OLst (M : Mem) (l : List Dat) (lv : AV) (Bl : List Nat) : Prop :=
  (l = [] ∧ lv = .nils 5 ∧ Bl = []) ∨ ∃ id g app ty cs' B', lv = .arr id g 0 l.length 5 app ∧ M.sto id = ⟨cs', g, false, ty⟩ ∧ OCel M l cs' B' ∧ Bl = id :: B'
theorem oDat_iff {M : Mem} {k n : Int} {t : ByteArray} {l : List Dat} {ns : List ByteArray} {cs : List AV} {B : List Nat} : ODat M (.mk k n t l ns) cs B ↔ ∃ lv nv Bl Bn, cs = [.int .i64 k, .int .i64 n, .str t, lv, nv] ∧ B = Bl ++ Bn ∧ OStr M ns nv Bn ∧ OLst M l lv Bl := by
  rw [ODat]
  rfl
theorem oCel_nil {M : Mem} {cs : List AV} {B : List Nat} : OCel M [] cs B ↔ cs = [] ∧ B = [] := by rw [OCel]
theorem oCel_cons {M : Mem} {d : Dat} {l : List Dat} {cs : List AV} {B : List Nat} : OCel M (d :: l) cs B ↔ ∃ c1 B1 c2 B2, cs = c1 ++ c2 ∧ B = B1 ++ B2 ∧ ODat M d c1 B1 ∧ OCel M l c2 B2 := by rw [OCel]
theorem oCel_app {M : Mem} : ∀ (a b : List Dat) {cs : List AV} {B : List Nat}, OCel M (a ++ b) cs B ↔ ∃ c1 B1 c2 B2, cs = c1 ++ c2 ∧ B = B1 ++ B2 ∧ OCel M a c1 B1 ∧ OCel M b c2 B2
  | [], b, cs, B => by
    constructor
    · intro h; exact ⟨[], [], cs, B, rfl, rfl, oCel_nil.2 ⟨rfl, rfl⟩, h⟩
    · rintro ⟨c1, B1, c2, B2, rfl, rfl, h1, h2⟩
      obtain ⟨rfl, rfl⟩ := oCel_nil.1 h1
      exact h2
  | d :: a, b, cs, B => by
    rw [List.cons_append, oCel_cons]
    constructor
    · rintro ⟨c1, B1, c2, B2, rfl, rfl, h1, h2⟩
      obtain ⟨c3, B3, c4, B4, rfl, rfl, h3, h4⟩ := (oCel_app a b).1 h2
      exact ⟨c1 ++ c3, B1 ++ B3, c4, B4, by simp, by simp, oCel_cons.2 ⟨c1, B1, c3, B3, rfl, rfl, h1, h3⟩, h4⟩
    · rintro ⟨c1, B1, c2, B2, rfl, rfl, h1, h2⟩
      obtain ⟨c3, B3, c4, B4, rfl, rfl, h3, h4⟩ := oCel_cons.1 h1
      exact ⟨c3, B3, c4 ++ c2, B4 ++ B2, by simp, by simp, h3, (oCel_app a b).2 ⟨c4, B4, c2, B2, rfl, rfl, h4, h2⟩⟩
theorem oCel_one {M : Mem} {d : Dat} {cs : List AV} {B : List Nat} (h : ODat M d cs B) : OCel M [d] cs B := oCel_cons.2 ⟨cs, B, [], [], by simp, by simp, h, oCel_nil.2 ⟨rfl, rfl⟩⟩
theorem OStr.keep {M M' : Mem} {ns : List ByteArray} {v : AV} {B : List Nat} (h : OStr M ns v B) (e : ∀ b ∈ B, M'.sto b = M.sto b) : OStr M' ns v B := by
  rcases h with h | ⟨id, g, app, ty, h1, h2, h3⟩
  · exact .inl h
  · subst h3
    exact .inr ⟨id, g, app, ty, h1, by rw [e id (by simp)]; exact h2, rfl⟩
theorem oCel_keep {M M' : Mem} : ∀ (l : List Dat), (∀ x ∈ l, ∀ cs B, ODat M x cs B → (∀ b ∈ B, M'.sto b = M.sto b) → ODat M' x cs B) → ∀ cs B, OCel M l cs B → (∀ b ∈ B, M'.sto b = M.sto b) → OCel M' l cs B
  | [], _, cs, B, h, _ => oCel_nil.2 (oCel_nil.1 h)
  | d :: l, ih, cs, B, h, e => by
    obtain ⟨c1, B1, c2, B2, rfl, rfl, h1, h2⟩ := oCel_cons.1 h
    exact oCel_cons.2 ⟨c1, B1, c2, B2, rfl, rfl, ih d (by simp) _ _ h1 fun b hb => e b (List.mem_append_left _ hb), oCel_keep l (fun x hx => ih x (by simp [hx])) _ _ h2 fun b hb => e b (List.mem_append_right _ hb)⟩
theorem ODat.keep {M M' : Mem} : ∀ (d : Dat) {cs : List AV} {B : List Nat}, ODat M d cs B → (∀ b ∈ B, M'.sto b = M.sto b) → ODat M' d cs B := by
  intro d
  induction d using Dat.ind with
  | h k n t l ns ih =>
  intro cs B h e
  obtain ⟨lv, nv, Bl, Bn, rfl, rfl, h1, h2⟩ := oDat_iff.1 h
  refine oDat_iff.2 ⟨lv, nv, Bl, Bn, rfl, rfl, h1.keep fun b hb => e b (List.mem_append_right _ hb), ?_⟩
  rcases h2 with h2 | ⟨id, g, app, ty, cs', B', q1, q2, q3, rfl⟩
  · exact .inl h2
  · exact .inr ⟨id, g, app, ty, cs', B', q1, by rw [e id (by simp)]; exact q2, oCel_keep l (fun x hx cs B h e => ih x hx h e) _ _ q3 fun b hb => e b (by simp [hb]), rfl⟩
theorem OCel.keep {M M' : Mem} {l : List Dat} {cs : List AV} {B : List Nat} (h : OCel M l cs B) (e : ∀ b ∈ B, M'.sto b = M.sto b) : OCel M' l cs B := oCel_keep l (fun x _ _ _ h e => h.keep x e) _ _ h e
theorem OLst.keep {M M' : Mem} {l : List Dat} {v : AV} {B : List Nat} (h : OLst M l v B) (e : ∀ b ∈ B, M'.sto b = M.sto b) : OLst M' l v B := by
  rcases h with h2 | ⟨id, g, app, ty, cs', B', q1, q2, q3, rfl⟩
  · exact .inl h2
  · exact .inr ⟨id, g, app, ty, cs', B', q1, by rw [e id (by simp)]; exact q2, q3.keep fun b hb => e b (by simp [hb]), rfl⟩
theorem oCel_len {M : Mem} : ∀ (l : List Dat) {cs : List AV} {B : List Nat}, OCel M l cs B → cs.length = l.length * 5
  | [], cs, B, h => by obtain ⟨rfl, _⟩ := oCel_nil.1 h; rfl
  | .mk k n t l' ns :: l, cs, B, h => by
    obtain ⟨c1, B1, c2, B2, rfl, rfl, h1, h2⟩ := oCel_cons.1 h
    obtain ⟨lv, nv, Bl, Bn, rfl, _⟩ := oDat_iff.1 h1
    have := oCel_len l h2
    simp only [List.length_append, List.length_cons, List.length_nil, this]
    omega
theorem OStr.str {M : Mem} {ns : List ByteArray} {v : AV} {B : List Nat} (h : OStr M ns v B) : StrR M ns v B := by
  rcases h with h | ⟨id, g, app, ty, h1, h2, h3⟩
  · exact .inr (.inl h)
  · exact .inr (.inr ⟨id, g, app, h1, cells_at h2, h3⟩)
theorem oCel_cel {M : Mem} : ∀ (l : List Dat), (∀ x ∈ l, ∀ cs B, ODat M x cs B → DatR M x cs B) → ∀ cs B, OCel M l cs B → CelR M l cs B
  | [], _, cs, B, h => celR_nil.2 (oCel_nil.1 h)
  | d :: l, ih, cs, B, h => by
    obtain ⟨c1, B1, c2, B2, rfl, rfl, h1, h2⟩ := oCel_cons.1 h
    exact celR_cons.2 ⟨c1, B1, c2, B2, rfl, rfl, ih d (by simp) _ _ h1, oCel_cel l (fun x hx => ih x (by simp [hx])) _ _ h2⟩
theorem ODat.dat {M : Mem} : ∀ (d : Dat) {cs : List AV} {B : List Nat}, ODat M d cs B → DatR M d cs B := by
  intro d
  induction d using Dat.ind with
  | h k n t l ns ih =>
  intro cs B h
  obtain ⟨lv, nv, Bl, Bn, rfl, rfl, h1, h2⟩ := oDat_iff.1 h
  refine datR_iff.2 ⟨lv, nv, Bl, Bn, rfl, rfl, h1.str, ?_⟩
  rcases h2 with h2 | ⟨id, g, app, ty, cs', B', q1, q2, q3, rfl⟩
  · exact .inr (.inl h2)
  · exact .inr (.inr ⟨id, g, app, cs', B', q1, cells_at q2, oCel_cel l (fun x hx cs B h => ih x hx h) _ _ q3, rfl⟩)
theorem OLst.lst {M : Mem} {l : List Dat} {v : AV} {B : List Nat} (h : OLst M l v B) : LstR M l v B := by
  rcases h with h2 | ⟨id, g, app, ty, cs', B', q1, q2, q3, rfl⟩
  · exact .inr (.inl h2)
  · exact .inr (.inr ⟨id, g, app, cs', B', q1, cells_at q2, oCel_cel l (fun x hx cs B h => h.dat) _ _ q3, rfl⟩)
/-- Blocks of one's own: each once, within bounds. -/
def Own (lo hi : Nat) (B : List Nat) : Prop := B.Nodup ∧ ∀ b ∈ B, lo ≤ b ∧ b < hi
theorem Own.nil (lo hi : Nat) : Own lo hi [] := ⟨List.nodup_nil, fun b h => by cases h⟩
theorem Own.wide {lo hi lo' hi' : Nat} {B : List Nat} (h : Own lo hi B) (h1 : lo' ≤ lo) (h2 : hi ≤ hi') : Own lo' hi' B := ⟨h.1, fun b hb => by have := h.2 b hb; omega⟩
theorem Own.app {lo mid hi : Nat} {A B : List Nat} (h1 : Own lo mid A) (h2 : Own mid hi B) (h : lo ≤ mid) (h' : mid ≤ hi) : Own lo hi (A ++ B) := by
  refine ⟨List.nodup_append.2 ⟨h1.1, h2.1, fun a ha b hb e => ?_⟩, fun b hb => ?_⟩
  · have := h1.2 a ha; have := h2.2 b hb; omega
  · rcases List.mem_append.1 hb with hb | hb
    · have := h1.2 b hb; omega
    · have := h2.2 b hb; omega
theorem Own.cons {lo hi x : Nat} {B : List Nat} (h : Own (x + 1) hi B) (h1 : lo ≤ x) (h2 : x < hi) : Own lo hi (x :: B) :=
  ⟨List.nodup_cons.2 ⟨fun hx => by have := h.2 x hx; omega, h.1⟩, fun b hb => by
    rcases List.mem_cons.1 hb with rfl | hb
    · omega
    · have := h.2 b hb; omega⟩
theorem splice_at {a r : List AV} {c x : AV} {i : Nat} (h : a.length = i) : List.take i (a ++ c :: r) ++ x :: List.drop (i + 1) (a ++ c :: r) = a ++ x :: r := by
  subst h
  simp
theorem splice5_at {a r : List AV} {c0 c1 c2 c3 c4 x0 x1 x2 x3 x4 : AV} {i : Nat} (h : a.length = i) : List.take i (a ++ c0 :: c1 :: c2 :: c3 :: c4 :: r) ++ x0 :: x1 :: x2 :: x3 :: x4 :: List.drop (i + 5) (a ++ c0 :: c1 :: c2 :: c3 :: c4 :: r) = a ++ x0 :: x1 :: x2 :: x3 :: x4 :: r := by
  subst h
  simp [List.drop_append]

theorem toStrings_wp (ns : List ByteArray) (hn : ns.length ≤ 1099511627776) (m : Mem) (Q : AV × Mem → Prop)
    (hQ : ∀ v m' B, OStr m' ns v B → Own m.nid m'.nid B → m.nid ≤ m'.nid → (∀ j, j < m.nid → m'.sto j = m.sto j) → v.one = true → v.loud = false → v.cool = false → Q (v, m')) :
    Comes (fnI CC PR 19 [.slice 1 (ns.map AV.str)] m) Q := by
  refine fnI_wp (rs := [.tmp 2]) Tryd.func19 rfl rfl (Nat.le_of_ble_eq_true rfl) rfl rfl ?_
  have h1 : (((ns.length : Nat) : Int) ≤ (most : Int)) = True := eq_true (by simp only [most]; omega)
  have h2 : ((0 : Int) ≤ ((ns.length : Nat) : Int)) = True := eq_true (by omega)
  simp +decide only [go_sem, Nat.reduceAdd, Nat.reduceMul, Nat.reduceSub, Nat.reduceLT, Nat.reduceLeDiff, Nat.reduceEqDiff, Nat.add_assoc, Int.reduceAdd, Int.reduceSub, Int.reduceMul, Int.reduceLT, Int.reduceLE, Int.reduceEq, Int.reduceNeg, strOp_add, List.length_map, h1, h2]
  refine comes_upto ns.length (fun i st => st.env 0 = .slice 1 (ns.map AV.str) ∧ st.env 3 = .arr m.nid 0 0 ns.length 1 true ∧ st.env 4 = .int .i64 i ∧ st.nid = m.nid + 1 ∧ (∀ j, j < m.nid → st.sto j = m.sto j) ∧ ∃ a z, a = (ns.take i).map AV.str ∧ st.sto m.nid = ⟨a ++ z, 0, false, none⟩ ∧ z.length = ns.length - i) ?_ ?_ _ ?_
  · rintro i st hi ⟨e0, e3, e4, en, hfr, a, z, hae, hs, hz⟩
    have ha := strs_at hi
    have w1 : IntKind.wrap .i64 ((i : Int) + 1) = ((i + 1 : Nat) : Int) := wrap_succ (by omega)
    have hal : a.length = i := by rw [hae, List.length_map, List.length_take]; omega
    have htk : (ns.take (i + 1)).map AV.str = a ++ [.str ns[i]] := by rw [List.take_succ_eq_append_getElem hi, List.map_append, hae]; rfl
    cases z with
    | nil => rw [List.length_nil] at hz; omega
    | cons c z =>
    have hll : (i + 1 ≤ (a ++ c :: z).length) = True := eq_true (by rw [List.length_append, List.length_cons]; omega)
    have hsp := @splice_at a z c (.str ns[i]) i hal
    generalize ns[i] = x at *
    generalize hcs : a ++ c :: z = cs at *
    simp +decide only [go_sem, Nat.reduceAdd, Nat.reduceMul, Nat.reduceSub, Nat.reduceLT, Nat.reduceLeDiff, Nat.reduceEqDiff, Nat.add_assoc, Int.reduceAdd, Int.reduceSub, Int.reduceMul, Int.reduceLT, Int.reduceLE, Int.reduceEq, Int.reduceNeg, strOp_add, e0, e3, e4, hi, hs, ha, w1, hll, hsp, List.length_map]
    refine ⟨en, fun j hj => ?_, a ++ [.str x], z, htk.symm, by simp only [List.append_assoc, List.cons_append, List.nil_append, hsp], by rw [List.length_cons] at hz; omega⟩
    simp (disch := omega) only [upd_hit, upd_miss]
    exact hfr j hj
  · rintro st ⟨e0, e3, e4, en, hfr, a, z, hae, hs, hz⟩
    rw [List.take_length] at hae
    have hz0 : z = [] := List.eq_nil_of_length_eq_zero (by omega)
    subst hz0 hae
    rw [List.append_nil] at hs
    simp +decide only [go_sem, Nat.reduceAdd, Nat.reduceMul, Nat.reduceSub, Nat.reduceLT, Nat.reduceLeDiff, Nat.reduceEqDiff, Nat.add_assoc, Int.reduceAdd, Int.reduceSub, Int.reduceMul, Int.reduceLT, Int.reduceLE, Int.reduceEq, Int.reduceNeg, strOp_add, e0, e3, e4, List.length_map]
    exact hQ _ _ [m.nid] (.inr ⟨m.nid, 0, true, none, rfl, hs, rfl⟩) ⟨by simp, by simp; omega⟩ (by show m.nid ≤ st.nid; omega) hfr rfl rfl rfl
  · simp +decide only [go_sem, Nat.reduceAdd, Nat.reduceMul, Nat.reduceSub, Nat.reduceLT, Nat.reduceLeDiff, Nat.reduceEqDiff, Nat.add_assoc, Int.reduceAdd, Int.reduceSub, Int.reduceMul, Int.reduceLT, Int.reduceLE, Int.reduceEq, Int.reduceNeg, strOp_add]
    exact ⟨rfl, fun j hj => by simp (disch := omega) only [upd_hit, upd_miss], [], _, rfl, rfl, by simp⟩

set_option maxHeartbeats 2000000 in
theorem toDatums_wp (l : List Dat) (hl : l.length ≤ 1099511627776)
    (ih : ∀ x ∈ l, ∀ (m : Mem) (Q : AV × Mem → Prop), (∀ k n t lv nv m' B, ODat m' x [.int .i64 k, .int .i64 n, .str t, lv, nv] B → Own m.nid m'.nid B → m.nid ≤ m'.nid → (∀ j, j < m.nid → m'.sto j = m.sto j) → lv.one = true → nv.one = true → Q (.agg [.int .i64 k, .int .i64 n, .str t, lv, nv], m')) → Comes (fnI CC PR 8 [x.av] m) Q)
    (m : Mem) (Q : AV × Mem → Prop)
    (hQ : ∀ v m' B, OLst m' l v B → Own m.nid m'.nid B → m.nid ≤ m'.nid → (∀ j, j < m.nid → m'.sto j = m.sto j) → v.one = true → v.loud = false → v.cool = false → Q (v, m')) :
    Comes (fnI CC PR 27 [.slice 5 (l.map Dat.av)] m) Q := by
  refine fnI_wp (rs := [.tmp 2]) Tryd.func27 rfl rfl (Nat.le_of_ble_eq_true rfl) rfl rfl ?_
  have h1 : (((l.length : Nat) : Int) ≤ (most : Int)) = True := eq_true (by simp only [most]; omega)
  have h2 : ((0 : Int) ≤ ((l.length : Nat) : Int)) = True := eq_true (by omega)
  simp +decide only [go_sem, Nat.reduceAdd, Nat.reduceMul, Nat.reduceSub, Nat.reduceLT, Nat.reduceLeDiff, Nat.reduceEqDiff, Nat.add_assoc, Int.reduceAdd, Int.reduceSub, Int.reduceMul, Int.reduceLT, Int.reduceLE, Int.reduceEq, Int.reduceNeg, strOp_add, List.length_map, h1, h2]
  refine comes_upto l.length (fun i st => st.env 0 = .slice 5 (l.map Dat.av) ∧ st.env 3 = .arr m.nid 0 0 l.length 5 true ∧ st.env 4 = .int .i64 i ∧ m.nid + 1 ≤ st.nid ∧ (∀ j, j < m.nid → st.sto j = m.sto j) ∧ ∃ a z B, OCel st.toMem (l.take i) a B ∧ Own (m.nid + 1) st.nid B ∧ st.sto m.nid = ⟨a ++ z, 0, false, none⟩ ∧ z.length = (l.length - i) * 5) ?_ ?_ _ ?_
  · rintro i st hi ⟨e0, e3, e4, en, hfr, a, z, B, hO, hB, hs, hz⟩
    have ha := av_at hi
    have w1 : IntKind.wrap .i64 ((i : Int) + 1) = ((i + 1 : Nat) : Int) := wrap_succ (by omega)
    have hal : a.length = i * 5 := by rw [oCel_len _ hO, List.length_take, Nat.min_eq_left (by omega)]
    have hq := ih _ (List.getElem_mem hi)
    obtain ⟨c0, c1, c2, c3, c4, z, rfl⟩ : ∃ c0 c1 c2 c3 c4 z', z = c0 :: c1 :: c2 :: c3 :: c4 :: z' := by
      match z, hz with
      | [], h => simp at h; omega
      | [_], h => simp at h; omega
      | [_, _], h => simp at h; omega
      | [_, _, _], h => simp at h; omega
      | [_, _, _, _], h => simp at h; omega
      | _ :: _ :: _ :: _ :: _ :: z', _ => exact ⟨_, _, _, _, _, z', rfl⟩
    have hll : (i * 5 + 5 ≤ (a ++ c0 :: c1 :: c2 :: c3 :: c4 :: z).length) = True := eq_true (by simp only [List.length_append, List.length_cons]; omega)
    have hsp := fun x0 x1 x2 x3 x4 => @splice5_at a z c0 c1 c2 c3 c4 x0 x1 x2 x3 x4 (i * 5) hal
    have htk := List.take_succ_eq_append_getElem hi
    generalize l[i] = x at *
    obtain ⟨k2, n2, t2, l2, ns2, hcs⟩ := cells_of x
    rw [hcs] at ha hq
    generalize hcc : a ++ c0 :: c1 :: c2 :: c3 :: c4 :: z = cs at *
    simp +decide only [go_sem, Nat.reduceAdd, Nat.reduceMul, Nat.reduceSub, Nat.reduceLT, Nat.reduceLeDiff, Nat.reduceEqDiff, Nat.add_assoc, Int.reduceAdd, Int.reduceSub, Int.reduceMul, Int.reduceLT, Int.reduceLE, Int.reduceEq, Int.reduceNeg, strOp_add, e0, e3, e4, hi, hs, ha, w1, List.length_map]
    refine hq _ _ fun k n t lv nv m' B' q1 q2 q3 q4 q5 q6 => ?_
    have hs' := (q4 m.nid (by show m.nid < st.nid; omega)).trans hs
    simp only [AV.one] at q5 q6
    simp +decide only [go_sem, Nat.reduceAdd, Nat.reduceMul, Nat.reduceSub, Nat.reduceLT, Nat.reduceLeDiff, Nat.reduceEqDiff, Nat.add_assoc, Int.reduceAdd, Int.reduceSub, Int.reduceMul, Int.reduceLT, Int.reduceLE, Int.reduceEq, Int.reduceNeg, strOp_add, e0, e3, e4, hi, hs', hll, hsp, w1, q5, q6, List.length_map]
    have q3' : st.nid ≤ m'.nid := q3
    refine ⟨by omega, fun j hj => ?_, a ++ [.int .i64 k, .int .i64 n, .str t, lv, nv], z, B ++ B', ?_, ?_, by simp only [List.append_assoc, List.cons_append, List.nil_append, hsp], ?_⟩
    · simp (disch := omega) only [upd_hit, upd_miss]
      exact (q4 j (by show j < st.nid; omega)).trans (hfr j hj)
    · rw [htk]
      refine (oCel_app _ _).2 ⟨a, B, _, B', rfl, rfl, hO.keep fun b hb => ?_, oCel_one (q1.keep _ fun b hb => ?_)⟩
      · have := hB.2 b hb
        show upd _ _ _ _ = _
        simp (disch := omega) only [upd_hit, upd_miss]
        exact q4 b (by show b < st.nid; omega)
      · have h5 : st.nid ≤ b := (q2.2 b hb).1
        show upd _ _ _ _ = _
        simp (disch := omega) only [upd_hit, upd_miss]
    · exact hB.app q2 en q3'
    · simp only [List.length_cons] at hz
      omega
  · rintro st ⟨e0, e3, e4, en, hfr, a, z, B, hO, hB, hs, hz⟩
    rw [List.take_length] at hO
    have hz0 : z = [] := List.eq_nil_of_length_eq_zero (by rw [hz, Nat.sub_self, Nat.zero_mul])
    subst hz0
    rw [List.append_nil] at hs
    simp +decide only [go_sem, Nat.reduceAdd, Nat.reduceMul, Nat.reduceSub, Nat.reduceLT, Nat.reduceLeDiff, Nat.reduceEqDiff, Nat.add_assoc, Int.reduceAdd, Int.reduceSub, Int.reduceMul, Int.reduceLT, Int.reduceLE, Int.reduceEq, Int.reduceNeg, strOp_add, e0, e3, e4, List.length_map]
    exact hQ _ _ (m.nid :: B) (.inr ⟨m.nid, 0, true, none, a, B, rfl, hs, hO, rfl⟩) (hB.cons (Nat.le_refl _) en) (by show m.nid ≤ st.nid; omega) hfr rfl rfl rfl
  · simp +decide only [go_sem, Nat.reduceAdd, Nat.reduceMul, Nat.reduceSub, Nat.reduceLT, Nat.reduceLeDiff, Nat.reduceEqDiff, Nat.add_assoc, Int.reduceAdd, Int.reduceSub, Int.reduceMul, Int.reduceLT, Int.reduceLE, Int.reduceEq, Int.reduceNeg, strOp_add]
    exact ⟨rfl, Nat.le_refl _, fun j hj => by simp (disch := omega) only [upd_hit, upd_miss], [], _, [], oCel_nil.2 ⟨rfl, rfl⟩, Own.nil _ _, rfl, by simp⟩
end Go.Ev.Tryd
