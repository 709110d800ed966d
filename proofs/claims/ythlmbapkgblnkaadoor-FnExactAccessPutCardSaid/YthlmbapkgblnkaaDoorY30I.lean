/- Part of the proof of a statement about the given program: Y30I. No condition of its own. -/
import Derived.Test.YthlmbapkgblnkaaDoorY1I
import Derived.Test.YthlmbapkgblnkaaDoorSI
import Derived.Deep.Strs
import Derived.Deep.Fields
namespace Go.Ev.Tryd
open Go.Proofs Go.ChangeShapes Go.Deep
set_option linter.unusedSimpArgs false
set_option linter.unusedVariables false

/-- A slice whose cells lie in the world. -/
theorem rep_cells {w : World} {a : Addr} {n cap sz : Nat} {xs : List AV} (hn : xs.length = n) (hsz : 0 < sz) (hs : ∀ x ∈ xs, x.cells.length = sz) (hnc : n ≤ cap) (h1 : ∀ c ∈ flat xs, c.one = true)
    (hc : ∀ (j : Nat) c, (flat xs)[j]? = some c → ∃ v, w.cell? (a.add j) = some v ∧ Rep (Gh.ofWorld w) v c) : Rep (Gh.ofWorld w) (.slice (some a) n cap) (.slice sz xs) := by
  cases xs with
  | nil =>
    simp only [List.length_nil] at hn
    subst hn
    exact .sliceE _ _ _ _
  | cons x xs =>
    obtain ⟨b, off, spot⟩ := a
    have hpos : 0 < (flat (x :: xs)).length := by
      have := hs x (by simp)
      unfold flat
      simp only [List.map_cons, List.flatten_cons, List.length_append]
      omega
    have hsp : spot = none := by
      obtain ⟨v, this, _⟩ := hc 0 _ (List.getElem?_eq_getElem hpos)
      cases spot with
      | none => rfl
      | some s =>
        exfalso
        simp only [World.cell?] at this
        split at this
        · first
            | (simp [Addr.add] at this; done)
            | (simp at this)
        · cases this
    subst hsp
    have key : ∀ (j : Nat) v, ((List.range (flat (x :: xs)).length).map fun j => (w.cell? (Addr.add ⟨b, off, none⟩ j)).getD Go.undef)[j]? = some v → ∀ c, (flat (x :: xs))[j]? = some c → w.cell? (Addr.add ⟨b, off, none⟩ j) = some v ∧ Rep (Gh.ofWorld w) v c := by
      intro j v hv c hcc
      obtain ⟨u, hu, hr⟩ := hc j c hcc
      have hj := (List.getElem?_eq_some_iff.1 hcc).1
      rw [List.getElem?_map, List.getElem?_range hj, Option.map_some, hu, Option.getD_some, Option.some.injEq] at hv
      subst hv
      exact ⟨hu, hr⟩
    refine .slice _ b off n cap sz _ ((List.range (flat (x :: xs)).length).map fun j => (w.cell? (Addr.add ⟨b, off, none⟩ j)).getD Go.undef) hn hnc hs (by simp) (fun j v hv => ?_) h1 (fun j v c hv hcc => (key j v hv c hcc).2)
    have hj : j < (flat (x :: xs)).length := by
      have := (List.getElem?_eq_some_iff.1 hv).1
      simpa using this
    have := (key j v hv _ (List.getElem?_eq_getElem hj)).1
    rw [add_addr] at this
    exact ofWorld_cell this
variable {H : Type} {enc : TypeId × Value → H} {w : World} {spare : Nat → Bool} {held : Bool}
theorem trod_agg6 {P : Program} {t : TypeId} {f0 f1 f2 f3 f4 f5 : Field} {fuel : Nat} {cs : List Value} {x : DataW H × List MemPlace} (hs : P.underlying t = some (.struct #[f0, f1, f2, f3, f4, f5])) (hone : oneCellFields P #[f0, f1, f2, f3, f4, f5] = true) (hC : P.cellsOf t = 6)
    (h : DataW.trod enc P w 0 spare held fuel t cs = some x) :
    ∃ (c0 c1 c2 c3 c4 c5 : Value) (y0 y1 y2 y3 y4 y5 : DataW H × List MemPlace) (n : Nat), fuel = n + 1 ∧ cs = [c0, c1, c2, c3, c4, c5] ∧ DataW.trod enc P w 0 spare held n f0.type [c0] = some y0 ∧ DataW.trod enc P w 0 spare held n f1.type [c1] = some y1 ∧ DataW.trod enc P w 0 spare held n f2.type [c2] = some y2 ∧ DataW.trod enc P w 0 spare held n f3.type [c3] = some y3 ∧ DataW.trod enc P w 0 spare held n f4.type [c4] = some y4 ∧ DataW.trod enc P w 0 spare held n f5.type [c5] = some y5 := by
  obtain ⟨xs, n, hn, hx, hl, hlen, hg⟩ := DataW.trod_struct hs h
  match cs, hl.trans hC with
  | [c0, c1, c2, c3, c4, c5], _ =>
    obtain ⟨o0, k0⟩ := hone_of hone 0 f0 rfl
    obtain ⟨o1, k1⟩ := hone_of hone 1 f1 rfl
    obtain ⟨o2, k2⟩ := hone_of hone 2 f2 rfl
    obtain ⟨o3, k3⟩ := hone_of hone 3 f3 rfl
    obtain ⟨o4, k4⟩ := hone_of hone 4 f4 rfl
    obtain ⟨o5, k5⟩ := hone_of hone 5 f5 rfl
    match xs, hlen with
    | [y0, y1, y2, y3, y4, y5], _ =>
      exact ⟨c0, c1, c2, c3, c4, c5, y0, y1, y2, y3, y4, y5, n, hn, rfl, by simpa [o0, k0] using hg 0 f0 rfl, by simpa [o1, k1] using hg 1 f1 rfl, by simpa [o2, k2] using hg 2 f2 rfl, by simpa [o3, k3] using hg 3 f3 rfl, by simpa [o4, k4] using hg 4 f4 rfl, by simpa [o5, k5] using hg 5 f5 rfl⟩
instance : Inhabited Nod := ⟨.mk 0 ⟨#[]⟩ [] 0 0 []⟩
/-- Each cell of the one is one of the other. -/
def RepC (w : World) (vs : List Value) (cs : List AV) : Prop := vs.length = cs.length ∧ ∀ (j : Nat) v c, vs[j]? = some v → cs[j]? = some c → Rep (Gh.ofWorld w) v c
theorem nodC_at : ∀ (l : List Nod) (j : Nat) (c : AV), (nodC l)[j]? = some c → ∃ d, l[j / 6]? = some d ∧ d.av.cells[j % 6]? = some c
  | [], j, c, h => by simp [nodC] at h
  | d :: l, j, c, h => by
    have hd : d.av.cells.length = 6 := by rw [nav_eta d]; rfl
    have hdc : nodC (d :: l) = d.av.cells ++ nodC l := by simp [nodC]
    rw [hdc] at h
    by_cases hj : j < 6
    · rw [List.getElem?_append_left (by omega)] at h
      refine ⟨d, ?_, ?_⟩
      · rw [show j / 6 = 0 by omega]; rfl
      · rw [show j % 6 = j by omega]; exact h
    · rw [List.getElem?_append_right (by omega), hd] at h
      obtain ⟨x, h1, h2⟩ := nodC_at l (j - 6) c h
      refine ⟨x, ?_, ?_⟩
      · rw [show j / 6 = (j - 6) / 6 + 1 by omega]; exact h1
      · rw [show j % 6 = (j - 6) % 6 by omega]; exact h2
/-- A list of nodes, read; each node by what is known of its cells. -/
theorem nods_of {n : Nat} (ih : ∀ m, m < n → ∀ (c0 c1 c2 c3 c4 c5 : Value) (y0 y1 y2 y3 y4 y5 : DataW H × List MemPlace), DataW.trod enc Tryd.prog w 0 spare held m 3 [c0] = some y0 → DataW.trod enc Tryd.prog w 0 spare held m 9 [c1] = some y1 → DataW.trod enc Tryd.prog w 0 spare held m 24 [c2] = some y2 → DataW.trod enc Tryd.prog w 0 spare held m 3 [c3] = some y3 → DataW.trod enc Tryd.prog w 0 spare held m 3 [c4] = some y4 → DataW.trod enc Tryd.prog w 0 spare held m 24 [c5] = some y5 → ∃ d : Nod, d.Wide ∧ RepC w [c0, c1, c2, c3, c4, c5] d.av.cells)
    {c3 : Value} {y3 : DataW H × List MemPlace} (h3 : DataW.trod enc Tryd.prog w 0 spare held n 24 [c3] = some y3) : ∃ l : List Nod, l.length ≤ 9223372036854775807 ∧ (∀ x ∈ l, x.Wide) ∧ Rep (Gh.ofWorld w) c3 (.slice 6 (l.map Nod.av)) := by
    rcases DataW.trod_slice Tryd.underlying24 h3 with ⟨e0, _⟩ | ⟨a, len, cap, elems, rest, n', hn', e0, _, _, hl, hm, hlen, hel, _, _⟩
    · simp only [List.cons.injEq, and_true] at e0
      subst e0
      exact ⟨[], by simp, by simp, .slice0 _ _⟩
    · simp only [List.cons.injEq, and_true] at e0
      subst e0
      have hC : Tryd.prog.cellsOf 26 = 6 := by kernel_rfl
      rw [hC] at hel
      have each : ∀ i, i < len → ∃ d : Nod, d.Wide ∧ ∃ cs, cs.length = 6 ∧ (∀ j, j < 6 → w.cell? (a.add (i * 6 + j)) = cs[j]?) ∧ RepC w cs d.av.cells := by
        intro i hi
        have hE := hel i hi
        rw [List.getElem?_eq_getElem (by omega)] at hE
        simp only [Option.bind_eq_some_iff] at hE
        obtain ⟨cs, hcs, ht⟩ := hE
        obtain ⟨_, hcl, hcc⟩ := World.cells?_some hcs
        obtain ⟨u0, u1, u2, u3, u4, u5, z0, z1, z2, z3, z4, z5, n2, hn2, rfl, g0, g1, g2, g3, g4, g5⟩ := trod_agg6 Tryd.underlying26 (by kernel_rfl) hC ht
        obtain ⟨d, hd, hr⟩ := ih n2 (by omega) u0 u1 u2 u3 u4 u5 z0 z1 z2 z3 z4 z5 g0 g1 g2 g3 g4 g5
        refine ⟨d, hd, _, rfl, fun j hj => ?_, hr⟩
        rw [← Go.Deep.add_add]
        exact hcc j hj
      obtain ⟨D, hD⟩ := choose_lt each
      have hmax : maxLen = 9223372036854775807 := rfl
      rw [hmax] at hm
      refine ⟨(List.range len).map D, by simp; omega, fun x hx => ?_, rep_cells (by simp) (by omega) (fun x hx => ?_) hl (fun c hc => ?_) fun j c hc => ?_⟩
      · obtain ⟨i, hi, rfl⟩ := List.mem_map.1 hx
        exact (hD i (List.mem_range.1 hi)).1
      · obtain ⟨d, _, rfl⟩ := List.mem_map.1 hx
        rw [nav_eta d]
        rfl
      · unfold flat at hc
        rw [flat_nodC] at hc
        exact one_nodC _ c hc
      · unfold flat at hc
        rw [flat_nodC] at hc
        obtain ⟨d, h5, h6⟩ := nodC_at _ j c hc
        rw [List.getElem?_map] at h5
        by_cases hj : j / 6 < len
        · rw [List.getElem?_range hj] at h5
          simp only [Option.map_some, Option.some.injEq] at h5
          subst h5
          obtain ⟨_, cs, hcl, hcc, hrl, hrr⟩ := hD (j / 6) hj
          have hlt : j % 6 < cs.length := by rw [hcl]; omega
          have hce := List.getElem?_eq_getElem hlt
          refine ⟨cs[j % 6], ?_, hrr (j % 6) _ _ hce h6⟩
          rw [← hce, ← hcc (j % 6) (by omega), show j / 6 * 6 + j % 6 = j by omega]
        · rw [List.getElem?_eq_none (by simp; omega)] at h5
          cases h5
/-- The six cells of a node, each read. -/
theorem node_of : ∀ (n : Nat) (c0 c1 c2 c3 c4 c5 : Value) (y0 y1 y2 y3 y4 y5 : DataW H × List MemPlace), DataW.trod enc Tryd.prog w 0 spare held n 3 [c0] = some y0 → DataW.trod enc Tryd.prog w 0 spare held n 9 [c1] = some y1 → DataW.trod enc Tryd.prog w 0 spare held n 24 [c2] = some y2 → DataW.trod enc Tryd.prog w 0 spare held n 3 [c3] = some y3 → DataW.trod enc Tryd.prog w 0 spare held n 3 [c4] = some y4 → DataW.trod enc Tryd.prog w 0 spare held n 24 [c5] = some y5 → ∃ d : Nod, d.Wide ∧ RepC w [c0, c1, c2, c3, c4, c5] d.av.cells := by
  intro n
  induction n using Nat.strongRecOn with
  | ind n ih =>
  intro c0 c1 c2 c3 c4 c5 y0 y1 y2 y3 y4 y5 h0 h1 h2 h3 h4 h5
  obtain ⟨k, f0, _, w0⟩ := DataW.trod_int Tryd.underlying3 h0
  obtain ⟨d, f1, _, w1⟩ := DataW.trod_string Tryd.underlying9 h1
  obtain ⟨p, hp, hpw, r2⟩ := nods_of ih h2
  obtain ⟨s, f3, _, w3⟩ := DataW.trod_int Tryd.underlying3 h3
  obtain ⟨c, f4, _, w4⟩ := DataW.trod_int Tryd.underlying3 h4
  obtain ⟨q, hq, hqw, r5⟩ := nods_of ih h5
  simp only [List.cons.injEq, and_true] at f0 f1 f3 f4
  subst f0 f1 f3 f4
  have rng : ∀ {k : Int}, (Lit.int .i64 k).wf = true → i64 k := fun h => by
    simp only [Lit.wf, Bool.and_eq_true, decide_eq_true_eq] at h
    exact h
  refine ⟨.mk k d p s c q, .mk k d p s c q (rng w0) (rng w3) (rng w4) w1 hp hq hpw hqw, ?_⟩
  rw [Nod.av_mk]
  refine ⟨rfl, fun j v a hv hc => ?_⟩
  match j with
  | 0 => simp only [AV.cells, List.getElem?_cons_zero, Option.some.injEq] at hv hc; subst hv hc; exact .int _ _ _
  | 1 => simp only [AV.cells, List.getElem?_cons_zero, List.getElem?_cons_succ, Option.some.injEq] at hv hc; subst hv hc; exact .str _ _
  | 2 => simp only [AV.cells, List.getElem?_cons_zero, List.getElem?_cons_succ, Option.some.injEq] at hv hc; subst hv hc; exact r2
  | 3 => simp only [AV.cells, List.getElem?_cons_zero, List.getElem?_cons_succ, Option.some.injEq] at hv hc; subst hv hc; exact .int _ _ _
  | 4 => simp only [AV.cells, List.getElem?_cons_zero, List.getElem?_cons_succ, Option.some.injEq] at hv hc; subst hv hc; exact .int _ _ _
  | 5 => simp only [AV.cells, List.getElem?_cons_zero, List.getElem?_cons_succ, Option.some.injEq] at hv hc; subst hv hc; exact r5
  | j + 6 => simp at hv
theorem rep_node {w : World} {vs : List Value} {d : Nod} (h : RepC w vs d.av.cells) : Rep (Gh.ofWorld w) (.agg vs.toArray) d.av := by
  have e : d.av = .agg d.av.cells := by rw [nav_eta d]; rfl
  rw [e]
  exact .agg _ _ _ h.1 fun j v c hv hc => h.2 j v c (by simpa using hv) hc
end Go.Ev.Tryd
