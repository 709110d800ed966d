/- Part of the proof of a statement about the given program: EvCall. No condition of its own. -/
import Derived.Test.YtfkjjmhbljlbkaaDoorEvEff4
namespace Go.Ev
set_option linter.unusedVariables false
set_option linter.unusedSimpArgs false
variable {C : Ctx} {G : Gh} {w : World} {m : Mem}

def rowOf (w : World) (b n : Nat) : List Value := (List.range n).map fun j => (w.cell? ⟨b, j, none⟩).getD Go.undef

theorem rowOf_get (w : World) (b n j : Nat) : (rowOf w b n)[j]? = if j < n then some ((w.cell? ⟨b, j, none⟩).getD Go.undef) else none := by
  unfold rowOf
  by_cases h : j < n
  · simp [h]
  · simp [h]

theorem prefix_of_get {α : Type} {l r : List α} (h : ∀ (j : Nat) v, l[j]? = some v → r[j]? = some v) : l <+: r := by
  have : l = r.take l.length := by
    apply List.ext_getElem?
    intro j
    rw [List.getElem?_take]
    by_cases hj : j < l.length
    · rw [if_pos hj, List.getElem?_eq_getElem hj, h j _ (List.getElem?_eq_getElem hj)]
    · rw [if_neg hj, List.getElem?_eq_none (by omega)]
  rw [this]
  exact List.take_prefix _ _

theorem updL_froz (m : Mem) (s : St) (hs : s.toMem = m) : ∀ (ids : List Nat) (f : Nat → Blk), (∀ i, f i = m.sto i ∨ f i = { m.sto i with froz := true }) →
    ∀ i, updL f (froz s ids) i = if i ∈ ids then { m.sto i with froz := true } else f i
  | [], f, _, i => by simp [froz, updL]
  | j :: ids, f, hf, i => by
    subst hs
    have ih := updL_froz s.toMem s rfl ids (upd f j { s.sto j with froz := true }) (fun k => by
      by_cases hk : k = j
      · subst hk; right; simp [upd_same]
      · rw [upd_ne _ _ hk]; exact hf k) i
    simp only [froz, List.map_cons, updL] at ih ⊢
    rw [ih]
    by_cases hi : i ∈ ids
    · simp [hi]
    · by_cases hij : i = j
      · subst hij; simp [hi, upd_same]
      · simp [hi, hij, upd_ne]

open Classical in
noncomputable def fixM (G : Gh) (w : World) (m : Mem) (ids : List Nat) (k : Nat) : List Value :=
  if h : ∃ id, id ∈ ids ∧ ∃ x, G.T id (m.sto id).gen = some (k, x) then rowOf w k (m.sto h.choose).cells.length else G.M k

/-- The blocks of some numbers are to stay as they are. -/
noncomputable def Gh.fix (G : Gh) (w : World) (m : Mem) (ids : List Nat) : Gh := ⟨fixM G w m ids, G.T⟩

theorem fix_in (hi : Inv G w m) {ids : List Nat} {id b : Nat} {x : Nat × Bool} (hid : id ∈ ids) (h : G.T id (m.sto id).gen = some (b, x)) : (G.fix w m ids).M b = rowOf w b (m.sto id).cells.length := by
  have he : ∃ id, id ∈ ids ∧ ∃ x, G.T id (m.sto id).gen = some (b, x) := ⟨id, hid, x, h⟩
  show fixM G w m ids b = _
  unfold fixM
  rw [dif_pos he]
  obtain ⟨_, x', hx'⟩ := he.choose_spec
  rw [hi.dist _ _ _ _ _ hx' h]

theorem fix_out {ids : List Nat} {b : Nat} (h : ¬ ∃ id, id ∈ ids ∧ ∃ x, G.T id (m.sto id).gen = some (b, x)) : (G.fix w m ids).M b = G.M b := by
  show fixM G w m ids b = _
  unfold fixM
  rw [dif_neg h]

theorem LiveAt.row {id b tot : Nat} {ap : Bool} {cur : Array Value} {e : TypeId} {fr : Nat × Nat} (h : LiveAt G w m id b tot ap cur e fr) (j : Nat) (hj : j < (m.sto id).cells.length) : (rowOf w b (m.sto id).cells.length)[j]? = cur[j]? := by
  have h1 := h.len
  have h2 := h.size
  rw [rowOf_get, if_pos hj, cell_live h.heap, Array.getElem?_eq_getElem (show j < cur.size by omega)]
  rfl

theorem fix_M (hi : Inv G w m) (ids : List Nat) (b : Nat) : G.M b <+: (G.fix w m ids).M b := by
  by_cases h : ∃ id, id ∈ ids ∧ ∃ x, G.T id (m.sto id).gen = some (b, x)
  · obtain ⟨id, hid, x, hx⟩ := h
    rw [fix_in hi hid hx]
    obtain ⟨cur, e, fr, hl⟩ := live_of hi hx
    refine prefix_of_get (fun j v hv => ?_)
    have hj : j < (m.sto id).cells.length := Nat.lt_of_lt_of_le (List.getElem?_eq_some_iff.1 hv).1 hl.kept
    rw [hl.row j hj, ← cell_live hl.heap]
    exact hi.okM _ _ _ hv
  · rw [fix_out h]
    exact List.prefix_refl _

theorem inv_fix (hi : Inv G w m) (ids : List Nat) (sto' : Nat → Blk) (hst : ∀ i, sto' i = if i ∈ ids then { m.sto i with froz := true } else m.sto i) :
    Inv (G.fix w m ids) w ⟨sto', m.nid⟩ ∧ Ext G w (G.fix w m ids) w := by
  have hgen : ∀ i, (sto' i).gen = (m.sto i).gen := fun i => by rw [hst]; split <;> rfl
  have hcells : ∀ i, (sto' i).cells = (m.sto i).cells := fun i => by rw [hst]; split <;> rfl
  have mono : ∀ {v x}, Rep G v x → Rep (G.fix w m ids) v x := fun h => h.mono (fix_M hi ids) (fun _ _ _ h => h)
  refine ⟨⟨fun b j v hv => ?_, fun id b tot ap h => ?_, fun id id' b x y h h' => ?_, fun id g x h => ?_⟩, ⟨fix_M hi ids, fun _ _ _ h => h, rfl, rfl, rfl, Nat.le_refl _, fun b hb hn => ⟨rfl, fix_out (fun ⟨id, _, x, hx⟩ => hn _ _ _ hx)⟩, fun id g b x h _ => ⟨id, g, x, h⟩⟩⟩
  · by_cases h : ∃ id, id ∈ ids ∧ ∃ x, G.T id (m.sto id).gen = some (b, x)
    · obtain ⟨id, hid, x, hx⟩ := h
      rw [fix_in hi hid hx] at hv
      obtain ⟨cur, e, fr, hl⟩ := live_of hi hx
      have hj : j < (m.sto id).cells.length := by
        have := (List.getElem?_eq_some_iff.1 hv).1
        simpa [rowOf] using this
      rw [hl.row j hj] at hv
      rw [cell_live hl.heap]
      exact hv
    · rw [fix_out h] at hv
      exact hi.okM _ _ _ hv
  · simp only [hgen] at h
    obtain ⟨cur, e, fr, hl⟩ := hi.live _ _ _ _ h
    refine ⟨cur, e, fr, by rw [hgen]; exact h, hl.heap, hl.size, hl.fr, by rw [hcells]; exact hl.len, fun j v c hv hc => mono (hl.rep j v c hv (by rw [← hcells]; exact hc)), by rw [hcells]; exact hl.one, ?_, fun hfz => ?_, fun t x ht => by
      have ht' : (sto' id).ty = some (t, x) := ht
      show e = t ∧ (x = true → tot = (sto' id).cells.length)
      rw [hcells]
      refine hl.typ t x ?_
      rw [hst] at ht'
      split at ht' <;> exact ht'⟩
    · rw [hcells]
      by_cases hx : ∃ id, id ∈ ids ∧ ∃ x, G.T id (m.sto id).gen = some (b, x)
      · obtain ⟨id2, hid2, x, hx2⟩ := hx
        obtain rfl := hi.dist _ _ _ _ _ h hx2
        rw [fix_in hi hid2 hx2]
        simp [rowOf]
      · rw [fix_out hx]
        exact hl.kept
    · have hfz' : (sto' id).froz = false := hfz
      have hnot : id ∉ ids := fun hin => by rw [hst, if_pos hin] at hfz'; cases hfz'
      rw [hst, if_neg hnot] at hfz'
      rw [fix_out (fun ⟨id2, hid2, x, hx2⟩ => by
        obtain rfl := hi.dist _ _ _ _ _ h hx2
        exact hnot hid2)]
      exact hl.soft hfz'
  · simp only [hgen] at h h'
    exact hi.dist _ _ _ _ _ h h'
  · have := hi.dom _ _ _ h
    rw [hgen]
    exact this

theorem snap_one {k : Nat} {x y : AV} (h : snapD m k x = some y) (h1 : x.one = true) : y.one = true := by
  cases k with
  | zero => simp [snapD] at h
  | succ k =>
    cases x <;> simp only [AV.one, Bool.false_eq_true] at h1 <;> simp only [snapD, Option.some.injEq, reduceCtorEq] at h <;>
    first
      | (subst h; rfl)
      | (split at h
         · first | (simp only [Option.map_eq_some_iff] at h; obtain ⟨_, _, rfl⟩ := h; rfl) | (simp only [Option.some.injEq] at h; subst h; rfl)
         · cases h)

theorem elems_flat (sz : Nat) : ∀ (n : Nat) (cs : List AV), cs.length = n * sz → (∀ c ∈ cs, c.one = true) → flat (elems sz n cs) = cs ∧ (elems sz n cs).length = n ∧ ∀ x ∈ elems sz n cs, x.cells.length = sz
  | 0, cs, hl, _ => by
    simp only [Nat.zero_mul] at hl
    have := List.eq_nil_of_length_eq_zero hl
    subst this
    exact ⟨rfl, rfl, fun x hx => by cases hx⟩
  | n + 1, cs, hl, h1 => by
    have hle : sz ≤ cs.length := by rw [hl, Nat.add_mul]; omega
    obtain ⟨a1, a2, a3⟩ := elems_flat sz n (cs.drop sz) (by rw [List.length_drop, hl, Nat.add_mul]; omega) (fun c hc => h1 c (List.mem_of_mem_drop hc))
    by_cases hs : sz = 1
    · subst hs
      cases cs with
      | nil => simp at hle
      | cons c cs =>
        have hc := AV.cells_one (h1 c (List.mem_cons_self ..))
        simp only [elems, if_true, List.headD_cons, List.drop_succ_cons, List.drop_zero] at a1 a2 a3 ⊢
        refine ⟨?_, by simp [a2], fun x hx => ?_⟩
        · simp only [flat, List.map_cons, List.flatten_cons, hc] at a1 ⊢
          rw [a1]
          rfl
        · rcases List.mem_cons.1 hx with rfl | hx
          · rw [hc]; rfl
          · exact a3 x hx
    · simp only [elems, if_neg hs]
      refine ⟨?_, by simp [a2], fun x hx => ?_⟩
      · simp only [flat, List.map_cons, List.flatten_cons, AV.cells] at a1 ⊢
        rw [a1, List.take_append_drop]
      · rcases List.mem_cons.1 hx with rfl | hx
        · simp [AV.cells]; omega
        · exact a3 x hx

/-- A value that is handed to another function reads there as it does here, if the blocks that it leads to stay. -/
theorem snap_rep (hi : Inv G w m) {ids : List Nat} : ∀ (k : Nat) {v : Value} {x y : AV}, Rep G v x → snapD m k x = some y → (∀ id ∈ reachD m k x, id ∈ ids) → Rep (G.fix w m ids).bare v y := by
  intro k
  induction k with
  | zero => intro v x y _ h; simp [snapD] at h
  | succ k ih =>
    intro v x y hr h hids
    have many : ∀ {cs ds : List AV} {vs : Array Value}, cs.mapM (snapD m k) = some ds → vs.size = cs.length → (∀ (j : Nat) v c, vs[j]? = some v → cs[j]? = some c → Rep G v c) → (∀ id ∈ (cs.map (reachD m k)).flatten, id ∈ ids) →
        vs.size = ds.length ∧ ∀ (j : Nat) v d, vs[j]? = some v → ds[j]? = some d → Rep (G.fix w m ids).bare v d := by
      intro cs ds vs hm hl hrr hid
      obtain ⟨m1, m2⟩ := mapM_spec hm
      refine ⟨by omega, fun j v d hv hd => ?_⟩
      have hj : j < cs.length := by rw [← m1]; exact (List.getElem?_eq_some_iff.1 hd).1
      obtain ⟨d', hd', hs⟩ := m2 j _ (List.getElem?_eq_getElem hj)
      rw [hd] at hd'
      cases hd'
      exact ih (hrr j v _ hv (List.getElem?_eq_getElem hj)) hs (fun id h => hid id (List.mem_flatten.2 ⟨_, List.mem_map.2 ⟨_, List.getElem_mem hj, rfl⟩, h⟩))
    cases hr with
    | undef => simp [snapD] at h
    | void => simp [snapD] at h
    | bool => simp only [snapD, Option.some.injEq] at h; subst h; exact .bool _ _
    | int => simp only [snapD, Option.some.injEq] at h; subst h; exact .int _ _ _
    | str => simp only [snapD, Option.some.injEq] at h; subst h; exact .str _ _
    | nilp => simp only [snapD, Option.some.injEq] at h; subst h; exact .nilp _
    | nilf => simp only [snapD, Option.some.injEq] at h; subst h; exact .nilf _
    | nili => simp only [snapD, Option.some.injEq] at h; subst h; exact .nili _
    | nils => simp only [snapD, Option.some.injEq] at h; subst h; exact .slice0 _ _
    | slice0 => simp only [snapD, Option.some.injEq] at h; subst h; exact .slice0 _ _
    | sliceE => simp only [snapD, Option.some.injEq] at h; subst h; exact .sliceE _ _ _ _
    | slice _ b off n cap sz xs vs hn hc hs hl hM h1 hrr =>
      simp only [snapD, Option.some.injEq] at h
      subst h
      exact .slice _ b off n cap sz xs vs hn hc hs hl (fun j v hv => prefix_get (fix_M hi ids b) (hM j v hv)) h1 (fun j v c hv hcc => (hrr j v c hv hcc).mono (fix_M hi ids) (fun _ _ _ h => by simp [Gh.bare] at h))
    | eptr _ b off cs vs hl hM hrr =>
      simp only [snapD, Option.some.injEq] at h
      subst h
      exact .eptr _ b off cs vs hl (fun j v hv => prefix_get (fix_M hi ids b) (hM j v hv)) (fun j v c hv hcc => (hrr j v c hv hcc).mono (fix_M hi ids) (fun _ _ _ h => by simp [Gh.bare] at h))
    | ptr => simp [snapD] at h
    | fn _ f vs cs hl hrr =>
      simp only [snapD] at h
      split at h
      · rename_i hc
        simp only [Option.some.injEq] at h
        subst h
        have : cs = [] := by simpa using hc
        subst this
        have hvs : vs = #[] := by simpa using hl
        subst hvs
        exact .fn _ f #[] [] rfl (fun j v c hv => by simp at hv)
      · cases h
    | agg _ vs cs hl hrr =>
      simp only [snapD, Option.map_eq_some_iff] at h
      obtain ⟨ds, hds, rfl⟩ := h
      obtain ⟨a1, a2⟩ := many hds hl hrr (by simpa [reachD] using hids)
      exact .agg _ _ _ a1 a2
    | tup _ vs cs hl hrr =>
      simp only [snapD, Option.map_eq_some_iff] at h
      obtain ⟨ds, hds, rfl⟩ := h
      obtain ⟨a1, a2⟩ := many hds hl hrr (by simpa [reachD] using hids)
      exact .tup _ _ _ a1 a2
    | arr _ id g off n sz b cap tot app ap hT hc ha =>
      simp only [snapD] at h
      split at h
      · rename_i hg
        obtain ⟨rfl, hnl⟩ := hg
        simp only [Option.map_eq_some_iff] at h
        obtain ⟨ds, hds, rfl⟩ := h
        obtain ⟨cur, e, fr, hlv⟩ := live_of hi hT
        obtain ⟨h1, h2, h3⟩ := live_row hlv off
        have hid : id ∈ ids := hids id (by simp [reachD])
        have hcl : (((m.sto id).cells.drop off).take (n * sz)).length = n * sz := by rw [List.length_take]; omega
        have hvl : ((cur.toList.drop off).take (n * sz)).length = n * sz := by rw [List.length_take]; omega
        obtain ⟨a1, a2⟩ := many (vs := ((cur.toList.drop off).take (n * sz)).toArray) hds (by rw [List.size_toArray]; omega) (fun j v c hv hcc => by
            simp only [List.getElem?_toArray, List.getElem?_take] at hv hcc
            split at hv
            · rw [if_pos (by assumption)] at hcc
              exact h3 j v c hv hcc
            · cases hv) (fun i hin => hids i (by
            simp only [reachD, List.mem_cons]
            right
            obtain ⟨l, hl, hil⟩ := List.mem_flatten.1 hin
            obtain ⟨c, hcm, rfl⟩ := List.mem_map.1 hl
            exact List.mem_flatten.2 ⟨_, List.mem_map.2 ⟨c, List.mem_of_mem_drop (List.mem_of_mem_take hcm), rfl⟩, hil⟩))
        obtain ⟨m1, m2⟩ := mapM_spec hds
        have hone : ∀ c ∈ ds, c.one = true := fun d hd => by
          obtain ⟨j, hj, rfl⟩ := List.mem_iff_getElem.1 hd
          have hj' : j < (((m.sto id).cells.drop off).take (n * sz)).length := by omega
          obtain ⟨d', hd', hs⟩ := m2 j _ (List.getElem?_eq_getElem hj')
          rw [List.getElem?_eq_getElem hj] at hd'
          cases hd'
          exact snap_one hs (hlv.one _ (List.mem_of_mem_drop (List.mem_of_mem_take (List.getElem_mem hj'))))
        obtain ⟨e1, e2, e3⟩ := elems_flat sz n ds (by omega) hone
        refine .slice _ b off n cap sz _ ((cur.toList.drop off).take (n * sz)) e2 hc e3 (by rw [e1]; omega) (fun j v hv => ?_) (by rw [e1]; exact hone) (fun j v c hv hcc => ?_)
        · show ((G.fix w m ids).M b)[off + j]? = some v
          rw [fix_in hi hid hT]
          rw [List.getElem?_take] at hv
          split at hv
          · rw [List.getElem?_drop] at hv
            rw [hlv.row _ (by rw [List.length_drop] at hnl; omega)]
            simpa using hv
          · cases hv
        · rw [e1] at hcc
          exact a2 j v c (by simpa using hv) hcc
      · cases h

end Go.Ev
