/- Part of the proof of a statement about the given program: EvCall EvAct EvRun. No condition of its own. -/
import Derived.Test.YthlmbapkgblnkaaDoorEvInv
section
namespace Go.Ev
set_option linter.unusedVariables false
set_option linter.unusedSimpArgs false
variable {C : Ctx} {G : Gh} {w : World} {m : Mem}

def rowOf (w : World) (b n : Nat) : List Value := (List.range n).map fun j => (w.cell? ⟨b, j, none⟩).getD Go.undef

theorem rowOf_get (w : World) (b n j : Nat) : (rowOf w b n)[j]? = if j < n then some ((w.cell? ⟨b, j, none⟩).getD Go.undef) else none := by
  unfold rowOf
  by_cases h : j < n
  · simp [h]
  · simp [h]

theorem prefix_of_get {α : Type} {l r : List α} (h : ∀ (j : Nat) v, l[j]? = some v → r[j]? = some v) : l <+: r := by
  have : l = r.take l.length := by
    apply List.ext_getElem?
    intro j
    rw [List.getElem?_take]
    by_cases hj : j < l.length
    · rw [if_pos hj, List.getElem?_eq_getElem hj, h j _ (List.getElem?_eq_getElem hj)]
    · rw [if_neg hj, List.getElem?_eq_none (by omega)]
  rw [this]
  exact List.take_prefix _ _

theorem updL_froz (m : Mem) (s : St) (hs : s.toMem = m) : ∀ (ids : List Nat) (f : Nat → Blk), (∀ i, f i = m.sto i ∨ f i = { m.sto i with froz := true }) →
    ∀ i, updL f (froz s ids) i = if i ∈ ids then { m.sto i with froz := true } else f i
  | [], f, _, i => by simp [froz, updL]
  | j :: ids, f, hf, i => by
    subst hs
    have ih := updL_froz s.toMem s rfl ids (upd f j { s.sto j with froz := true }) (fun k => by
      by_cases hk : k = j
      · subst hk; right; simp [upd_same]
      · rw [upd_ne _ _ hk]; exact hf k) i
    simp only [froz, List.map_cons, updL] at ih ⊢
    rw [ih]
    by_cases hi : i ∈ ids
    · simp [hi]
    · by_cases hij : i = j
      · subst hij; simp [hi, upd_same]
      · simp [hi, hij, upd_ne]

open Classical in
noncomputable def fixM (G : Gh) (w : World) (m : Mem) (ids : List Nat) (k : Nat) : List Value :=
  if h : ∃ id, id ∈ ids ∧ ∃ x, G.T id (m.sto id).gen = some (k, x) then rowOf w k (m.sto h.choose).cells.length else G.M k

/-- The blocks of some numbers are to stay as they are. -/
noncomputable def Gh.fix (G : Gh) (w : World) (m : Mem) (ids : List Nat) : Gh := ⟨fixM G w m ids, G.T⟩

theorem fix_in (hi : Inv G w m) {ids : List Nat} {id b : Nat} {x : Nat × Bool} (hid : id ∈ ids) (h : G.T id (m.sto id).gen = some (b, x)) : (G.fix w m ids).M b = rowOf w b (m.sto id).cells.length := by
  have he : ∃ id, id ∈ ids ∧ ∃ x, G.T id (m.sto id).gen = some (b, x) := ⟨id, hid, x, h⟩
  show fixM G w m ids b = _
  unfold fixM
  rw [dif_pos he]
  obtain ⟨_, x', hx'⟩ := he.choose_spec
  rw [hi.dist _ _ _ _ _ hx' h]

theorem fix_out {ids : List Nat} {b : Nat} (h : ¬ ∃ id, id ∈ ids ∧ ∃ x, G.T id (m.sto id).gen = some (b, x)) : (G.fix w m ids).M b = G.M b := by
  show fixM G w m ids b = _
  unfold fixM
  rw [dif_neg h]

theorem LiveAt.row {id b tot : Nat} {ap : Bool} {cur : Array Value} {e : TypeId} {fr : Nat × Nat} (h : LiveAt G w m id b tot ap cur e fr) (j : Nat) (hj : j < (m.sto id).cells.length) : (rowOf w b (m.sto id).cells.length)[j]? = cur[j]? := by
  have h1 := h.len
  have h2 := h.size
  rw [rowOf_get, if_pos hj, cell_live h.heap, Array.getElem?_eq_getElem (show j < cur.size by omega)]
  rfl

theorem fix_M (hi : Inv G w m) (ids : List Nat) (b : Nat) : G.M b <+: (G.fix w m ids).M b := by
  by_cases h : ∃ id, id ∈ ids ∧ ∃ x, G.T id (m.sto id).gen = some (b, x)
  · obtain ⟨id, hid, x, hx⟩ := h
    rw [fix_in hi hid hx]
    obtain ⟨cur, e, fr, hl⟩ := live_of hi hx
    refine prefix_of_get (fun j v hv => ?_)
    have hj : j < (m.sto id).cells.length := Nat.lt_of_lt_of_le (List.getElem?_eq_some_iff.1 hv).1 hl.kept
    rw [hl.row j hj, ← cell_live hl.heap]
    exact hi.okM _ _ _ hv
  · rw [fix_out h]
    exact List.prefix_refl _

theorem inv_fix (hi : Inv G w m) (ids : List Nat) (sto' : Nat → Blk) (hst : ∀ i, sto' i = if i ∈ ids then { m.sto i with froz := true } else m.sto i) :
    Inv (G.fix w m ids) w ⟨sto', m.nid⟩ ∧ Ext G w (G.fix w m ids) w := by
  have hgen : ∀ i, (sto' i).gen = (m.sto i).gen := fun i => by rw [hst]; split <;> rfl
  have hcells : ∀ i, (sto' i).cells = (m.sto i).cells := fun i => by rw [hst]; split <;> rfl
  have mono : ∀ {v x}, Rep G v x → Rep (G.fix w m ids) v x := fun h => h.mono (fix_M hi ids) (fun _ _ _ h => h)
  refine ⟨⟨fun b j v hv => ?_, fun id b tot ap h => ?_, fun id id' b x y h h' => ?_, fun id g x h => ?_⟩, ⟨fix_M hi ids, fun _ _ _ h => h, rfl, rfl, rfl, Nat.le_refl _, fun b hb hn => ⟨rfl, fix_out (fun ⟨id, _, x, hx⟩ => hn _ _ _ hx)⟩, fun id g b x h _ => ⟨id, g, x, h⟩⟩⟩
  · by_cases h : ∃ id, id ∈ ids ∧ ∃ x, G.T id (m.sto id).gen = some (b, x)
    · obtain ⟨id, hid, x, hx⟩ := h
      rw [fix_in hi hid hx] at hv
      obtain ⟨cur, e, fr, hl⟩ := live_of hi hx
      have hj : j < (m.sto id).cells.length := by
        have := (List.getElem?_eq_some_iff.1 hv).1
        simpa [rowOf] using this
      rw [hl.row j hj] at hv
      rw [cell_live hl.heap]
      exact hv
    · rw [fix_out h] at hv
      exact hi.okM _ _ _ hv
  · simp only [hgen] at h
    obtain ⟨cur, e, fr, hl⟩ := hi.live _ _ _ _ h
    refine ⟨cur, e, fr, by rw [hgen]; exact h, hl.heap, hl.size, hl.fr, by rw [hcells]; exact hl.len, fun j v c hv hc => mono (hl.rep j v c hv (by rw [← hcells]; exact hc)), by rw [hcells]; exact hl.one, ?_, fun hfz => ?_, fun t x ht => by
      have ht' : (sto' id).ty = some (t, x) := ht
      show e = t ∧ (x = true → tot = (sto' id).cells.length)
      rw [hcells]
      refine hl.typ t x ?_
      rw [hst] at ht'
      split at ht' <;> exact ht'⟩
    · rw [hcells]
      by_cases hx : ∃ id, id ∈ ids ∧ ∃ x, G.T id (m.sto id).gen = some (b, x)
      · obtain ⟨id2, hid2, x, hx2⟩ := hx
        obtain rfl := hi.dist _ _ _ _ _ h hx2
        rw [fix_in hi hid2 hx2]
        simp [rowOf]
      · rw [fix_out hx]
        exact hl.kept
    · have hfz' : (sto' id).froz = false := hfz
      have hnot : id ∉ ids := fun hin => by rw [hst, if_pos hin] at hfz'; cases hfz'
      rw [hst, if_neg hnot] at hfz'
      rw [fix_out (fun ⟨id2, hid2, x, hx2⟩ => by
        obtain rfl := hi.dist _ _ _ _ _ h hx2
        exact hnot hid2)]
      exact hl.soft hfz'
  · simp only [hgen] at h h'
    exact hi.dist _ _ _ _ _ h h'
  · have := hi.dom _ _ _ h
    rw [hgen]
    exact this

theorem snap_one {k : Nat} {x y : AV} (h : snapD m k x = some y) (h1 : x.one = true) : y.one = true := by
  cases k with
  | zero => simp [snapD] at h
  | succ k =>
    cases x <;> simp only [AV.one, Bool.false_eq_true] at h1 <;> simp only [snapD, Option.some.injEq, reduceCtorEq] at h <;>
    first
      | (subst h; rfl)
      | (split at h
         · first | (simp only [Option.map_eq_some_iff] at h; obtain ⟨_, _, rfl⟩ := h; rfl) | (simp only [Option.some.injEq] at h; subst h; rfl)
         · cases h)

theorem elems_flat (sz : Nat) : ∀ (n : Nat) (cs : List AV), cs.length = n * sz → (∀ c ∈ cs, c.one = true) → flat (elems sz n cs) = cs ∧ (elems sz n cs).length = n ∧ ∀ x ∈ elems sz n cs, x.cells.length = sz
  | 0, cs, hl, _ => by
    simp only [Nat.zero_mul] at hl
    have := List.eq_nil_of_length_eq_zero hl
    subst this
    exact ⟨rfl, rfl, fun x hx => by cases hx⟩
  | n + 1, cs, hl, h1 => by
    have hle : sz ≤ cs.length := by rw [hl, Nat.add_mul]; omega
    obtain ⟨a1, a2, a3⟩ := elems_flat sz n (cs.drop sz) (by rw [List.length_drop, hl, Nat.add_mul]; omega) (fun c hc => h1 c (List.mem_of_mem_drop hc))
    by_cases hs : sz = 1
    · subst hs
      cases cs with
      | nil => simp at hle
      | cons c cs =>
        have hc := AV.cells_one (h1 c (List.mem_cons_self ..))
        simp only [elems, if_true, List.headD_cons, List.drop_succ_cons, List.drop_zero] at a1 a2 a3 ⊢
        refine ⟨?_, by simp [a2], fun x hx => ?_⟩
        · simp only [flat, List.map_cons, List.flatten_cons, hc] at a1 ⊢
          rw [a1]
          rfl
        · rcases List.mem_cons.1 hx with rfl | hx
          · rw [hc]; rfl
          · exact a3 x hx
    · simp only [elems, if_neg hs]
      refine ⟨?_, by simp [a2], fun x hx => ?_⟩
      · simp only [flat, List.map_cons, List.flatten_cons, AV.cells] at a1 ⊢
        rw [a1, List.take_append_drop]
      · rcases List.mem_cons.1 hx with rfl | hx
        · simp [AV.cells]; omega
        · exact a3 x hx

/-- A value that is handed to another function reads there as it does here, if the blocks that it leads to stay. -/
theorem snap_rep (hi : Inv G w m) {ids : List Nat} : ∀ (k : Nat) {v : Value} {x y : AV}, Rep G v x → snapD m k x = some y → (∀ id ∈ reachD m k x, id ∈ ids) → Rep (G.fix w m ids).bare v y := by
  intro k
  induction k with
  | zero => intro v x y _ h; simp [snapD] at h
  | succ k ih =>
    intro v x y hr h hids
    have many : ∀ {cs ds : List AV} {vs : Array Value}, cs.mapM (snapD m k) = some ds → vs.size = cs.length → (∀ (j : Nat) v c, vs[j]? = some v → cs[j]? = some c → Rep G v c) → (∀ id ∈ (cs.map (reachD m k)).flatten, id ∈ ids) →
        vs.size = ds.length ∧ ∀ (j : Nat) v d, vs[j]? = some v → ds[j]? = some d → Rep (G.fix w m ids).bare v d := by
      intro cs ds vs hm hl hrr hid
      obtain ⟨m1, m2⟩ := mapM_spec hm
      refine ⟨by omega, fun j v d hv hd => ?_⟩
      have hj : j < cs.length := by rw [← m1]; exact (List.getElem?_eq_some_iff.1 hd).1
      obtain ⟨d', hd', hs⟩ := m2 j _ (List.getElem?_eq_getElem hj)
      rw [hd] at hd'
      cases hd'
      exact ih (hrr j v _ hv (List.getElem?_eq_getElem hj)) hs (fun id h => hid id (List.mem_flatten.2 ⟨_, List.mem_map.2 ⟨_, List.getElem_mem hj, rfl⟩, h⟩))
    cases hr with
    | undef => simp [snapD] at h
    | void => simp [snapD] at h
    | bool => simp only [snapD, Option.some.injEq] at h; subst h; exact .bool _ _
    | int => simp only [snapD, Option.some.injEq] at h; subst h; exact .int _ _ _
    | str => simp only [snapD, Option.some.injEq] at h; subst h; exact .str _ _
    | nilp => simp only [snapD, Option.some.injEq] at h; subst h; exact .nilp _
    | nilf => simp only [snapD, Option.some.injEq] at h; subst h; exact .nilf _
    | nili => simp only [snapD, Option.some.injEq] at h; subst h; exact .nili _
    | iface => simp only [snapD, Option.some.injEq] at h; subst h; exact .iface _ _ _
    | nils => simp only [snapD, Option.some.injEq] at h; subst h; exact .slice0 _ _
    | slice0 => simp only [snapD, Option.some.injEq] at h; subst h; exact .slice0 _ _
    | sliceE => simp only [snapD, Option.some.injEq] at h; subst h; exact .sliceE _ _ _ _
    | slice _ b off n cap sz xs vs hn hc hs hl hM h1 hrr =>
      simp only [snapD, Option.some.injEq] at h
      subst h
      exact .slice _ b off n cap sz xs vs hn hc hs hl (fun j v hv => prefix_get (fix_M hi ids b) (hM j v hv)) h1 (fun j v c hv hcc => (hrr j v c hv hcc).mono (fix_M hi ids) (fun _ _ _ h => by simp [Gh.bare] at h))
    | eptr _ b off cs vs hl hM hrr =>
      simp only [snapD, Option.some.injEq] at h
      subst h
      exact .eptr _ b off cs vs hl (fun j v hv => prefix_get (fix_M hi ids b) (hM j v hv)) (fun j v c hv hcc => (hrr j v c hv hcc).mono (fix_M hi ids) (fun _ _ _ h => by simp [Gh.bare] at h))
    | ptr => simp [snapD] at h
    | fn _ f vs cs hl hrr =>
      simp only [snapD] at h
      split at h
      · rename_i hc
        simp only [Option.some.injEq] at h
        subst h
        have : cs = [] := by simpa using hc
        subst this
        have hvs : vs = #[] := by simpa using hl
        subst hvs
        exact .fn _ f #[] [] rfl (fun j v c hv => by simp at hv)
      · cases h
    | agg _ vs cs hl hrr =>
      simp only [snapD, Option.map_eq_some_iff] at h
      obtain ⟨ds, hds, rfl⟩ := h
      obtain ⟨a1, a2⟩ := many hds hl hrr (by simpa [reachD] using hids)
      exact .agg _ _ _ a1 a2
    | tup _ vs cs hl hrr =>
      simp only [snapD, Option.map_eq_some_iff] at h
      obtain ⟨ds, hds, rfl⟩ := h
      obtain ⟨a1, a2⟩ := many hds hl hrr (by simpa [reachD] using hids)
      exact .tup _ _ _ a1 a2
    | arr _ id g off n sz b cap tot app ap hT hc ha =>
      simp only [snapD] at h
      split at h
      · rename_i hg
        obtain ⟨rfl, hnl⟩ := hg
        simp only [Option.map_eq_some_iff] at h
        obtain ⟨ds, hds, rfl⟩ := h
        obtain ⟨cur, e, fr, hlv⟩ := live_of hi hT
        obtain ⟨h1, h2, h3⟩ := live_row hlv off
        have hid : id ∈ ids := hids id (by simp [reachD])
        have hcl : (((m.sto id).cells.drop off).take (n * sz)).length = n * sz := by rw [List.length_take]; omega
        have hvl : ((cur.toList.drop off).take (n * sz)).length = n * sz := by rw [List.length_take]; omega
        obtain ⟨a1, a2⟩ := many (vs := ((cur.toList.drop off).take (n * sz)).toArray) hds (by rw [List.size_toArray]; omega) (fun j v c hv hcc => by
            simp only [List.getElem?_toArray, List.getElem?_take] at hv hcc
            split at hv
            · rw [if_pos (by assumption)] at hcc
              exact h3 j v c hv hcc
            · cases hv) (fun i hin => hids i (by
            simp only [reachD, List.mem_cons]
            right
            obtain ⟨l, hl, hil⟩ := List.mem_flatten.1 hin
            obtain ⟨c, hcm, rfl⟩ := List.mem_map.1 hl
            exact List.mem_flatten.2 ⟨_, List.mem_map.2 ⟨c, List.mem_of_mem_drop (List.mem_of_mem_take hcm), rfl⟩, hil⟩))
        obtain ⟨m1, m2⟩ := mapM_spec hds
        have hone : ∀ c ∈ ds, c.one = true := fun d hd => by
          obtain ⟨j, hj, rfl⟩ := List.mem_iff_getElem.1 hd
          have hj' : j < (((m.sto id).cells.drop off).take (n * sz)).length := by omega
          obtain ⟨d', hd', hs⟩ := m2 j _ (List.getElem?_eq_getElem hj')
          rw [List.getElem?_eq_getElem hj] at hd'
          cases hd'
          exact snap_one hs (hlv.one _ (List.mem_of_mem_drop (List.mem_of_mem_take (List.getElem_mem hj'))))
        obtain ⟨e1, e2, e3⟩ := elems_flat sz n ds (by omega) hone
        refine .slice _ b off n cap sz _ ((cur.toList.drop off).take (n * sz)) e2 hc e3 (by rw [e1]; omega) (fun j v hv => ?_) (by rw [e1]; exact hone) (fun j v c hv hcc => ?_)
        · show ((G.fix w m ids).M b)[off + j]? = some v
          rw [fix_in hi hid hT]
          rw [List.getElem?_take] at hv
          split at hv
          · rw [List.getElem?_drop] at hv
            rw [hlv.row _ (by rw [List.length_drop] at hnl; omega)]
            simpa using hv
          · cases hv
        · rw [e1] at hcc
          exact a2 j v c (by simpa using hv) hcc
      · cases h

end Go.Ev
end
section
namespace Go.Ev
set_option linter.unusedVariables false
set_option linter.unusedSimpArgs false
variable {C : Ctx} {G : Gh} {w : World} {m : Mem}

theorem Inv.more (hi : Inv G w m) {k : Nat} (hk : m.nid ≤ k) : Inv G w ⟨m.sto, k⟩ :=
  ⟨hi.okM, fun id b tot ap h => let ⟨cur, e, fr, hl⟩ := hi.live id b tot ap h; ⟨cur, e, fr, hl.t, hl.heap, hl.size, hl.fr, hl.len, hl.rep, hl.one, hl.kept, hl.soft, hl.typ⟩, hi.dist, fun id g x h => ⟨Nat.lt_of_lt_of_le (hi.dom _ _ _ h).1 hk, (hi.dom _ _ _ h).2⟩⟩

/-- A call of a function with a memory of its own: from any world in which the arguments read, it returns what reads as r; what was there stays. -/
def PureOk (C : Ctx) (f : FuncId) (args : List AV) (r : AV) : Prop :=
  (∀ (vs : Array Value) (w : World), (callFunc f vs).run C.P w = .ok (.enter f vs) w) ∧
  ∀ (G : Gh) (w : World) (vs : Array Value), (∀ i g, G.T i g = none) → Inv G w .empty → CtxOk C G w → vs.size = args.length → (∀ (j : Nat) v a, vs[j]? = some v → args[j]? = some a → Rep G v a) →
    Calls C.P f vs w fun e w' => ∃ v G', e = .returned v ∧ (∀ i g, G'.T i g = none) ∧ Rep G' v r ∧ Inv G' w' .empty ∧ Ext G w G' w'

/-- The caller's part in what a callee with a memory of its own leaves. -/
theorem join_call {G1 : Gh} {w1 : World} (hi : Inv G w m) (hb : ∀ i g, G1.T i g = none) (hi1 : Inv G1 w1 .empty) (he : Ext G.bare w G1 w1) :
    Inv ⟨G1.M, G.T⟩ w1 m ∧ Ext G w ⟨G1.M, G.T⟩ w1 := by
  have frame : ∀ b, b < w.heap.size → w1.heap[b]? = w.heap[b]? ∧ G1.M b = G.M b := fun b hb => he.frame b hb (fun _ _ _ h => by simp [Gh.bare] at h)
  have mono : ∀ {v x}, Rep G v x → Rep ⟨G1.M, G.T⟩ v x := fun h => h.mono he.M (fun _ _ _ h => h)
  refine ⟨⟨hi1.okM, fun id b tot ap h => ?_, hi.dist, hi.dom⟩, ⟨he.M, fun _ _ _ h => h, he.os, he.tape, he.output, he.size, fun b hb _ => frame b hb, fun id g b x h _ => ⟨id, g, x, h⟩⟩⟩
  obtain ⟨cur, e, fr, hl⟩ := hi.live id b tot ap h
  obtain ⟨h1, h2⟩ := frame b hl.lt
  exact ⟨cur, e, fr, h, h1.trans hl.heap, hl.size, hl.fr, hl.len, fun j v c hv hc => mono (hl.rep j v c hv hc), hl.one, by show (G1.M b).length ≤ _; rw [h2]; exact hl.kept, fun hf => by show G1.M b = []; rw [h2]; exact hl.soft hf, hl.typ⟩

theorem Rep.cool1 {G' : Gh} {v : Value} {x : AV} (h : Rep G v x) (hx : x.cool1 = true) : Rep G' v x := by
  cases h with
  | bool => exact .bool _ _
  | int => exact .int _ _ _
  | str => exact .str _ _
  | nilp => exact .nilp _
  | nilf => exact .nilf _
  | nili => exact .nili _
  | iface => exact .iface _ _ _
  | _ => simp [AV.cool1] at hx
theorem Rep.cool2 {G' : Gh} {v : Value} {x : AV} (h : Rep G v x) (hx : x.cool2 = true) : Rep G' v x := by
  cases h with
  | agg _ vs cs hl hr =>
    simp only [AV.cool2, List.all_eq_true] at hx
    exact .agg _ vs cs hl (fun j v c hv hc => (hr j v c hv hc).cool1 (hx c (List.mem_of_getElem? hc)))
  | bool => exact .bool _ _
  | int => exact .int _ _ _
  | str => exact .str _ _
  | nilp => exact .nilp _
  | nilf => exact .nilf _
  | nili => exact .nili _
  | iface => exact .iface _ _ _
  | _ => simp [AV.cool2, AV.cool1] at hx
theorem Rep.cool {G' : Gh} {v : Value} {x : AV} (h : Rep G v x) (hx : x.cool = true) : Rep G' v x := by
  cases h with
  | tup _ vs cs hl hr =>
    simp only [AV.cool, List.all_eq_true] at hx
    exact .tup _ vs cs hl (fun j v c hv hc => (hr j v c hv hc).cool2 (hx c (List.mem_of_getElem? hc)))
  | agg _ vs cs hl hr => exact Rep.cool2 (.agg G vs cs hl hr) hx
  | bool => exact .bool _ _
  | int => exact .int _ _ _
  | str => exact .str _ _
  | nilp => exact .nilp _
  | nilf => exact .nilf _
  | nili => exact .nili _
  | iface => exact .iface _ _ _
  | _ => simp [AV.cool, AV.cool2, AV.cool1] at hx
/-- The caller's part in what a callee leaves whose result leads nowhere. -/
theorem join_cool {G0 G1 : Gh} {w1 : World} (hi : Inv G w m) (he : Ext G0.bare w G1 w1) : Inv G w1 m ∧ Ext G w G w1 := by
  have frame : ∀ b, b < w.heap.size → w1.heap[b]? = w.heap[b]? := fun b hb => (he.frame b hb (fun _ _ _ h => by simp [Gh.bare] at h)).1
  refine ⟨⟨fun b j v hv => ?_, fun id b tot ap h => ?_, hi.dist, hi.dom⟩, ⟨fun _ => List.prefix_refl _, fun _ _ _ h => h, he.os, he.tape, he.output, he.size, fun b hb _ => ⟨frame b hb, rfl⟩, fun id g b x h _ => ⟨id, g, x, h⟩⟩⟩
  · have h := hi.okM b j v hv
    have hlt := World.block_lt_of_cell? w _ h
    rw [← h]
    exact World.cell?_of_block (w := w) (frame b hlt)
  · obtain ⟨cur, e, fr, hl⟩ := hi.live id b tot ap h
    exact ⟨cur, e, fr, h, (frame b hl.lt).trans hl.heap, hl.size, hl.fr, hl.len, hl.rep, hl.one, hl.kept, hl.soft, hl.typ⟩

theorem CtxOk.bare (h : CtxOk C G w) : CtxOk C G.bare w := ⟨fun g cs hg => by
  have := h.glob g cs hg
  cases this with
  | eptr _ _ _ _ vs hl hM hr => exact .eptr _ _ _ _ vs hl hM (fun j v c hv hc => hr j v c hv hc), fun p hp => ⟨(h.tabs p hp).1, fun _ _ _ hx => by simp [Gh.bare] at hx⟩⟩

theorem wp_call {P : Program} {A : _root_.Go.Act} {o : Oper} {f : FuncId} {vs : Array Value} {K : _root_.Go.Act → World → Prop} {Q : Exit → _root_.Go.Act → World → Prop} (hrun : (execOp A.eval o).run P w = .ok (.enter f vs) w)
    (h : Calls P f vs w fun e w' => ∃ v, e = .returned v ∧ K (A.put o.dst v) w') : o.wp P A w K Q := by
  unfold Oper.wp
  rw [hrun, Oper.upon_enter]
  refine h.mono fun e w' he => ?_
  obtain ⟨v, rfl, hk⟩ := he
  exact hk

theorem argsA_rep {A : _root_.Go.Act} {env : Nat → AV} (he : EnvRep G A.tmps env) (hc : CtxOk C G w) : ∀ {xs : List Operand} {ts : List TypeId} {l : List AV}, argsA C env xs ts = some l →
    l.length = xs.length ∧ ∀ (j : Nat) a, l[j]? = some a → ∃ x, xs[j]? = some x ∧ Rep G (A.eval x) a
  | [], ts, l, h => by simp only [argsA, Option.some.injEq] at h; subst h; exact ⟨rfl, fun j a ha => by simp at ha⟩
  | x :: xs, [], l, h => by simp [argsA] at h
  | x :: xs, t :: ts, l, h => by
    simp only [argsA, Option.bind_eq_some_iff, Option.map_eq_some_iff] at h
    obtain ⟨a, ha, r, hr, rfl⟩ := h
    obtain ⟨h1, h2⟩ := argsA_rep he hc hr
    refine ⟨by simp [h1], fun j b hb => ?_⟩
    cases j with
    | zero =>
      simp only [List.getElem?_cons_zero, Option.some.injEq] at hb
      subst hb
      exact ⟨x, rfl, opd_rep he hc ha⟩
    | succ j =>
      simp only [List.getElem?_cons_succ] at hb ⊢
      exact h2 j b hb

/-- A call of a function value: what is run. -/
theorem exec_call {A : _root_.Go.Act} {o : Oper} {c : Call} (ho : o.op = .call c) {fo : Operand} (hco : c.callee = .value fo) {f : FuncId} {cap : Array Value} (hf : A.eval fo = .func (.func f) #[] cap) :
    (execOp A.eval o).run C.P w = (callFunc f (c.args.map A.eval ++ cap)).run C.P w := by
  unfold execOp
  simp only [ho, resolve, hco, hf, Deferred.ofValue, Sem.run_bind, Sem.run_pure, Result.andThen_ok, invoke]
  simp

structure Hyps (C : Ctx) (call : FuncId → List AV → Option AV) : Prop where
  zero : ZeroOk C.P
  pure : ∀ f args r, call f args = some r → PureOk C f args r

/-- WHAT AN OPERATION COMES TO IS WHAT THE PROGRAM DOES. -/
theorem act_wp {call : FuncId → List AV → Option AV} (H : Hyps C call) {s : St} {A : _root_.Go.Act} (he : EnvRep G A.tmps s.env) (hc : CtxOk C G w) (hi : Inv G w s.toMem) {fb nid' : Nat} (hf : ∀ g, G.T fb g = none) (hle : s.nid ≤ nid')
    {o : Oper} {a : Act} (h : act C call fb o s = some a) (hfb : a.nb = 0 ∨ fb < nid') {K : _root_.Go.Act → World → Prop} {Q : Exit → _root_.Go.Act → World → Prop}
    (hk : ∀ v w' G', Rep G' v a.val → Inv G' w' ⟨updL s.sto a.sw, nid'⟩ → Ext G w G' w' → Fresh fb G G' → K (A.put o.dst v) w') : o.wp C.P A w K Q := by
  have op : ∀ {t x y}, opd C s.env t x = some y → Rep G (A.eval x) y := fun h => opd_rep he hc h
  have still : (∃ v, (execOp A.eval o).run C.P w = .ok (.value v) w ∧ Rep G v a.val) → a.sw = [] → o.wp C.P A w K Q := by
    rintro ⟨v, hv, hr⟩ hsw
    refine Out.wp (v := v) (w' := w) (by rw [hv]; exact .value _ _) (hk v w G hr ?_ (Ext.refl _ _) (Fresh.refl _ _))
    rw [hsw]
    exact hi.more hle
  have eff : ∀ {nid2 : Nat}, nid2 ≤ nid' → Eff C fb G w A o a.val ⟨updL s.sto a.sw, nid2⟩ → o.wp C.P A w K Q := by
    rintro nid2 hn ⟨v, w', G', ho, hr, hi', he', hfr⟩
    exact ho.wp (hk v w' G' hr (hi'.more hn) he' hfr)
  obtain ⟨dst, oper, type, pos, after, guard⟩ := o
  unfold act at h
  cases oper with
  | move x =>
    simp only [Option.map_eq_some_iff] at h
    obtain ⟨y, hy, rfl⟩ := h
    exact still ⟨_, rfl, op hy⟩ rfl
  | assign x =>
    simp only [Option.map_eq_some_iff] at h
    obtain ⟨y, hy, rfl⟩ := h
    exact still ⟨_, rfl, op hy⟩ rfl
  | pick cc x y =>
    simp only [Option.bind_eq_some_iff] at h
    obtain ⟨c', hc', h⟩ := h
    split at h
    · rename_i b
      simp only [Option.map_eq_some_iff] at h
      obtain ⟨z, hz, rfl⟩ := h
      have hcv := rep_bool (op hc')
      refine still ⟨if b then A.eval x else A.eval y, ?_, ?_⟩ rfl
      · unfold execOp
        simp only [hcv, asBool, Sem.run_bind, Sem.run_pure, Result.andThen_ok]
      · cases b
        · exact op hz
        · exact op hz
    · cases h
  | alloc e =>
    simp only [Option.map_eq_some_iff] at h
    obtain ⟨cs, hcs, rfl⟩ := h
    exact eff (Nat.le_refl _) (eff_alloc H.zero hi hf (hfb.resolve_left (by simp)) hle rfl hcs)
  | box e x =>
    simp only [Option.bind_eq_some_iff] at h
    obtain ⟨a', ha', h⟩ := h
    split at h
    · rename_i hone
      simp only [Option.some.injEq] at h
      subst h
      exact eff (Nat.le_refl _) (eff_box hi hf (hfb.resolve_left (by simp)) hle rfl (op ha') hone)
    · cases h
  | build t parts =>
    simp only at h
    split at h
    · rename_i fs hfs
      simp only [Option.bind_eq_some_iff, Option.map_eq_some_iff] at h
      obtain ⟨z, hz, ps, hps, r, ⟨cs, hcs, rfl⟩, rfl⟩ := h
      obtain ⟨zv, hzr, hrow⟩ := run_zero (w := w) H.zero hz G
      have hut : C.P.underlying t = some (.struct fs) := by
        unfold fieldsT at hfs
        split at hfs
        · simp only [Option.some.injEq] at hfs
          subst hfs
          assumption
        · cases hfs
      have hinfo : ∀ f ∈ fs.toList, ∃ i, C.P.info? f.type = some i := by
        intro f hf
        have hz' := hz
        rw [zeroC] at hz'
        split at hz'
        · cases hz'
        simp only [hut, Option.map_eq_some_iff] at hz'
        obtain ⟨ls, hls, _⟩ := hz'
        obtain ⟨m1, m2⟩ := mapM_spec hls
        obtain ⟨j, hj, rfl⟩ := List.mem_iff_getElem.1 hf
        obtain ⟨b, _, hb⟩ := m2 j _ (List.getElem?_eq_getElem hj)
        have hb' : zeroC C.P (4 + 1) _ = some b := hb
        rw [zeroC] at hb'
        split at hb'
        · cases hb'
        split at hb'
        · rename_i hu; exact info_of hu
        · rename_i hu; exact info_of hu
        · simp only [Option.map_eq_some_iff, Option.bind_eq_some_iff] at hb'
          obtain ⟨_, ⟨i, hi, _⟩, _⟩ := hb'
          exact ⟨i, hi⟩
      have hplaces : (fs.mapM fun f => do pure (f.offset, ← sizeOf f.type) : Sem _).run C.P w = .ok (fs.map fun f => (f.offset, szT C.P f.type)) w := by
        have gen : ∀ (l : List Field), (∀ f ∈ l, ∃ i, C.P.info? f.type = some i) → (l.mapM fun f => do pure (f.offset, ← sizeOf f.type) : Sem _).run C.P w = .ok (l.map fun f => (f.offset, szT C.P f.type)) w := by
          intro l
          induction l with
          | nil => intro _; rfl
          | cons f l ih =>
            intro hl
            obtain ⟨i, hi⟩ := hl f (List.mem_cons_self ..)
            have := ih (fun g hg => hl g (List.mem_cons_of_mem _ hg))
            simp only [List.mapM_cons, Sem.run_bind, run_sizeOf hi, Result.andThen_ok, Sem.run_pure, this, List.map_cons]
        have hg := gen fs.toList hinfo
        rw [Array.mapM_eq_mapM_toList]
        simp only [Sem.run_map, hg, Result.andThen_ok]
        congr 1
        apply Array.ext'
        simp
      obtain ⟨m1, m2⟩ := mapM_spec hps
      obtain ⟨out, ho, hor⟩ := fill_rep (G := G) (place := fun i => (fs.map fun f => (f.offset, szT C.P f.type))[i]?) (parts.map fun (i, x) => (i, A.eval x)).toList ps zv.cells _ cs (by simp [m1]) (fun j p q hp hq => by
        simp only [Array.toList_map, List.getElem?_map, Option.map_eq_some_iff] at hp
        obtain ⟨⟨pi, px⟩, hpa, rfl⟩ := hp
        obtain ⟨b, hb, hbf⟩ := m2 j _ hpa
        rw [hq] at hb
        cases hb
        simp only [Option.bind_eq_some_iff, Option.map_eq_some_iff] at hbf
        obtain ⟨f, hfi, a, ha, rfl⟩ := hbf
        exact ⟨by simp [hfi], op ha⟩) hrow hcs
      refine still ⟨.agg out, ?_, .agg _ _ _ hor.size hor.rep⟩ rfl
      unfold execOp
      simp only [Instr.build, Sem.run_bind, hzr, Result.andThen_ok, run_underlying hut, hplaces, ho, Sem.run_pure]
    · cases h
  | buildSlice t n parts =>
    simp only [Option.bind_eq_some_iff] at h
    obtain ⟨e, hee, z, hz, h⟩ := h
    split at h
    · rename_i hcond
      obtain ⟨h0, hzl, hn⟩ := hcond
      simp only [Option.bind_eq_some_iff, Option.map_eq_some_iff] at h
      obtain ⟨ps, hps, cs, hcs, rfl⟩ := h
      exact eff (Nat.le_refl _) (eff_buildSlice H.zero hi hf (hfb.resolve_left (by simp)) hle rfl hee hz h0 hzl hn (env := s.env) (fun ty x y h => op h) hps hcs)
    · cases h
  | load t x =>
    simp only [Option.bind_eq_some_iff] at h
    obtain ⟨a', ha', h⟩ := h
    split at h
    · rename_i id g off
      split at h
      · rename_i hg
        simp only [Option.map_eq_some_iff] at h
        obtain ⟨y, hy, rfl⟩ := h
        obtain ⟨v, hv, hr⟩ := run_load_op (C := C) hi (op ha') (.inl ⟨id, g, off, rfl, hg, hy⟩)
        exact still ⟨v, by unfold execOp; simp [hv], hr⟩ rfl
      · cases h
    · rename_i cs
      simp only [Option.map_eq_some_iff] at h
      obtain ⟨y, hy, rfl⟩ := h
      obtain ⟨v, hv, hr⟩ := run_load_op (C := C) hi (op ha') (.inr ⟨cs, rfl, hy⟩)
      exact still ⟨v, by unfold execOp; simp [hv], hr⟩ rfl
    · cases h
  | store t x y =>
    simp only [Option.bind_eq_some_iff] at h
    obtain ⟨a', ha', b', hb', h⟩ := h
    split at h
    · rename_i id g off
      split at h
      · rename_i hcond
        obtain ⟨rfl, hfz, hl, hin, hone, hinf⟩ := hcond
        simp only [Option.some.injEq] at h
        subst h
        exact eff hle (eff_store fb hi rfl (op ha') (op hb') hfz hl hin hone (by cases hq : C.P.info? t with | none => rw [hq] at hinf; simp at hinf | some i => exact ⟨i, rfl⟩))
      · cases h
    · cases h
  | nilCheck x =>
    simp only [Option.bind_eq_some_iff] at h
    obtain ⟨a', ha', h⟩ := h
    split at h
    · simp only [Option.map_some, Option.some.injEq] at h
      subst h
      have hr := op ha'
      generalize hx : A.eval x = u at hr
      cases hr with
      | ptr _ _ _ _ b y hT => exact still ⟨_, by unfold execOp; simp only [hx]; rfl, .ptr _ _ _ _ _ _ hT⟩ rfl
    · simp only [Option.map_some, Option.some.injEq] at h
      subst h
      have hr := op ha'
      generalize hx : A.eval x = u at hr
      cases hr with
      | eptr _ b off _ vs hl hM hrr => exact still ⟨_, by unfold execOp; simp only [hx]; rfl, .eptr _ _ _ _ vs hl hM hrr⟩ rfl
    · simp only [Option.map_some, Option.some.injEq] at h
      subst h
      have hr := op ha'
      generalize hx : A.eval x = u at hr
      cases hr with
      | fn _ _ vs _ hl hrr => exact still ⟨_, by unfold execOp; simp only [hx]; rfl, .fn _ _ _ _ hl hrr⟩ rfl
    · cases h
  | binOp bop xt x y yt =>
    simp only [Option.bind_eq_some_iff, Option.map_eq_some_iff] at h
    obtain ⟨a', ha', b', hb', r, hr, rfl⟩ := h
    obtain ⟨v, hv, hrr⟩ := run_binX (C := C) (w := w) (xo := x) hr (op ha') (op hb')
    exact still ⟨v, by unfold execOp; simp only [Sem.run_bind] at hv ⊢; rw [hv]; rfl, hrr⟩ rfl
  | unOp uop xt x =>
    simp only [Option.bind_eq_some_iff, Option.map_eq_some_iff] at h
    obtain ⟨a', ha', r, hr, rfl⟩ := h
    obtain ⟨v, hv, hrr⟩ := run_unA (C := C) (w := w) hr (op ha')
    exact still ⟨v, by unfold execOp; simp [hv], hrr⟩ rfl
  | convert src dst' x =>
    simp only [Option.bind_eq_some_iff] at h
    obtain ⟨a', ha', h⟩ := h
    rcases run_conv (C := C) (w := w) hi (op ha') h with ⟨v, hv, hr, hsw, _⟩ | ⟨e, b, hs, hd, hee, hxb, rfl⟩
    · exact still ⟨v, by unfold execOp; simp [hv], hr⟩ hsw
    · exact eff (Nat.le_refl _) (eff_toBytes hi hf (hfb.resolve_left (by simp)) hle rfl hs hd hee hxb)
  | makeInterface t x =>
    simp only [Option.bind_eq_some_iff] at h
    obtain ⟨a', ha', h⟩ := h
    split at h
    · cases h
    · cases h
    · rename_i d hn1 hn2
      simp only [Option.map_some, Option.some.injEq] at h
      subst h
      cases hd : C.P.underlying t with
      | none => exact absurd hd hn2
      | some dd =>
        refine still ⟨.iface t (A.eval x), ?_, .iface _ _ _⟩ rfl
        unfold execOp
        have hrun : (Instr.makeInterface t (A.eval x)).run C.P w = .ok (.iface t (A.eval x)) w := by
          unfold Instr.makeInterface
          simp only [Sem.run_bind, run_underlying hd, Result.andThen_ok]
          cases dd <;> first | rfl | exact absurd hd (hn1 _)
        simp [hrun]
  | makeFunc fn first captured =>
    simp only at h
    split at h
    · rename_i f
      split at h
      · rename_i hfirst
        simp only [Option.bind_eq_some_iff] at h
        obtain ⟨cs, hcs, h⟩ := h
        split at h
        · simp only [Option.map_some, Option.some.injEq] at h
          subst h
          obtain ⟨m1, m2⟩ := mapM_spec hcs
          have hfe : first = #[] := by simpa using hfirst
          subst hfe
          refine still ⟨.func (.func f) #[] (captured.map A.eval), by unfold execOp; simp [Instr.makeFunc], .fn _ f _ _ (by simp [m1]) (fun j v c hv hcc => ?_)⟩ rfl
          simp only [Array.getElem?_map, Option.map_eq_some_iff] at hv
          obtain ⟨x, hx, rfl⟩ := hv
          obtain ⟨b, hb, hbo⟩ := m2 j x (by simpa using hx)
          rw [hcc] at hb
          cases hb
          exact op hbo
        · cases h
      · cases h
    · cases h
  | makeSlice t l cc =>
    simp only [Option.bind_eq_some_iff] at h
    obtain ⟨e, hee, l', hl', c', hc', h⟩ := h
    split at h
    · rename_i k n k' m'
      split at h
      · rename_i hcond
        obtain ⟨rfl, hn0, hn, hb, rfl, rfl⟩ := hcond
        simp only [Option.bind_eq_some_iff] at h
        obtain ⟨z, hz, h⟩ := h
        split at h
        · rename_i hzz
          simp only [Option.some.injEq] at h
          subst h
          exact eff (Nat.le_refl _) (eff_makeSlice H.zero hi hf (hfb.resolve_left (by simp)) hle rfl hee (rep_int (op hl')) (rep_int (op hc')) hn0 hn hb hz hzz.1 hzz.2)
        · cases h
      · cases h
    · cases h
  | slice t x lo hi' mx =>
    simp only [Option.bind_eq_some_iff] at h
    obtain ⟨a', ha', lo', hlo, hi2, hhi, mx', hmx, h⟩ := h
    split at h
    · cases h
    · rename_i hnm
      simp only [Option.map_eq_some_iff] at h
      obtain ⟨r, hr, rfl⟩ := h
      have ops : ∀ {q : Option Operand} {q' : Option AV}, opds C s.env 3 q = some q' → (∀ a, q' = some a → ∃ v, q.map A.eval = some v ∧ Rep G v a) ∧ (q' = none → q.map A.eval = none) := by
        intro q q' hq
        cases q with
        | none => simp only [opds, Option.some.injEq] at hq; subst hq; exact ⟨fun a h => (by cases h), fun _ => rfl⟩
        | some x =>
          simp only [opds, Option.map_eq_some_iff] at hq
          obtain ⟨y, hy, rfl⟩ := hq
          exact ⟨fun a h => (by cases h; exact ⟨_, rfl, op hy⟩), fun h => (by cases h)⟩
      obtain ⟨v, hv, hrr⟩ := run_slice_op (C := C) (w := w) (op ha') (ops hlo).1 (ops hlo).2 (ops hhi).1 (ops hhi).2 (ops hmx).1 (ops hmx).2 hnm hr
      exact still ⟨v, by unfold execOp; simp [hv], hrr⟩ rfl
  | fieldAddr t x f =>
    simp only [Option.bind_eq_some_iff] at h
    obtain ⟨fs, hfs, fd, hfd, h⟩ := h
    split at h
    · cases h
    · rename_i hsz
      simp only [Option.bind_eq_some_iff] at h
      obtain ⟨a', ha', h⟩ := h
      split at h
      · simp only [Option.map_some, Option.some.injEq] at h
        subst h
        have hr := op ha'
        generalize hx : A.eval x = u at hr
        cases hr with
        | ptr _ _ _ off b y hT =>
          exact still ⟨_, by unfold execOp; simp only [hx]; simp [run_fieldAt hfs hfd hsz], .ptr _ _ _ _ _ _ hT⟩ rfl
      · simp only [Option.map_some, Option.some.injEq] at h
        subst h
        have hr := op ha'
        generalize hx : A.eval x = u at hr
        cases hr with
        | eptr _ b off _ vs hl hM hrr =>
          exact still ⟨_, by unfold execOp; simp only [hx]; simp [run_fieldAt hfs hfd hsz], eptr_drop (.eptr _ _ _ _ vs hl hM hrr)⟩ rfl
      · cases h
  | field t x f =>
    simp only [Option.bind_eq_some_iff] at h
    obtain ⟨fs, hfs, fd, hfd, a', ha', h⟩ := h
    split at h
    · simp only [Option.map_eq_some_iff] at h
      obtain ⟨r, hr, rfl⟩ := h
      obtain ⟨v, hv, hrr⟩ := run_field (C := C) (w := w) hfs hfd (op ha') hr
      exact still ⟨v, by unfold execOp; simp [hv], hrr⟩ rfl
    · cases h
  | indexAddr t x ix =>
    simp only [Option.bind_eq_some_iff] at h
    obtain ⟨a', ha', i', hi', h⟩ := h
    have fin : ∀ {y}, (∃ r, (Instr.indexAt t (A.eval x) (A.eval ix)).run C.P w = .ok r w ∧ Rep G r y) → a = { val := y } → Oper.wp C.P ⟨dst, .indexAddr t x ix, type, pos, after, guard⟩ A w K Q := by
      rintro y ⟨r, hr, hrr⟩ rfl
      exact still ⟨r, by unfold execOp; simp [hr], hrr⟩ rfl
    split at h
    · rename_i sz xs
      simp only [Option.bind_eq_some_iff] at h
      obtain ⟨i, hii, e, hee, h⟩ := h
      split at h
      · rename_i hsz
        simp only [Option.map_map, Option.map_eq_some_iff, Function.comp] at h
        obtain ⟨y, hy, rfl⟩ := h
        exact fin (run_index_op (C := C) (op ha') (op hi') (.inl ⟨sz, xs, i, e, y, rfl, hii, hee, hsz, hy, rfl⟩)) rfl
      · cases h
    · rename_i id g off n sz app
      simp only [Option.bind_eq_some_iff] at h
      obtain ⟨i, hii, e, hee, h⟩ := h
      split at h
      · rename_i hsz
        simp only [Option.map_some, Option.some.injEq] at h
        subst h
        exact fin (run_index_op (C := C) (op ha') (op hi') (.inr (.inl ⟨id, g, off, n, sz, app, i, e, rfl, hii, hee, hsz, rfl⟩))) rfl
      · cases h
    · rename_i cs
      split at h
      · rename_i n e hut
        simp only [Option.bind_eq_some_iff] at h
        obtain ⟨i, hii, h⟩ := h
        split at h
        · rename_i h0
          simp only [Option.map_some, Option.some.injEq] at h
          subst h
          exact fin (run_index_op (C := C) (op ha') (op hi') (.inr (.inr (.inl ⟨cs, n, e, i, rfl, hut, hii, h0, rfl⟩)))) rfl
        · cases h
      · cases h
    · rename_i id g off
      split at h
      · rename_i n e hut
        simp only [Option.bind_eq_some_iff] at h
        obtain ⟨i, hii, h⟩ := h
        split at h
        · rename_i h0
          simp only [Option.map_some, Option.some.injEq] at h
          subst h
          exact fin (run_index_op (C := C) (op ha') (op hi') (.inr (.inr (.inr ⟨id, g, off, n, e, i, rfl, hut, hii, h0, rfl⟩)))) rfl
        · cases h
      · cases h
    · cases h
  | index t x ix =>
    simp only [Option.bind_eq_some_iff] at h
    obtain ⟨a', ha', i', hi', h⟩ := h
    split at h
    · rename_i b
      split at h
      · rename_i hut
        simp only [Option.bind_eq_some_iff] at h
        obtain ⟨i, hii, h⟩ := h
        simp only [Option.map_map, Option.map_eq_some_iff, Function.comp] at h
        obtain ⟨y, hy, rfl⟩ := h
        exact still ⟨_, by unfold execOp; simp [run_index_str (C := C) (w := w) hut (op ha') (op hi') hii hy], .int _ _ _⟩ rfl
      · cases h
    · cases h
  | extract t i =>
    simp only [Option.bind_eq_some_iff] at h
    obtain ⟨a', ha', h⟩ := h
    split at h
    · simp only [Option.map_eq_some_iff] at h
      obtain ⟨y, hy, rfl⟩ := h
      obtain ⟨v, hv, hrr⟩ := run_extract (C := C) (w := w) (op ha') hy
      exact still ⟨v, by unfold execOp; simp [hv], hrr⟩ rfl
    · cases h
  | call c =>
    simp only at h
    split at h
    · rename_i b hco
      simp only [Option.bind_eq_some_iff] at h
      obtain ⟨args, hargs, h⟩ := h
      obtain ⟨a1, a2⟩ := argsA_rep he hc hargs
      obtain ⟨callee, cargs, cts⟩ := c
      simp only at hco hargs a1 a2 h
      subst hco
      obtain ⟨consts, exec⟩ : ∃ consts, (execOp A.eval ⟨dst, .call ⟨.builtin b, cargs, cts⟩, type, pos, after, guard⟩).run C.P w = (builtin b cts type consts (cargs.map A.eval)).run C.P w := ⟨_, by
        unfold execOp
        simp only [resolve, Sem.run_bind, Sem.run_pure, Result.andThen_ok, invoke]
        rfl⟩
      have one : ∀ {x : AV}, args = [x] → ∃ xo, cargs = #[xo] ∧ Rep G (A.eval xo) x := by
        rintro x rfl
        obtain ⟨xo, hxo, hxr⟩ := a2 0 x rfl
        refine ⟨xo, Array.ext' ?_, hxr⟩
        cases hcl : cargs.toList with
        | nil => rw [hcl] at hxo; simp at hxo
        | cons y ys =>
          rw [hcl] at hxo a1
          simp only [List.getElem?_cons_zero, Option.some.injEq] at hxo
          subst hxo
          have : ys = [] := List.eq_nil_of_length_eq_zero (by simpa using a1.symm)
          subst this
          rfl
      have two : ∀ {x y : AV}, args = [x, y] → ∃ xo yo, cargs = #[xo, yo] ∧ Rep G (A.eval xo) x ∧ Rep G (A.eval yo) y := by
        rintro x y rfl
        obtain ⟨xo, hxo, hxr⟩ := a2 0 x rfl
        obtain ⟨yo, hyo, hyr⟩ := a2 1 y rfl
        refine ⟨xo, yo, Array.ext' ?_, hxr, hyr⟩
        cases hcl : cargs.toList with
        | nil => rw [hcl] at hxo; simp at hxo
        | cons p ps =>
          rw [hcl] at hxo hyo a1
          cases ps with
          | nil => simp at a1
          | cons q qs =>
            simp only [List.getElem?_cons_zero, List.getElem?_cons_succ, Option.some.injEq] at hxo hyo
            subst hxo hyo
            have : qs = [] := List.eq_nil_of_length_eq_zero (by have := a1; simp only [List.length_cons, List.length_nil] at this; omega)
            subst this
            rfl
      unfold builtinA at h
      split at h
      · rename_i x t hts
        simp only [Option.map_eq_some_iff] at h
        obtain ⟨r, hr, rfl⟩ := h
        obtain ⟨xo, rfl, hxr⟩ := one rfl
        have hct : cts = #[t] := Array.ext' hts
        subst hct
        unfold lenA at hr
        split at hr
        · rename_i a hut
          simp only [Option.some.injEq] at hr
          subst hr
          have hv := rep_str hxr
          exact still ⟨.int .i64 a.size, by rw [exec]; simp [builtin, hv, Builtin.len_, run_underlying hut, goInt], .int _ _ _⟩ rfl
        · rename_i e sz xs hut
          simp only [Option.some.injEq] at hr
          subst hr
          generalize hxv : A.eval xo = u at hxr exec
          cases hxr with
          | slice0 => exact still ⟨.int .i64 0, by rw [exec]; simp [builtin, hxv, Builtin.len_, run_underlying hut, goInt], .int _ _ _⟩ rfl
          | sliceE => exact still ⟨.int .i64 0, by rw [exec]; simp [builtin, hxv, Builtin.len_, run_underlying hut, goInt], .int _ _ _⟩ rfl
          | slice _ b off n cap _ _ vs hn hcc hs hl hM h1 hrr =>
            subst hn
            exact still ⟨.int .i64 xs.length, by rw [exec]; simp [builtin, hxv, Builtin.len_, run_underlying hut, goInt], .int _ _ _⟩ rfl
        · rename_i e sz hut
          simp only [Option.some.injEq] at hr
          subst hr
          generalize hxv : A.eval xo = u at hxr exec
          cases hxr
          exact still ⟨.int .i64 0, by rw [exec]; simp [builtin, hxv, Builtin.len_, run_underlying hut, goInt], .int _ _ _⟩ rfl
        · rename_i e id g off n sz app hut
          simp only [Option.some.injEq] at hr
          subst hr
          generalize hxv : A.eval xo = u at hxr exec
          cases hxr
          exact still ⟨.int .i64 n, by rw [exec]; simp [builtin, hxv, Builtin.len_, run_underlying hut, goInt], .int _ _ _⟩ rfl
        · cases hr
      · rename_i x y t t2 hts
        obtain ⟨xo, yo, rfl, hxr, hyr⟩ := two rfl
        have hct : cts = #[t, t2] := Array.ext' hts
        subst hct
        split at h
        · rename_i hno
          rcases Nat.eq_zero_or_pos a.nb with hnb | hnb
          · obtain ⟨nid2, h1, h2, hE⟩ := eff_append (C := C) H.zero hi hf (nid' := fb + s.nid + 1) (by omega) (by omega) (o := ⟨dst, .call ⟨.builtin .append, #[xo, yo], #[t, t2]⟩, type, pos, after, guard⟩) rfl hno hxr hyr h
            exact eff (by rw [h2 hnb]; exact hle) hE
          · obtain ⟨nid2, h1, h2, hE⟩ := eff_append (C := C) H.zero hi hf (nid' := nid') (hfb.resolve_left (by omega)) hle (o := ⟨dst, .call ⟨.builtin .append, #[xo, yo], #[t, t2]⟩, type, pos, after, guard⟩) rfl hno hxr hyr h
            exact eff (by rcases h1 with rfl | rfl <;> omega) hE
        · cases h
      · rename_i x y hts
        simp only [Option.map_eq_some_iff] at h
        obtain ⟨r, hr, rfl⟩ := h
        obtain ⟨xo, yo, rfl, hxr, hyr⟩ := two rfl
        unfold maxA at hr
        split at hr
        · split at hr
          · simp only [Option.some.injEq] at hr
            subst hr
            have h1 := rep_int hxr
            have h2 := rep_int hyr
            exact still ⟨_, by rw [exec]; simp [builtin, h1, h2, Builtin.max_, Builtin.max2] <;> rfl, .int _ _ _⟩ rfl
          · cases hr
        · cases hr
      · rename_i x y hts
        simp only [Option.map_eq_some_iff] at h
        obtain ⟨r, hr, rfl⟩ := h
        obtain ⟨xo, yo, rfl, hxr, hyr⟩ := two rfl
        unfold minA at hr
        split at hr
        · split at hr
          · simp only [Option.some.injEq] at hr
            subst hr
            have h1 := rep_int hxr
            have h2 := rep_int hyr
            exact still ⟨_, by rw [exec]; simp [builtin, h1, h2, Builtin.min_, Builtin.min2] <;> rfl, .int _ _ _⟩ rfl
          · cases hr
        · cases hr
      · rename_i x
        obtain ⟨xo, rfl, hxr⟩ := one rfl
        unfold dataA at h
        split at h
        · simp only [Option.some.injEq] at h
          subst h
          generalize hxv : A.eval xo = vx at hxr
          cases hxr
          exact still ⟨.pointer none, by rw [exec]; simp [builtin, hxv, Lib.run_unsafeSliceData_nil], .nilp _⟩ rfl
        · rename_i id g off n sz app
          split at h
          · rename_i hg
            simp only [Option.some.injEq] at h
            subst h
            generalize hxv : A.eval xo = vx at hxr
            cases hxr with
            | arr _ _ _ _ _ _ b cap tot _ ap hT hcc ha =>
              exact still ⟨.pointer (some ⟨b, off, none⟩), by rw [exec]; simp [builtin, hxv, Lib.run_unsafeSliceData_row _ _ _ _ _ _ (show cap ≠ 0 by omega)], .ptr _ id g off b _ hT⟩ rfl
          · cases h
        · cases h
      · rename_i x y pt it hts
        obtain ⟨xo, yo, rfl, hxr, hyr⟩ := two rfl
        have hct : cts = #[pt, it] := Array.ext' hts
        subst hct
        rcases run_text (C := C) (it := it) (ty := type) hi hxr hyr h with ⟨r, hrun, hrr, hsw, hnb⟩ | ⟨r, w1, hrun, hrr, hi1, he1, hnb⟩
        · exact still ⟨r, by rw [exec]; simp [builtin, hrun], hrr⟩ hsw
        · exact eff hle ⟨r, w1, G, by rw [exec]; simp only [builtin, Sem.run_bind, List.map_toArray, List.map_cons, List.map_nil, hrun, Result.andThen_ok, Sem.run_pure]; exact .value _ _, hrr, hi1, he1, Fresh.refl _ _⟩
      · rename_i x t hts
        simp only [Option.map_eq_some_iff] at h
        obtain ⟨r, hr, rfl⟩ := h
        obtain ⟨xo, rfl, hxr⟩ := one rfl
        have hct : cts = #[t] := Array.ext' hts
        subst hct
        unfold capA at hr
        split at hr
        · rename_i e z hut
          simp only [Option.some.injEq] at hr
          subst hr
          generalize hxv : A.eval xo = vx at hxr
          cases hxr
          exact still ⟨.int .i64 0, by rw [exec]; simp [builtin, hxv, Builtin.cap_, run_underlying hut, goInt], .int _ _ _⟩ rfl
        · cases hr
      · cases h
    · rename_i fo hco
      simp only [Option.bind_eq_some_iff] at h
      obtain ⟨fv, hfv, args, hargs, h⟩ := h
      split at h
      · rename_i f cap
        split at h
        · cases h
        · simp only [Option.bind_eq_some_iff, Option.map_eq_some_iff] at h
          obtain ⟨l, hl, r, hr, rfl⟩ := h
          obtain ⟨hen, hpure⟩ := H.pure _ _ _ hr
          obtain ⟨a1, a2⟩ := argsA_rep he hc hargs
          have hfr := op hfv
          generalize hfx : A.eval fo = u at hfr
          cases hfr with
          | fn _ _ cvs _ hcl hcr =>
            obtain ⟨hi1, he1⟩ := inv_fix hi ((args ++ cap).map (reachD s.toMem 2097152)).flatten (updL s.sto (froz s ((args ++ cap).map (reachD s.toMem 2097152)).flatten)) (updL_froz s.toMem s rfl _ _ (fun i => .inl rfl))
            obtain ⟨m1, m2⟩ := mapM_spec hl
            have hargsR : ∀ (j : Nat) v a, (c.args.map A.eval ++ cvs)[j]? = some v → (args ++ cap)[j]? = some a → Rep G v a := by
              intro j v a hv ha
              have hsz : (c.args.map A.eval).size = args.length := by simp [a1]
              by_cases hj : j < args.length
              · rw [List.getElem?_append_left hj] at ha
                rw [Array.getElem?_append_left (by omega)] at hv
                obtain ⟨x, hx, hr⟩ := a2 j a ha
                simp only [Array.getElem?_map, Option.map_eq_some_iff] at hv
                obtain ⟨x', hx', rfl⟩ := hv
                rw [Array.getElem?_toList] at hx
                rw [hx] at hx'
                cases hx'
                exact hr
              · rw [List.getElem?_append_right (by omega)] at ha
                rw [Array.getElem?_append_right (by omega), hsz] at hv
                exact hcr _ _ _ hv ha
            have hsize : (c.args.map A.eval ++ cvs).size = l.length := by
              rw [m1]
              simp [a1, hcl]
            have hinv0 : Inv (G.fix w s.toMem ((args ++ cap).map (reachD s.toMem 2097152)).flatten).bare w .empty := ⟨hi1.okM, fun _ _ _ _ h => by simp [Gh.bare] at h, fun _ _ _ _ _ h => by simp [Gh.bare] at h, fun _ _ _ h => by simp [Gh.bare] at h⟩
            refine wp_call (f := f) (vs := c.args.map A.eval ++ cvs) (by rw [exec_call rfl hco hfx]; exact hen _ _) ((hpure _ w _ (fun _ _ => rfl) hinv0 (hc.ext he1).bare hsize (fun j v a hv ha => ?_)).mono ?_)
            · have hj : j < (args ++ cap).length := by rw [← m1]; exact (List.getElem?_eq_some_iff.1 ha).1
              obtain ⟨b, hb, hs⟩ := m2 j _ (List.getElem?_eq_getElem hj)
              rw [ha] at hb
              cases hb
              exact snap_rep hi 2097152 (hargsR j v _ hv (List.getElem?_eq_getElem hj)) hs (fun id hid => List.mem_flatten.2 ⟨_, List.mem_map.2 ⟨_, List.getElem_mem hj, rfl⟩, hid⟩)
            · rintro e w' ⟨v, G', rfl, hb, hrr, hi', he'⟩
              by_cases hcool : r.cool = true
              · obtain ⟨j1, j2⟩ := join_cool hi he'
                have hz : frozV s r ((args ++ cap).map (reachD s.toMem 2097152)).flatten = [] := if_pos hcool
                exact ⟨v, rfl, hk v w' G (hrr.cool hcool) (by rw [hz]; exact j1.more hle) j2 (Fresh.refl _ _)⟩
              have hz : frozV s r ((args ++ cap).map (reachD s.toMem 2097152)).flatten = froz s ((args ++ cap).map (reachD s.toMem 2097152)).flatten := if_neg hcool
              simp only [hz] at hk
              obtain ⟨j1, j2⟩ := join_call hi1 hb hi' he'
              exact ⟨v, rfl, hk v w' ⟨G'.M, (G.fix w s.toMem ((args ++ cap).map (reachD s.toMem 2097152)).flatten).T⟩ (hrr.mono (fun _ => List.prefix_refl _) (fun i g x h => by rw [hb] at h; cases h)) (j1.more hle) (he1.trans j2) ⟨fun _ _ h => h, fun _ _ _ h => .inl h⟩⟩
      · cases h
    · cases h
  | _ => cases h

end Go.Ev
end
section
namespace Go.Ev
set_option linter.unusedVariables false
set_option linter.unusedSimpArgs false
variable {C : Ctx} {G : Gh} {w : World} {m : Mem}

theorem wants_spec {A : _root_.Go.Act} {env : Nat → AV} (he : EnvRep G A.tmps env) {ops : Array Oper} {o : Oper} {b : Bool} (h : wants ops env o = some b) : Region.wanted o (yielded ops A.tmps) = b := by
  unfold wants at h
  unfold Region.wanted
  split at h
  · simp only [Option.some.injEq] at h
    subst h
    rename_i hg
    rw [hg]
  · rename_i j wt hg
    rw [hg]
    simp only
    unfold yielded
    split at h
    · rename_i d hd
      have hr := he d
      simp only [hd, Option.bind_some]
      split at h
      · rename_i b' hb
        simp only [Option.some.injEq] at h
        subst h
        rw [hb] at hr
        have hv := rep_bool hr
        rw [Array.getD_eq_getD_getElem?] at hv
        cases hx : A.tmps[d]? with
        | none => rw [hx] at hv; cases hv
        | some v =>
          rw [hx] at hv
          simp only [Option.getD_some] at hv
          subst hv
          simp only [Option.some_beq_some]
      · rename_i hb
        simp only [Option.some.injEq] at h
        subst h
        rw [hb] at hr
        generalize hx : A.tmps.getD d Go.undef = v at hr
        cases hr
        rw [Array.getD_eq_getD_getElem?] at hx
        cases hx2 : A.tmps[d]? with
        | none => rfl
        | some v =>
          rw [hx2] at hx
          simp only [Option.getD_some] at hx
          subst hx
          rfl
      · cases h
    · rename_i hd
      simp only [Option.some.injEq] at h
      subst h
      simp [hd]

/-- What is numbered anew has a number from n on, or follows all that were known. -/
def NewIn (n : Nat) (G G' : Gh) : Prop := (∀ id, id < n → (∀ g, G.T id g = none) → ∀ g, G'.T id g = none) ∧ ∀ id g x, G'.T id g = some x → G.T id g = some x ∨ ∀ g0 y, G.T id g0 = some y → g0 < g

theorem NewIn.refl (n : Nat) (G : Gh) : NewIn n G G := ⟨fun _ _ h => h, fun _ _ _ h => .inl h⟩
theorem NewIn.trans {n n1 : Nat} {G G1 G2 : Gh} (hT : ∀ id g x, G.T id g = some x → G1.T id g = some x) (h : NewIn n G G1) (k : NewIn n1 G1 G2) (hn : n ≤ n1) : NewIn n G G2 := ⟨fun id hid h0 => k.1 id (by omega) (h.1 id hid h0), fun id g x hx => by
  rcases k.2 id g x hx with hx | hx
  · exact h.2 id g x hx
  · exact .inr (fun g0 y h0 => hx g0 y (hT _ _ _ h0))⟩
theorem Fresh.newIn {n fb : Nat} {G G1 : Gh} (h : Fresh fb G G1) (hn : n ≤ fb) : NewIn n G G1 := ⟨fun id hid h0 => h.1 id (by omega) h0, h.2⟩

/-- A call in the caller's memory. -/
def ShareOk (C : Ctx) (f : FuncId) (args : List AV) (m : Mem) (r : AV) (m' : Mem) : Prop :=
  (∀ (vs : Array Value) (w : World), (callFunc f vs).run C.P w = .ok (.enter f vs) w) ∧
  ∀ (G : Gh) (w : World) (vs : Array Value), Inv G w m → CtxOk C G w → vs.size = args.length → (∀ (j : Nat) v a, vs[j]? = some v → args[j]? = some a → Rep G v a) →
    Calls C.P f vs w fun e w' => ∃ v G', e = .returned v ∧ Rep G' v r ∧ Inv G' w' m' ∧ Ext G w G' w' ∧ NewIn m.nid G G' ∧ m.nid ≤ m'.nid

structure Hyps2 (C : Ctx) (callI : FuncId → List AV → Mem → Option (AV × Mem)) (call : FuncId → List AV → Option AV) : Prop extends Hyps C call where
  share : ∀ f args m r m', callI f args m = some (r, m') → ShareOk C f args m r m'

/-- The frame, its memory and the world, and what the evaluator knows of them. -/
structure Sim (C : Ctx) (n : Nat) (G : Gh) (A : _root_.Go.Act) (w : World) (s : St) : Prop where
  env : EnvRep G A.tmps s.env
  inv : Inv G w s.toMem
  ctx : CtxOk C G w
  size : A.tmps.size = n

def After (C : Ctx) (n : Nat) (G : Gh) (w : World) (A : _root_.Go.Act) (n0 : Nat) (s' : St) (A' : _root_.Go.Act) (w' : World) : Prop :=
  ∃ G', Sim C n G' A' w' s' ∧ Ext G w G' w' ∧ A'.defers = A.defers ∧ NewIn n0 G G' ∧ n0 ≤ s'.nid

theorem After.refl {n n0 : Nat} {A : _root_.Go.Act} {s : St} (h : Sim C n G A w s) (hn : n0 ≤ s.nid) : After C n G w A n0 s A w := ⟨G, h, Ext.refl _ _, rfl, NewIn.refl _ _, hn⟩

theorem Sim.put {n : Nat} {A : _root_.Go.Act} {s : St} {G' : Gh} {w' : World} (h : Sim C n G A w s) (he : Ext G w G' w') {mm : Mem} (hi : Inv G' w' mm) {dst : Option Tmp} (hd : ∀ d, dst = some d → d < n) {v : Value} {x : AV} (hr : Rep G' v x) :
    Sim C n G' (A.put dst v) w' { mm with env := putE s.env dst x } ∧ (A.put dst v).defers = A.defers := by
  cases dst with
  | none => exact ⟨⟨h.env.ext he, hi, h.ctx.ext he, h.size⟩, rfl⟩
  | some d =>
    refine ⟨⟨(h.env.ext he).put (by rw [h.size]; exact hd d rfl) hr, hi, h.ctx.ext he, ?_⟩, rfl⟩
    show (A.tmps.setIfInBounds d v).size = n
    rw [Array.size_setIfInBounds]
    exact h.size

theorem noT_of_dom (hi : Inv G w m) : ∀ g, G.T m.nid g = none := by
  intro g
  cases h : G.T m.nid g with
  | none => rfl
  | some x => have := (hi.dom _ _ _ h).1; omega

theorem stepN_wp {callI : FuncId → List AV → Mem → Option (AV × Mem)} {call : FuncId → List AV → Option AV} (H : Hyps2 C callI call) {n : Nat} {A : _root_.Go.Act} {s s' : St} {ops : Array Oper} {o : Oper} (hs : Sim C n G A w s) (hd : ∀ d, o.dst = some d → d < n)
    (h : stepN C callI call ops o s = some s') {K : _root_.Go.Act → World → Prop} {Q : Exit → _root_.Go.Act → World → Prop} (hk : ∀ A' w', After C n G w A s.nid s' A' w' → K A' w') :
    if Region.wanted o (yielded ops A.tmps) then o.wp C.P A w K Q else K (A.put o.dst Go.undef) w := by
  unfold stepN at h
  simp only [Option.bind_eq_some_iff] at h
  obtain ⟨b, hb, h⟩ := h
  rw [wants_spec hs.env hb]
  cases b with
  | false =>
    simp only [Bool.false_eq_true, if_false, Option.some.injEq] at h ⊢
    subst h
    obtain ⟨h1, h2⟩ := hs.put (Ext.refl _ _) hs.inv hd (v := Go.undef) (x := .void) (.void _)
    exact hk _ _ ⟨G, h1, Ext.refl _ _, h2, NewIn.refl _ _, Nat.le_refl _⟩
  | true =>
    simp only [if_true] at h ⊢
    split at h
    · rename_i f args hl
      simp only [Option.map_eq_some_iff, Prod.exists] at h
      obtain ⟨r, m', hr, rfl⟩ := h
      obtain ⟨hen, hsh⟩ := H.share _ _ _ _ _ hr
      unfold loudCall at hl
      split at hl
      · rename_i c hop
        split at hl
        · rename_i fo hco
          simp only [Option.bind_eq_some_iff] at hl
          obtain ⟨fv, hfv, as, has, hl⟩ := hl
          split at hl
          · rename_i f' cap
            split at hl
            · simp only [Option.some.injEq, Prod.mk.injEq] at hl
              obtain ⟨rfl, rfl⟩ := hl
              obtain ⟨a1, a2⟩ := argsA_rep hs.env hs.ctx has
              have hfr := opd_rep hs.env hs.ctx hfv
              generalize hfx : A.eval fo = u at hfr
              cases hfr with
              | fn _ _ cvs _ hcl hcr =>
                refine wp_call (f := f') (vs := c.args.map A.eval ++ cvs) (by rw [exec_call hop hco hfx]; exact hen _ _) ((hsh G w _ hs.inv hs.ctx (by simp [a1, hcl]) (fun j v a hv ha => ?_)).mono ?_)
                · have hsz : (c.args.map A.eval).size = as.length := by simp [a1]
                  by_cases hj : j < as.length
                  · rw [List.getElem?_append_left hj] at ha
                    rw [Array.getElem?_append_left (by omega)] at hv
                    obtain ⟨x, hx, hr⟩ := a2 j a ha
                    simp only [Array.getElem?_map, Option.map_eq_some_iff] at hv
                    obtain ⟨x', hx', rfl⟩ := hv
                    rw [Array.getElem?_toList] at hx
                    rw [hx] at hx'
                    cases hx'
                    exact hr
                  · rw [List.getElem?_append_right (by omega)] at ha
                    rw [Array.getElem?_append_right (by omega), hsz] at hv
                    exact hcr _ _ _ hv ha
                · rintro e w' ⟨v, G', rfl, hrr, hi', he', hne', hnid⟩
                  obtain ⟨h1, h2⟩ := hs.put he' hi' hd hrr
                  exact ⟨v, rfl, hk _ _ ⟨G', h1, he', h2, hne', hnid⟩⟩
            · cases hl
          · cases hl
        · cases hl
      · cases hl
    · simp only [Option.map_eq_some_iff] at h
      obtain ⟨a, ha, rfl⟩ := h
      refine act_wp H.toHyps hs.env hs.ctx hs.inv (fb := s.nid) (nid' := s.nid + a.nb) (noT_of_dom hs.inv) (by omega) ha (by omega) (fun v w' G' hr hi' he' hfr => ?_)
      obtain ⟨h1, h2⟩ := hs.put he' hi' hd hr
      exact hk _ _ ⟨G', h1, he', h2, hfr.newIn (Nat.le_refl _), Nat.le_add_right _ _⟩

/-- A region in the order of the text. -/
theorem runT_wp {callI : FuncId → List AV → Mem → Option (AV × Mem)} {call : FuncId → List AV → Option AV} (H : Hyps2 C callI call) {n : Nat} {ops : Array Oper} (hdst : ∀ o ∈ ops.toList, ∀ d, o.dst = some d → d < n) {Q : Exit → _root_.Go.Act → World → Prop} {s' : St} :
    ∀ (k i : Nat) (G : Gh) (A : _root_.Go.Act) (w : World) (s : St), i + k = ops.size → runT C callI call ops (ops.toList.drop i) s = some s' → Sim C n G A w s → (∀ A' w', After C n G w A s.nid s' A' w' → Q .normal A' w') → wpOps C.P ops Q (List.range' i k) A w
  | 0, i, G, A, w, s, hi, h, hs, hq => by
    have : ops.toList.drop i = [] := List.drop_eq_nil_of_le (by simp; omega)
    rw [this] at h
    simp only [runT, Option.some.injEq] at h
    subst h
    exact hq _ _ (After.refl hs (Nat.le_refl _))
  | k + 1, i, G, A, w, s, hi, h, hs, hq => by
    have hlt : i < ops.size := by omega
    have hdrop : ops.toList.drop i = ops[i] :: ops.toList.drop (i + 1) := by
      rw [List.drop_eq_getElem_cons (by simpa using hlt)]
      simp
    rw [hdrop] at h
    simp only [runT, Option.bind_eq_some_iff] at h
    obtain ⟨s1, h1, h2⟩ := h
    rw [List.range'_succ, wpOps]
    have ho : ops[i]? = some ops[i] := Array.getElem?_eq_getElem hlt
    simp only [ho]
    have key := stepN_wp H hs (hdst _ (Array.getElem_mem_toList hlt)) h1 (K := wpOps C.P ops Q (List.range' (i + 1) k)) (Q := Q) (fun A' w' ⟨G', hs', he', hd', hn', hl'⟩ =>
      runT_wp H hdst k (i + 1) G' A' w' s1 (by omega) h2 hs' (fun A2 w2 ⟨G2, hs2, he2, hd2, hn2, hl2⟩ => hq A2 w2 ⟨G2, hs2, he'.trans he2, hd2.trans hd', NewIn.trans he'.T hn' hn2 hl', Nat.le_trans hl' hl2⟩))
    split
    · rename_i hw
      rw [if_pos hw] at key
      exact .inl key
    · rename_i hw
      rw [if_neg hw] at key
      exact key

def codeOk (n : Nat) : Code → Bool
  | .region _ ops _ => ops.toList.all fun o => match o.dst with | some d => decide (d < n) | none => true
  | .seq a b => codeOk n a && codeOk n b
  | .cond _ a b => codeOk n a && codeOk n b
  | .block _ a => codeOk n a
  | .loop a => codeOk n a
  | _ => true

theorem codeOk_dst {n : Nat} {id : Nat} {ops : Array Oper} {dr : Bool} (h : codeOk n (.region id ops dr) = true) : ∀ o ∈ ops.toList, ∀ d, o.dst = some d → d < n := by
  intro o ho d hd
  simp only [codeOk, List.all_eq_true] at h
  have := h o ho
  rw [hd] at this
  simpa using this

def exOf : Ex → Exit
  | .normal => .normal
  | .exit n => .exit n
  | .ret => .ret

end Go.Ev
end
