/- Part of the proof of a statement about the given program: EvEff. No condition of its own. -/
import Derived.Test.YtfkjjmhbljlbkaaDoorEvInv
namespace Go.Ev
set_option linter.unusedVariables false
set_option linter.unusedSimpArgs false
variable {C : Ctx} {G : Gh} {w : World} {m : Mem}

theorem rep_get (z : List AV) : ∀ (n j : Nat), ((List.replicate n z).flatten)[j]? = if j < n * z.length then z[j % z.length]? else none
  | 0, j => by simp
  | n + 1, j => by
    rw [List.replicate_succ, List.flatten_cons]
    by_cases h : j < z.length
    · rw [List.getElem?_append_left h, if_pos (by rw [Nat.add_mul]; omega), Nat.mod_eq_of_lt h]
    · rw [List.getElem?_append_right (by omega), rep_get z n]
      have hz : (j - z.length) % z.length = j % z.length := (Nat.mod_eq_sub_mod (by omega)).symm
      rw [hz]
      by_cases h2 : j - z.length < n * z.length
      · rw [if_pos h2, if_pos (by rw [Nat.add_mul]; omega)]
      · rw [if_neg h2, if_neg (by rw [Nat.add_mul]; omega)]

theorem rep_len (z : List AV) (n : Nat) : ((List.replicate n z).flatten).length = n * z.length := by simp

/-- Noughts, so many times. -/
theorem zeros_rep {z : Array Value} {cs : List AV} (h : RowRep G z cs) (hn : 0 < cs.length) (n k : Nat) (hk : k = n * cs.length) :
    RowRep G ((Array.range k).map (z[· % z.size]!)) (List.replicate n cs).flatten := by
  have hs := h.size
  refine ⟨by simp [hk], fun j v c hv hc => ?_⟩
  rw [rep_get] at hc
  simp only [Array.getElem?_map, Array.getElem?_range] at hv
  split at hc
  · rename_i hj
    rw [if_pos (by omega)] at hv
    simp only [Option.map_some, Option.some.injEq] at hv
    have hlt : j % z.size < z.size := Nat.mod_lt _ (by omega)
    refine h.rep (j % z.size) v c ?_ (by rw [hs]; exact hc)
    rw [Array.getElem?_eq_getElem hlt, ← hv, getElem!_pos z _ hlt]
  · cases hc

/-- What an operation that is no call ends in. -/
inductive Out : Result Next → Value → World → Prop
  | value (v : Value) (w : World) : Out (.ok (.value v) w) v w
  | skip (w : World) : Out (.ok .skip w) Go.undef w

theorem Out.wp {P : Program} {o : Oper} {A : _root_.Go.Act} {v : Value} {w' : World} (h : Out ((execOp A.eval o).run P w) v w') {K : _root_.Go.Act → World → Prop} {Q : Exit → _root_.Go.Act → World → Prop} (hk : K (A.put o.dst v) w') : o.wp P A w K Q := by
  unfold Oper.wp
  cases hr : (execOp A.eval o).run P w with
  | ok x w1 =>
    rw [hr] at h
    cases h <;> exact hk
  | halt x w1 => rw [hr] at h; cases h

/-- No block is numbered but with fb. -/
def Fresh (fb : Nat) (G G' : Gh) : Prop := (∀ id, id ≠ fb → (∀ g, G.T id g = none) → ∀ g, G'.T id g = none) ∧ ∀ id g x, G'.T id g = some x → G.T id g = some x ∨ ∀ g0 y, G.T id g0 = some y → g0 < g

/-- What an operation comes to, memory and all. -/
def Eff (C : Ctx) (fb : Nat) (G : Gh) (w : World) (A : _root_.Go.Act) (o : Oper) (x : AV) (m' : Mem) : Prop :=
  ∃ v w' G', Out ((execOp A.eval o).run C.P w) v w' ∧ Rep G' v x ∧ Inv G' w' m' ∧ Ext G w G' w' ∧ Fresh fb G G'

theorem Fresh.refl (fb : Nat) (G : Gh) : Fresh fb G G := ⟨fun _ _ h => h, fun _ _ _ h => .inl h⟩
theorem Fresh.put_new (G : Gh) (fb g : Nat) (x : Nat × Nat × Bool) (hf : ∀ g, G.T fb g = none) : Fresh fb G (G.put fb g x) := ⟨fun id hid h k => by
  simp only [Gh.put]
  rw [if_neg (fun hc => hid hc.1)]
  exact h k, fun id g' y h => by
  simp only [Gh.put] at h
  split at h
  · rename_i hc
    right
    intro g0 y0 h0
    rw [hc.1, hf] at h0
    cases h0
  · exact .inl h⟩
theorem Fresh.put_old (fb : Nat) {G : Gh} {id g0 : Nat} {y : Nat × Nat × Bool} (h : G.T id g0 = some y) (g : Nat) (x : Nat × Nat × Bool) (hn : G.T id g = some x ∨ ∀ g0 y, G.T id g0 = some y → g0 < g) : Fresh fb G (G.put id g x) := ⟨fun i _ hn k => by
  simp only [Gh.put]
  rw [if_neg (fun hc => by rw [← hc.1, hn] at h; cases h)]
  exact hn k, fun i g' y' h' => by
  simp only [Gh.put] at h'
  split at h'
  · rename_i hc
    obtain ⟨rfl, rfl⟩ := hc
    rcases hn with hn | hn
    · left; rw [hn]; exact h'
    · right; exact hn
  · exact .inl h'⟩

theorem rowRep_box {v : Value} {x : AV} (h : Rep G v x) (h1 : x.cells.all AV.one = true) : RowRep G v.cells x.cells := ⟨(h.cells h1).1, (h.cells h1).2.1⟩

theorem eff_new (hi : Inv G w m) {fb nid' : Nat} {ty : Option (TypeId × Bool)} (hf : ∀ g, G.T fb g = none) (h1 : fb < nid') (h2 : m.nid ≤ nid') {A : _root_.Go.Act} {o : Oper} {cur : Array Value} {e : TypeId} {cs : List AV}
    (hrun : (execOp A.eval o).run C.P w = .ok (.value (.pointer (some ⟨w.heap.size, 0, none⟩))) (w.alloc (.cells cur e))) (hr : RowRep G cur cs) (hone : ∀ c ∈ cs, c.one = true) (hty : ty = none ∨ ty = some (e, true)) :
    Eff C fb G w A o (.ptr fb 0 0) ⟨upd m.sto fb ⟨cs, 0, false, ty⟩, nid'⟩ := by
  have hty' : ∀ t x, ty = some (t, x) → e = t ∧ (x = true → cur.size = cs.length) := by
    intro t x ht
    rcases hty with h | h
    · rw [h] at ht; cases ht
    · rw [h] at ht; cases ht; exact ⟨rfl, fun _ => hr.size⟩
  obtain ⟨hi', he⟩ := inv_new hi hf h1 h2 (w1 := w.alloc (.cells cur e)) (ap := false) (ty := ty) rfl rfl rfl rfl (.inl rfl) (Nat.le_of_eq hr.size.symm) hone hr.rep hty'
  refine ⟨_, _, _, by rw [hrun]; exact .value _ _, ?_, hi', he, Fresh.put_new _ _ _ _ hf⟩
  exact .ptr _ fb 0 0 _ (cur.size, false) (by simp [Gh.put])

theorem eff_alloc (hz : ZeroOk C.P) (hi : Inv G w m) {fb nid' : Nat} (hf : ∀ g, G.T fb g = none) (h1 : fb < nid') (h2 : m.nid ≤ nid') {A : _root_.Go.Act} {o : Oper} {e : TypeId} (ho : o.op = .alloc e) {cs : List AV} (hcs : zeroC C.P 6 e = some cs) :
    Eff C fb G w A o (.ptr fb 0 0) ⟨upd m.sto fb ⟨cs, 0, false, some (e, true)⟩, nid'⟩ := by
  obtain ⟨z, hzr, hrow⟩ := run_zero (w := w) hz hcs G
  refine eff_new (C := C) hi hf h1 h2 (e := e) (cur := z.cells) (ty := some (e, true)) ?_ hrow (zeroC_one _ _ _ _ hcs) (.inr rfl)
  unfold execOp
  simp only [ho]
  simp [Instr.alloc, hzr, newVar, newRow]

theorem eff_box (hi : Inv G w m) {fb nid' : Nat} (hf : ∀ g, G.T fb g = none) (h1 : fb < nid') (h2 : m.nid ≤ nid') {A : _root_.Go.Act} {o : Oper} {e : TypeId} {x : Operand} (ho : o.op = .box e x) {a : AV} (ha : Rep G (A.eval x) a) (hone : a.cells.all AV.one = true) :
    Eff C fb G w A o (.ptr fb 0 0) ⟨upd m.sto fb ⟨a.cells, 0, false, none⟩, nid'⟩ := by
  refine eff_new (C := C) hi hf h1 h2 (e := e) (cur := (A.eval x).cells) (ty := none) ?_ (rowRep_box ha hone) (by simpa using hone) (.inl rfl)
  unfold execOp
  simp only [ho]
  simp [Instr.box, newVar, newRow]

theorem eff_arr (hi : Inv G w m) {fb nid' : Nat} (hf : ∀ g, G.T fb g = none) (h1 : fb < nid') (h2 : m.nid ≤ nid') {A : _root_.Go.Act} {o : Oper} {cur : Array Value} {e : TypeId} {cs : List AV} {n sz : Nat}
    (hrun : (execOp A.eval o).run C.P w = .ok (.value (.slice (some ⟨w.heap.size, 0, none⟩) n n)) (w.alloc (.cells cur e))) (hr : RowRep G cur cs) (hone : ∀ c ∈ cs, c.one = true) (hsz : cs.length = n * sz) :
    Eff C fb G w A o (.arr fb 0 0 n sz true) ⟨upd m.sto fb ⟨cs, 0, false, none⟩, nid'⟩ := by
  obtain ⟨hi', he⟩ := inv_new hi hf h1 h2 (w1 := w.alloc (.cells cur e)) (ap := true) (ty := none) rfl rfl rfl rfl (.inl rfl) (Nat.le_of_eq hr.size.symm) hone hr.rep (fun _ _ ht => by cases ht)
  refine ⟨_, _, _, by rw [hrun]; exact .value _ _, ?_, hi', he, Fresh.put_new _ _ _ _ hf⟩
  exact .arr _ fb 0 0 n sz _ n cur.size true true (by simp [Gh.put]) (Nat.le_refl _) (fun _ => ⟨rfl, by rw [hr.size]; omega, rfl⟩)

theorem fillA_one : ∀ (qs : List (Nat × Nat × AV)) (cs r : List AV), fillA cs qs = some r → (∀ c ∈ cs, c.one = true) → (∀ c ∈ r, c.one = true) ∧ r.length = cs.length
  | [], cs, r, h, hc => by simp only [fillA, Option.some.injEq] at h; subst h; exact ⟨hc, rfl⟩
  | (off, size, a) :: qs, cs, r, h, hc => by
    simp only [fillA] at h
    split at h
    · rename_i hh
      obtain ⟨c1, c2, c3⟩ := hh
      have hlen := splice_length cs a.cells off (by omega)
      obtain ⟨d1, d2⟩ := fillA_one qs _ r h (fun c hcc => by
        unfold spliceA at hcc
        simp only [List.mem_append] at hcc
        rcases hcc with (hcc | hcc) | hcc
        · exact hc c (List.mem_of_mem_take hcc)
        · exact List.all_eq_true.1 c3 c hcc
        · exact hc c (List.mem_of_mem_drop hcc))
      exact ⟨d1, d2.trans hlen⟩
    · cases h

theorem elem_under {P : Program} {t e : TypeId} (h : elemT P t = some e) : P.underlying t = some (.slice e) := by
  unfold elemT at h
  split at h
  · simp only [Option.some.injEq] at h
    subst h
    assumption
  · cases h

theorem eff_buildSlice (hz : ZeroOk C.P) (hi : Inv G w m) {fb nid' : Nat} (hf : ∀ g, G.T fb g = none) (h1 : fb < nid') (h2 : m.nid ≤ nid') {A : _root_.Go.Act} {o : Oper} {t e : TypeId} {n : Nat} {parts : Array (Nat × Operand)} (ho : o.op = .buildSlice t n parts)
    (he : elemT C.P t = some e) {z : List AV} (hzc : zeroC C.P 6 e = some z) (h0 : 0 < szT C.P e) (hzl : z.length = szT C.P e) (hn : n * szT C.P e ≤ 16777216) {ps : List (Nat × Nat × AV)} {env : Nat → AV}
    (hop : ∀ ty x y, opd C env ty x = some y → Rep G (A.eval x) y)
    (hps : parts.toList.mapM (fun (p : Nat × Operand) => if p.1 < n then (opd C env e p.2).map fun a => (p.1 * szT C.P e, szT C.P e, a) else none) = some ps) {cs : List AV} (hfill : fillA (List.replicate n z).flatten ps = some cs) :
    Eff C fb G w A o (.arr fb 0 0 n (szT C.P e) true) ⟨upd m.sto fb ⟨cs, 0, false, none⟩, nid'⟩ := by
  obtain ⟨i, hii⟩ := info_of_sz h0
  have hut := elem_under he
  obtain ⟨m1, m2⟩ := mapM_spec hps
  obtain ⟨zv, hzr, hrow⟩ := run_zero (w := w) hz hzc G
  have hzone : ∀ c ∈ (List.replicate n z).flatten, c.one = true := fun c hc => by
    obtain ⟨l', hl', hcl⟩ := List.mem_flatten.1 hc
    rw [List.eq_of_mem_replicate hl'] at hcl
    exact zeroC_one _ _ _ _ hzc c hcl
  obtain ⟨f1, f2⟩ := fillA_one _ _ _ hfill hzone
  have hbase : RowRep G ((Array.range (n * szT C.P e)).map ((if n * szT C.P e = 0 then #[] else zv.cells)[· % (if n * szT C.P e = 0 then #[] else zv.cells).size]!)) (List.replicate n z).flatten := by
    by_cases hnz : n * szT C.P e = 0
    · have : n = 0 := by
        rcases Nat.mul_eq_zero.1 hnz with h | h
        · exact h
        · omega
      subst this
      exact ⟨by simp, fun j v c hv => by simp at hv⟩
    · rw [if_neg hnz]
      exact zeros_rep hrow (by omega) n _ (by rw [hzl])
  obtain ⟨out, hfo, hrow'⟩ := fill_rep (G := G) (place := fun i => some (i * szT C.P e, szT C.P e)) (parts.map fun (i, x) => (i, A.eval x)).toList ps _ _ cs (by simp [m1]) (fun j p q hp hq => by
    simp only [Array.toList_map, List.getElem?_map, Option.map_eq_some_iff] at hp
    obtain ⟨⟨pi, px⟩, hpa, rfl⟩ := hp
    obtain ⟨b, hb, hbf⟩ := m2 j _ hpa
    rw [hq] at hb
    cases hb
    simp only at hbf
    split at hbf
    · simp only [Option.map_eq_some_iff] at hbf
      obtain ⟨a, ha, rfl⟩ := hbf
      exact ⟨rfl, hop _ _ _ ha⟩
    · cases hbf) hbase hfill
  refine eff_arr (C := C) hi hf h1 h2 (e := e) (cur := out) ?_ hrow' f1 (by rw [f2, rep_len, hzl])
  unfold execOp
  simp only [ho]
  have hlt : ¬ (16777216 < n * szT C.P e) := by omega
  by_cases hnz : n * szT C.P e = 0
  · rw [if_pos hnz] at hfo
    simp only [Instr.buildSlice, Sem.run_bind, run_underlying hut, Result.andThen_ok, run_sizeOf hii]
    simp [hlt, hnz, newRow]
    rw [hnz] at hfo
    simp at hfo
    simp [hfo]
  · rw [if_neg hnz] at hfo
    simp only [Instr.buildSlice, Sem.run_bind, run_underlying hut, Result.andThen_ok, run_sizeOf hii]
    simp [hlt, hnz, hzr, newRow]
    simp at hfo
    simp [hfo]

end Go.Ev
