/- Part of the proof of a statement about the given program: EvOps3. No condition of its own. -/
import Derived.Test.YtfkjjmhbljlbkaaDoorEvOps2
namespace Go.Ev
set_option linter.unusedVariables false
set_option linter.unusedSimpArgs false
variable {C : Ctx} {G : Gh} {w : World} {m : Mem}

theorem fold_set : ∀ (vs : List Value) (off k : Nat) (cells : Array Value),
    ((vs.zipIdx k).foldl (fun (cs : Array Value) (p : Value × Nat) => cs.setIfInBounds (off + p.2) p.1) cells).size = cells.size ∧
    ∀ i : Nat, ((vs.zipIdx k).foldl (fun (cs : Array Value) (p : Value × Nat) => cs.setIfInBounds (off + p.2) p.1) cells)[i]? = if off + k ≤ i ∧ i < off + k + vs.length ∧ i < cells.size then vs[i - off - k]? else cells[i]?
  | [], off, k, cells => ⟨rfl, fun i => by simp; omega⟩
  | v :: vs, off, k, cells => by
    obtain ⟨h1, h2⟩ := fold_set vs off (k + 1) (cells.setIfInBounds (off + k) v)
    simp only [List.zipIdx_cons, List.foldl_cons]
    refine ⟨by rw [h1]; simp, fun i => ?_⟩
    rw [h2 i]
    simp only [Array.size_setIfInBounds, List.length_cons]
    by_cases hi : i = off + k
    · subst hi
      rw [if_neg (by omega), Array.getElem?_setIfInBounds_self]
      by_cases hs : off + k < cells.size
      · rw [if_pos hs, if_pos ⟨by omega, by omega, hs⟩]
        simp [show off + k - off - k = 0 by omega]
      · rw [if_neg hs, if_neg (by omega), Array.getElem?_eq_none (by omega)]
    · rw [Array.getElem?_setIfInBounds_ne (Ne.symm hi)]
      by_cases hc : off + (k + 1) ≤ i ∧ i < off + (k + 1) + vs.length ∧ i < cells.size
      · rw [if_pos hc, if_pos ⟨by omega, by omega, hc.2.2⟩]
        rw [show i - off - k = (i - off - (k + 1)) + 1 by omega, List.getElem?_cons_succ]
      · rw [if_neg hc, if_neg (by omega)]

/-- A row of cells with others in the place of some. -/
structure RowRep (G : Gh) (cells : Array Value) (cs : List AV) : Prop where
  size : cells.size = cs.length
  rep : ∀ (j : Nat) v c, cells[j]? = some v → cs[j]? = some c → Rep G v c

theorem splice_get (cs new : List AV) (off i : Nat) (h : off + new.length ≤ cs.length) : (spliceA cs off new)[i]? = if off ≤ i ∧ i < off + new.length then new[i - off]? else cs[i]? := by
  unfold spliceA
  by_cases h1 : i < off
  · rw [if_neg (by omega), List.getElem?_append_left (by simp; omega), List.getElem?_append_left (by simp; omega), List.getElem?_take, if_pos h1]
  · by_cases h2 : i < off + new.length
    · rw [if_pos ⟨by omega, h2⟩, List.getElem?_append_left (by simp; omega), List.getElem?_append_right (by simp; omega)]
      congr 1
      simp; omega
    · rw [if_neg (by omega), List.getElem?_append_right (by simp; omega), List.getElem?_drop]
      congr 1
      simp; omega

theorem splice_length (cs new : List AV) (off : Nat) (h : off + new.length ≤ cs.length) : (spliceA cs off new).length = cs.length := by
  unfold spliceA; simp; omega

theorem fill_rep {place : Nat → Option (Nat × Nat)} : ∀ (ps : List (Nat × Value)) (qs : List (Nat × Nat × AV)) (cells : Array Value) (cs r : List AV),
    ps.length = qs.length → (∀ (j : Nat) p q, ps[j]? = some p → qs[j]? = some q → place p.1 = some (q.1, q.2.1) ∧ Rep G p.2 q.2.2) → RowRep G cells cs → fillA cs qs = some r →
    ∃ out, Instr.fill place cells ps = some out ∧ RowRep G out r
  | [], [], cells, cs, r, _, _, hr, h => by
    simp only [fillA, Option.some.injEq] at h
    subst h
    exact ⟨cells, rfl, hr⟩
  | p :: ps, q :: qs, cells, cs, r, hl, hp, hr, h => by
    obtain ⟨i, v⟩ := p
    obtain ⟨off, size, a⟩ := q
    have h1 : place i = some (off, size) := (hp 0 _ _ rfl rfl).1
    have h2 : Rep G v a := (hp 0 _ _ rfl rfl).2
    simp only [fillA] at h
    split at h
    · rename_i hc
      obtain ⟨c1, c2, c3⟩ := hc
      obtain ⟨d1, d2, d3⟩ := h2.cells c3
      have key := fold_set v.cells.toList off 0 cells
      have hrow : RowRep G ((v.cells.toList.zipIdx 0).foldl (fun (cs : Array Value) (p : Value × Nat) => cs.setIfInBounds (off + p.2) p.1) cells) (spliceA cs off a.cells) := by
        refine ⟨by rw [key.1, splice_length _ _ _ (by omega)]; exact hr.size, fun j v' c' hv hc => ?_⟩
        rw [key.2] at hv
        rw [splice_get _ _ _ _ (by omega)] at hc
        simp only [Nat.add_zero, Array.length_toList] at hv
        have hsz := hr.size
        by_cases hj : off ≤ j ∧ j < off + a.cells.length
        · rw [if_pos hj] at hc
          rw [if_pos ⟨hj.1, by omega, by omega⟩] at hv
          exact d2 _ _ _ (by simpa using hv) hc
        · rw [if_neg hj] at hc
          rw [if_neg (by omega)] at hv
          exact hr.rep _ _ _ hv hc
      obtain ⟨out, ho, hor⟩ := fill_rep ps qs _ _ r (by simpa using hl) (fun j p q hpj hqj => hp (j + 1) p q (by simpa using hpj) (by simpa using hqj)) hrow h
      refine ⟨out, ?_, hor⟩
      have hsz := hr.size
      simp only [Instr.fill, h1]
      rw [if_neg (by simp; omega)]
      rw [← ho]
      congr 1
      rw [← Array.foldl_toList, Array.toList_zipIdx]
    · cases h
  | [], _ :: _, _, _, _, hl, _, _, _ => by simp at hl
  | _ :: _, [], _, _, _, hl, _, _, _ => by simp at hl

theorem mapM_spec {α β : Type} {f : α → Option β} : ∀ {l : List α} {r : List β}, l.mapM f = some r → r.length = l.length ∧ ∀ (j : Nat) a, l[j]? = some a → ∃ b, r[j]? = some b ∧ f a = some b
  | [], r, h => by simp at h; subst h; exact ⟨rfl, fun j a ha => by simp at ha⟩
  | x :: l, r, h => by
    simp only [List.mapM_cons, Option.bind_eq_bind, Option.bind_eq_some_iff, Option.pure_def, Option.some.injEq] at h
    obtain ⟨b, hb, bs, hbs, rfl⟩ := h
    obtain ⟨h1, h2⟩ := mapM_spec hbs
    refine ⟨by simp [h1], fun j a ha => ?_⟩
    cases j with
    | zero => simp only [List.getElem?_cons_zero, Option.some.injEq] at ha; subst ha; exact ⟨b, rfl, hb⟩
    | succ j => simp only [List.getElem?_cons_succ] at ha ⊢; exact h2 j a ha

/-- What a type's variables begin as. -/
theorem zeroC_cv {P : Program} {t : TypeId} {z : Value} {x : AV} (h : cv1 P t z = some x) : x.one = true := by
  unfold cv1 at h
  split at h <;> simp only [Option.some.injEq, reduceCtorEq, Option.map_eq_some_iff] at h <;> first | (subst h; rfl) | (obtain ⟨_, _, rfl⟩ := h; rfl)

theorem zeroC_one (P : Program) : ∀ (d : Nat) (t : TypeId) (cs : List AV), zeroC P d t = some cs → ∀ c ∈ cs, c.one = true
  | 0, t, cs, h => by simp [zeroC] at h
  | d + 1, t, cs, h => by
    rw [zeroC] at h
    split at h
    · cases h
    split at h
    · simp only [Option.map_eq_some_iff] at h
      obtain ⟨ls, hls, rfl⟩ := h
      obtain ⟨h1, h2⟩ := mapM_spec hls
      intro c hc
      obtain ⟨l, hl, hcl⟩ := List.mem_flatten.1 hc
      obtain ⟨j, hj, rfl⟩ := List.mem_iff_getElem.1 hl
      obtain ⟨b, hb, hbf⟩ := h2 j _ (List.getElem?_eq_getElem (h1 ▸ hj))
      rw [List.getElem?_eq_getElem hj] at hb
      cases hb
      exact zeroC_one P d _ _ hbf c hcl
    · simp only [Option.map_eq_some_iff] at h
      obtain ⟨l, hl, rfl⟩ := h
      intro c hc
      obtain ⟨l', hl', hcl⟩ := List.mem_flatten.1 hc
      rw [List.eq_of_mem_replicate hl'] at hcl
      exact zeroC_one P d _ _ hl c hcl
    · simp only [Option.map_eq_some_iff, Option.bind_eq_some_iff] at h
      obtain ⟨z, ⟨y, _, hz⟩, x', hx', rfl⟩ := h
      intro c hc
      simp only [List.mem_singleton] at hc
      subst hc
      exact zeroC_cv hx'

/-- The zero value of a type reads as zeroC tells: a closed fact of the program. -/
def ZeroOk (P : Program) : Prop := ∀ (G : Gh) (t : TypeId) (cs : List AV), zeroC P 6 t = some cs → ∃ z, (P.info? t).bind (·.zero) = some z ∧ RowRep G z.cells cs

theorem run_zero {P : Program} (hz : ZeroOk P) {t : TypeId} {cs : List AV} (h : zeroC P 6 t = some cs) (G : Gh) : ∃ z, (zeroValue t).run P w = .ok z w ∧ RowRep G z.cells cs := by
  obtain ⟨z, h1, h2⟩ := hz G t cs h
  simp only [Option.bind_eq_some_iff] at h1
  obtain ⟨i, hi, hz⟩ := h1
  exact ⟨z, by simp [zeroValue, typeInfo, hi, hz], h2⟩

theorem run_unA {op : UnOp} {x r : AV} (h : unA op x = some r) {u : Value} (hu : Rep G u x) : ∃ v, (Op.unary op u).run C.P w = .ok v w ∧ Rep G v r := by
  unfold unA at h
  split at h <;> simp only [Option.some.injEq, reduceCtorEq] at h <;> subst h
  · obtain rfl := rep_int hu
    exact ⟨_, by simp only [Op.unary, Op.intArith]; rfl, .int _ _ _⟩
  · obtain rfl := rep_int hu
    exact ⟨_, by simp only [Op.unary, Op.intBits]; rfl, .int _ _ _⟩
  · obtain rfl := rep_bool hu
    exact ⟨_, rfl, .bool _ _⟩

theorem run_part {t : TypeId} {cs : List AV} {x : AV} {off : Nat} {vs : Array Value} (h : loadA C t (cs.drop off) = some x) (hr : RowRep G vs cs) : ∃ v, (part t vs off).run C.P w = .ok v w ∧ Rep G v x := by
  unfold loadA at h
  simp only [Option.bind_eq_some_iff] at h
  obtain ⟨bb, hb, h⟩ := h
  have hag := run_isAgg (w := w) hb
  have hsz := hr.size
  cases bb with
  | true =>
    simp only [if_true] at h
    split at h
    · rename_i hn
      simp only [Option.some.injEq] at h
      subst h
      have hi : ∃ i, C.P.info? t = some i := by
        unfold isAggT at hb
        simp only [Option.map_eq_some_iff] at hb
        obtain ⟨d, hd, _⟩ := hb
        exact info_of hd
      obtain ⟨i, hi⟩ := hi
      simp only [List.length_drop] at hn
      refine ⟨.agg (vs.extract off (off + szT C.P t)), by simp [part, hag, run_sizeOf hi], .agg _ _ _ (by simp; omega) (fun j v c hv hcc => ?_)⟩
      rw [List.getElem?_take] at hcc
      split at hcc
      · rename_i hj
        rw [List.getElem?_drop] at hcc
        have hv' : vs[off + j]? = some v := by
          rw [Array.getElem?_extract] at hv
          split at hv <;> first | exact hv | cases hv
        exact hr.rep _ _ _ hv' hcc
      · cases hcc
    · cases h
  | false =>
    simp only [Bool.false_eq_true, if_false] at h
    have hc : cs[off]? = some x := by
      rw [List.head?_drop] at h
      exact h
    have hlt : off < vs.size := hsz ▸ (List.getElem?_eq_some_iff.1 hc).1
    refine ⟨vs[off], ?_, hr.rep off _ _ (Array.getElem?_eq_getElem hlt) hc⟩
    simp [part, hag, hlt]

theorem Rep.row {vs : Array Value} {cs : List AV} (h : Rep G (.agg vs) (.agg cs)) : RowRep G vs cs := by
  cases h with
  | agg _ _ _ hl hr => exact ⟨hl, hr⟩

theorem run_field {t : TypeId} {fs : Array Field} {f : Nat} {fd : Field} {cs : List AV} {x : AV} {u : Value} (hf : fieldsT C.P t = some fs) (hfd : fs[f]? = some fd) (hu : Rep G u (.agg cs)) (h : loadA C fd.type (cs.drop fd.offset) = some x) :
    ∃ v, (Instr.field t u f).run C.P w = .ok v w ∧ Rep G v x := by
  unfold fieldsT at hf
  split at hf
  · rename_i fs' hut
    simp only [Option.some.injEq] at hf
    subst hf
    cases hu with
    | agg _ vs _ hl hr =>
      obtain ⟨v, hv, hrr⟩ := run_part (C := C) (w := w) h ⟨hl, hr⟩
      exact ⟨v, by simp [Instr.field, run_underlying hut, hfd, asAgg, hv], hrr⟩
  · cases hf

theorem run_extract {u : Value} {vs : List AV} {i : Nat} {x : AV} (hu : Rep G u (.tup vs)) (h : vs[i]? = some x) : ∃ v, (Instr.extract u i).run C.P w = .ok v w ∧ Rep G v x := by
  cases hu with
  | tup _ us _ hl hr =>
    have hlt : i < us.size := hl ▸ (List.getElem?_eq_some_iff.1 h).1
    refine ⟨us[i], ?_, hr i _ _ (Array.getElem?_eq_getElem hlt) h⟩
    simp [Instr.extract, hlt]

/-- Bytes as cells. -/
theorem bytes_rep : ∀ (cs : List AV) (l : List UInt8) (vs : List Value), bytesStr cs = some l → vs.length = cs.length → (∀ (j : Nat) v c, vs[j]? = some v → cs[j]? = some c → Rep G v c) →
    ∃ ns : List Int, vs = ns.map (fun n => Value.int .u8 n) ∧ l = ns.map fun n => UInt8.ofNat n.toNat := by
  intro cs
  induction cs with
  | nil => intro l vs h hl _; simp [bytesStr] at h; subst h; exact ⟨[], by simpa using hl, rfl⟩
  | cons c cs ih =>
    intro l vs h hl hr
    cases vs with
    | nil => simp at hl
    | cons v vs =>
      have h0 := hr 0 v c rfl rfl
      unfold bytesStr at h
      split at h
      · rename_i heq; cases heq
      · rename_i n r heq
        simp only [List.cons.injEq] at heq
        obtain ⟨rfl, rfl⟩ := heq
        simp only [Option.map_eq_some_iff] at h
        obtain ⟨l', hl', rfl⟩ := h
        obtain rfl := rep_int h0
        obtain ⟨ns, rfl, rfl⟩ := ih l' vs hl' (by simpa using hl) (fun j v c hv hc => hr (j + 1) v c (by simpa using hv) (by simpa using hc))
        exact ⟨n :: ns, by simp, by simp⟩
      · cases h

end Go.Ev
