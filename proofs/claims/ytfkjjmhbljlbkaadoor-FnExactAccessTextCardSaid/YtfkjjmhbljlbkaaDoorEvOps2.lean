/- Part of the proof of a statement about the given program: EvOps2. No condition of its own. -/
import Derived.Test.YtfkjjmhbljlbkaaDoorEvOps
namespace Go.Ev
set_option linter.unusedVariables false
set_option linter.unusedSimpArgs false
variable {C : Ctx} {G : Gh} {w : World} {m : Mem}

/-- The cells of a live block, from a place on. -/
theorem live_row {id b tot : Nat} {ap : Bool} {cur : Array Value} {e : TypeId} {fr : Nat × Nat} (h : LiveAt G w m id b tot ap cur e fr) (off : Nat) :
    (((m.sto id).cells.drop off).length ≤ (cur.toList.drop off).length) ∧ (∀ (j : Nat) v, (cur.toList.drop off)[j]? = some v → w.cell? ⟨b, off + j, none⟩ = some v) ∧
      ∀ (j : Nat) v c, (cur.toList.drop off)[j]? = some v → ((m.sto id).cells.drop off)[j]? = some c → Rep G v c := by
  refine ⟨?_, fun j v hv => ?_, fun j v c hv hc => ?_⟩
  · have := h.len
    have := h.size
    simp only [List.length_drop, Array.length_toList]
    omega
  · rw [List.getElem?_drop] at hv
    simp only [World.cell?, h.heap, Option.isSome_none, Bool.false_eq_true, if_false]
    simpa using hv
  · rw [List.getElem?_drop] at hv hc
    exact h.rep _ _ _ (by simpa using hv) hc

theorem row_still {b off : Nat} {vs : List Value} (hi : Inv G w m) (hM : ∀ (j : Nat) v, vs[j]? = some v → (G.M b)[off + j]? = some v) (j : Nat) (v : Value) (hv : vs[j]? = some v) : w.cell? ⟨b, off + j, none⟩ = some v :=
  hi.okM _ _ _ (hM j v hv)

theorem Rep.of_bare {v : Value} {x : AV} (h : Rep G.bare v x) : Rep G v x := h.mono (fun _ => List.prefix_refl _) (fun _ _ _ h => by simp [Gh.bare] at h)

theorem live_of (hi : Inv G w m) {id b : Nat} {x : Nat × Bool} (h : G.T id (m.sto id).gen = some (b, x)) : ∃ cur e fr, LiveAt G w m id b x.1 x.2 cur e fr :=
  hi.live id b x.1 x.2 h

/-- A load. -/
theorem run_load_op (hi : Inv G w m) {t : TypeId} {u : Value} {a x : AV} (hu : Rep G u a)
    (h : (∃ id g off, a = .ptr id g off ∧ g = (m.sto id).gen ∧ loadA C t ((m.sto id).cells.drop off) = some x) ∨ ∃ cs, a = .eptr cs ∧ loadA C t cs = some x) :
    ∃ v, (Instr.loadAt t u).run C.P w = .ok v w ∧ Rep G v x := by
  rcases h with ⟨id, g, off, rfl, rfl, h⟩ | ⟨cs, rfl, h⟩
  · cases hu with
    | ptr _ _ _ _ b y hT =>
      obtain ⟨cur, e, fr, hl⟩ := live_of hi hT
      obtain ⟨h1, h2, h3⟩ := live_row hl off
      obtain ⟨v, hv, hr⟩ := run_loadA (C := C) h (cur.toList.drop off) h1 h2 h3
      exact ⟨v, by simp [Instr.loadAt, Instr.sureAddr, hv], hr⟩
  · cases hu with
    | eptr _ b off _ vs hl hM hr =>
      obtain ⟨v, hv, hrr⟩ := run_loadA (C := C) h vs (Nat.le_of_eq hl.symm) (row_still hi hM) (fun j v c hv hc => (hr j v c hv hc).of_bare)
      exact ⟨v, by simp [Instr.loadAt, Instr.sureAddr, hv], hrr⟩

theorem run_fieldAt {t : TypeId} {fs : Array Field} (hf : fieldsT C.P t = some fs) {f : Nat} {fd : Field} (hfd : fs[f]? = some fd) (hsz : ¬ szT C.P fd.type = 0) (b off : Nat) :
    (Instr.fieldAt t (.pointer (some ⟨b, off, none⟩)) f).run C.P w = .ok (.pointer (some ⟨b, off + fd.offset, none⟩)) w := by
  unfold fieldsT at hf
  split at hf
  · rename_i fs' hu
    simp only [Option.some.injEq] at hf
    subst hf
    obtain ⟨i, hi⟩ := info_of_sz (Nat.pos_of_ne_zero hsz)
    simp [Instr.fieldAt, run_underlying hu, hfd, Instr.sureAddr, fieldPlace, run_sizeOf hi, hsz, add_addr]
  · cases hf

theorem eptr_drop {b off : Nat} {cs : List AV} {k : Nat} (h : Rep G (.pointer (some ⟨b, off, none⟩)) (.eptr cs)) : Rep G (.pointer (some ⟨b, off + k, none⟩)) (.eptr (cs.drop k)) := by
  cases h with
  | eptr _ _ _ _ vs hl hM hr =>
    refine .eptr _ b (off + k) _ (vs.drop k) (by simp [hl]) (fun j v hv => ?_) (fun j v c hv hc => ?_)
    · rw [List.getElem?_drop] at hv
      have := hM _ _ hv
      rwa [Nat.add_assoc]
    · rw [List.getElem?_drop] at hv hc
      exact hr _ _ _ hv hc

theorem idx_spec {x : AV} {n i : Nat} (h : idx x n = some i) {u : Value} (hu : Rep G u x) : ∃ k z, u = .int k z ∧ 0 ≤ z ∧ z < n ∧ i = z.toNat := by
  unfold idx at h
  split at h
  · rename_i k z
    split at h
    · rename_i hz
      simp only [Option.some.injEq] at h
      exact ⟨k, z, rep_int hu, hz.1, hz.2, h.symm⟩
    · cases h
  · cases h

theorem flat_drop (sz : Nat) : ∀ (xs : List AV) (i : Nat) (x : AV), (∀ y ∈ xs, y.cells.length = sz) → xs[i]? = some x → ∃ r, (flat xs).drop (i * sz) = x.cells ++ r
  | [], i, x, _, h => by simp at h
  | y :: ys, 0, x, hs, h => by
    simp only [List.getElem?_cons_zero, Option.some.injEq] at h
    subst h
    exact ⟨flat ys, by simp [flat]⟩
  | y :: ys, i + 1, x, hs, h => by
    simp only [List.getElem?_cons_succ] at h
    obtain ⟨r, hr⟩ := flat_drop sz ys i x (fun z hz => hs z (List.mem_cons_of_mem _ hz)) h
    refine ⟨r, ?_⟩
    have hy := hs y (List.mem_cons_self ..)
    simp only [flat, List.map_cons, List.flatten_cons] at hr ⊢
    rw [List.drop_append, hy, List.drop_eq_nil_of_le (by rw [hy, Nat.add_mul, Nat.one_mul]; omega), List.nil_append]
    rw [show (i + 1) * sz - sz = i * sz by rw [Nat.add_mul, Nat.one_mul]; omega]
    exact hr

theorem flat_length (sz : Nat) : ∀ (xs : List AV), (∀ y ∈ xs, y.cells.length = sz) → (flat xs).length = xs.length * sz
  | [], _ => by simp [flat]
  | y :: ys, hs => by
    have := flat_length sz ys (fun z hz => hs z (List.mem_cons_of_mem _ hz))
    simp only [flat, List.map_cons, List.flatten_cons, List.length_append, hs y (List.mem_cons_self ..), List.length_cons, Nat.add_mul, Nat.one_mul] at this ⊢
    omega

/-- An element's address. -/
theorem run_indexAt {t e : TypeId} (he : elemT C.P t = some e) {sz : Nat} (hsz : sz = szT C.P e) (h0 : 0 < sz) {k : IntKind} {z : Int} {n cap b off : Nat} (hz : 0 ≤ z) (hn : z < n) :
    (Instr.indexAt t (.slice (some ⟨b, off, none⟩) n cap) (.int k z)).run C.P w = .ok (.pointer (some ⟨b, off + z.toNat * sz, none⟩)) w := by
  subst hsz
  unfold elemT at he
  split at he
  · rename_i e' hu
    simp only [Option.some.injEq] at he
    subst he
    obtain ⟨i, hi⟩ := info_of_sz h0
    simp [Instr.indexAt, asIntOf, run_underlying hu, run_sizeOf hi, hz, hn, add_addr]
  · cases he

theorem run_index_op {t : TypeId} {a ix x : AV} {u v : Value} (hu : Rep G u a) (hv : Rep G v ix)
    (h : (∃ sz xs i e y, a = .slice sz xs ∧ idx ix xs.length = some i ∧ elemT C.P t = some e ∧ (sz = szT C.P e ∧ 0 < sz) ∧ xs[i]? = some y ∧ x = .eptr y.cells) ∨
      (∃ id g off n sz app i e, a = .arr id g off n sz app ∧ idx ix n = some i ∧ elemT C.P t = some e ∧ (sz = szT C.P e ∧ 0 < sz) ∧ x = .ptr id g (off + i * sz)) ∨
      ∃ cs n e i, a = .eptr cs ∧ C.P.underlying t = some (.array n e) ∧ idx ix n = some i ∧ 0 < szT C.P e ∧ x = .eptr (cs.drop (i * szT C.P e))) :
    ∃ r, (Instr.indexAt t u v).run C.P w = .ok r w ∧ Rep G r x := by
  rcases h with ⟨sz, xs, i, e, y, rfl, hi, he, ⟨hsz, h0⟩, hy, rfl⟩ | ⟨id, g, off, n, sz, app, i, e, rfl, hi, he, ⟨hsz, h0⟩, rfl⟩ | ⟨cs, n, e, i, rfl, hut, hi, h0, rfl⟩
  · obtain ⟨k, z, rfl, hz0, hzn, rfl⟩ := idx_spec hi hv
    cases hu with
    | slice0 => simp at hzn; omega
    | sliceE => simp at hzn; omega
    | slice _ b off n cap _ _ vs hn hc hs hl hM h1 hr =>
      subst hn
      refine ⟨_, run_indexAt he hsz h0 hz0 hzn, ?_⟩
      obtain ⟨r, hrr⟩ := flat_drop sz xs z.toNat y hs hy
      have hfl := congrArg List.length hrr
      simp only [List.length_drop, List.length_append] at hfl
      refine .eptr _ b _ _ ((vs.drop (z.toNat * sz)).take y.cells.length) (by simp only [List.length_take, List.length_drop, hl]; omega) (fun j v hv => ?_) (fun j v c hv hcc => ?_)
      · rw [List.getElem?_take] at hv
        split at hv
        · rw [List.getElem?_drop] at hv
          have := hM _ _ hv
          rwa [Nat.add_assoc]
        · cases hv
      · rw [List.getElem?_take] at hv
        split at hv
        · rename_i hj
          rw [List.getElem?_drop] at hv
          refine hr _ v c hv ?_
          rw [← List.getElem?_drop, hrr, List.getElem?_append_left hj]
          exact hcc
        · cases hv
  · obtain ⟨k, z, rfl, hz0, hzn, rfl⟩ := idx_spec hi hv
    cases hu with
    | arr _ _ _ _ _ _ b cap tot _ ap hT hc ha =>
      exact ⟨_, run_indexAt he hsz h0 hz0 hzn, .ptr _ _ _ _ _ _ hT⟩
  · obtain ⟨k, z, rfl, hz0, hzn, rfl⟩ := idx_spec hi hv
    obtain ⟨ii, hii⟩ := info_of_sz h0
    cases hu with
    | eptr _ b off _ vs hl hM hr =>
      refine ⟨.pointer (some ⟨b, off + z.toNat * szT C.P e, none⟩), ?_, eptr_drop (.eptr _ b off cs vs hl hM hr)⟩
      simp [Instr.indexAt, asIntOf, run_underlying hut, Instr.sureAddr, run_sizeOf hii, hz0, hzn, add_addr]

theorem run_index_str {t : TypeId} {s : ByteArray} {u v : Value} {ix : AV} {i : Nat} {b : UInt8} (ht : C.P.underlying t = some .string) (hu : Rep G u (.str s)) (hv : Rep G v ix) (hi : idx ix s.size = some i) (hb : s[i]? = some b) :
    (Instr.index t u v).run C.P w = .ok (.int .u8 b.toNat) w := by
  obtain rfl := rep_str hu
  obtain ⟨k, z, rfl, hz0, hzn, rfl⟩ := idx_spec hi hv
  simp [Instr.index, asIntOf, run_underlying ht, hz0, hb]

theorem bound_spec {x : Option AV} {u : Option Value} {n d r : Nat} (h : bound x n d = some r) (hu : ∀ a, x = some a → ∃ v, u = some v ∧ Rep G v a) (hn : x = none → u = none) :
    (x = none ∧ u = none ∧ r = d) ∨ ∃ k z, u = some (.int k z) ∧ 0 ≤ z ∧ z ≤ n ∧ r = z.toNat ∧ x.isSome := by
  unfold bound at h
  split at h
  · simp only [Option.some.injEq] at h
    exact .inl ⟨rfl, hn rfl, h.symm⟩
  · rename_i k z
    split at h
    · rename_i hz
      simp only [Option.some.injEq] at h
      obtain ⟨v, rfl, hv⟩ := hu _ rfl
      exact .inr ⟨k, z, by rw [rep_int hv], hz.1, hz.2, h.symm, rfl⟩
    · cases h
  · cases h

theorem run_bound {k : IntKind} {z : Int} {y : Nat} {code : BoundsCode} (h0 : 0 ≤ z) (h1 : z ≤ y) : (Instr.sliceBound (.int k z) y code).run C.P w = .ok z.toNat w := by
  simp [Instr.sliceBound, asIntOf, h0, h1]

/-- The three bounds of a cut. -/
theorem run_bounds {isS : Bool} {len cap : Nat} (hlc : len ≤ cap) {lo hi mx : Option AV} {ul uh um : Option Value}
    (hul : ∀ a, lo = some a → ∃ v, ul = some v ∧ Rep G v a) (hul' : lo = none → ul = none)
    (huh : ∀ a, hi = some a → ∃ v, uh = some v ∧ Rep G v a) (huh' : hi = none → uh = none)
    (hum : ∀ a, mx = some a → ∃ v, um = some v ∧ Rep G v a) (hum' : mx = none → um = none)
    (hnm : ¬ (hi.isNone = true ∧ mx.isSome = true)) {m h l : Nat} (hm : bound mx len len = some m) (hh : bound hi m (min len m) = some h) (hl : bound lo h 0 = some l) :
    ∃ m', (Instr.sliceBounds isS len cap ul uh um).run C.P w = .ok (l, h, m') w ∧ h ≤ m' ∧ l ≤ h ∧ h ≤ len ∧ m' ≤ cap := by
  rcases bound_spec hm hum hum' with ⟨rfl, rfl, rfl⟩ | ⟨km, zm, rfl, hm0, hm1, rfl, hms⟩
  · rcases bound_spec hh huh huh' with ⟨rfl, rfl, rfl⟩ | ⟨kh, zh, rfl, hh0, hh1, rfl, _⟩
    · rw [Nat.min_self] at hl ⊢
      rcases bound_spec hl hul hul' with ⟨rfl, rfl, rfl⟩ | ⟨kl, zl, rfl, hl0, hl1, rfl, _⟩
      · exact ⟨cap, by simp [Instr.sliceBounds], hlc, Nat.zero_le _, Nat.le_refl _, Nat.le_refl _⟩
      · exact ⟨cap, by simp [Instr.sliceBounds, run_bound (C := C) hl0 hl1], hlc, by omega, Nat.le_refl _, Nat.le_refl _⟩
    · have hh2 : zh ≤ (cap : Int) := by omega
      rcases bound_spec hl hul hul' with ⟨rfl, rfl, rfl⟩ | ⟨kl, zl, rfl, hl0, hl1, rfl, _⟩
      · exact ⟨cap, by simp [Instr.sliceBounds, run_bound (C := C) hh0 hh2], by omega, Nat.zero_le _, by omega, by omega⟩
      · exact ⟨cap, by simp [Instr.sliceBounds, run_bound (C := C) hh0 hh2, run_bound (C := C) hl0 hl1], by omega, by omega, by omega, by omega⟩
  · have hm2 : zm ≤ (cap : Int) := by omega
    rcases bound_spec hh huh huh' with ⟨rfl, rfl, rfl⟩ | ⟨kh, zh, rfl, hh0, hh1, rfl, _⟩
    · exact absurd ⟨rfl, hms⟩ hnm
    · rcases bound_spec hl hul hul' with ⟨rfl, rfl, rfl⟩ | ⟨kl, zl, rfl, hl0, hl1, rfl, _⟩
      · exact ⟨zm.toNat, by simp [Instr.sliceBounds, run_bound (C := C) hm0 hm2, run_bound (C := C) hh0 hh1], by omega, Nat.zero_le _, by omega, by omega⟩
      · exact ⟨zm.toNat, by simp [Instr.sliceBounds, run_bound (C := C) hm0 hm2, run_bound (C := C) hh0 hh1, run_bound (C := C) hl0 hl1], by omega, by omega, by omega, by omega⟩

theorem flat_cut (sz : Nat) (xs : List AV) (hs : ∀ y ∈ xs, y.cells.length = sz) (l h : Nat) : flat ((xs.take h).drop l) = ((flat xs).take (h * sz)).drop (l * sz) := by
  have take : ∀ (xs : List AV) (h : Nat), (∀ y ∈ xs, y.cells.length = sz) → flat (xs.take h) = (flat xs).take (h * sz) := by
    intro xs
    induction xs with
    | nil => intro h _; simp [flat]
    | cons y ys ih =>
      intro h hs
      cases h with
      | zero => simp [flat]
      | succ h =>
        have := ih h (fun z hz => hs z (List.mem_cons_of_mem _ hz))
        have hy := hs y (List.mem_cons_self ..)
        simp only [flat, List.take_succ_cons, List.map_cons, List.flatten_cons] at this ⊢
        have e1 : y.cells.take ((h + 1) * sz) = y.cells := List.take_of_length_le (by rw [hy, Nat.add_mul, Nat.one_mul]; omega)
        rw [this, List.take_append, hy, e1, show (h + 1) * sz - sz = h * sz by rw [Nat.add_mul, Nat.one_mul]; omega]
  have drop : ∀ (xs : List AV) (l : Nat), (∀ y ∈ xs, y.cells.length = sz) → flat (xs.drop l) = (flat xs).drop (l * sz) := by
    intro xs
    induction xs with
    | nil => intro l _; simp [flat]
    | cons y ys ih =>
      intro l hs
      cases l with
      | zero => simp [flat]
      | succ l =>
        have := ih l (fun z hz => hs z (List.mem_cons_of_mem _ hz))
        have hy := hs y (List.mem_cons_self ..)
        simp only [flat, List.drop_succ_cons, List.map_cons, List.flatten_cons] at this ⊢
        have e1 : y.cells.drop ((l + 1) * sz) = [] := List.drop_eq_nil_of_le (by rw [hy, Nat.add_mul, Nat.one_mul]; omega)
        rw [this, List.drop_append, hy, e1, List.nil_append, show (l + 1) * sz - sz = l * sz by rw [Nat.add_mul, Nat.one_mul]; omega]
  rw [drop _ _ (fun y hy => hs y (List.mem_of_mem_take hy)), take _ _ hs]

theorem run_slice_op {t : TypeId} {x r : AV} {lo hi mx : Option AV} {u : Value} {ul uh um : Option Value} (hu : Rep G u x)
    (hul : ∀ a, lo = some a → ∃ v, ul = some v ∧ Rep G v a) (hul' : lo = none → ul = none)
    (huh : ∀ a, hi = some a → ∃ v, uh = some v ∧ Rep G v a) (huh' : hi = none → uh = none)
    (hum : ∀ a, mx = some a → ∃ v, um = some v ∧ Rep G v a) (hum' : mx = none → um = none)
    (hnm : ¬ (hi.isNone && mx.isSome) = true) (h : sliceA C t x lo hi mx = some r) :
    ∃ v, (Instr.sliceAt t u ul uh um).run C.P w = .ok v w ∧ Rep G v r := by
  have hnm' : ¬ (hi.isNone = true ∧ mx.isSome = true) := by simpa using hnm
  unfold sliceA at h
  split at h
  · rename_i s hut
    obtain rfl := rep_str hu
    split at h
    · cases h
    · rename_i hmx
      have hmx' : mx = none := by cases mx <;> simp at hmx ⊢
      subst hmx'
      obtain rfl := hum' rfl
      simp only [Option.bind_eq_some_iff, Option.map_eq_some_iff] at h
      obtain ⟨hh, h1, l, h2, rfl⟩ := h
      obtain ⟨m', hr, a1, a2, a3, a4⟩ := run_bounds (C := C) (w := w) (isS := false) (len := s.size) (cap := s.size) (Nat.le_refl _) hul hul' huh huh' (mx := none) (um := none) (fun a h => by cases h) (fun _ => rfl) hnm' (m := s.size) rfl (by rw [Nat.min_self]; exact h1) h2
      exact ⟨.string (s.extract l hh), by simp [Instr.sliceAt, Instr.slice, run_underlying hut, hr], .str _ _⟩
  · rename_i e sz xs hut
    split at h
    · rename_i hsz
      obtain ⟨hsz, h0⟩ := hsz
      simp only [Option.bind_eq_some_iff, Option.map_eq_some_iff] at h
      obtain ⟨mm, h1, hh, h2, l, h3, rfl⟩ := h
      obtain ⟨i, hi'⟩ := info_of_sz (P := C.P) (t := e) (hsz ▸ h0)
      cases hu with
      | slice0 =>
        simp only [List.length_nil] at h1 h2
        obtain ⟨m', hr, a1, a2, a3, a4⟩ := run_bounds (C := C) (w := w) (isS := true) (len := 0) (cap := 0) (Nat.le_refl _) hul hul' huh huh' hum hum' hnm' h1 h2 h3
        obtain rfl : hh = 0 := by omega
        obtain rfl : l = 0 := by omega
        have hm' : m' = 0 := by omega
        subst hm'
        exact ⟨.slice none 0 0, by simp [Instr.sliceAt, Instr.slice, run_underlying hut, hr, run_sizeOf hi'], by simpa using Rep.slice0 _ _⟩
      | sliceE _ ad cap =>
        simp only [List.length_nil] at h1 h2
        obtain ⟨m', hr, a1, a2, a3, a4⟩ := run_bounds (C := C) (w := w) (isS := true) (len := 0) (cap := cap) (Nat.zero_le _) hul hul' huh huh' hum hum' hnm' h1 h2 h3
        obtain rfl : hh = 0 := by omega
        obtain rfl : l = 0 := by omega
        refine ⟨.slice (if m' = 0 then some ad else some (ad.add (0 * szT C.P e))) (0 - 0) (m' - 0), ?_, ?_⟩
        · simp only [Instr.sliceAt, Instr.slice, Sem.run_bind, run_underlying hut, Result.andThen_ok, hr, run_sizeOf hi', Option.map_some]
          rfl
        · simp only [List.take_nil, List.drop_nil]
          split <;> exact .sliceE _ _ _ _
      | slice _ b off n cap _ _ vs hn hc hs hl hM hone hrr =>
        subst hn
        obtain ⟨m', hr, a1, a2, a3, a4⟩ := run_bounds (C := C) (w := w) (isS := true) (len := xs.length) (cap := cap) hc hul hul' huh huh' hum hum' hnm' h1 h2 h3
        have hcut := flat_cut sz xs hs l hh
        have hfl := flat_length sz xs hs
        have hb1 : l * sz ≤ hh * sz := Nat.mul_le_mul_right _ a2
        have hb2 : hh * sz ≤ xs.length * sz := Nat.mul_le_mul_right _ a3
        refine ⟨.slice (if m' = l then some ⟨b, off, none⟩ else some ⟨b, off + l * sz, none⟩) (hh - l) (m' - l), ?_, ?_⟩
        · subst hsz
          simp only [Instr.sliceAt, Instr.slice, Sem.run_bind, run_underlying hut, Result.andThen_ok, hr, run_sizeOf hi', Option.map_some, add_addr]
          rfl
        · have hsub : ∀ y ∈ (xs.take hh).drop l, y.cells.length = sz := fun y hy => hs y (List.mem_of_mem_take (List.mem_of_mem_drop hy))
          by_cases hml : m' = l
          · rw [if_pos hml]
            have : (xs.take hh).drop l = [] := List.drop_eq_nil_of_le (by rw [List.length_take]; omega)
            rw [this]
            exact .slice _ b off _ _ sz [] [] (by simp; omega) (by omega) (by simp) (by simp [flat]) (by simp) (by simp [flat]) (by simp)
          · rw [if_neg hml]
            refine .slice _ b _ _ _ sz _ ((vs.take (hh * sz)).drop (l * sz)) (by simp; omega) (by omega) hsub ?_ (fun j v hv => ?_) (fun c hc => ?_) (fun j v c hv hcc => ?_)
            · rw [hcut]; simp [hl]
            · rw [List.getElem?_drop, List.getElem?_take] at hv
              split at hv
              · have := hM _ _ hv
                rwa [Nat.add_assoc]
              · cases hv
            · rw [hcut] at hc
              exact hone c (List.mem_of_mem_take (List.mem_of_mem_drop hc))
            · rw [hcut, List.getElem?_drop, List.getElem?_take] at hcc
              rw [List.getElem?_drop, List.getElem?_take] at hv
              split at hv
              · rw [if_pos (by assumption)] at hcc
                exact hrr _ _ _ hv hcc
              · cases hv
    · cases h
  · rename_i e sz hut
    split at h
    · rename_i hsz
      obtain ⟨hsz, h0⟩ := hsz
      simp only [Option.bind_eq_some_iff, Option.map_eq_some_iff] at h
      obtain ⟨mm, h1, hh, h2, l, h3, rfl⟩ := h
      obtain ⟨i, hi'⟩ := info_of_sz (P := C.P) (t := e) (hsz ▸ h0)
      cases hu with
      | nils =>
        obtain ⟨m', hr, a1, a2, a3, a4⟩ := run_bounds (C := C) (w := w) (isS := true) (len := 0) (cap := 0) (Nat.le_refl _) hul hul' huh huh' hum hum' hnm' (m := mm) (h := hh) (l := l) h1 (by
          have : mm = 0 := by rcases bound_spec h1 hum hum' with ⟨_, _, rfl⟩ | ⟨_, _, _, b0, b1, rfl, _⟩ <;> omega
          subst this
          exact h2) (by
          have : hh = 0 := by rcases bound_spec h2 huh huh' with ⟨_, _, rfl⟩ | ⟨_, _, _, b0, b1, rfl, _⟩ <;> omega
          subst this
          exact h3)
        obtain rfl : hh = 0 := by omega
        obtain rfl : l = 0 := by omega
        obtain rfl : m' = 0 := by omega
        have key := hr
        exact ⟨.slice none 0 0, by simp [Instr.sliceAt, Instr.slice, run_underlying hut, key, run_sizeOf hi'], .nils _ _⟩
    · cases h
  · rename_i e id g off n sz app hut
    split at h
    · rename_i hsz
      obtain ⟨hsz, h0⟩ := hsz
      simp only [Option.bind_eq_some_iff, Option.map_eq_some_iff] at h
      obtain ⟨mm, h1, hh, h2, l, h3, rfl⟩ := h
      obtain ⟨i, hi'⟩ := info_of_sz (P := C.P) (t := e) (hsz ▸ h0)
      cases hu with
      | arr _ _ _ _ _ _ b cap tot _ ap hT hc ha =>
        obtain ⟨m', hr, a1, a2, a3, a4⟩ := run_bounds (C := C) (w := w) (isS := true) (len := n) (cap := cap) hc hul hul' huh huh' hum hum' hnm' h1 h2 h3
        refine ⟨.slice (if m' = l then some ⟨b, off, none⟩ else some ⟨b, off + l * sz, none⟩) (hh - l) (m' - l), ?_, ?_⟩
        · subst hsz
          simp only [Instr.sliceAt, Instr.slice, Sem.run_bind, run_underlying hut, Result.andThen_ok, hr, run_sizeOf hi', Option.map_some, add_addr]
          rfl
        · by_cases hhl : hh = l
          · rw [if_pos hhl]
            have e0 : hh - l = 0 := by omega
            rw [e0]
            split <;> exact .slice _ b _ _ _ sz [] [] rfl (by omega) (by simp) (by simp [flat]) (by simp) (by simp [flat]) (by simp)
          · rw [if_neg hhl, if_neg (by omega)]
            exact .arr _ _ _ _ _ _ b _ _ _ _ hT (by omega) (by simp)
    · cases h
  · cases h

end Go.Ev
