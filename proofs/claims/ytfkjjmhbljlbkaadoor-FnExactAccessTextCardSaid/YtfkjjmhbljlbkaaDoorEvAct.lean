/- Part of the proof of a statement about the given program: EvAct. No condition of its own. -/
import Derived.Test.YtfkjjmhbljlbkaaDoorEvCall
namespace Go.Ev
set_option linter.unusedVariables false
set_option linter.unusedSimpArgs false
variable {C : Ctx} {G : Gh} {w : World} {m : Mem}

theorem Inv.more (hi : Inv G w m) {k : Nat} (hk : m.nid ≤ k) : Inv G w ⟨m.sto, k⟩ :=
  ⟨hi.okM, fun id b tot ap h => let ⟨cur, e, fr, hl⟩ := hi.live id b tot ap h; ⟨cur, e, fr, hl.t, hl.heap, hl.size, hl.fr, hl.len, hl.rep, hl.one, hl.kept, hl.soft, hl.typ⟩, hi.dist, fun id g x h => ⟨Nat.lt_of_lt_of_le (hi.dom _ _ _ h).1 hk, (hi.dom _ _ _ h).2⟩⟩

/-- A call of a function with a memory of its own: from any world in which the arguments read, it returns what reads as r; what was there stays. -/
def PureOk (C : Ctx) (f : FuncId) (args : List AV) (r : AV) : Prop :=
  (∀ (vs : Array Value) (w : World), (callFunc f vs).run C.P w = .ok (.enter f vs) w) ∧
  ∀ (G : Gh) (w : World) (vs : Array Value), (∀ i g, G.T i g = none) → Inv G w .empty → CtxOk C G w → vs.size = args.length → (∀ (j : Nat) v a, vs[j]? = some v → args[j]? = some a → Rep G v a) →
    Calls C.P f vs w fun e w' => ∃ v G', e = .returned v ∧ (∀ i g, G'.T i g = none) ∧ Rep G' v r ∧ Inv G' w' .empty ∧ Ext G w G' w'

/-- The caller's part in what a callee with a memory of its own leaves. -/
theorem join_call {G1 : Gh} {w1 : World} (hi : Inv G w m) (hb : ∀ i g, G1.T i g = none) (hi1 : Inv G1 w1 .empty) (he : Ext G.bare w G1 w1) :
    Inv ⟨G1.M, G.T⟩ w1 m ∧ Ext G w ⟨G1.M, G.T⟩ w1 := by
  have frame : ∀ b, b < w.heap.size → w1.heap[b]? = w.heap[b]? ∧ G1.M b = G.M b := fun b hb => he.frame b hb (fun _ _ _ h => by simp [Gh.bare] at h)
  have mono : ∀ {v x}, Rep G v x → Rep ⟨G1.M, G.T⟩ v x := fun h => h.mono he.M (fun _ _ _ h => h)
  refine ⟨⟨hi1.okM, fun id b tot ap h => ?_, hi.dist, hi.dom⟩, ⟨he.M, fun _ _ _ h => h, he.os, he.tape, he.output, he.size, fun b hb _ => frame b hb, fun id g b x h _ => ⟨id, g, x, h⟩⟩⟩
  obtain ⟨cur, e, fr, hl⟩ := hi.live id b tot ap h
  obtain ⟨h1, h2⟩ := frame b hl.lt
  exact ⟨cur, e, fr, h, h1.trans hl.heap, hl.size, hl.fr, hl.len, fun j v c hv hc => mono (hl.rep j v c hv hc), hl.one, by show (G1.M b).length ≤ _; rw [h2]; exact hl.kept, fun hf => by show G1.M b = []; rw [h2]; exact hl.soft hf, hl.typ⟩

theorem CtxOk.bare (h : CtxOk C G w) : CtxOk C G.bare w := ⟨fun g cs hg => by
  have := h.glob g cs hg
  cases this with
  | eptr _ _ _ _ vs hl hM hr => exact .eptr _ _ _ _ vs hl hM (fun j v c hv hc => hr j v c hv hc), fun p hp => ⟨(h.tabs p hp).1, fun _ _ _ hx => by simp [Gh.bare] at hx⟩⟩

theorem wp_call {P : Program} {A : _root_.Go.Act} {o : Oper} {f : FuncId} {vs : Array Value} {K : _root_.Go.Act → World → Prop} {Q : Exit → _root_.Go.Act → World → Prop} (hrun : (execOp A.eval o).run P w = .ok (.enter f vs) w)
    (h : Calls P f vs w fun e w' => ∃ v, e = .returned v ∧ K (A.put o.dst v) w') : o.wp P A w K Q := by
  unfold Oper.wp
  rw [hrun, Oper.upon_enter]
  refine h.mono fun e w' he => ?_
  obtain ⟨v, rfl, hk⟩ := he
  exact hk

theorem argsA_rep {A : _root_.Go.Act} {env : Nat → AV} (he : EnvRep G A.tmps env) (hc : CtxOk C G w) : ∀ {xs : List Operand} {ts : List TypeId} {l : List AV}, argsA C env xs ts = some l →
    l.length = xs.length ∧ ∀ (j : Nat) a, l[j]? = some a → ∃ x, xs[j]? = some x ∧ Rep G (A.eval x) a
  | [], ts, l, h => by simp only [argsA, Option.some.injEq] at h; subst h; exact ⟨rfl, fun j a ha => by simp at ha⟩
  | x :: xs, [], l, h => by simp [argsA] at h
  | x :: xs, t :: ts, l, h => by
    simp only [argsA, Option.bind_eq_some_iff, Option.map_eq_some_iff] at h
    obtain ⟨a, ha, r, hr, rfl⟩ := h
    obtain ⟨h1, h2⟩ := argsA_rep he hc hr
    refine ⟨by simp [h1], fun j b hb => ?_⟩
    cases j with
    | zero =>
      simp only [List.getElem?_cons_zero, Option.some.injEq] at hb
      subst hb
      exact ⟨x, rfl, opd_rep he hc ha⟩
    | succ j =>
      simp only [List.getElem?_cons_succ] at hb ⊢
      exact h2 j b hb

/-- A call of a function value: what is run. -/
theorem exec_call {A : _root_.Go.Act} {o : Oper} {c : Call} (ho : o.op = .call c) {fo : Operand} (hco : c.callee = .value fo) {f : FuncId} {cap : Array Value} (hf : A.eval fo = .func (.func f) #[] cap) :
    (execOp A.eval o).run C.P w = (callFunc f (c.args.map A.eval ++ cap)).run C.P w := by
  unfold execOp
  simp only [ho, resolve, hco, hf, Deferred.ofValue, Sem.run_bind, Sem.run_pure, Result.andThen_ok, invoke]
  simp

structure Hyps (C : Ctx) (call : FuncId → List AV → Option AV) : Prop where
  zero : ZeroOk C.P
  pure : ∀ f args r, call f args = some r → PureOk C f args r

/-- WHAT AN OPERATION COMES TO IS WHAT THE PROGRAM DOES. -/
theorem act_wp {call : FuncId → List AV → Option AV} (H : Hyps C call) {s : St} {A : _root_.Go.Act} (he : EnvRep G A.tmps s.env) (hc : CtxOk C G w) (hi : Inv G w s.toMem) {fb nid' : Nat} (hf : ∀ g, G.T fb g = none) (hle : s.nid ≤ nid')
    {o : Oper} {a : Act} (h : act C call fb o s = some a) (hfb : a.nb = 0 ∨ fb < nid') {K : _root_.Go.Act → World → Prop} {Q : Exit → _root_.Go.Act → World → Prop}
    (hk : ∀ v w' G', Rep G' v a.val → Inv G' w' ⟨updL s.sto a.sw, nid'⟩ → Ext G w G' w' → Fresh fb G G' → K (A.put o.dst v) w') : o.wp C.P A w K Q := by
  have op : ∀ {t x y}, opd C s.env t x = some y → Rep G (A.eval x) y := fun h => opd_rep he hc h
  have still : (∃ v, (execOp A.eval o).run C.P w = .ok (.value v) w ∧ Rep G v a.val) → a.sw = [] → o.wp C.P A w K Q := by
    rintro ⟨v, hv, hr⟩ hsw
    refine Out.wp (v := v) (w' := w) (by rw [hv]; exact .value _ _) (hk v w G hr ?_ (Ext.refl _ _) (Fresh.refl _ _))
    rw [hsw]
    exact hi.more hle
  have eff : ∀ {nid2 : Nat}, nid2 ≤ nid' → Eff C fb G w A o a.val ⟨updL s.sto a.sw, nid2⟩ → o.wp C.P A w K Q := by
    rintro nid2 hn ⟨v, w', G', ho, hr, hi', he', hfr⟩
    exact ho.wp (hk v w' G' hr (hi'.more hn) he' hfr)
  obtain ⟨dst, oper, type, pos, after, guard⟩ := o
  unfold act at h
  cases oper with
  | move x =>
    simp only [Option.map_eq_some_iff] at h
    obtain ⟨y, hy, rfl⟩ := h
    exact still ⟨_, rfl, op hy⟩ rfl
  | assign x =>
    simp only [Option.map_eq_some_iff] at h
    obtain ⟨y, hy, rfl⟩ := h
    exact still ⟨_, rfl, op hy⟩ rfl
  | pick cc x y =>
    simp only [Option.bind_eq_some_iff] at h
    obtain ⟨c', hc', h⟩ := h
    split at h
    · rename_i b
      simp only [Option.map_eq_some_iff] at h
      obtain ⟨z, hz, rfl⟩ := h
      have hcv := rep_bool (op hc')
      refine still ⟨if b then A.eval x else A.eval y, ?_, ?_⟩ rfl
      · unfold execOp
        simp only [hcv, asBool, Sem.run_bind, Sem.run_pure, Result.andThen_ok]
      · cases b
        · exact op hz
        · exact op hz
    · cases h
  | alloc e =>
    simp only [Option.map_eq_some_iff] at h
    obtain ⟨cs, hcs, rfl⟩ := h
    exact eff (Nat.le_refl _) (eff_alloc H.zero hi hf (hfb.resolve_left (by simp)) hle rfl hcs)
  | box e x =>
    simp only [Option.bind_eq_some_iff] at h
    obtain ⟨a', ha', h⟩ := h
    split at h
    · rename_i hone
      simp only [Option.some.injEq] at h
      subst h
      exact eff (Nat.le_refl _) (eff_box hi hf (hfb.resolve_left (by simp)) hle rfl (op ha') hone)
    · cases h
  | build t parts =>
    simp only at h
    split at h
    · rename_i fs hfs
      simp only [Option.bind_eq_some_iff, Option.map_eq_some_iff] at h
      obtain ⟨z, hz, ps, hps, r, ⟨cs, hcs, rfl⟩, rfl⟩ := h
      obtain ⟨zv, hzr, hrow⟩ := run_zero (w := w) H.zero hz G
      have hut : C.P.underlying t = some (.struct fs) := by
        unfold fieldsT at hfs
        split at hfs
        · simp only [Option.some.injEq] at hfs
          subst hfs
          assumption
        · cases hfs
      have hinfo : ∀ f ∈ fs.toList, ∃ i, C.P.info? f.type = some i := by
        intro f hf
        have hz' := hz
        rw [zeroC] at hz'
        split at hz'
        · cases hz'
        simp only [hut, Option.map_eq_some_iff] at hz'
        obtain ⟨ls, hls, _⟩ := hz'
        obtain ⟨m1, m2⟩ := mapM_spec hls
        obtain ⟨j, hj, rfl⟩ := List.mem_iff_getElem.1 hf
        obtain ⟨b, _, hb⟩ := m2 j _ (List.getElem?_eq_getElem hj)
        have hb' : zeroC C.P (4 + 1) _ = some b := hb
        rw [zeroC] at hb'
        split at hb'
        · cases hb'
        split at hb'
        · rename_i hu; exact info_of hu
        · rename_i hu; exact info_of hu
        · simp only [Option.map_eq_some_iff, Option.bind_eq_some_iff] at hb'
          obtain ⟨_, ⟨i, hi, _⟩, _⟩ := hb'
          exact ⟨i, hi⟩
      have hplaces : (fs.mapM fun f => do pure (f.offset, ← sizeOf f.type) : Sem _).run C.P w = .ok (fs.map fun f => (f.offset, szT C.P f.type)) w := by
        have gen : ∀ (l : List Field), (∀ f ∈ l, ∃ i, C.P.info? f.type = some i) → (l.mapM fun f => do pure (f.offset, ← sizeOf f.type) : Sem _).run C.P w = .ok (l.map fun f => (f.offset, szT C.P f.type)) w := by
          intro l
          induction l with
          | nil => intro _; rfl
          | cons f l ih =>
            intro hl
            obtain ⟨i, hi⟩ := hl f (List.mem_cons_self ..)
            have := ih (fun g hg => hl g (List.mem_cons_of_mem _ hg))
            simp only [List.mapM_cons, Sem.run_bind, run_sizeOf hi, Result.andThen_ok, Sem.run_pure, this, List.map_cons]
        have hg := gen fs.toList hinfo
        rw [Array.mapM_eq_mapM_toList]
        simp only [Sem.run_map, hg, Result.andThen_ok]
        congr 1
        apply Array.ext'
        simp
      obtain ⟨m1, m2⟩ := mapM_spec hps
      obtain ⟨out, ho, hor⟩ := fill_rep (G := G) (place := fun i => (fs.map fun f => (f.offset, szT C.P f.type))[i]?) (parts.map fun (i, x) => (i, A.eval x)).toList ps zv.cells _ cs (by simp [m1]) (fun j p q hp hq => by
        simp only [Array.toList_map, List.getElem?_map, Option.map_eq_some_iff] at hp
        obtain ⟨⟨pi, px⟩, hpa, rfl⟩ := hp
        obtain ⟨b, hb, hbf⟩ := m2 j _ hpa
        rw [hq] at hb
        cases hb
        simp only [Option.bind_eq_some_iff, Option.map_eq_some_iff] at hbf
        obtain ⟨f, hfi, a, ha, rfl⟩ := hbf
        exact ⟨by simp [hfi], op ha⟩) hrow hcs
      refine still ⟨.agg out, ?_, .agg _ _ _ hor.size hor.rep⟩ rfl
      unfold execOp
      simp only [Instr.build, Sem.run_bind, hzr, Result.andThen_ok, run_underlying hut, hplaces, ho, Sem.run_pure]
    · cases h
  | buildSlice t n parts =>
    simp only [Option.bind_eq_some_iff] at h
    obtain ⟨e, hee, z, hz, h⟩ := h
    split at h
    · rename_i hcond
      obtain ⟨h0, hzl, hn⟩ := hcond
      simp only [Option.bind_eq_some_iff, Option.map_eq_some_iff] at h
      obtain ⟨ps, hps, cs, hcs, rfl⟩ := h
      exact eff (Nat.le_refl _) (eff_buildSlice H.zero hi hf (hfb.resolve_left (by simp)) hle rfl hee hz h0 hzl hn (env := s.env) (fun ty x y h => op h) hps hcs)
    · cases h
  | load t x =>
    simp only [Option.bind_eq_some_iff] at h
    obtain ⟨a', ha', h⟩ := h
    split at h
    · rename_i id g off
      split at h
      · rename_i hg
        simp only [Option.map_eq_some_iff] at h
        obtain ⟨y, hy, rfl⟩ := h
        obtain ⟨v, hv, hr⟩ := run_load_op (C := C) hi (op ha') (.inl ⟨id, g, off, rfl, hg, hy⟩)
        exact still ⟨v, by unfold execOp; simp [hv], hr⟩ rfl
      · cases h
    · rename_i cs
      simp only [Option.map_eq_some_iff] at h
      obtain ⟨y, hy, rfl⟩ := h
      obtain ⟨v, hv, hr⟩ := run_load_op (C := C) hi (op ha') (.inr ⟨cs, rfl, hy⟩)
      exact still ⟨v, by unfold execOp; simp [hv], hr⟩ rfl
    · cases h
  | store t x y =>
    simp only [Option.bind_eq_some_iff] at h
    obtain ⟨a', ha', b', hb', h⟩ := h
    split at h
    · rename_i id g off
      split at h
      · rename_i hcond
        obtain ⟨rfl, hfz, hl, hin, hone, hinf⟩ := hcond
        simp only [Option.some.injEq] at h
        subst h
        exact eff hle (eff_store fb hi rfl (op ha') (op hb') hfz hl hin hone (by cases hq : C.P.info? t with | none => rw [hq] at hinf; simp at hinf | some i => exact ⟨i, rfl⟩))
      · cases h
    · cases h
  | nilCheck x =>
    simp only [Option.bind_eq_some_iff] at h
    obtain ⟨a', ha', h⟩ := h
    split at h
    · simp only [Option.map_some, Option.some.injEq] at h
      subst h
      have hr := op ha'
      generalize hx : A.eval x = u at hr
      cases hr with
      | ptr _ _ _ _ b y hT => exact still ⟨_, by unfold execOp; simp only [hx]; rfl, .ptr _ _ _ _ _ _ hT⟩ rfl
    · simp only [Option.map_some, Option.some.injEq] at h
      subst h
      have hr := op ha'
      generalize hx : A.eval x = u at hr
      cases hr with
      | eptr _ b off _ vs hl hM hrr => exact still ⟨_, by unfold execOp; simp only [hx]; rfl, .eptr _ _ _ _ vs hl hM hrr⟩ rfl
    · simp only [Option.map_some, Option.some.injEq] at h
      subst h
      have hr := op ha'
      generalize hx : A.eval x = u at hr
      cases hr with
      | fn _ _ vs _ hl hrr => exact still ⟨_, by unfold execOp; simp only [hx]; rfl, .fn _ _ _ _ hl hrr⟩ rfl
    · cases h
  | binOp bop xt x y yt =>
    simp only [Option.bind_eq_some_iff, Option.map_eq_some_iff] at h
    obtain ⟨a', ha', b', hb', r, hr, rfl⟩ := h
    obtain ⟨v, hv, hrr⟩ := run_binA (C := C) (w := w) hr (op ha') (op hb') x y
    exact still ⟨v, by unfold execOp; simp only [Sem.run_bind] at hv ⊢; rw [hv]; rfl, hrr⟩ rfl
  | unOp uop xt x =>
    simp only [Option.bind_eq_some_iff, Option.map_eq_some_iff] at h
    obtain ⟨a', ha', r, hr, rfl⟩ := h
    obtain ⟨v, hv, hrr⟩ := run_unA (C := C) (w := w) hr (op ha')
    exact still ⟨v, by unfold execOp; simp [hv], hrr⟩ rfl
  | convert src dst' x =>
    simp only [Option.bind_eq_some_iff] at h
    obtain ⟨a', ha', h⟩ := h
    rcases run_conv (C := C) (w := w) hi (op ha') h with ⟨v, hv, hr, hsw, _⟩ | ⟨e, b, hs, hd, hee, hxb, rfl⟩
    · exact still ⟨v, by unfold execOp; simp [hv], hr⟩ hsw
    · exact eff (Nat.le_refl _) (eff_toBytes hi hf (hfb.resolve_left (by simp)) hle rfl hs hd hee hxb)
  | makeFunc fn first captured =>
    simp only at h
    split at h
    · rename_i f
      split at h
      · rename_i hfirst
        simp only [Option.bind_eq_some_iff] at h
        obtain ⟨cs, hcs, h⟩ := h
        split at h
        · simp only [Option.map_some, Option.some.injEq] at h
          subst h
          obtain ⟨m1, m2⟩ := mapM_spec hcs
          have hfe : first = #[] := by simpa using hfirst
          subst hfe
          refine still ⟨.func (.func f) #[] (captured.map A.eval), by unfold execOp; simp [Instr.makeFunc], .fn _ f _ _ (by simp [m1]) (fun j v c hv hcc => ?_)⟩ rfl
          simp only [Array.getElem?_map, Option.map_eq_some_iff] at hv
          obtain ⟨x, hx, rfl⟩ := hv
          obtain ⟨b, hb, hbo⟩ := m2 j x (by simpa using hx)
          rw [hcc] at hb
          cases hb
          exact op hbo
        · cases h
      · cases h
    · cases h
  | makeSlice t l cc =>
    simp only [Option.bind_eq_some_iff] at h
    obtain ⟨e, hee, l', hl', c', hc', h⟩ := h
    split at h
    · rename_i k n k' m'
      split at h
      · rename_i hcond
        obtain ⟨rfl, hn0, hn, hb, rfl, rfl⟩ := hcond
        simp only [Option.bind_eq_some_iff] at h
        obtain ⟨z, hz, h⟩ := h
        split at h
        · rename_i hzz
          simp only [Option.some.injEq] at h
          subst h
          exact eff (Nat.le_refl _) (eff_makeSlice H.zero hi hf (hfb.resolve_left (by simp)) hle rfl hee (rep_int (op hl')) (rep_int (op hc')) hn0 hn hb hz hzz.1 hzz.2)
        · cases h
      · cases h
    · cases h
  | slice t x lo hi' mx =>
    simp only [Option.bind_eq_some_iff] at h
    obtain ⟨a', ha', lo', hlo, hi2, hhi, mx', hmx, h⟩ := h
    split at h
    · cases h
    · rename_i hnm
      simp only [Option.map_eq_some_iff] at h
      obtain ⟨r, hr, rfl⟩ := h
      have ops : ∀ {q : Option Operand} {q' : Option AV}, opds C s.env 3 q = some q' → (∀ a, q' = some a → ∃ v, q.map A.eval = some v ∧ Rep G v a) ∧ (q' = none → q.map A.eval = none) := by
        intro q q' hq
        cases q with
        | none => simp only [opds, Option.some.injEq] at hq; subst hq; exact ⟨fun a h => (by cases h), fun _ => rfl⟩
        | some x =>
          simp only [opds, Option.map_eq_some_iff] at hq
          obtain ⟨y, hy, rfl⟩ := hq
          exact ⟨fun a h => (by cases h; exact ⟨_, rfl, op hy⟩), fun h => (by cases h)⟩
      obtain ⟨v, hv, hrr⟩ := run_slice_op (C := C) (w := w) (op ha') (ops hlo).1 (ops hlo).2 (ops hhi).1 (ops hhi).2 (ops hmx).1 (ops hmx).2 hnm hr
      exact still ⟨v, by unfold execOp; simp [hv], hrr⟩ rfl
  | fieldAddr t x f =>
    simp only [Option.bind_eq_some_iff] at h
    obtain ⟨fs, hfs, fd, hfd, h⟩ := h
    split at h
    · cases h
    · rename_i hsz
      simp only [Option.bind_eq_some_iff] at h
      obtain ⟨a', ha', h⟩ := h
      split at h
      · simp only [Option.map_some, Option.some.injEq] at h
        subst h
        have hr := op ha'
        generalize hx : A.eval x = u at hr
        cases hr with
        | ptr _ _ _ off b y hT =>
          exact still ⟨_, by unfold execOp; simp only [hx]; simp [run_fieldAt hfs hfd hsz], .ptr _ _ _ _ _ _ hT⟩ rfl
      · simp only [Option.map_some, Option.some.injEq] at h
        subst h
        have hr := op ha'
        generalize hx : A.eval x = u at hr
        cases hr with
        | eptr _ b off _ vs hl hM hrr =>
          exact still ⟨_, by unfold execOp; simp only [hx]; simp [run_fieldAt hfs hfd hsz], eptr_drop (.eptr _ _ _ _ vs hl hM hrr)⟩ rfl
      · cases h
  | field t x f =>
    simp only [Option.bind_eq_some_iff] at h
    obtain ⟨fs, hfs, fd, hfd, a', ha', h⟩ := h
    split at h
    · simp only [Option.map_eq_some_iff] at h
      obtain ⟨r, hr, rfl⟩ := h
      obtain ⟨v, hv, hrr⟩ := run_field (C := C) (w := w) hfs hfd (op ha') hr
      exact still ⟨v, by unfold execOp; simp [hv], hrr⟩ rfl
    · cases h
  | indexAddr t x ix =>
    simp only [Option.bind_eq_some_iff] at h
    obtain ⟨a', ha', i', hi', h⟩ := h
    have fin : ∀ {y}, (∃ r, (Instr.indexAt t (A.eval x) (A.eval ix)).run C.P w = .ok r w ∧ Rep G r y) → a = { val := y } → Oper.wp C.P ⟨dst, .indexAddr t x ix, type, pos, after, guard⟩ A w K Q := by
      rintro y ⟨r, hr, hrr⟩ rfl
      exact still ⟨r, by unfold execOp; simp [hr], hrr⟩ rfl
    split at h
    · rename_i sz xs
      simp only [Option.bind_eq_some_iff] at h
      obtain ⟨i, hii, e, hee, h⟩ := h
      split at h
      · rename_i hsz
        simp only [Option.map_map, Option.map_eq_some_iff, Function.comp] at h
        obtain ⟨y, hy, rfl⟩ := h
        exact fin (run_index_op (C := C) (op ha') (op hi') (.inl ⟨sz, xs, i, e, y, rfl, hii, hee, hsz, hy, rfl⟩)) rfl
      · cases h
    · rename_i id g off n sz app
      simp only [Option.bind_eq_some_iff] at h
      obtain ⟨i, hii, e, hee, h⟩ := h
      split at h
      · rename_i hsz
        simp only [Option.map_some, Option.some.injEq] at h
        subst h
        exact fin (run_index_op (C := C) (op ha') (op hi') (.inr (.inl ⟨id, g, off, n, sz, app, i, e, rfl, hii, hee, hsz, rfl⟩))) rfl
      · cases h
    · rename_i cs
      split at h
      · rename_i n e hut
        simp only [Option.bind_eq_some_iff] at h
        obtain ⟨i, hii, h⟩ := h
        split at h
        · rename_i h0
          simp only [Option.map_some, Option.some.injEq] at h
          subst h
          exact fin (run_index_op (C := C) (op ha') (op hi') (.inr (.inr ⟨cs, n, e, i, rfl, hut, hii, h0, rfl⟩))) rfl
        · cases h
      · cases h
    · cases h
  | index t x ix =>
    simp only [Option.bind_eq_some_iff] at h
    obtain ⟨a', ha', i', hi', h⟩ := h
    split at h
    · rename_i b
      split at h
      · rename_i hut
        simp only [Option.bind_eq_some_iff] at h
        obtain ⟨i, hii, h⟩ := h
        simp only [Option.map_map, Option.map_eq_some_iff, Function.comp] at h
        obtain ⟨y, hy, rfl⟩ := h
        exact still ⟨_, by unfold execOp; simp [run_index_str (C := C) (w := w) hut (op ha') (op hi') hii hy], .int _ _ _⟩ rfl
      · cases h
    · cases h
  | extract t i =>
    simp only [Option.bind_eq_some_iff] at h
    obtain ⟨a', ha', h⟩ := h
    split at h
    · simp only [Option.map_eq_some_iff] at h
      obtain ⟨y, hy, rfl⟩ := h
      obtain ⟨v, hv, hrr⟩ := run_extract (C := C) (w := w) (op ha') hy
      exact still ⟨v, by unfold execOp; simp [hv], hrr⟩ rfl
    · cases h
  | call c =>
    simp only at h
    split at h
    · rename_i b hco
      simp only [Option.bind_eq_some_iff] at h
      obtain ⟨args, hargs, h⟩ := h
      obtain ⟨a1, a2⟩ := argsA_rep he hc hargs
      obtain ⟨callee, cargs, cts⟩ := c
      simp only at hco hargs a1 a2 h
      subst hco
      obtain ⟨consts, exec⟩ : ∃ consts, (execOp A.eval ⟨dst, .call ⟨.builtin b, cargs, cts⟩, type, pos, after, guard⟩).run C.P w = (builtin b cts type consts (cargs.map A.eval)).run C.P w := ⟨_, by
        unfold execOp
        simp only [resolve, Sem.run_bind, Sem.run_pure, Result.andThen_ok, invoke]
        rfl⟩
      have one : ∀ {x : AV}, args = [x] → ∃ xo, cargs = #[xo] ∧ Rep G (A.eval xo) x := by
        rintro x rfl
        obtain ⟨xo, hxo, hxr⟩ := a2 0 x rfl
        refine ⟨xo, Array.ext' ?_, hxr⟩
        cases hcl : cargs.toList with
        | nil => rw [hcl] at hxo; simp at hxo
        | cons y ys =>
          rw [hcl] at hxo a1
          simp only [List.getElem?_cons_zero, Option.some.injEq] at hxo
          subst hxo
          have : ys = [] := List.eq_nil_of_length_eq_zero (by simpa using a1.symm)
          subst this
          rfl
      have two : ∀ {x y : AV}, args = [x, y] → ∃ xo yo, cargs = #[xo, yo] ∧ Rep G (A.eval xo) x ∧ Rep G (A.eval yo) y := by
        rintro x y rfl
        obtain ⟨xo, hxo, hxr⟩ := a2 0 x rfl
        obtain ⟨yo, hyo, hyr⟩ := a2 1 y rfl
        refine ⟨xo, yo, Array.ext' ?_, hxr, hyr⟩
        cases hcl : cargs.toList with
        | nil => rw [hcl] at hxo; simp at hxo
        | cons p ps =>
          rw [hcl] at hxo hyo a1
          cases ps with
          | nil => simp at a1
          | cons q qs =>
            simp only [List.getElem?_cons_zero, List.getElem?_cons_succ, Option.some.injEq] at hxo hyo
            subst hxo hyo
            have : qs = [] := List.eq_nil_of_length_eq_zero (by have := a1; simp only [List.length_cons, List.length_nil] at this; omega)
            subst this
            rfl
      unfold builtinA at h
      split at h
      · rename_i x t hts
        simp only [Option.map_eq_some_iff] at h
        obtain ⟨r, hr, rfl⟩ := h
        obtain ⟨xo, rfl, hxr⟩ := one rfl
        have hct : cts = #[t] := Array.ext' hts
        subst hct
        unfold lenA at hr
        split at hr
        · rename_i a hut
          simp only [Option.some.injEq] at hr
          subst hr
          have hv := rep_str hxr
          exact still ⟨.int .i64 a.size, by rw [exec]; simp [builtin, hv, Builtin.len_, run_underlying hut, goInt], .int _ _ _⟩ rfl
        · rename_i e sz xs hut
          simp only [Option.some.injEq] at hr
          subst hr
          generalize hxv : A.eval xo = u at hxr exec
          cases hxr with
          | slice0 => exact still ⟨.int .i64 0, by rw [exec]; simp [builtin, hxv, Builtin.len_, run_underlying hut, goInt], .int _ _ _⟩ rfl
          | sliceE => exact still ⟨.int .i64 0, by rw [exec]; simp [builtin, hxv, Builtin.len_, run_underlying hut, goInt], .int _ _ _⟩ rfl
          | slice _ b off n cap _ _ vs hn hcc hs hl hM h1 hrr =>
            subst hn
            exact still ⟨.int .i64 xs.length, by rw [exec]; simp [builtin, hxv, Builtin.len_, run_underlying hut, goInt], .int _ _ _⟩ rfl
        · rename_i e sz hut
          simp only [Option.some.injEq] at hr
          subst hr
          generalize hxv : A.eval xo = u at hxr exec
          cases hxr
          exact still ⟨.int .i64 0, by rw [exec]; simp [builtin, hxv, Builtin.len_, run_underlying hut, goInt], .int _ _ _⟩ rfl
        · rename_i e id g off n sz app hut
          simp only [Option.some.injEq] at hr
          subst hr
          generalize hxv : A.eval xo = u at hxr exec
          cases hxr
          exact still ⟨.int .i64 n, by rw [exec]; simp [builtin, hxv, Builtin.len_, run_underlying hut, goInt], .int _ _ _⟩ rfl
        · cases hr
      · rename_i x y t t2 hts
        obtain ⟨xo, yo, rfl, hxr, hyr⟩ := two rfl
        have hct : cts = #[t, t2] := Array.ext' hts
        subst hct
        split at h
        · rename_i hno
          rcases Nat.eq_zero_or_pos a.nb with hnb | hnb
          · obtain ⟨nid2, h1, h2, hE⟩ := eff_append (C := C) H.zero hi hf (nid' := fb + s.nid + 1) (by omega) (by omega) (o := ⟨dst, .call ⟨.builtin .append, #[xo, yo], #[t, t2]⟩, type, pos, after, guard⟩) rfl hno hxr hyr h
            exact eff (by rw [h2 hnb]; exact hle) hE
          · obtain ⟨nid2, h1, h2, hE⟩ := eff_append (C := C) H.zero hi hf (nid' := nid') (hfb.resolve_left (by omega)) hle (o := ⟨dst, .call ⟨.builtin .append, #[xo, yo], #[t, t2]⟩, type, pos, after, guard⟩) rfl hno hxr hyr h
            exact eff (by rcases h1 with rfl | rfl <;> omega) hE
        · cases h
      · rename_i x y hts
        simp only [Option.map_eq_some_iff] at h
        obtain ⟨r, hr, rfl⟩ := h
        obtain ⟨xo, yo, rfl, hxr, hyr⟩ := two rfl
        unfold maxA at hr
        split at hr
        · split at hr
          · simp only [Option.some.injEq] at hr
            subst hr
            have h1 := rep_int hxr
            have h2 := rep_int hyr
            exact still ⟨_, by rw [exec]; simp [builtin, h1, h2, Builtin.max_, Builtin.max2] <;> rfl, .int _ _ _⟩ rfl
          · cases hr
        · cases hr
      · rename_i x y hts
        simp only [Option.map_eq_some_iff] at h
        obtain ⟨r, hr, rfl⟩ := h
        obtain ⟨xo, yo, rfl, hxr, hyr⟩ := two rfl
        unfold minA at hr
        split at hr
        · split at hr
          · simp only [Option.some.injEq] at hr
            subst hr
            have h1 := rep_int hxr
            have h2 := rep_int hyr
            exact still ⟨_, by rw [exec]; simp [builtin, h1, h2, Builtin.min_, Builtin.min2] <;> rfl, .int _ _ _⟩ rfl
          · cases hr
        · cases hr
      · rename_i x
        obtain ⟨xo, rfl, hxr⟩ := one rfl
        unfold dataA at h
        split at h
        · simp only [Option.some.injEq] at h
          subst h
          generalize hxv : A.eval xo = vx at hxr
          cases hxr
          exact still ⟨.pointer none, by rw [exec]; simp [builtin, hxv, Lib.run_unsafeSliceData_nil], .nilp _⟩ rfl
        · rename_i id g off n sz app
          split at h
          · rename_i hg
            simp only [Option.some.injEq] at h
            subst h
            generalize hxv : A.eval xo = vx at hxr
            cases hxr with
            | arr _ _ _ _ _ _ b cap tot _ ap hT hcc ha =>
              exact still ⟨.pointer (some ⟨b, off, none⟩), by rw [exec]; simp [builtin, hxv, Lib.run_unsafeSliceData_row _ _ _ _ _ _ (show cap ≠ 0 by omega)], .ptr _ id g off b _ hT⟩ rfl
          · cases h
        · cases h
      · rename_i x y pt it hts
        obtain ⟨xo, yo, rfl, hxr, hyr⟩ := two rfl
        have hct : cts = #[pt, it] := Array.ext' hts
        subst hct
        rcases run_text (C := C) (it := it) (ty := type) hi hxr hyr h with ⟨r, hrun, hrr, hsw, hnb⟩ | ⟨r, w1, hrun, hrr, hi1, he1, hnb⟩
        · exact still ⟨r, by rw [exec]; simp [builtin, hrun], hrr⟩ hsw
        · exact eff hle ⟨r, w1, G, by rw [exec]; simp only [builtin, Sem.run_bind, List.map_toArray, List.map_cons, List.map_nil, hrun, Result.andThen_ok, Sem.run_pure]; exact .value _ _, hrr, hi1, he1, Fresh.refl _ _⟩
      · rename_i x t hts
        simp only [Option.map_eq_some_iff] at h
        obtain ⟨r, hr, rfl⟩ := h
        obtain ⟨xo, rfl, hxr⟩ := one rfl
        have hct : cts = #[t] := Array.ext' hts
        subst hct
        unfold capA at hr
        split at hr
        · rename_i e z hut
          simp only [Option.some.injEq] at hr
          subst hr
          generalize hxv : A.eval xo = vx at hxr
          cases hxr
          exact still ⟨.int .i64 0, by rw [exec]; simp [builtin, hxv, Builtin.cap_, run_underlying hut, goInt], .int _ _ _⟩ rfl
        · cases hr
      · cases h
    · rename_i fo hco
      simp only [Option.bind_eq_some_iff] at h
      obtain ⟨fv, hfv, args, hargs, h⟩ := h
      split at h
      · rename_i f cap
        split at h
        · cases h
        · simp only [Option.bind_eq_some_iff, Option.map_eq_some_iff] at h
          obtain ⟨l, hl, r, hr, rfl⟩ := h
          obtain ⟨hen, hpure⟩ := H.pure _ _ _ hr
          obtain ⟨a1, a2⟩ := argsA_rep he hc hargs
          have hfr := op hfv
          generalize hfx : A.eval fo = u at hfr
          cases hfr with
          | fn _ _ cvs _ hcl hcr =>
            obtain ⟨hi1, he1⟩ := inv_fix hi ((args ++ cap).map (reachD s.toMem 8)).flatten (updL s.sto (froz s ((args ++ cap).map (reachD s.toMem 8)).flatten)) (updL_froz s.toMem s rfl _ _ (fun i => .inl rfl))
            obtain ⟨m1, m2⟩ := mapM_spec hl
            have hargsR : ∀ (j : Nat) v a, (c.args.map A.eval ++ cvs)[j]? = some v → (args ++ cap)[j]? = some a → Rep G v a := by
              intro j v a hv ha
              have hsz : (c.args.map A.eval).size = args.length := by simp [a1]
              by_cases hj : j < args.length
              · rw [List.getElem?_append_left hj] at ha
                rw [Array.getElem?_append_left (by omega)] at hv
                obtain ⟨x, hx, hr⟩ := a2 j a ha
                simp only [Array.getElem?_map, Option.map_eq_some_iff] at hv
                obtain ⟨x', hx', rfl⟩ := hv
                rw [Array.getElem?_toList] at hx
                rw [hx] at hx'
                cases hx'
                exact hr
              · rw [List.getElem?_append_right (by omega)] at ha
                rw [Array.getElem?_append_right (by omega), hsz] at hv
                exact hcr _ _ _ hv ha
            have hsize : (c.args.map A.eval ++ cvs).size = l.length := by
              rw [m1]
              simp [a1, hcl]
            have hinv0 : Inv (G.fix w s.toMem ((args ++ cap).map (reachD s.toMem 8)).flatten).bare w .empty := ⟨hi1.okM, fun _ _ _ _ h => by simp [Gh.bare] at h, fun _ _ _ _ _ h => by simp [Gh.bare] at h, fun _ _ _ h => by simp [Gh.bare] at h⟩
            refine wp_call (f := f) (vs := c.args.map A.eval ++ cvs) (by rw [exec_call rfl hco hfx]; exact hen _ _) ((hpure _ w _ (fun _ _ => rfl) hinv0 (hc.ext he1).bare hsize (fun j v a hv ha => ?_)).mono ?_)
            · have hj : j < (args ++ cap).length := by rw [← m1]; exact (List.getElem?_eq_some_iff.1 ha).1
              obtain ⟨b, hb, hs⟩ := m2 j _ (List.getElem?_eq_getElem hj)
              rw [ha] at hb
              cases hb
              exact snap_rep hi 8 (hargsR j v _ hv (List.getElem?_eq_getElem hj)) hs (fun id hid => List.mem_flatten.2 ⟨_, List.mem_map.2 ⟨_, List.getElem_mem hj, rfl⟩, hid⟩)
            · rintro e w' ⟨v, G', rfl, hb, hrr, hi', he'⟩
              obtain ⟨j1, j2⟩ := join_call hi1 hb hi' he'
              exact ⟨v, rfl, hk v w' ⟨G'.M, (G.fix w s.toMem ((args ++ cap).map (reachD s.toMem 8)).flatten).T⟩ (hrr.mono (fun _ => List.prefix_refl _) (fun i g x h => by rw [hb] at h; cases h)) (j1.more hle) (he1.trans j2) ⟨fun _ _ h => h, fun _ _ _ h => .inl h⟩⟩
      · cases h
    · cases h
  | _ => cases h

end Go.Ev
