/- Part of the proof of a statement about the given program: EvOps. No condition of its own. -/
import Derived.Test.YtfkjjmhbljlbkaaDoorEvRep
namespace Go.Ev
set_option linter.unusedVariables false
variable {C : Ctx} {G : Gh} {w : World} {m : Mem}

structure CtxOk (C : Ctx) (G : Gh) (w : World) : Prop where
  glob : ∀ g cs, C.glob g = some cs → Rep G (.pointer (some ⟨g, 0, none⟩)) (.eptr cs)
  tabs : ∀ p ∈ C.tabs, (∃ t fr, w.heap[p.1]? = some (.cells p.2 t fr)) ∧ ∀ id gen x, G.T id gen ≠ some (p.1, x)

theorem CtxOk.ext {G G' : Gh} {w w' : World} (h : CtxOk C G w) (e : Ext G w G' w') : CtxOk C G' w' := ⟨fun g cs hg => (h.glob g cs hg).ext e, fun p hp => by
  obtain ⟨⟨t, fr, h1⟩, h2⟩ := h.tabs p hp
  have hlt : p.1 < w.heap.size := (Array.getElem?_eq_some_iff.1 h1).1
  refine ⟨⟨t, fr, ?_⟩, fun id gen x hx => ?_⟩
  · rw [(e.frame p.1 hlt h2).1]
    exact h1
  · obtain ⟨i, g', x', hx'⟩ := e.own _ _ _ _ hx hlt
    exact h2 _ _ _ hx'⟩

theorem cv1_rep {P : Program} {t : TypeId} {v : Value} {a : AV} (h : cv1 P t v = some a) : Rep G v a := by
  unfold cv1 at h
  split at h <;> simp only [Option.some.injEq, reduceCtorEq, Option.map_eq_some_iff] at h
  · subst h; exact .bool _ _
  · subst h; exact .int _ _ _
  · subst h; exact .str _ _
  · subst h; exact .nilp _
  · subst h; exact .nilf _
  · subst h; exact .nili _
  · obtain ⟨e, _, rfl⟩ := h; exact .nils _ _

theorem opd_rep {A : _root_.Go.Act} {env : Nat → AV} (he : EnvRep G A.tmps env) (hc : CtxOk C G w) {t : TypeId} {x : Operand} {a : AV} (h : opd C env t x = some a) : Rep G (A.eval x) a := by
  cases x with
  | tmp i => simp only [opd, Option.some.injEq] at h; subst h; exact he i
  | const v => exact cv1_rep h
  | global g =>
    simp only [opd, Option.map_eq_some_iff] at h
    obtain ⟨cs, hg, rfl⟩ := h
    exact hc.glob g cs hg
  | func f =>
    simp only [opd, Option.some.injEq] at h
    subst h
    exact .fn _ f #[] [] rfl (fun j v c hv => by simp at hv)

theorem add_addr (b off j : Nat) : (⟨b, off, none⟩ : Addr).add j = ⟨b, off + j, none⟩ := by
  unfold Addr.add; split <;> simp_all

theorem info_of {P : Program} {t : TypeId} {d : TypeDesc} (h : P.underlying t = some d) : ∃ i, P.info? t = some i := by
  unfold Program.underlying at h
  cases hi : P.info? t with
  | none => rw [hi] at h; cases h
  | some i => exact ⟨i, rfl⟩

theorem run_sizeOf {P : Program} {t : TypeId} {i : TypeInfo} (h : P.info? t = some i) : (sizeOf t).run P w = .ok (szT P t) w := by
  simp [sizeOf, typeInfo, h, szT]

theorem info_of_sz {P : Program} {t : TypeId} (h : 0 < szT P t) : ∃ i, P.info? t = some i := by
  unfold szT at h
  cases hi : P.info? t with
  | none => rw [hi] at h; simp at h
  | some i => exact ⟨i, rfl⟩

theorem run_isAgg {P : Program} {t : TypeId} {b : Bool} (h : isAggT P t = some b) : (isAgg t).run P w = .ok b w := by
  unfold isAggT at h
  simp only [Option.map_eq_some_iff] at h
  obtain ⟨d, hd, rfl⟩ := h
  cases d <;> simp [isAgg, run_underlying hd]

/-- A row of cells read as a value. -/
theorem run_loadA {t : TypeId} {cs : List AV} {x : AV} (h : loadA C t cs = some x) {b off : Nat} (vs : List Value) (hl : cs.length ≤ vs.length)
    (hc : ∀ (j : Nat) v, vs[j]? = some v → w.cell? ⟨b, off + j, none⟩ = some v) (hr : ∀ (j : Nat) v c, vs[j]? = some v → cs[j]? = some c → Rep G v c) :
    ∃ v, (loadVar t ⟨b, off, none⟩).run C.P w = .ok v w ∧ Rep G v x := by
  unfold loadA at h
  simp only [Option.bind_eq_some_iff] at h
  obtain ⟨bb, hb, h⟩ := h
  have hag := run_isAgg (w := w) hb
  cases bb with
  | true =>
    simp only [if_true] at h
    split at h
    · rename_i hn
      simp only [Option.some.injEq] at h
      subst h
      have hi : ∃ i, C.P.info? t = some i := by
        unfold isAggT at hb
        simp only [Option.map_eq_some_iff] at hb
        obtain ⟨d, hd, _⟩ := hb
        exact info_of hd
      obtain ⟨i, hi⟩ := hi
      have hlen : (vs.take (szT C.P t)).length = szT C.P t := by rw [List.length_take]; omega
      have hld := run_loadCells_list (P := C.P) w ⟨b, off, none⟩ (vs.take (szT C.P t)) (fun j v hv => by
        rw [add_addr]
        exact hc j v (by rw [List.getElem?_take] at hv; split at hv <;> first | exact hv | cases hv))
      rw [hlen] at hld
      refine ⟨.agg (vs.take (szT C.P t)).toArray, by simp [loadVar, hag, run_sizeOf hi, hld], .agg _ _ _ (by simp; omega) (fun j v c hv hcc => ?_)⟩
      simp only [List.getElem?_toArray, List.getElem?_take] at hv hcc
      split at hv
      · rw [if_pos (by assumption)] at hcc
        exact hr j v c hv hcc
      · cases hv
    · cases h
  | false =>
    simp only [Bool.false_eq_true, if_false] at h
    cases cs with
    | nil => simp at h
    | cons c cs =>
      simp only [List.head?_cons, Option.some.injEq] at h
      subst h
      have h00 : 0 < vs.length := by simp at hl; omega
      have hv : vs[0]? = some vs[0] := List.getElem?_eq_getElem h00
      refine ⟨vs[0], ?_, hr 0 _ _ hv rfl⟩
      have h0 := hc 0 _ hv
      simp only [Nat.add_zero] at h0
      simp [loadVar, hag, h0]

/-- What an operation that leaves memory alone comes to. -/
structure Still (C : Ctx) (G : Gh) (A : _root_.Go.Act) (w : World) (o : Oper) (a : Act) : Prop where
  sw : a.sw = []
  nb : a.nb = 0
  run : ∃ v, (execOp A.eval o).run C.P w = .ok (.value v) w ∧ Rep G v a.val

theorem still_v {A : _root_.Go.Act} {o : Oper} {a : Act} {x : Option AV} (h : x.map (fun x => ({ val := x } : Act)) = some a) (H : ∀ y, x = some y → ∃ v, (execOp A.eval o).run C.P w = .ok (.value v) w ∧ Rep G v y) : Still C G A w o a := by
  simp only [Option.map_eq_some_iff] at h
  obtain ⟨y, hy, rfl⟩ := h
  exact ⟨rfl, rfl, H y hy⟩

theorem rep_bool {v : Value} {b : Bool} (h : Rep G v (.bool b)) : v = .bool b := by cases h; rfl
theorem rep_int {v : Value} {k : IntKind} {n : Int} (h : Rep G v (.int k n)) : v = .int k n := by cases h; rfl
theorem rep_str {v : Value} {s : ByteArray} (h : Rep G v (.str s)) : v = .string s := by cases h; rfl

theorem run_arith {op : BinOp} {k : IntKind} {a b : Int} {r : AV} (h : arithI op k a b = some r) (hs : ¬ (op = .shl ∨ op = .shr)) (t : TypeId) :
    ∃ v, (binOp op t (.int k a) (.int k b)).run C.P w = .ok v w ∧ Rep G v r := by
  cases op <;> simp only [arithI, cmpI, wrapI, bitsI, Option.map_some, Option.some.injEq, Option.map_none, reduceCtorEq] at h
  case quo =>
    split at h
    · cases h
    · rename_i hb
      simp only [Option.some.injEq] at h
      subst h
      exact ⟨_, by simp [binOp, Op.intDiv, hb], .int _ _ _⟩
  case rem =>
    split at h
    · cases h
    · rename_i hb
      simp only [Option.some.injEq] at h
      subst h
      exact ⟨_, by simp [binOp, Op.intDiv, hb], .int _ _ _⟩
  case andNot =>
    subst h
    exact ⟨_, by simp only [binOp, ne_eq, not_true_eq_false, if_false, Op.intBits]; rfl, .int _ _ _⟩
  all_goals
    subst h
    refine ⟨_, by simp [binOp, Op.intArith, Op.intBits, Op.intCmp] <;> rfl, ?_⟩
    constructor

theorem run_strOp {op : BinOp} {a b : ByteArray} {r : AV} (h : strOp op a b = some r) (t : TypeId) :
    ∃ v, (binOp op t (.string a) (.string b)).run C.P w = .ok v w ∧ Rep G v r := by
  cases op <;> simp only [strOp, Option.some.injEq, reduceCtorEq] at h
  case add =>
    split at h
    · rename_i hb
      simp only [Option.some.injEq] at h
      subst h
      have hm : ¬ (((a.size + b.size : Nat) : Int) > IntKind.i64.max) := by
        have : IntKind.i64.max = 9223372036854775807 := rfl
        rw [this]
        omega
      refine ⟨_, by simp only [binOp, Op.stringOp]; rw [if_neg hm]; rfl, .str _ _⟩
    · cases h
  all_goals
    subst h
    exact ⟨_, by simp [binOp, Op.stringOp] <;> rfl, .bool _ _⟩

theorem run_shift {op : BinOp} {k k' : IntKind} {a b : Int} {r : AV} (h : shiftI op k a b = some r) (t : TypeId) :
    ∃ v, (binOp op t (.int k a) (.int k' b)).run C.P w = .ok v w ∧ Rep G v r := by
  unfold shiftI at h
  split at h
  · cases h
  · rename_i hb
    cases op <;> simp only [Option.some.injEq, reduceCtorEq] at h
    all_goals
      subst h
      exact ⟨_, by simp [binOp, Op.shift, hb] <;> rfl, .int _ _ _⟩

theorem run_eqV {d : TypeDesc} {t : TypeId} (hd : C.P.underlying t = some d) {x y : AV} {r : Bool} (h : eqV (some d) x y = some r) {u v : Value} (hu : Rep G u x) (hv : Rep G v y) :
    (Op.equal t u v).run C.P w = .ok r w := by
  obtain ⟨dd, hdd⟩ : ∃ dd, Op.maxDepth = dd + 1 := ⟨9999, rfl⟩
  rw [Op.equal, hdd]
  unfold eqV at h
  split at h <;> simp only [Option.some.injEq, reduceCtorEq] at h <;> rename_i hd' <;> (try (simp only [Option.some.injEq] at hd')) <;> subst_vars <;> cases hu <;> cases hv <;> simp [Op.equalIn, run_underlying hd]

theorem run_binA {op : BinOp} {xt : TypeId} {x y : AV} {r : AV} (h : binA (C.P.underlying xt) op x y = some r) {u v : Value} (hu : Rep G u x) (hv : Rep G v y) (xo yo : Operand) :
    ∃ z, (do eqGuard op xt xo yo u v; binOp op xt u v : Sem Value).run C.P w = .ok z w ∧ Rep G z r := by
  have guardOk : (∀ e, ¬ (u = .nilIface ∧ v = .nilIface ∧ e = ())) → (∀ p q, ¬ (u = .agg p ∧ v = .agg q)) → (eqGuard op xt xo yo u v).run C.P w = .ok () w := by
    intro h1 h2
    unfold eqGuard
    split
    all_goals first
      | rfl
      | (cases u <;> cases v <;> first | rfl | (exact absurd ⟨rfl, rfl, rfl⟩ (h1 ())) | (exact absurd ⟨rfl, rfl⟩ (h2 _ _)))
  unfold binA at h
  split at h
  · rename_i k a k' b
    obtain rfl := rep_int hu
    obtain rfl := rep_int hv
    have hg := guardOk (by simp) (by simp)
    split at h
    · obtain ⟨z, hz, hr⟩ := run_shift (C := C) (G := G) (w := w) (k' := k') h xt
      exact ⟨z, by simp [hg, hz], hr⟩
    · rename_i hs
      split at h
      · rename_i hk
        subst hk
        obtain ⟨z, hz, hr⟩ := run_arith (C := C) (G := G) (w := w) h hs xt
        exact ⟨z, by simp [hg, hz], hr⟩
      · cases h
  · rename_i a b
    obtain rfl := rep_str hu
    obtain rfl := rep_str hv
    have hg := guardOk (by simp) (by simp)
    obtain ⟨z, hz, hr⟩ := run_strOp (C := C) (G := G) (w := w) h xt
    exact ⟨z, by simp [hg, hz], hr⟩
  · rename_i n1 n2
    have heq : ∀ q, eqV (C.P.underlying xt) x y = some q → (eqGuard op xt xo yo u v).run C.P w = .ok () w ∧ (Op.equal xt u v).run C.P w = .ok q w := by
      intro q hq
      cases hd : C.P.underlying xt with
      | none => rw [hd] at hq; simp [eqV] at hq
      | some d =>
        rw [hd] at hq
        refine ⟨?_, run_eqV hd hq hu hv⟩
        unfold eqV at hq
        split at hq <;> first | (cases hq; done) | (cases hu <;> cases hv <;> exact guardOk (by simp) (by simp))
    have hbin : ∀ q, eqV (C.P.underlying xt) x y = some q → (binOp .eql xt u v = (do pure (.bool (← Op.equal xt u v)))) ∧ (binOp .neq xt u v = (do pure (.bool (!(← Op.equal xt u v))))) := by
      intro q hq
      cases hd : C.P.underlying xt with
      | none => rw [hd] at hq; simp [eqV] at hq
      | some d =>
        rw [hd] at hq
        unfold eqV at hq
        split at hq <;> first | (cases hq; done) | (cases hu <;> cases hv <;> exact ⟨rfl, rfl⟩)
    split at h
    · simp only [Option.map_eq_some_iff] at h
      obtain ⟨q, hq, rfl⟩ := h
      obtain ⟨h1, h2⟩ := heq q hq
      exact ⟨.bool q, by simp [h1, (hbin q hq).1, h2], .bool _ _⟩
    · simp only [Option.map_eq_some_iff] at h
      obtain ⟨q, hq, rfl⟩ := h
      obtain ⟨h1, h2⟩ := heq q hq
      exact ⟨.bool (!q), by simp [h1, (hbin q hq).2, h2], .bool _ _⟩
    · cases h

end Go.Ev
