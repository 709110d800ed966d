/- Part of the proof of a statement about the given program: EvRun. No condition of its own. -/
import Derived.Test.YtfkjjmhbljlbkaaDoorEvAct
namespace Go.Ev
set_option linter.unusedVariables false
set_option linter.unusedSimpArgs false
variable {C : Ctx} {G : Gh} {w : World} {m : Mem}

theorem wants_spec {A : _root_.Go.Act} {env : Nat → AV} (he : EnvRep G A.tmps env) {ops : Array Oper} {o : Oper} {b : Bool} (h : wants ops env o = some b) : Region.wanted o (yielded ops A.tmps) = b := by
  unfold wants at h
  unfold Region.wanted
  split at h
  · simp only [Option.some.injEq] at h
    subst h
    rename_i hg
    rw [hg]
  · rename_i j wt hg
    rw [hg]
    simp only
    unfold yielded
    split at h
    · rename_i d hd
      have hr := he d
      simp only [hd, Option.bind_some]
      split at h
      · rename_i b' hb
        simp only [Option.some.injEq] at h
        subst h
        rw [hb] at hr
        have hv := rep_bool hr
        rw [Array.getD_eq_getD_getElem?] at hv
        cases hx : A.tmps[d]? with
        | none => rw [hx] at hv; cases hv
        | some v =>
          rw [hx] at hv
          simp only [Option.getD_some] at hv
          subst hv
          simp only [Option.some_beq_some]
      · rename_i hb
        simp only [Option.some.injEq] at h
        subst h
        rw [hb] at hr
        generalize hx : A.tmps.getD d Go.undef = v at hr
        cases hr
        rw [Array.getD_eq_getD_getElem?] at hx
        cases hx2 : A.tmps[d]? with
        | none => rfl
        | some v =>
          rw [hx2] at hx
          simp only [Option.getD_some] at hx
          subst hx
          rfl
      · cases h
    · rename_i hd
      simp only [Option.some.injEq] at h
      subst h
      simp [hd]

/-- What is numbered anew has a number from n on, or follows all that were known. -/
def NewIn (n : Nat) (G G' : Gh) : Prop := (∀ id, id < n → (∀ g, G.T id g = none) → ∀ g, G'.T id g = none) ∧ ∀ id g x, G'.T id g = some x → G.T id g = some x ∨ ∀ g0 y, G.T id g0 = some y → g0 < g

theorem NewIn.refl (n : Nat) (G : Gh) : NewIn n G G := ⟨fun _ _ h => h, fun _ _ _ h => .inl h⟩
theorem NewIn.trans {n n1 : Nat} {G G1 G2 : Gh} (hT : ∀ id g x, G.T id g = some x → G1.T id g = some x) (h : NewIn n G G1) (k : NewIn n1 G1 G2) (hn : n ≤ n1) : NewIn n G G2 := ⟨fun id hid h0 => k.1 id (by omega) (h.1 id hid h0), fun id g x hx => by
  rcases k.2 id g x hx with hx | hx
  · exact h.2 id g x hx
  · exact .inr (fun g0 y h0 => hx g0 y (hT _ _ _ h0))⟩
theorem Fresh.newIn {n fb : Nat} {G G1 : Gh} (h : Fresh fb G G1) (hn : n ≤ fb) : NewIn n G G1 := ⟨fun id hid h0 => h.1 id (by omega) h0, h.2⟩

/-- A call in the caller's memory. -/
def ShareOk (C : Ctx) (f : FuncId) (args : List AV) (m : Mem) (r : AV) (m' : Mem) : Prop :=
  (∀ (vs : Array Value) (w : World), (callFunc f vs).run C.P w = .ok (.enter f vs) w) ∧
  ∀ (G : Gh) (w : World) (vs : Array Value), Inv G w m → CtxOk C G w → vs.size = args.length → (∀ (j : Nat) v a, vs[j]? = some v → args[j]? = some a → Rep G v a) →
    Calls C.P f vs w fun e w' => ∃ v G', e = .returned v ∧ Rep G' v r ∧ Inv G' w' m' ∧ Ext G w G' w' ∧ NewIn m.nid G G' ∧ m.nid ≤ m'.nid

structure Hyps2 (C : Ctx) (callI : FuncId → List AV → Mem → Option (AV × Mem)) (call : FuncId → List AV → Option AV) : Prop extends Hyps C call where
  share : ∀ f args m r m', callI f args m = some (r, m') → ShareOk C f args m r m'

/-- The frame, its memory and the world, and what the evaluator knows of them. -/
structure Sim (C : Ctx) (n : Nat) (G : Gh) (A : _root_.Go.Act) (w : World) (s : St) : Prop where
  env : EnvRep G A.tmps s.env
  inv : Inv G w s.toMem
  ctx : CtxOk C G w
  size : A.tmps.size = n

def After (C : Ctx) (n : Nat) (G : Gh) (w : World) (A : _root_.Go.Act) (n0 : Nat) (s' : St) (A' : _root_.Go.Act) (w' : World) : Prop :=
  ∃ G', Sim C n G' A' w' s' ∧ Ext G w G' w' ∧ A'.defers = A.defers ∧ NewIn n0 G G' ∧ n0 ≤ s'.nid

theorem After.refl {n n0 : Nat} {A : _root_.Go.Act} {s : St} (h : Sim C n G A w s) (hn : n0 ≤ s.nid) : After C n G w A n0 s A w := ⟨G, h, Ext.refl _ _, rfl, NewIn.refl _ _, hn⟩

theorem Sim.put {n : Nat} {A : _root_.Go.Act} {s : St} {G' : Gh} {w' : World} (h : Sim C n G A w s) (he : Ext G w G' w') {mm : Mem} (hi : Inv G' w' mm) {dst : Option Tmp} (hd : ∀ d, dst = some d → d < n) {v : Value} {x : AV} (hr : Rep G' v x) :
    Sim C n G' (A.put dst v) w' { mm with env := putE s.env dst x } ∧ (A.put dst v).defers = A.defers := by
  cases dst with
  | none => exact ⟨⟨h.env.ext he, hi, h.ctx.ext he, h.size⟩, rfl⟩
  | some d =>
    refine ⟨⟨(h.env.ext he).put (by rw [h.size]; exact hd d rfl) hr, hi, h.ctx.ext he, ?_⟩, rfl⟩
    show (A.tmps.setIfInBounds d v).size = n
    rw [Array.size_setIfInBounds]
    exact h.size

theorem noT_of_dom (hi : Inv G w m) : ∀ g, G.T m.nid g = none := by
  intro g
  cases h : G.T m.nid g with
  | none => rfl
  | some x => have := (hi.dom _ _ _ h).1; omega

theorem stepN_wp {callI : FuncId → List AV → Mem → Option (AV × Mem)} {call : FuncId → List AV → Option AV} (H : Hyps2 C callI call) {n : Nat} {A : _root_.Go.Act} {s s' : St} {ops : Array Oper} {o : Oper} (hs : Sim C n G A w s) (hd : ∀ d, o.dst = some d → d < n)
    (h : stepN C callI call ops o s = some s') {K : _root_.Go.Act → World → Prop} {Q : Exit → _root_.Go.Act → World → Prop} (hk : ∀ A' w', After C n G w A s.nid s' A' w' → K A' w') :
    if Region.wanted o (yielded ops A.tmps) then o.wp C.P A w K Q else K (A.put o.dst Go.undef) w := by
  unfold stepN at h
  simp only [Option.bind_eq_some_iff] at h
  obtain ⟨b, hb, h⟩ := h
  rw [wants_spec hs.env hb]
  cases b with
  | false =>
    simp only [Bool.false_eq_true, if_false, Option.some.injEq] at h ⊢
    subst h
    obtain ⟨h1, h2⟩ := hs.put (Ext.refl _ _) hs.inv hd (v := Go.undef) (x := .void) (.void _)
    exact hk _ _ ⟨G, h1, Ext.refl _ _, h2, NewIn.refl _ _, Nat.le_refl _⟩
  | true =>
    simp only [if_true] at h ⊢
    split at h
    · rename_i f args hl
      simp only [Option.map_eq_some_iff, Prod.exists] at h
      obtain ⟨r, m', hr, rfl⟩ := h
      obtain ⟨hen, hsh⟩ := H.share _ _ _ _ _ hr
      unfold loudCall at hl
      split at hl
      · rename_i c hop
        split at hl
        · rename_i fo hco
          simp only [Option.bind_eq_some_iff] at hl
          obtain ⟨fv, hfv, as, has, hl⟩ := hl
          split at hl
          · rename_i f' cap
            split at hl
            · simp only [Option.some.injEq, Prod.mk.injEq] at hl
              obtain ⟨rfl, rfl⟩ := hl
              obtain ⟨a1, a2⟩ := argsA_rep hs.env hs.ctx has
              have hfr := opd_rep hs.env hs.ctx hfv
              generalize hfx : A.eval fo = u at hfr
              cases hfr with
              | fn _ _ cvs _ hcl hcr =>
                refine wp_call (f := f') (vs := c.args.map A.eval ++ cvs) (by rw [exec_call hop hco hfx]; exact hen _ _) ((hsh G w _ hs.inv hs.ctx (by simp [a1, hcl]) (fun j v a hv ha => ?_)).mono ?_)
                · have hsz : (c.args.map A.eval).size = as.length := by simp [a1]
                  by_cases hj : j < as.length
                  · rw [List.getElem?_append_left hj] at ha
                    rw [Array.getElem?_append_left (by omega)] at hv
                    obtain ⟨x, hx, hr⟩ := a2 j a ha
                    simp only [Array.getElem?_map, Option.map_eq_some_iff] at hv
                    obtain ⟨x', hx', rfl⟩ := hv
                    rw [Array.getElem?_toList] at hx
                    rw [hx] at hx'
                    cases hx'
                    exact hr
                  · rw [List.getElem?_append_right (by omega)] at ha
                    rw [Array.getElem?_append_right (by omega), hsz] at hv
                    exact hcr _ _ _ hv ha
                · rintro e w' ⟨v, G', rfl, hrr, hi', he', hne', hnid⟩
                  obtain ⟨h1, h2⟩ := hs.put he' hi' hd hrr
                  exact ⟨v, rfl, hk _ _ ⟨G', h1, he', h2, hne', hnid⟩⟩
            · cases hl
          · cases hl
        · cases hl
      · cases hl
    · simp only [Option.map_eq_some_iff] at h
      obtain ⟨a, ha, rfl⟩ := h
      refine act_wp H.toHyps hs.env hs.ctx hs.inv (fb := s.nid) (nid' := s.nid + a.nb) (noT_of_dom hs.inv) (by omega) ha (by omega) (fun v w' G' hr hi' he' hfr => ?_)
      obtain ⟨h1, h2⟩ := hs.put he' hi' hd hr
      exact hk _ _ ⟨G', h1, he', h2, hfr.newIn (Nat.le_refl _), Nat.le_add_right _ _⟩

/-- A region in the order of the text. -/
theorem runT_wp {callI : FuncId → List AV → Mem → Option (AV × Mem)} {call : FuncId → List AV → Option AV} (H : Hyps2 C callI call) {n : Nat} {ops : Array Oper} (hdst : ∀ o ∈ ops.toList, ∀ d, o.dst = some d → d < n) {Q : Exit → _root_.Go.Act → World → Prop} {s' : St} :
    ∀ (k i : Nat) (G : Gh) (A : _root_.Go.Act) (w : World) (s : St), i + k = ops.size → runT C callI call ops (ops.toList.drop i) s = some s' → Sim C n G A w s → (∀ A' w', After C n G w A s.nid s' A' w' → Q .normal A' w') → wpOps C.P ops Q (List.range' i k) A w
  | 0, i, G, A, w, s, hi, h, hs, hq => by
    have : ops.toList.drop i = [] := List.drop_eq_nil_of_le (by simp; omega)
    rw [this] at h
    simp only [runT, Option.some.injEq] at h
    subst h
    exact hq _ _ (After.refl hs (Nat.le_refl _))
  | k + 1, i, G, A, w, s, hi, h, hs, hq => by
    have hlt : i < ops.size := by omega
    have hdrop : ops.toList.drop i = ops[i] :: ops.toList.drop (i + 1) := by
      rw [List.drop_eq_getElem_cons (by simpa using hlt)]
      simp
    rw [hdrop] at h
    simp only [runT, Option.bind_eq_some_iff] at h
    obtain ⟨s1, h1, h2⟩ := h
    rw [List.range'_succ, wpOps]
    have ho : ops[i]? = some ops[i] := Array.getElem?_eq_getElem hlt
    simp only [ho]
    have key := stepN_wp H hs (hdst _ (Array.getElem_mem_toList hlt)) h1 (K := wpOps C.P ops Q (List.range' (i + 1) k)) (Q := Q) (fun A' w' ⟨G', hs', he', hd', hn', hl'⟩ =>
      runT_wp H hdst k (i + 1) G' A' w' s1 (by omega) h2 hs' (fun A2 w2 ⟨G2, hs2, he2, hd2, hn2, hl2⟩ => hq A2 w2 ⟨G2, hs2, he'.trans he2, hd2.trans hd', NewIn.trans he'.T hn' hn2 hl', Nat.le_trans hl' hl2⟩))
    split
    · rename_i hw
      rw [if_pos hw] at key
      exact .inl key
    · rename_i hw
      rw [if_neg hw] at key
      exact key

def codeOk (n : Nat) : Code → Bool
  | .region _ ops _ => ops.toList.all fun o => match o.dst with | some d => decide (d < n) | none => true
  | .seq a b => codeOk n a && codeOk n b
  | .cond _ a b => codeOk n a && codeOk n b
  | .block _ a => codeOk n a
  | .loop a => codeOk n a
  | _ => true

theorem codeOk_dst {n : Nat} {id : Nat} {ops : Array Oper} {dr : Bool} (h : codeOk n (.region id ops dr) = true) : ∀ o ∈ ops.toList, ∀ d, o.dst = some d → d < n := by
  intro o ho d hd
  simp only [codeOk, List.all_eq_true] at h
  have := h o ho
  rw [hd] at this
  simpa using this

def exOf : Ex → Exit
  | .normal => .normal
  | .exit n => .exit n
  | .ret => .ret

end Go.Ev
