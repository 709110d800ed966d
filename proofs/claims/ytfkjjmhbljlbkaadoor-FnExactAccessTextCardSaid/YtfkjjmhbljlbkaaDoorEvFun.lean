/- Part of the proof of a statement about the given program: EvFun. No condition of its own. -/
import Derived.Test.YtfkjjmhbljlbkaaDoorEvCode
namespace Go.Ev
set_option linter.unusedVariables false
set_option linter.unusedSimpArgs false
variable {C : Ctx} {G : Gh} {w : World} {m : Mem}

/-- Closed facts of a program. -/
structure ProgOk (P : Program) : Prop where
  zero : ZeroOk P
  mixed : P.follows .mixedOrders = true
  code : ∀ (f : Nat) (fn : Func) c, P.funcs[f]? = some fn → fn.body = some c → codeOk fn.ntmps c = true
  name : ∀ (f : Nat) (fn : Func) c, P.funcs[f]? = some fn → fn.body = some c → fn.name ≠ "runtime.NumGoroutine"

theorem enter_ok {P : Program} (hP : ProgOk P) {f : FuncId} {fn : Func} {c : Code} (hf : P.funcs[f]? = some fn) (hb : fn.body = some c) (vs : Array Value) (w : World) : (callFunc f vs).run P w = .ok (.enter f vs) w := by
  have h1 := hP.name f fn c hf hb
  simp [callFunc, hf, hb, h1]

/-- A function's results. -/
theorem run_results {fn : Func} {A : _root_.Go.Act} {s : St} (he : EnvRep G A.tmps s.env) (hi : Inv G w s.toMem) {r : AV} (h : resA C fn s = some r) : ∃ v, (results fn A.tmps).run C.P w = .ok v w ∧ Rep G v r := by
  unfold resA at h
  simp only [Option.map_eq_some_iff] at h
  obtain ⟨xs, hxs, hr⟩ := h
  have gen : ∀ (F : ResultVar → Sem Value), (∀ t, F (.tmp t) = pure (A.tmps.getD t Go.undef)) → (∀ a t, F (.cell a t) = (asAddr (A.tmps.getD a Go.undef) >>= fun x => loadVar t x)) → ∀ (l : List ResultVar) (xs : List AV), (l.mapM fun r => match r with
      | ResultVar.tmp t => some (s.env t)
      | .cell a t => match s.env a with
        | .ptr id g off => if g = (s.sto id).gen then loadA C t ((s.sto id).cells.drop off) else none
        | _ => none) = some xs → ∃ vs : List Value, (l.mapM F).run C.P w = .ok vs w ∧ vs.length = xs.length ∧ ∀ (j : Nat) v x, vs[j]? = some v → xs[j]? = some x → Rep G v x := by
    intro F hF1 hF2 l
    induction l with
    | nil => intro xs h; simp at h; subst h; exact ⟨[], rfl, rfl, fun j v x hv => by simp at hv⟩
    | cons r l ih =>
      intro xs h
      simp only [List.mapM_cons, Option.bind_eq_bind, Option.bind_eq_some_iff, Option.pure_def, Option.some.injEq] at h
      obtain ⟨x, hx, xs', hxs', rfl⟩ := h
      obtain ⟨vs, h1, h2, h3⟩ := ih xs' hxs'
      have one : ∃ v, (F r).run C.P w = .ok v w ∧ Rep G v x := by
        cases r with
        | tmp t =>
          simp only [Option.some.injEq] at hx
          subst hx
          exact ⟨_, by rw [hF1]; rfl, he t⟩
        | cell a t =>
          simp only at hx
          split at hx
          · rename_i id g off hp
            split at hx
            · rename_i hg
              have hra := he a
              rw [hp] at hra
              generalize hav : A.tmps.getD a Go.undef = u at hra
              cases hra with
              | ptr _ _ _ _ b y hT =>
                subst hg
                obtain ⟨cur, e, fr, hl⟩ := live_of hi hT
                obtain ⟨l1, l2, l3⟩ := live_row hl off
                obtain ⟨v, hv, hr⟩ := run_loadA (C := C) hx (cur.toList.drop off) l1 l2 l3
                exact ⟨v, by simp only [hF2, hav, asAddr, Sem.run_bind, Sem.run_pure, Result.andThen_ok, hv], hr⟩
            · cases hx
          · cases hx
      obtain ⟨v, hv, hrv⟩ := one
      refine ⟨v :: vs, ?_, by simp [h2], fun j v' x' hv' hx' => ?_⟩
      · simp only [List.mapM_cons, Sem.run_bind, hv, Result.andThen_ok, h1, Sem.run_pure]
      · cases j with
        | zero => simp only [List.getElem?_cons_zero, Option.some.injEq] at hv' hx'; subst hv' hx'; exact hrv
        | succ j => exact h3 j v' x' (by simpa using hv') (by simpa using hx')
  have hres : ∃ vs : List Value, (results fn A.tmps).run C.P w = .ok (if h : vs.toArray.size = 1 then vs.toArray[0] else .tuple vs.toArray) w ∧ vs.length = xs.length ∧ ∀ (j : Nat) v x, vs[j]? = some v → xs[j]? = some x → Rep G v x := by
    have key : ∀ (KF : ResultVar → Sem Value), (∀ t, KF (.tmp t) = pure (A.tmps.getD t Go.undef)) → (∀ a t, KF (.cell a t) = (asAddr (A.tmps.getD a Go.undef) >>= fun x => loadVar t x)) →
        ∃ vs : List Value, ((fn.results.mapM KF >>= fun vs => pure (if h : vs.size = 1 then vs[0] else .tuple vs)) : Sem Value).run C.P w = .ok (if h : vs.toArray.size = 1 then vs.toArray[0] else .tuple vs.toArray) w ∧ vs.length = xs.length ∧ ∀ (j : Nat) v x, vs[j]? = some v → xs[j]? = some x → Rep G v x := by
      intro KF k1 k2
      obtain ⟨vs, h1, h2, h3⟩ := gen KF k1 k2 _ _ hxs
      refine ⟨vs, ?_, h2, h3⟩
      rw [Array.mapM_eq_mapM_toList]
      simp only [Sem.run_bind, Sem.run_map, h1, Result.andThen_ok, Sem.run_pure]
    unfold results
    refine key _ ?_ ?_
    · intro t; rfl
    · intro a t; rfl
  obtain ⟨vs, hrun, h2, h3⟩ := hres
  refine ⟨_, hrun, ?_⟩
  subst hr
  cases xs with
  | nil =>
    have : vs = [] := List.eq_nil_of_length_eq_zero (by simpa using h2)
    subst this
    exact .tup _ _ _ rfl (fun j v c hv => by simp at hv)
  | cons x xs =>
    cases xs with
    | nil =>
      cases vs with
      | nil => simp at h2
      | cons v vs =>
        have : vs = [] := List.eq_nil_of_length_eq_zero (by simpa using h2)
        subst this
        exact h3 0 v x rfl rfl
    | cons y ys =>
      have hne : ¬ (vs.toArray.size = 1) := by simp [h2]
      rw [dif_neg hne]
      exact .tup _ _ _ (by simp [h2]) (fun j v c hv hc => h3 j v c (by simpa using hv) hc)

theorem enter_sim {fn : Func} {args : List AV} {vs : Array Value} (hi : Inv G w m) (hc : CtxOk C G w) (hsz : vs.size = args.length) (hr : ∀ (j : Nat) v a, vs[j]? = some v → args[j]? = some a → Rep G v a) (n : Nat) :
    EnvRep G (vs ++ Array.replicate n Go.undef) (enterA fn args m).env := by
  intro t
  simp only [enterA]
  by_cases ht : t < vs.size
  · have h1 : args.getD t .void = args[t]'(by omega) := by simp [List.getD, List.getElem?_eq_getElem (show t < args.length by omega)]
    have h2 : (vs ++ Array.replicate n Go.undef).getD t Go.undef = vs[t] := by
      rw [Array.getD_eq_getD_getElem?, Array.getElem?_append_left ht, Array.getElem?_eq_getElem ht]
      rfl
    rw [h1, h2]
    exact hr t _ _ (Array.getElem?_eq_getElem ht) (List.getElem?_eq_getElem _)
  · have h1 : args.getD t .void = .void := by simp [List.getD, List.getElem?_eq_none (show args.length ≤ t by omega)]
    have h2 : (vs ++ Array.replicate n Go.undef).getD t Go.undef = Go.undef := by
      rw [Array.getD_eq_getD_getElem?, Array.getElem?_append_right (by omega)]
      rw [Array.getElem?_replicate]
      split <;> rfl
    rw [h1, h2]
    exact .void _

/-- A function's body, in some memory. -/
theorem body_wp {callI : FuncId → List AV → Mem → Option (AV × Mem)} {call : FuncId → List AV → Option AV} (hP : ProgOk C.P) (H : Hyps2 C callI call) {k : Nat} {f : FuncId} {fn : Func} {c : Code} (hf : C.P.funcs[f]? = some fn) (hb : fn.body = some c) {args : List AV} {e : Ex} {s : St} {r : AV}
    (h : evc C callI call (fun b s => loopN b k s) c (enterA fn args m) = some (e, s)) (hex : ∀ n, e ≠ .exit n) (hres : resA C fn s = some r) {vs : Array Value} (hi : Inv G w m) (hc : CtxOk C G w) (hsz : vs.size = args.length) (hn : args.length ≤ fn.ntmps) (hr : ∀ (j : Nat) v a, vs[j]? = some v → args[j]? = some a → Rep G v a) :
    Calls C.P f vs w fun e w' => ∃ v G', e = .returned v ∧ Rep G' v r ∧ Inv G' w' s.toMem ∧ Ext G w G' w' ∧ NewIn m.nid G G' ∧ m.nid ≤ s.nid := by
  refine calls_of_wp hf hb ?_
  have hsim : Sim C fn.ntmps G { tmps := vs ++ Array.replicate (fn.ntmps - vs.size) Go.undef, defers := [] } w (enterA fn args m) := ⟨enter_sim hi hc hsz hr _, hi, hc, by simp; omega⟩
  refine wp_mono (evc_wp H hP.mixed c (hP.code f fn c hf hb) G _ w _ s e h hsim) ?_
  rintro ex A' w' ⟨rfl, G', hs', he', hd', hn', hl'⟩
  obtain ⟨v, hv, hrv⟩ := run_results (C := C) (w := w') hs'.env hs'.inv hres
  cases e with
  | normal => exact ⟨hd', v, hv, v, G', rfl, hrv, hs'.inv, he', hn', hl'⟩
  | ret => exact ⟨hd', v, hv, v, G', rfl, hrv, hs'.inv, he', hn', hl'⟩
  | exit n => exact absurd rfl (hex n)

theorem inv_empty (h : Inv G w m) : Inv G.bare w .empty := ⟨h.okM, fun _ _ _ _ h => by simp [Gh.bare] at h, fun _ _ _ _ _ h => by simp [Gh.bare] at h, fun _ _ _ h => by simp [Gh.bare] at h⟩

/-- THE EVALUATOR TELLS WHAT THE PROGRAM DOES. -/
theorem sound (hP : ProgOk C.P) {prim : FuncId → List AV → Option AV} (hprim : ∀ f args r, prim f args = some r → PureOk C f args r) (hpI : ∀ f args m r m', C.pI f args m = some (r, m') → ShareOk C f args m r m') : ∀ k : Nat, Hyps2 C (evI C prim k) (evf C prim k)
  | 0 => { zero := hP.zero, pure := fun f args r h => by simp [evf] at h, share := fun f args m r m' h => by simp [evI] at h }
  | k + 1 => by
    have IH := sound hP hprim hpI k
    refine { zero := hP.zero, pure := fun f args r h => ?_, share := fun f args m r m' h => ?_ }
    · simp only [evf] at h
      split at h
      · rename_i r' hpr
        simp only [Option.some.injEq] at h
        subst h
        exact hprim _ _ _ hpr
      · unfold bodyF at h
        split at h
        · rename_i fn hf
          split at h
          · rename_i c hb
            split at h
            · rename_i hn
              have hh : ∃ e s, evc C (evI C prim k) (evf C prim k) (fun b s => loopN b k s) c (enterA fn args .empty) = some (e, s) ∧ (∀ n, e ≠ .exit n) ∧ ∃ r0, resA C fn s = some r0 ∧ snapD s.toMem 8 r0 = some r := by
                unfold endF at h
                split at h
                · cases h
                · cases h
                · rename_i e s hne hev
                  simp only [Option.bind_eq_some_iff] at h
                  exact ⟨e, s, hev, fun n hn => hne n hn, h⟩
              obtain ⟨e, s, hev, hex, r0, hr0, hsn⟩ := hh
              refine ⟨fun vs w => enter_ok hP hf hb vs w, fun G w vs hT hi hc hsz hr => ?_⟩
              refine (body_wp hP IH hf hb hev hex hr0 hi hc hsz hn hr).mono ?_
              rintro e' w' ⟨v, G', rfl, hrv, hi', he', _⟩
              obtain ⟨hi1, he1⟩ := inv_fix hi' (reachD s.toMem 8 r0) (fun i => if i ∈ reachD s.toMem 8 r0 then { s.sto i with froz := true } else s.sto i) (fun i => rfl)
              have he2 := he'.trans he1
              refine ⟨v, (G'.fix w' s.toMem (reachD s.toMem 8 r0)).bare, rfl, fun _ _ => rfl, snap_rep hi' 8 hrv hsn (fun id hid => hid), ⟨hi1.okM, fun _ _ _ _ h => by simp [Gh.bare] at h, fun _ _ _ _ _ h => by simp [Gh.bare] at h, fun _ _ _ h => by simp [Gh.bare] at h⟩, ?_⟩
              exact ⟨he2.M, fun id g x hx => (by rw [hT] at hx; cases hx), he2.os, he2.tape, he2.output, he2.size, he2.frame, fun id g b x hx _ => (by simp [Gh.bare] at hx)⟩
            · cases h
          · cases h
        · cases h
    · simp only [evI] at h
      split at h
      · rename_i r' hpr
        simp only [Option.some.injEq] at h
        subst h
        exact hpI _ _ _ _ _ hpr
      · unfold bodyI at h
        split at h
        · rename_i fn hf
          split at h
          · rename_i c hb
            split at h
            · rename_i hn
              have hh : ∃ e s, evc C (evI C prim k) (evf C prim k) (fun b s => loopN b k s) c (enterA fn args m) = some (e, s) ∧ (∀ n, e ≠ .exit n) ∧ ∃ r0, resA C fn s = some r0 ∧ snapI C f r0 s.toMem = some (r, m') := by
                unfold endI at h
                split at h
                · cases h
                · cases h
                · rename_i e s hne hev
                  simp only [Option.bind_eq_some_iff] at h
                  exact ⟨e, s, hev, fun n hn => hne n hn, h⟩
              obtain ⟨e, s, hev, hex, r0, hr0, hsn⟩ := hh
              refine ⟨fun vs w => enter_ok hP hf hb vs w, fun G w vs hi hc hsz hr => ?_⟩
              refine (body_wp hP IH hf hb hev hex hr0 hi hc hsz hn hr).mono ?_
              rintro e' w' ⟨v, G', rfl, hrv, hi', he', hn', hl'⟩
              unfold snapI at hsn
              split at hsn
              · simp only [Option.map_eq_some_iff, Prod.mk.injEq] at hsn
                obtain ⟨x, hx, rfl, rfl⟩ := hsn
                obtain ⟨hi1, he1⟩ := inv_fix hi' (reachD s.toMem 8 r0) (fun i => if i ∈ reachD s.toMem 8 r0 then { s.sto i with froz := true } else s.sto i) (fun i => rfl)
                refine ⟨v, G'.fix w' s.toMem (reachD s.toMem 8 r0), rfl, (snap_rep hi' 8 hrv hx (fun id hid => hid)).mono (fun _ => List.prefix_refl _) (fun _ _ _ h => by simp [Gh.bare] at h), hi1, he'.trans he1, hn', hl'⟩
              · simp only [Option.some.injEq, Prod.mk.injEq] at hsn
                obtain ⟨rfl, rfl⟩ := hsn
                exact ⟨v, G', rfl, hrv, hi', he', hn', hl'⟩
            · cases h
          · cases h
        · cases h

end Go.Ev
