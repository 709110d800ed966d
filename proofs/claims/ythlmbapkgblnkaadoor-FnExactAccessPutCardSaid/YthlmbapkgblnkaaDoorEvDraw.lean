/- Part of the proof of a statement about the given program: EvDraw EvMask EvDraw2. No condition of its own. -/
import Derived.Test.YthlmbapkgblnkaaDoorEvCall
section
namespace Go.Ev
set_option linter.unusedVariables false
set_option linter.unusedSimpArgs false
variable {C : Ctx} {G : Gh} {w : World} {m : Mem}

theorem reach_local {m m' : Mem} : ∀ (k : Nat) (x : AV), (∀ id ∈ reachD m k x, m.sto id = m'.sto id) → reachD m' k x = reachD m k x
  | 0, x, _ => by cases x <;> rfl
  | k + 1, x, h => by
    have many : ∀ (cs : List AV), (∀ id ∈ (cs.map (reachD m k)).flatten, m.sto id = m'.sto id) → (cs.map (reachD m' k)).flatten = (cs.map (reachD m k)).flatten := by
      intro cs hcs
      congr 1
      apply List.map_congr_left
      intro c hc
      exact reach_local k c (fun id hid => hcs id (List.mem_flatten.2 ⟨_, List.mem_map.2 ⟨c, hc, rfl⟩, hid⟩))
    cases x with
    | arr id g off n sz app =>
      simp only [reachD, List.mem_cons] at h ⊢
      have h0 := h id (.inl rfl)
      rw [← h0, many _ (fun i hi => h i (.inr hi))]
    | agg cs => simp only [reachD] at h ⊢; exact many cs h
    | tup cs => simp only [reachD] at h ⊢; exact many cs h
    | _ => rfl

theorem mapM_congr {α β : Type} {f g : α → Option β} : ∀ (l : List α), (∀ a ∈ l, f a = g a) → l.mapM f = l.mapM g
  | [], _ => rfl
  | a :: l, h => by
    simp only [List.mapM_cons, h a (List.mem_cons_self ..), mapM_congr l (fun b hb => h b (List.mem_cons_of_mem _ hb))]

theorem snap_local {m m' : Mem} : ∀ (k : Nat) (x : AV), (∀ id ∈ reachD m k x, m.sto id = m'.sto id) → snapD m' k x = snapD m k x
  | 0, x, _ => by cases x <;> rfl
  | k + 1, x, h => by
    have many : ∀ (cs ds : List AV), (∀ c ∈ ds, c ∈ cs) → (∀ id ∈ (cs.map (reachD m k)).flatten, m.sto id = m'.sto id) → ds.mapM (snapD m' k) = ds.mapM (snapD m k) := by
      intro cs ds hsub hcs
      exact mapM_congr ds (fun c hc => snap_local k c (fun id hid => hcs id (List.mem_flatten.2 ⟨_, List.mem_map.2 ⟨c, hsub c hc, rfl⟩, hid⟩)))
    cases x with
    | arr id g off n sz app =>
      simp only [reachD, List.mem_cons] at h
      have h0 := h id (.inl rfl)
      simp only [snapD, ← h0]
      rw [many (m.sto id).cells _ (fun c hc => List.mem_of_mem_drop (List.mem_of_mem_take hc)) (fun i hi => h i (.inr hi))]
    | agg cs => simp only [reachD] at h; simp only [snapD, many cs cs (fun _ h => h) h]
    | tup cs => simp only [reachD] at h; simp only [snapD, many cs cs (fun _ h => h) h]
    | _ => rfl

theorem argsA_local {env env' : Nat → AV} : ∀ (xs : List Operand) (ts : List TypeId), (∀ x ∈ xs, ∀ t, opd C env t x = opd C env' t x) → argsA C env' xs ts = argsA C env xs ts
  | [], ts, _ => by cases ts <;> rfl
  | x :: xs, [], _ => rfl
  | x :: xs, t :: ts, h => by
    simp only [argsA, ← h x (List.mem_cons_self ..) t, argsA_local xs ts (fun y hy => h y (List.mem_cons_of_mem _ hy))]

/-- What an operation comes to hangs on its operands and on the blocks that it reads. -/
theorem act_local {call : FuncId → List AV → Option AV} {fb : Nat} {o : Oper} {s s' : St} {a : Act} (h : act C call fb o s = some a) (hE : ∀ x ∈ o.op.operands, ∀ t, opd C s.env t x = opd C s'.env t x) (hS : ∀ id ∈ a.sr, s.sto id = s'.sto id) : act C call fb o s' = some a := by
  obtain ⟨dst, oper, type, pos, after, guard⟩ := o
  simp only at hE
  unfold act at h ⊢
  cases oper with
  | move x => simp only [← hE x (by simp [Op.operands])]; exact h
  | assign x => simp only [← hE x (by simp [Op.operands])]; exact h
  | pick c x y => simp only [← hE c (by simp [Op.operands]), ← hE x (by simp [Op.operands]), ← hE y (by simp [Op.operands])]; exact h
  | alloc e => exact h
  | box e x => simp only [← hE x (by simp [Op.operands])]; exact h
  | build t parts =>
    have e1 : ∀ fs : Array Field, (parts.toList.mapM fun (p : Nat × Operand) => (fs[p.1]?).bind fun (f : Field) => (opd C s'.env f.type p.2).map fun a => (f.offset, szT C.P f.type, a)) = (parts.toList.mapM fun (p : Nat × Operand) => (fs[p.1]?).bind fun (f : Field) => (opd C s.env f.type p.2).map fun a => (f.offset, szT C.P f.type, a)) := by
      intro fs
      exact mapM_congr _ (fun p hp => by simp only [hE p.2 (by simp [Op.operands]; exact ⟨p.1, by simpa using hp⟩)])
    simp only [e1]
    exact h
  | buildSlice t n parts =>
    have e1 : ∀ e sz, (parts.toList.mapM fun (p : Nat × Operand) => if p.1 < n then (opd C s'.env e p.2).map fun a => (p.1 * sz, sz, a) else none) = (parts.toList.mapM fun (p : Nat × Operand) => if p.1 < n then (opd C s.env e p.2).map fun a => (p.1 * sz, sz, a) else none) := by
      intro e sz
      exact mapM_congr _ (fun p hp => by simp only [hE p.2 (by simp [Op.operands]; exact ⟨p.1, by simpa using hp⟩)])
    simp only [e1]
    exact h
  | load t x =>
    simp only [← hE x (by simp [Op.operands])]
    simp only [Option.bind_eq_some_iff] at h ⊢
    obtain ⟨a', ha', h⟩ := h
    refine ⟨a', ha', ?_⟩
    split at h
    · rename_i id g off
      split at h
      · simp only [Option.map_eq_some_iff] at h
        obtain ⟨y, hy, rfl⟩ := h
        have := hS id (by simp)
        simp only [← this]
        rw [if_pos (by assumption), hy]
        rfl
      · cases h
    · exact h
    · cases h
  | store t x y =>
    simp only [← hE x (by simp [Op.operands]), ← hE y (by simp [Op.operands])]
    simp only [Option.bind_eq_some_iff] at h ⊢
    obtain ⟨a', ha', b', hb', h⟩ := h
    refine ⟨a', ha', b', hb', ?_⟩
    split at h
    · rename_i id g off
      split at h
      · simp only [Option.some.injEq] at h
        subst h
        have := hS id (by simp)
        simp only [← this]
        rw [if_pos (by assumption)]
      · cases h
    · cases h
  | nilCheck x => simp only [← hE x (by simp [Op.operands])]; exact h
  | binOp op xt x y yt => simp only [← hE x (by simp [Op.operands]), ← hE y (by simp [Op.operands])]; exact h
  | unOp op xt x => simp only [← hE x (by simp [Op.operands])]; exact h
  | convert src dst' x =>
    simp only [← hE x (by simp [Op.operands])]
    simp only [Option.bind_eq_some_iff] at h ⊢
    obtain ⟨a', ha', h⟩ := h
    refine ⟨a', ha', ?_⟩
    unfold convA at h ⊢
    split at h
    · exact h
    · exact h
    · exact h
    · split at h
      · exact h
      · exact h
      · split at h
        · simp only [Option.map_eq_some_iff] at h
          obtain ⟨l, hl, rfl⟩ := h
          rename_i id g off n app he hg
          have := hS id (by simp)
          simp only [he, ← this]
          rw [if_pos hg, hl]
          rfl
        · cases h
      · cases h
    · cases h
  | makeInterface t x => simp only [← hE x (by simp [Op.operands])]; exact h
  | makeFunc fn first captured =>
    have e1 : (captured.toList.mapM fun x => opd C s'.env 0 x) = (captured.toList.mapM fun x => opd C s.env 0 x) := mapM_congr _ (fun x hx => (hE x (by simp [Op.operands]; exact .inr (by simpa using hx)) 0).symm)
    simp only [e1]
    exact h
  | makeSlice t l c => simp only [← hE l (by simp [Op.operands]), ← hE c (by simp [Op.operands])]; exact h
  | slice t x lo hi mx =>
    have e1 : ∀ q : Option Operand, (∀ x, q = some x → ∀ t, opd C s.env t x = opd C s'.env t x) → opds C s'.env 3 q = opds C s.env 3 q := by
      intro q hq
      cases q with
      | none => rfl
      | some x => simp only [opds, hq x rfl]
    simp only [← hE x (by simp [Op.operands]), e1 lo (fun x hx => hE x (by simp [Op.operands, hx])), e1 hi (fun x hx => hE x (by simp [Op.operands, hx])), e1 mx (fun x hx => hE x (by simp [Op.operands, hx]))]
    exact h
  | fieldAddr t x f => simp only [← hE x (by simp [Op.operands])]; exact h
  | field t x f => simp only [← hE x (by simp [Op.operands])]; exact h
  | indexAddr t x i => simp only [← hE x (by simp [Op.operands]), ← hE i (by simp [Op.operands])]; exact h
  | index t x i => simp only [← hE x (by simp [Op.operands]), ← hE i (by simp [Op.operands])]; exact h
  | extract t i => simp only [← hE t (by simp [Op.operands])]; exact h
  | call c =>
    have eargs := argsA_local (C := C) (env := s.env) (env' := s'.env) c.args.toList c.argTypes.toList (fun x hx => hE x (by simp [Op.operands, Call.operands]; exact .inr (by simpa using hx)))
    simp only at h ⊢
    split at h
    · rename_i b hco
      simp only [eargs]
      simp only [Option.bind_eq_some_iff] at h ⊢
      obtain ⟨args, hargs, h⟩ := h
      refine ⟨args, hargs, ?_⟩
      unfold builtinA at h ⊢
      split at h
      · exact h
      · rename_i x y t t2 hts
        split at h
        · rw [if_pos (by assumption)]
          unfold appendA at h ⊢
          simp only [Option.bind_eq_some_iff] at h ⊢
          obtain ⟨e, he, h⟩ := h
          refine ⟨e, he, ?_⟩
          split at h
          · rw [if_pos (by assumption)]
            simp only [Option.bind_eq_some_iff, Prod.exists] at h ⊢
            obtain ⟨ys, k, sr, hn, h⟩ := h
            have hsub : ∀ id ∈ sr, id ∈ a.sr := by
              split at h
              · split at h
                · split at h
                  · simp only [Option.some.injEq] at h; subst h; exact fun _ h => h
                  · split at h
                    · simp only [Option.some.injEq] at h; subst h; exact fun _ h => h
                    · cases h
                · cases h
              · split at h
                · simp only [Option.some.injEq] at h; subst h; exact fun _ h => List.mem_cons_of_mem _ h
                · cases h
              · cases h
            have hnews : newsA s' (szT C.P e) y = some (ys, k, sr) := by
              unfold newsA at hn ⊢
              split at hn
              · exact hn
              · exact hn
              · rename_i id g off n z app
                split at hn
                · simp only [Option.some.injEq, Prod.mk.injEq] at hn
                  obtain ⟨rfl, rfl, rfl⟩ := hn
                  have := hS id (hsub id (by simp))
                  simp only [← this]
                  rw [if_pos (by assumption)]
                · cases hn
              · exact hn
              · cases hn
            refine ⟨ys, k, sr, hnews, ?_⟩
            split at h
            · exact h
            · rename_i id g n z
              split at h
              · simp only [Option.some.injEq] at h
                subst h
                have := hS id (by simp)
                simp only [← this]
                rw [if_pos (by assumption)]
              · cases h
            · cases h
          · cases h
        · cases h
      · exact h
      · exact h
      · unfold dataA at h ⊢
        split at h
        · exact h
        · rename_i id g off n z app
          split at h
          · rename_i hg
            simp only [Option.some.injEq] at h
            subst h
            have := hS id (by simp)
            simp only [← this]
            rw [if_pos hg]
          · cases h
        · cases h
      · unfold textA at h ⊢
        split at h
        · exact h
        · rename_i id g k
          split at h
          · rename_i e he
            split at h
            · rename_i hg
              simp only [Option.map_eq_some_iff] at h
              obtain ⟨l, hl, rfl⟩ := h
              have := hS id (by simp)
              simp only [he, ← this]
              rw [if_pos hg, hl]
              rfl
            · cases h
          · cases h
        · cases h
      · exact h
      · cases h
    · rename_i fo hco
      simp only [eargs, ← hE fo (by simp [Op.operands, Call.operands, hco])]
      simp only [Option.bind_eq_some_iff] at h ⊢
      obtain ⟨fv, hfv, args, hargs, h⟩ := h
      refine ⟨fv, hfv, args, hargs, ?_⟩
      split at h
      · rename_i f cap
        split at h
        · cases h
        · rw [if_neg (by assumption)]
          simp only [Option.bind_eq_some_iff, Option.map_eq_some_iff] at h ⊢
          obtain ⟨l, hl, r, hr, rfl⟩ := h
          have hag : ∀ x ∈ args ++ cap, ∀ id ∈ reachD s.toMem 2097152 x, s.toMem.sto id = s'.toMem.sto id := fun x hx id hid => hS id (List.mem_flatten.2 ⟨_, List.mem_map.2 ⟨x, hx, rfl⟩, hid⟩)
          have e1 : ((args ++ cap).map (reachD s'.toMem 2097152)).flatten = ((args ++ cap).map (reachD s.toMem 2097152)).flatten := by
            congr 1
            exact List.map_congr_left (fun x hx => reach_local 2097152 x (hag x hx))
          have e2 : (args ++ cap).mapM (snapD s'.toMem 2097152) = (args ++ cap).mapM (snapD s.toMem 2097152) := mapM_congr _ (fun x hx => snap_local 2097152 x (hag x hx))
          have e3 : froz s' ((args ++ cap).map (reachD s.toMem 2097152)).flatten = froz s ((args ++ cap).map (reachD s.toMem 2097152)).flatten := by
            unfold froz
            exact List.map_congr_left (fun i hi => by rw [hS i hi])
          refine ⟨l, by rw [e2]; exact hl, r, hr, ?_⟩
          unfold frozV
          rw [e1, e3]
      · cases h
    · cases h
  | _ => cases h

end Go.Ev
end
section
namespace Go.Ev
set_option linter.unusedVariables false
set_option linter.unusedSimpArgs false
variable {C : Ctx} {G : Gh} {w : World} {m : Mem}

theorem reachL_local {m m' : Mem} : ∀ (k : Nat) (x : AV), (∀ id ∈ reachL m k x, m.sto id = m'.sto id) → reachL m' k x = reachL m k x
  | 0, x, _ => by cases x <;> rfl
  | k + 1, x, h => by
    have many : ∀ (cs : List AV), (∀ id ∈ (cs.map (reachL m k)).flatten, m.sto id = m'.sto id) → (cs.map (reachL m' k)).flatten = (cs.map (reachL m k)).flatten := by
      intro cs hcs
      congr 1
      apply List.map_congr_left
      intro c hc
      exact reachL_local k c (fun id hid => hcs id (List.mem_flatten.2 ⟨_, List.mem_map.2 ⟨c, hc, rfl⟩, hid⟩))
    cases x with
    | arr id g off n sz app =>
      simp only [reachL, List.mem_cons] at h ⊢
      have h0 := h id (.inl rfl)
      rw [← h0, many _ (fun i hi => h i (.inr hi))]
    | ptr id g off =>
      simp only [reachL, List.mem_cons] at h ⊢
      have h0 := h id (.inl rfl)
      rw [← h0, many _ (fun i hi => h i (.inr hi))]
    | agg cs => simp only [reachL] at h ⊢; exact many cs h
    | tup cs => simp only [reachL] at h ⊢; exact many cs h
    | fn f cs => simp only [reachL] at h ⊢; exact many cs h
    | _ => rfl

theorem leads_ref {ids : List Nat} {m m' : Mem} (h : ∀ id ∈ ids, m.sto id = m'.sto id) (id g : Nat) : (ids.contains id && g == (m'.sto id).gen) = (ids.contains id && g == (m.sto id).gen) := by
  by_cases hc : id ∈ ids
  · rw [h id hc]
  · have : ids.contains id = false := by simpa using hc
    rw [this]
    rfl

theorem leads_local {ids : List Nat} {m m' : Mem} (h : ∀ id ∈ ids, m.sto id = m'.sto id) : ∀ (k : Nat) (x : AV), leadsB m' ids k x = leadsB m ids k x
  | 0, x => by cases x <;> first | rfl | exact leads_ref h _ _
  | k + 1, x => by
    have many : ∀ (cs : List AV), cs.all (leadsB m' ids k) = cs.all (leadsB m ids k) := by
      intro cs
      congr 1
      funext c
      exact leads_local h k c
    cases x with
    | agg cs => exact many cs
    | tup cs => exact many cs
    | fn f cs => exact many cs
    | ptr id g off => exact leads_ref h _ _
    | arr id g off n sz app => exact leads_ref h _ _
    | _ => rfl

theorem mask_eq {ids : List Nat} {m m' : Mem} (h : ∀ id ∈ ids, m.sto id = m'.sto id) (hn : m.nid = m'.nid) : mask ids m' = mask ids m := by
  unfold mask
  rw [hn]
  congr 1
  funext i
  by_cases hc : i ∈ ids
  · rw [h i hc]
  · have : ids.contains i = false := by simpa using hc
    rw [this]
    rfl

theorem all_congr {α : Type} {p q : α → Bool} : ∀ (l : List α), (∀ a ∈ l, p a = q a) → l.all p = l.all q
  | [], _ => rfl
  | a :: l, h => by simp only [List.all_cons, h a (List.mem_cons_self ..), all_congr l (fun b hb => h b (List.mem_cons_of_mem _ hb))]

theorem far_local {callI : FuncId → List AV → Mem → Option (AV × Mem)} {f : FuncId} {args : List AV} {m m' : Mem} {ids : List Nat} {n0 : Nat} {r : AV} {m1 : Mem} (h : farOf callI f args m = some (.call ids n0 r m1)) (hS : ∀ id ∈ ids, m.sto id = m'.sto id) (hn : m.nid = m'.nid) : farOf callI f args m' = some (.call ids n0 r m1) := by
  unfold farOf at h ⊢
  dsimp only at h ⊢
  split at h
  · rename_i hc
    simp only [Option.bind_eq_some_iff, Prod.exists] at h
    obtain ⟨r', m1', hr, h⟩ := h
    split at h
    · rename_i hg
      simp only [Option.some.injEq, Do.call.injEq] at h
      obtain ⟨rfl, rfl, rfl, rfl⟩ := h
      have e1 : (args.map (reachL m' 2097152)).flatten = (args.map (reachL m 2097152)).flatten := by
        congr 1
        exact List.map_congr_left (fun x hx => reachL_local 2097152 x (fun id hid => hS id (List.mem_flatten.2 ⟨_, List.mem_map.2 ⟨x, hx, rfl⟩, hid⟩)))
      rw [e1]
      have e2 : closedB m' (args.map (reachL m 2097152)).flatten args = closedB m (args.map (reachL m 2097152)).flatten args := by
        unfold closedB
        rw [show leadsB m' (args.map (reachL m 2097152)).flatten 2097152 = leadsB m (args.map (reachL m 2097152)).flatten 2097152 from funext (leads_local hS 2097152)]
        congr 1
        exact all_congr _ (fun i hi => by rw [hS i hi])
      rw [e2, if_pos hc, mask_eq hS hn, hr]
      simp only [Option.bind_some]
      have e3 : (args.map (reachL m 2097152)).flatten.all (fun i => decide ((m'.sto i).gen ≤ (m1'.sto i).gen)) = (args.map (reachL m 2097152)).flatten.all (fun i => decide ((m.sto i).gen ≤ (m1'.sto i).gen)) := all_congr _ (fun i hi => by rw [hS i hi])
      rw [e3, if_pos hg, hn]
    · cases h
  · cases h

theorem far_spec {callI : FuncId → List AV → Mem → Option (AV × Mem)} {f : FuncId} {args : List AV} {m : Mem} {a : Do} (h : farOf callI f args m = some a) : ∃ ids r m1, a = .call ids m.nid r m1 ∧ closedB m ids args = true ∧ callI f args (mask ids m) = some (r, m1) ∧ ∀ i ∈ ids, (m.sto i).gen ≤ (m1.sto i).gen := by
  unfold farOf at h
  dsimp only at h
  split at h
  · rename_i hc
    simp only [Option.bind_eq_some_iff, Prod.exists] at h
    obtain ⟨r', m1', hr, h⟩ := h
    split at h
    · rename_i hg
      simp only [Option.some.injEq] at h
      subst h
      exact ⟨_, r', m1', rfl, hc, hr, fun i hi => by simpa using List.all_eq_true.1 hg i hi⟩
    · cases h
  · cases h

/-- What is known of these blocks alone. -/
def Gh.mask (G : Gh) (m : Mem) (ids : List Nat) : Gh := ⟨G.M, fun id g => if ids.contains id = true ∧ g = (m.sto id).gen then G.T id g else none⟩

theorem mask_T {ids : List Nat} {id g : Nat} {x : Nat × Nat × Bool} (h : (G.mask m ids).T id g = some x) : ids.contains id = true ∧ g = (m.sto id).gen ∧ G.T id g = some x := by
  simp only [Gh.mask] at h
  split at h
  · rename_i hc; exact ⟨hc.1, hc.2, h⟩
  · cases h

theorem Rep.lead {m : Mem} {ids : List Nat} {G : Gh} {v : Value} {x : AV} (h : Rep G v x) : ∀ (G' : Gh) (k : Nat), G'.M = G.M → (∀ id, ids.contains id = true → ∀ y, G.T id (m.sto id).gen = some y → G'.T id (m.sto id).gen = some y) → leadsB m ids k x = true → Rep G' v x := by
  have bareEq : ∀ {G G' : Gh}, G'.M = G.M → G'.bare = G.bare := fun h => by unfold Gh.bare; rw [h]
  induction h with
  | undef => exact fun _ _ _ _ _ => .undef _ _
  | void => exact fun _ _ _ _ _ => .void _
  | bool => exact fun _ _ _ _ _ => .bool _ _
  | int => exact fun _ _ _ _ _ => .int _ _ _
  | str => exact fun _ _ _ _ _ => .str _ _
  | nilp => exact fun _ _ _ _ _ => .nilp _
  | nilf => exact fun _ _ _ _ _ => .nilf _
  | nili => exact fun _ _ _ _ _ => .nili _
  | iface => exact fun _ _ _ _ _ => .iface _ _ _
  | nils => exact fun _ _ _ _ _ => .nils _ _
  | slice0 => exact fun _ _ _ _ _ => .slice0 _ _
  | sliceE => exact fun _ _ _ _ _ => .sliceE _ _ _ _
  | slice G b off n cap sz xs vs hn hc hs hl hm h1 hr ih => exact fun G' k hM _ _ => .slice _ b off n cap sz xs vs hn hc hs hl (fun j v hv => by rw [hM]; exact hm j v hv) h1 (fun j v c hv hc => by rw [bareEq hM]; exact hr j v c hv hc)
  | eptr G b off cs vs hl hm hr ih => exact fun G' k hM _ _ => .eptr _ b off cs vs hl (fun j v hv => by rw [hM]; exact hm j v hv) (fun j v c hv hc => by rw [bareEq hM]; exact hr j v c hv hc)
  | ptr G id g off b x h =>
    intro G' k hM hT hl
    have hl' : (ids.contains id && g == (m.sto id).gen) = true := by cases k <;> exact hl
    simp only [Bool.and_eq_true, beq_iff_eq] at hl'
    obtain ⟨h1, rfl⟩ := hl'
    exact .ptr _ id _ off b x (hT id h1 _ h)
  | arr G id g off n sz b cap tot app ap h hc ha =>
    intro G' k hM hT hl
    have hl' : (ids.contains id && g == (m.sto id).gen) = true := by cases k <;> exact hl
    simp only [Bool.and_eq_true, beq_iff_eq] at hl'
    obtain ⟨h1, rfl⟩ := hl'
    exact .arr _ id _ off n sz b cap tot app ap (hT id h1 _ h) hc ha
  | agg G vs cs hl hr ih =>
    intro G' k hM hT hk
    cases k with
    | zero => cases hk
    | succ k =>
      simp only [leadsB, List.all_eq_true] at hk
      exact .agg _ vs cs hl (fun j v c hv hc => ih j v c hv hc G' k hM hT (hk c (List.mem_of_getElem? hc)))
  | tup G vs cs hl hr ih =>
    intro G' k hM hT hk
    cases k with
    | zero => cases hk
    | succ k =>
      simp only [leadsB, List.all_eq_true] at hk
      exact .tup _ vs cs hl (fun j v c hv hc => ih j v c hv hc G' k hM hT (hk c (List.mem_of_getElem? hc)))
  | fn G f vs cs hl hr ih =>
    intro G' k hM hT hk
    cases k with
    | zero => cases hk
    | succ k =>
      simp only [leadsB, List.all_eq_true] at hk
      exact .fn _ f vs cs hl (fun j v c hv hc => ih j v c hv hc G' k hM hT (hk c (List.mem_of_getElem? hc)))

theorem mask_keep {ids : List Nat} (id : Nat) (h : ids.contains id = true) (y : Nat × Nat × Bool) (hy : G.T id (m.sto id).gen = some y) : (G.mask m ids).T id (m.sto id).gen = some y := by
  show (if ids.contains id = true ∧ (m.sto id).gen = (m.sto id).gen then G.T id (m.sto id).gen else none) = some y
  rw [if_pos ⟨h, rfl⟩]
  exact hy

theorem mask_sto {ids : List Nat} {id : Nat} (h : ids.contains id = true) : (mask ids m).sto id = m.sto id := by
  simp only [mask]
  rw [if_pos h]

theorem inv_mask (hi : Inv G w m) {ids : List Nat} (hcl : ∀ i ∈ ids, (m.sto i).cells.all (leadsB m ids 2097152) = true) : Inv (G.mask m ids) w (mask ids m) where
  okM := hi.okM
  live id b tot ap h := by
    obtain ⟨h1, h2, h3⟩ := mask_T h
    rw [mask_sto h1] at h h3
    obtain ⟨cur, e, fr, hl⟩ := hi.live _ _ _ _ h3
    refine ⟨cur, e, fr, ?_, hl.heap, hl.size, hl.fr, ?_, ?_, ?_, ?_, ?_, ?_⟩ <;> rw [mask_sto h1]
    · exact h
    · exact hl.len
    · intro j v c hv hc
      refine (hl.rep j v c hv hc).lead (m := m) (ids := ids) _ 2097152 rfl mask_keep ?_
      exact List.all_eq_true.1 (hcl id (by simpa using h1)) c (List.mem_of_getElem? hc)
    · exact hl.one
    · exact hl.kept
    · exact hl.soft
    · exact hl.typ
  dist id id' b x y h h' := by
    obtain ⟨h1, h2, h3⟩ := mask_T h
    obtain ⟨k1, k2, k3⟩ := mask_T h'
    rw [mask_sto h1] at h3
    rw [mask_sto k1] at k3
    exact hi.dist _ _ _ _ _ h3 k3
  dom id g x h := by
    obtain ⟨h1, h2, h3⟩ := mask_T h
    rw [mask_sto h1]
    exact hi.dom _ _ _ h3

theorem CtxOk.sameM {G G' : Gh} (h : CtxOk C G w) (hM : G'.M = G.M) (hT : ∀ id g x, G'.T id g = some x → G.T id g = some x) : CtxOk C G' w := ⟨fun g cs hg => by
  have := h.glob g cs hg
  cases this with
  | eptr _ _ _ _ vs hl hm hr => exact .eptr _ _ _ _ vs hl (fun j v hv => by rw [hM]; exact hm j v hv) (fun j v c hv hc => by rw [show G'.bare = G.bare by unfold Gh.bare; rw [hM]]; exact hr j v c hv hc), fun p hp => ⟨(h.tabs p hp).1, fun _ _ _ hx => (h.tabs p hp).2 _ _ _ (hT _ _ _ hx)⟩⟩

def joinG (G G1 : Gh) : Gh := ⟨G1.M, fun id g => (G1.T id g).or (G.T id g)⟩

def joinM (ids : List Nat) (n0 : Nat) (m m1 : Mem) : Mem := ⟨fun i => if ids.contains i || decide (n0 ≤ i) then m1.sto i else m.sto i, m1.nid⟩

/-- What a call behind a mask leaves, and what was hidden. -/
theorem far_join {ids : List Nat} {m1 : Mem} {G1 : Gh} {w1 : World} (hi : Inv G w m) (hi1 : Inv G1 w1 m1) (he : Ext (G.mask m ids) w G1 w1) (hn : NewIn m.nid (G.mask m ids) G1) (hnid : m.nid ≤ m1.nid) (hg : ∀ i ∈ ids, (m.sto i).gen ≤ (m1.sto i).gen) :
    Inv (joinG G G1) w1 (joinM ids m.nid m m1) ∧ Ext G w (joinG G G1) w1 ∧ NewIn m.nid G (joinG G G1) ∧ ∀ {v x}, Rep G1 v x → Rep (joinG G G1) v x := by
  have hin : ∀ id g x, G1.T id g = some x → ids.contains id = true ∨ m.nid ≤ id := by
    intro id g x h
    by_cases h1 : ids.contains id = true
    · exact .inl h1
    · rcases Nat.lt_or_ge id m.nid with h2 | h2
      · have := hn.1 id h2 (fun g => by simp only [Gh.mask]; rw [if_neg (fun hc => h1 hc.1)]) g
        rw [this] at h; cases h
      · exact .inr h2
  have live0 : ∀ id g y y', G.T id g = some y → G1.T id g = some y' → True := fun _ _ _ _ _ _ => trivial
  have cur0 : ∀ id g y', G1.T id g = some y' → (∃ g0 y, G.T id g0 = some y) → ids.contains id = true ∧ ∃ z, G.T id (m.sto id).gen = some z := by
    rintro id g y' h ⟨g0, y, h0⟩
    have hlt := (hi.dom _ _ _ h0).1
    have hc : ids.contains id = true := by
      rcases hin _ _ _ h with hc | hc
      · exact hc
      · omega
    refine ⟨hc, ?_⟩
    cases hz : G.T id (m.sto id).gen with
    | some z => exact ⟨z, rfl⟩
    | none =>
      have := hn.1 id hlt (fun g => by
        simp only [Gh.mask]
        split
        · rename_i hh; rw [hh.2]; exact hz
        · rfl) g
      rw [this] at h; cases h
  have hT : ∀ id g y, G.T id g = some y → (joinG G G1).T id g = some y := by
    intro id g y h
    simp only [joinG]
    cases h1 : G1.T id g with
    | none => exact h
    | some y' =>
      obtain ⟨hc, z, hz⟩ := cur0 _ _ _ h1 ⟨g, y, h⟩
      rcases hn.2 id g y' h1 with h2 | h2
      · obtain ⟨_, _, h3⟩ := mask_T h2
        rw [h] at h3
        exact h3 ▸ rfl
      · have := h2 _ _ (mask_keep id hc z hz)
        have := (hi.dom _ _ _ h).2
        omega
  have mono1 : ∀ {v x}, Rep G1 v x → Rep (joinG G G1) v x := fun h => h.mono (fun _ => List.prefix_refl _) (fun id g y hy => by simp only [joinG, hy, Option.some_or])
  have mono0 : ∀ {v x}, Rep G v x → Rep (joinG G G1) v x := fun h => h.mono he.M hT
  have stoIn : ∀ id, ids.contains id = true ∨ m.nid ≤ id → (joinM ids m.nid m m1).sto id = m1.sto id := by
    intro id h
    simp only [joinM]
    rw [if_pos (by simpa using h)]
  have stoOut : ∀ id, ¬ (ids.contains id = true ∨ m.nid ≤ id) → (joinM ids m.nid m m1).sto id = m.sto id := by
    intro id h
    simp only [joinM]
    rw [if_neg (by simpa using h)]
  have curIn : ∀ id x, (ids.contains id = true ∨ m.nid ≤ id) → (joinG G G1).T id (m1.sto id).gen = some x → G1.T id (m1.sto id).gen = some x := by
    intro id x hid h
    simp only [joinG] at h
    cases h1 : G1.T id (m1.sto id).gen with
    | some y => rw [h1] at h; simpa using h
    | none =>
      exfalso
      rw [h1] at h
      simp only [Option.none_or] at h
      have hlt := hi.dom _ _ _ h
      have hc : ids.contains id = true := by
        rcases hid with hc | hc
        · exact hc
        · omega
      have hle := hg id (by simpa using hc)
      have heq : (m1.sto id).gen = (m.sto id).gen := by omega
      rw [heq] at h h1
      have := he.T _ _ _ (mask_keep id hc x h)
      rw [h1] at this
      cases this
  have curOut : ∀ id g x, ¬ (ids.contains id = true ∨ m.nid ≤ id) → (joinG G G1).T id g = some x → G.T id g = some x := by
    intro id g x hid h
    simp only [joinG] at h
    cases h1 : G1.T id g with
    | some y => exact absurd (hin _ _ _ h1) hid
    | none => rw [h1] at h; exact h
  have apart : ∀ i id b x y g, G1.T i g = some (b, x) → ¬ (ids.contains id = true ∨ m.nid ≤ id) → G.T id (m.sto id).gen = some (b, y) → False := by
    intro i id b x y g h1 hid h2
    obtain ⟨tot, ap⟩ := y
    obtain ⟨cur, e, fr, hl⟩ := hi.live id b tot ap h2
    obtain ⟨j, g', x', hx'⟩ := he.own _ _ _ _ h1 hl.lt
    obtain ⟨k1, k2, k3⟩ := mask_T hx'
    rw [k2] at k3
    have := hi.dist _ _ _ _ _ k3 h2
    exact hid (.inl (this ▸ k1))
  refine ⟨⟨hi1.okM, fun id b tot ap h => ?_, fun id id' b x y h h' => ?_, fun id g x h => ?_⟩, ⟨he.M, hT, he.os, he.tape, he.output, he.size, fun b hb hno => ?_, fun id g b x h hb => ?_⟩, ⟨fun id hid h0 g => ?_, fun id g x h => ?_⟩, mono1⟩
  · by_cases hid : ids.contains id = true ∨ m.nid ≤ id
    · rw [stoIn id hid] at h
      have h1 := curIn id _ hid h
      obtain ⟨cur, e, fr, hl⟩ := hi1.live _ _ _ _ h1
      refine ⟨cur, e, fr, ?_, hl.heap, hl.size, hl.fr, ?_, ?_, ?_, ?_, ?_, ?_⟩ <;> rw [stoIn id hid]
      · exact h
      · exact hl.len
      · exact fun j v c hv hc => mono1 (hl.rep j v c hv hc)
      · exact hl.one
      · exact hl.kept
      · exact hl.soft
      · exact hl.typ
    · rw [stoOut id hid] at h
      have h1 := curOut id _ _ hid h
      obtain ⟨cur, e, fr, hl⟩ := hi.live _ _ _ _ h1
      obtain ⟨f1, f2⟩ := he.frame b hl.lt (fun i g x hx => by
        obtain ⟨k1, k2, k3⟩ := mask_T hx
        rw [k2] at k3
        exact hid (.inl (hi.dist _ _ _ _ _ k3 h1 ▸ k1)))
      refine ⟨cur, e, fr, ?_, f1.trans hl.heap, hl.size, hl.fr, ?_, ?_, ?_, ?_, ?_, ?_⟩ <;> rw [stoOut id hid]
      · exact h
      · exact hl.len
      · exact fun j v c hv hc => mono0 (hl.rep j v c hv hc)
      · exact hl.one
      · show (G1.M b).length ≤ _
        rw [f2]
        exact hl.kept
      · intro hf
        show G1.M b = []
        rw [f2]
        exact hl.soft hf
      · exact hl.typ
  · by_cases hid : ids.contains id = true ∨ m.nid ≤ id
    · rw [stoIn id hid] at h
      have h1 := curIn id _ hid h
      by_cases hid' : ids.contains id' = true ∨ m.nid ≤ id'
      · rw [stoIn id' hid'] at h'
        exact hi1.dist _ _ _ _ _ h1 (curIn id' _ hid' h')
      · rw [stoOut id' hid'] at h'
        exact (apart _ _ _ _ _ _ h1 hid' (curOut id' _ _ hid' h')).elim
    · rw [stoOut id hid] at h
      have h1 := curOut id _ _ hid h
      by_cases hid' : ids.contains id' = true ∨ m.nid ≤ id'
      · rw [stoIn id' hid'] at h'
        exact (apart _ _ _ _ _ _ (curIn id' _ hid' h') hid h1).elim
      · rw [stoOut id' hid'] at h'
        exact hi.dist _ _ _ _ _ h1 (curOut id' _ _ hid' h')
  · simp only [joinG] at h
    cases h1 : G1.T id g with
    | some y =>
      have := hi1.dom _ _ _ h1
      rw [stoIn id (hin _ _ _ h1)]
      exact this
    | none =>
      rw [h1] at h
      simp only [Option.none_or] at h
      have hd := hi.dom _ _ _ h
      refine ⟨Nat.lt_of_lt_of_le hd.1 hnid, ?_⟩
      by_cases hid : ids.contains id = true ∨ m.nid ≤ id
      · rw [stoIn id hid]
        rcases hid with hc | hc
        · exact Nat.le_trans hd.2 (hg id (by simpa using hc))
        · omega
      · rw [stoOut id hid]
        exact hd.2
  · exact he.frame b hb (fun id g x hx => hno id g x (mask_T hx).2.2)
  · simp only [joinG] at h
    cases h1 : G1.T id g with
    | some y =>
      rw [h1] at h
      simp only [Option.some_or, Option.some.injEq] at h
      subst h
      obtain ⟨i, g', x', hx'⟩ := he.own _ _ _ _ h1 hb
      exact ⟨i, g', x', (mask_T hx').2.2⟩
    | none =>
      rw [h1] at h
      exact ⟨id, g, x, h⟩
  · simp only [joinG]
    rw [h0 g, hn.1 id hid (fun g => by simp only [Gh.mask]; split <;> first | exact h0 g | rfl) g]
    rfl
  · simp only [joinG] at h
    cases h1 : G1.T id g with
    | none => rw [h1] at h; exact .inl h
    | some y =>
      rw [h1] at h
      simp only [Option.some_or, Option.some.injEq] at h
      subst h
      rcases hn.2 id g y h1 with h2 | h2
      · exact .inl (mask_T h2).2.2
      · right
        intro g0 y0 h0
        obtain ⟨hc, z, hz⟩ := cur0 _ _ _ h1 ⟨g0, y0, h0⟩
        have := h2 _ _ (mask_keep id hc z hz)
        have := (hi.dom _ _ _ h0).2
        omega

/-- The step of a call behind a mask. -/
theorem far_call {callI : FuncId → List AV → Mem → Option (AV × Mem)} {call : FuncId → List AV → Option AV} (H : Hyps2 C callI call) {f : FuncId} {args : List AV} {ids : List Nat} {r : AV} {m1 : Mem} (hcl : closedB m ids args = true) (hcall : callI f args (mask ids m) = some (r, m1)) (hg : ∀ i ∈ ids, (m.sto i).gen ≤ (m1.sto i).gen)
    (hi : Inv G w m) (hc : CtxOk C G w) {vs : Array Value} (hsz : vs.size = args.length) (hr : ∀ (j : Nat) v a, vs[j]? = some v → args[j]? = some a → Rep G v a) :
    (∀ (vs : Array Value) (w : World), (callFunc f vs).run C.P w = .ok (.enter f vs) w) ∧
    Calls C.P f vs w fun e w' => ∃ v G', e = .returned v ∧ Rep G' v r ∧ Inv G' w' (joinM ids m.nid m m1) ∧ Ext G w G' w' ∧ NewIn m.nid G G' ∧ m.nid ≤ m1.nid := by
  obtain ⟨hen, hsh⟩ := H.share _ _ _ _ _ hcall
  simp only [closedB, Bool.and_eq_true] at hcl
  have h1 := List.all_eq_true.1 hcl.1
  have h2 := List.all_eq_true.1 hcl.2
  refine ⟨hen, ?_⟩
  refine (hsh (G.mask m ids) w vs (inv_mask hi h2) (hc.sameM rfl (fun id g x hx => (mask_T hx).2.2)) hsz (fun j v a hv ha => (hr j v a hv ha).lead (m := m) (ids := ids) _ 2097152 rfl mask_keep (h1 a (List.mem_of_getElem? ha)))).mono ?_
  rintro e w' ⟨v, G', rfl, hrr, hi', he', hn', hnid⟩
  obtain ⟨j1, j2, j3, j4⟩ := far_join hi hi' he' hn' hnid hg
  exact ⟨v, joinG G G', rfl, j4 hrr, j1, j2, j3, hnid⟩

end Go.Ev
end
section
namespace Go.Ev
set_option linter.unusedVariables false
set_option linter.unusedSimpArgs false
variable {C : Ctx} {G : Gh} {w : World} {m : Mem}

def rdD : Do → List Nat
  | .skip => []
  | .act a => a.sr
  | .call ids _ _ _ => ids

def isFar : Do → Prop
  | .call _ _ _ _ => True
  | _ => False

theorem opd_tmps {env env' : Nat → AV} {x : Operand} (h : ∀ i, x = .tmp i → env i = env' i) (t : TypeId) : opd C env t x = opd C env' t x := by
  cases x with
  | tmp i => simp only [opd, h i rfl]
  | _ => rfl

theorem looks_op {ops : Array Oper} {o : Oper} {x : Operand} (hx : x ∈ o.op.operands) {i : Nat} (h : x = .tmp i) : i ∈ o.looksAt ops := by
  subst h
  exact List.mem_append_left _ (List.mem_filterMap.2 ⟨.tmp i, by simpa using hx, rfl⟩)

theorem resD_local {callI : FuncId → List AV → Mem → Option (AV × Mem)} {call : FuncId → List AV → Option AV} {ops : Array Oper} {base i : Nat} {o : Oper} {s s' : St} {a : Do} (h : resD C callI call ops base i o s = some a) (hE : ∀ t ∈ o.looksAt ops, s.env t = s'.env t) (hS : ∀ id ∈ rdD a, s.sto id = s'.sto id) (hN : isFar a → s.nid = s'.nid) : resD C callI call ops base i o s' = some a := by
  have hO : ∀ x ∈ o.op.operands, ∀ t, opd C s.env t x = opd C s'.env t x := fun x hx t => opd_tmps (fun i hi => hE i (looks_op hx hi)) t
  unfold resD at h ⊢
  have hw : wants ops s'.env o = wants ops s.env o := by
    unfold wants
    cases hg : o.guard with
    | none => rfl
    | some jw =>
      obtain ⟨j, wt⟩ := jw
      simp only
      cases hd : (ops[j]?).bind (·.dst) with
      | none => rfl
      | some d =>
        have : s.env d = s'.env d := hE d (by
          unfold Oper.looksAt
          rw [hg]
          simp only
          rw [hd]
          simp)
        simp only [this]
  have hl : loudCall C o s' = loudCall C o s := by
    unfold loudCall
    split
    · rename_i c hop
      split
      · rename_i f hco
        have e1 := hO f (by rw [hop]; simp [Op.operands, Call.operands, hco]) 0
        have e2 := argsA_local (C := C) (env := s.env) (env' := s'.env) c.args.toList c.argTypes.toList (fun x hx => hO x (by rw [hop]; simp [Op.operands, Call.operands]; exact .inr (by simpa using hx)))
        simp only [e2, ← e1]
      · rfl
    · rfl
  rw [hw, hl]
  simp only [Option.bind_eq_some_iff] at h ⊢
  obtain ⟨b, hb, h⟩ := h
  refine ⟨b, hb, ?_⟩
  cases b with
  | false => exact h
  | true =>
    simp only [if_true] at h ⊢
    cases hlc : loudCall C o s with
    | some x =>
      obtain ⟨f, args⟩ := x
      rw [hlc] at h
      simp only at h ⊢
      obtain ⟨ids, r, m1, rfl, _⟩ := far_spec h
      exact far_local h hS (hN trivial)
    | none =>
      rw [hlc] at h
      simp only [Option.map_eq_some_iff] at h ⊢
      obtain ⟨a', ha', rfl⟩ := h
      exact ⟨a', act_local ha' hO hS, rfl⟩

theorem updL_in : ∀ (l : List (Nat × Blk)) (f g : Nat → Blk) (i : Nat), (∃ x ∈ l, x.1 = i) → updL f l i = updL g l i
  | [], f, g, i, h => by obtain ⟨x, hx, _⟩ := h; cases hx
  | (j, b) :: l, f, g, i, h => by
    simp only [updL]
    by_cases hl : ∃ x ∈ l, x.1 = i
    · exact updL_in l _ _ i hl
    · obtain ⟨x, hx, hxi⟩ := h
      rcases List.mem_cons.1 hx with rfl | hx
      · have key : ∀ (l : List (Nat × Blk)) (f g : Nat → Blk), f i = g i → updL f l i = updL g l i := by
          intro l
          induction l with
          | nil => intro f g h; exact h
          | cons y l ih =>
            intro f g h
            simp only [updL]
            apply ih
            unfold upd
            split
            · rfl
            · exact h
        apply key
        simp only at hxi
        subst hxi
        simp [upd]
      · exact absurd ⟨x, hx, hxi⟩ hl

theorem updL_out : ∀ (l : List (Nat × Blk)) (f : Nat → Blk) (i : Nat), (∀ x ∈ l, x.1 ≠ i) → updL f l i = f i
  | [], f, i, _ => rfl
  | (j, b) :: l, f, i, h => by
    simp only [updL]
    rw [updL_out l _ i (fun x hx => h x (List.mem_cons_of_mem _ hx)), upd_ne _ _ (fun e => h (j, b) (List.mem_cons_self ..) e.symm)]

theorem updL_comm (a b : List (Nat × Blk)) (f : Nat → Blk) (h : ∀ x ∈ a, ∀ y ∈ b, x.1 ≠ y.1) : updL (updL f a) b = updL (updL f b) a := by
  funext i
  by_cases hb : ∃ y ∈ b, y.1 = i
  · have ha : ∀ x ∈ a, x.1 ≠ i := fun x hx e => by
      obtain ⟨y, hy, rfl⟩ := hb
      exact h x hx y hy e
    rw [updL_in b _ f i hb, updL_out a _ i ha]
  · have hb' : ∀ y ∈ b, y.1 ≠ i := fun y hy e => hb ⟨y, hy, e⟩
    rw [updL_out b _ i hb']
    by_cases ha : ∃ x ∈ a, x.1 = i
    · exact updL_in a _ _ i ha
    · have ha' : ∀ x ∈ a, x.1 ≠ i := fun x hx e => ha ⟨x, hx, e⟩
      rw [updL_out a _ i ha', updL_out a _ i ha', updL_out b _ i hb']

theorem putE_ne {env : Nat → AV} {d : Option Tmp} {x : AV} {t : Nat} (h : ∀ d', d = some d' → t ≠ d') : putE env d x t = env t := by
  cases d with
  | none => rfl
  | some d => exact upd_ne _ _ (h d rfl)

theorem putE_comm {env : Nat → AV} {d d' : Option Tmp} {x y : AV} (h : ∀ k, d = some k → d' ≠ some k) : putE (putE env d x) d' y = putE (putE env d' y) d x := by
  cases d with
  | none => rfl
  | some k =>
    cases d' with
    | none => rfl
    | some k' =>
      have hne : k' ≠ k := fun e => h k rfl (e ▸ rfl)
      funext t
      simp only [putE, upd]
      by_cases h1 : t = k'
      · subst h1; simp [hne]
      · simp [h1]

theorem onD_env (o : Oper) (a : Do) (s : St) : ∃ x, ∀ s' : St, (onD o a s').env = putE s'.env o.dst x := by
  cases a with
  | skip => exact ⟨.void, fun _ => rfl⟩
  | act a => exact ⟨a.val, fun _ => rfl⟩
  | call ids n0 r m => exact ⟨r, fun _ => rfl⟩

/-- Which blocks it writes. -/
def wrD : Do → Nat → Prop
  | .skip, _ => False
  | .act a, i => ∃ x ∈ a.sw, x.1 = i
  | .call ids n0 _ _, i => i ∈ ids ∨ n0 ≤ i

theorem onD_out {o : Oper} {a : Do} {s : St} {i : Nat} (h : ¬ wrD a i) : (onD o a s).sto i = s.sto i := by
  cases a with
  | skip => rfl
  | act a => exact updL_out a.sw s.sto i (fun x hx e => h ⟨x, hx, e⟩)
  | call ids n0 r m =>
    simp only [wrD, not_or] at h
    simp only [onD]
    rw [if_neg (by simp; exact ⟨h.1, by omega⟩)]

theorem onD_in {o : Oper} {a : Do} {s s' : St} {i : Nat} (h : wrD a i) : (onD o a s).sto i = (onD o a s').sto i := by
  cases a with
  | skip => cases h
  | act a => exact updL_in a.sw s.sto s'.sto i h
  | call ids n0 r m =>
    simp only [wrD] at h
    simp only [onD]
    rw [if_pos (by simpa using h), if_pos (by simpa using h)]

theorem onD_nid {o : Oper} {a : Do} {s : St} (h : ¬ isFar a) : (onD o a s).nid = s.nid := by
  cases a with
  | skip => rfl
  | act a => rfl
  | call ids n0 r m => exact absurd trivial h

theorem farB_spec {ids : List Nat} {n0 : Nat} {a : Act} (h : farB ids n0 a = true) : (∀ i ∈ a.sr, i ∉ ids ∧ i < n0) ∧ ∀ x ∈ a.sw, x.1 ∉ ids ∧ x.1 < n0 := by
  simp only [farB, Bool.and_eq_true, List.all_eq_true, Bool.not_eq_true', List.contains_eq_mem, decide_eq_false_iff_not, decide_eq_true_eq] at h
  exact h

theorem noConf_spec {a b : Do} (h : noConf a b = true) : (∀ id ∈ rdD b, ¬ wrD a id) ∧ (∀ i, wrD a i → ¬ wrD b i) ∧ (∀ id ∈ rdD a, ¬ wrD b id) ∧ ¬ (isFar a ∧ isFar b) := by
  cases a with
  | skip => exact ⟨fun _ _ h => h, fun _ h => h.elim, fun _ h => (by cases h), fun h => h.1⟩
  | act a =>
    cases b with
    | skip => exact ⟨fun _ h => (by cases h), fun _ _ h => h, fun _ _ h => h, fun h => h.2⟩
    | act b =>
      simp only [noConf, Bool.and_eq_true, List.all_eq_true, Bool.not_eq_true', List.contains_eq_mem, decide_eq_false_iff_not, bne_iff_ne, ne_eq] at h
      refine ⟨fun id hid ⟨x, hx, e⟩ => (h.1 x hx).1 (e ▸ hid), fun i ⟨x, hx, e⟩ ⟨y, hy, e'⟩ => (h.1 x hx).2 y hy (e.trans e'.symm), fun id hid ⟨y, hy, e⟩ => h.2 y hy (e ▸ hid), fun h => h.1⟩
    | call ids n0 r m =>
      obtain ⟨h1, h2⟩ := farB_spec h
      refine ⟨fun id hid ⟨x, hx, e⟩ => (h2 x hx).1 (e ▸ hid), fun i ⟨x, hx, e⟩ hw => ?_, fun id hid hw => ?_, fun h => h.1⟩
      · have := h2 x hx
        rcases hw with hw | hw
        · exact this.1 (e ▸ hw)
        · omega
      · have := h1 id hid
        rcases hw with hw | hw
        · exact this.1 hw
        · omega
  | call ids n0 r m =>
    cases b with
    | skip => exact ⟨fun _ h => (by cases h), fun _ _ h => h, fun _ _ h => h, fun h => h.2⟩
    | act b =>
      obtain ⟨h1, h2⟩ := farB_spec h
      refine ⟨fun id hid hw => ?_, fun i hw ⟨x, hx, e⟩ => ?_, fun id hid ⟨x, hx, e⟩ => (h2 x hx).1 (e ▸ hid), fun h => h.2⟩
      · have := h1 id hid
        rcases hw with hw | hw
        · exact this.1 hw
        · omega
      · have := h2 x hx
        rcases hw with hw | hw
        · exact this.1 (e ▸ hw)
        · omega
    | call _ _ _ _ => cases h

theorem St.ext' {s s' : St} (h1 : s.env = s'.env) (h2 : s.sto = s'.sto) (h3 : s.nid = s'.nid) : s = s' := by
  obtain ⟨⟨_, _⟩, _⟩ := s
  obtain ⟨⟨_, _⟩, _⟩ := s'
  simp only at h1 h2 h3
  subst h1 h2 h3
  rfl

/-- Two operations that don't conflict, either way round. -/
theorem swapD {callI : FuncId → List AV → Mem → Option (AV × Mem)} {call : FuncId → List AV → Option AV} {ops : Array Oper} {base i j : Nat} {p q : Oper} {a b : Do} {s : St} (h1 : resD C callI call ops base i p s = some a) (h2 : resD C callI call ops base j q (onD p a s) = some b) (hap : p.apart ops q = true) (hc : noConf a b = true) :
    resD C callI call ops base j q s = some b ∧ resD C callI call ops base i p (onD q b s) = some a ∧ onD p a (onD q b s) = onD q b (onD p a s) := by
  obtain ⟨a1, a2, a3⟩ := Oper.apart_spec hap
  obtain ⟨c1, c2, c3, c4⟩ := noConf_spec hc
  obtain ⟨xa, hxa⟩ := onD_env p a s
  obtain ⟨xb, hxb⟩ := onD_env q b s
  refine ⟨?_, ?_, ?_⟩
  · refine resD_local h2 (fun t ht => ?_) (fun id hid => onD_out (c1 id hid)) (fun hf => onD_nid (fun ha => c4 ⟨ha, hf⟩))
    rw [hxa, putE_ne (fun d hd e => a1 d hd (e ▸ ht))]
  · refine resD_local h1 (fun t ht => ?_) (fun id hid => (onD_out (c3 id hid)).symm) (fun hf => (onD_nid (fun hb => c4 ⟨hf, hb⟩)).symm)
    rw [hxb, putE_ne (fun d hd e => a3 d hd (e ▸ ht))]
  · have hd : ∀ k, q.dst = some k → p.dst ≠ some k := fun k hk hp => a2 k hp hk
    refine St.ext' ?_ ?_ ?_
    · rw [hxa, hxb, hxb, hxa, putE_comm hd]
    · funext i
      by_cases ha : wrD a i
      · have hb := c2 i ha
        rw [onD_out (a := b) hb]
        exact onD_in ha
      · rw [onD_out (a := a) ha]
        by_cases hb : wrD b i
        · exact onD_in hb
        · rw [onD_out hb, onD_out hb, onD_out ha]
    · by_cases ha : isFar a
      · have hb : ¬ isFar b := fun hb => c4 ⟨ha, hb⟩
        rw [onD_nid (a := b) hb]
        cases a <;> first | rfl | exact ha.elim
      · rw [onD_nid ha]
        by_cases hb : isFar b
        · cases b <;> first | rfl | exact hb.elim
        · rw [onD_nid hb, onD_nid hb, onD_nid ha]

/-- A call's function and arguments, in the frame. -/
theorem loud_rep {n : Nat} {A : _root_.Go.Act} {s : St} {o : Oper} {f : FuncId} {args : List AV} (hs : Sim C n G A w s) (hl : loudCall C o s = some (f, args)) : ∃ (c : Call) (fo : Operand) (cvs : Array Value) (as : List AV), o.op = .call c ∧ c.callee = .value fo ∧ A.eval fo = .func (.func f) #[] cvs ∧ as.length = c.args.size ∧ (c.args.map A.eval ++ cvs).size = args.length ∧ ∀ (j : Nat) v a, (c.args.map A.eval ++ cvs)[j]? = some v → args[j]? = some a → Rep G v a := by
  unfold loudCall at hl
  split at hl
  · rename_i c hop
    split at hl
    · rename_i fo hco
      simp only [Option.bind_eq_some_iff] at hl
      obtain ⟨fv, hfv, as, has, hl⟩ := hl
      split at hl
      · rename_i f' cap
        split at hl
        · simp only [Option.some.injEq, Prod.mk.injEq] at hl
          obtain ⟨rfl, rfl⟩ := hl
          obtain ⟨a1, a2⟩ := argsA_rep hs.env hs.ctx has
          have hfr := opd_rep hs.env hs.ctx hfv
          generalize hfx : A.eval fo = u at hfr
          cases hfr with
          | fn _ _ cvs _ hcl hcr =>
            refine ⟨c, fo, cvs, as, hop, hco, hfx, by simp [a1], by simp [a1, hcl], fun j v a hv ha => ?_⟩
            have hsz : (c.args.map A.eval).size = as.length := by simp [a1]
            by_cases hj : j < as.length
            · rw [List.getElem?_append_left hj] at ha
              rw [Array.getElem?_append_left (by omega)] at hv
              obtain ⟨x, hx, hr⟩ := a2 j a ha
              simp only [Array.getElem?_map, Option.map_eq_some_iff] at hv
              obtain ⟨x', hx', rfl⟩ := hv
              rw [Array.getElem?_toList] at hx
              rw [hx] at hx'
              cases hx'
              exact hr
            · rw [List.getElem?_append_right (by omega)] at ha
              rw [Array.getElem?_append_right (by omega), hsz] at hv
              exact hcr _ _ _ hv ha
        · cases hl
      · cases hl
    · cases hl
  · cases hl

abbrev Tr := Nat × Oper × Do

inductive RunTr (C : Ctx) (callI : FuncId → List AV → Mem → Option (AV × Mem)) (call : FuncId → List AV → Option AV) (ops : Array Oper) (base : Nat) : List Tr → St → St → Prop
  | nil (s : St) : RunTr C callI call ops base [] s s
  | cons {i : Nat} {o : Oper} {a : Do} {l : List Tr} {s s' : St} (h : resD C callI call ops base i o s = some a) (r : RunTr C callI call ops base l (onD o a s) s') : RunTr C callI call ops base ((i, o, a) :: l) s s'

theorem bubble {callI : FuncId → List AV → Mem → Option (AV × Mem)} {call : FuncId → List AV → Option AV} {ops : Array Oper} {base : Nat} {x : Tr} {l2 : List Tr} {s' : St} : ∀ (l1 : List Tr) (s : St), (∀ p ∈ l1, p.2.1.apart ops x.2.1 = true ∧ noConf p.2.2 x.2.2 = true) → RunTr C callI call ops base (l1 ++ x :: l2) s s' → RunTr C callI call ops base (x :: (l1 ++ l2)) s s'
  | [], s, _, h => h
  | (i, p, a) :: l1, s, hc, h => by
    cases h with
    | cons h1 r =>
      have ih := bubble l1 _ (fun q hq => hc q (List.mem_cons_of_mem _ hq)) r
      obtain ⟨j, q, b⟩ := x
      cases ih with
      | cons h2 r2 =>
        obtain ⟨k1, k2⟩ := hc (i, p, a) (List.mem_cons_self ..)
        obtain ⟨s1, s2, s3⟩ := swapD h1 h2 k1 k2
        exact .cons s1 (.cons s2 (by rw [s3]; exact r2))

/-- One operation is to come before another, by way of others maybe. -/
inductive Before (ops : Array Oper) : Nat → Nat → Prop
  | one {i j : Nat} {o : Oper} {e : Edge} (h : ops[j]? = some o) (he : e ∈ o.after) (hb : Region.binds .any e = true) (hi : e.on = i) : Before ops i j
  | step {i j : Nat} {o : Oper} {e : Edge} (h : ops[j]? = some o) (he : e ∈ o.after) (hb : Region.binds .any e = true) (r : Before ops i e.on) : Before ops i j

def Needs (i : Nat) (o : Oper) : Prop := ∃ e ∈ o.after, Region.binds .any e = true ∧ e.on = i

/-- What is left to be done is what is not listed. -/
structure Link (ops : Array Oper) (L : List Tr) (listed : Array Bool) : Prop where
  size : listed.size = ops.size
  at_ : ∀ x ∈ L, ops[x.1]? = some x.2.1
  un : ∀ x ∈ L, listed.getD x.1 true = false
  all : ∀ j, listed.getD j true = false → ∃ x ∈ L, x.1 = j
  nodup : L.Pairwise fun x y => x.1 ≠ y.1
  back : L.Pairwise fun x y => ¬ Needs y.1 x.2.1
  self : ∀ x ∈ L, ∀ e ∈ x.2.1.after, Region.binds .any e = true → e.on < ops.size ∧ e.on ≠ x.1
  closed : ∀ (j : Nat) (o : Oper), listed.getD j false = true → ops[j]? = some o → ∀ e ∈ o.after, Region.binds .any e = true → listed.getD e.on false = true

theorem Before.listed {ops : Array Oper} {L : List Tr} {listed : Array Bool} (h : Link ops L listed) {i j : Nat} (hb : Before ops i j) : ∀ o, ops[j]? = some o → (∀ e ∈ o.after, Region.binds .any e = true → listed.getD e.on false = true) → listed.getD i false = true := by
  induction hb with
  | one h1 he hb hi =>
    intro o ho hall
    rw [h1] at ho
    cases ho
    exact hi ▸ hall _ he hb
  | step h1 he hb r ih =>
    intro o ho hall
    rw [h1] at ho
    cases ho
    have h2 := hall _ he hb
    cases r with
    | one k1 ke kb ki => exact ih _ k1 (fun e he hb => h.closed _ _ h2 k1 e he hb)
    | step k1 ke kb kr => exact ih _ k1 (fun e he hb => h.closed _ _ h2 k1 e he hb)

theorem Link.set {ops : Array Oper} {l1 l2 : List Tr} {x : Tr} {listed : Array Bool} (h : Link ops (l1 ++ x :: l2) listed) (hready : ∀ e ∈ x.2.1.after, Region.binds .any e = true → listed.getD e.on false = true) : Link ops (l1 ++ l2) (listed.setIfInBounds x.1 true) := by
  have hmem : ∀ y ∈ l1 ++ l2, y ∈ l1 ++ x :: l2 := fun y hy => by
    rcases List.mem_append.1 hy with hy | hy
    · exact List.mem_append_left _ hy
    · exact List.mem_append_right _ (List.mem_cons_of_mem _ hy)
  have drop : ∀ {R : Tr → Tr → Prop}, (l1 ++ x :: l2).Pairwise R → (l1 ++ l2).Pairwise R := fun hs => by
    rw [List.pairwise_append] at hs ⊢
    exact ⟨hs.1, (List.pairwise_cons.1 hs.2.1).2, fun a ha b hb => hs.2.2 a ha b (List.mem_cons_of_mem _ hb)⟩
  have hne : ∀ y ∈ l1 ++ l2, y.1 ≠ x.1 := fun y hy => by
    have hs := h.nodup
    rw [List.pairwise_append] at hs
    rcases List.mem_append.1 hy with hy | hy
    · exact hs.2.2 y hy x (List.mem_cons_self ..)
    · exact ((List.pairwise_cons.1 hs.2.1).1 y hy).symm
  have hxl : x.1 < listed.size := by
    have hx := h.un x (List.mem_append_right _ (List.mem_cons_self ..))
    rcases Nat.lt_or_ge x.1 listed.size with h' | h'
    · exact h'
    · simp [h'] at hx
  have keep : ∀ j, listed.getD j false = true → (listed.setIfInBounds x.1 true).getD j false = true := by
    intro j hj
    by_cases hjx : x.1 = j
    · subst hjx
      simp [hxl]
    · rw [getD_set_ne false hjx]
      exact hj
  refine ⟨by simp [h.size], fun y hy => h.at_ y (hmem y hy), fun y hy => ?_, fun j hj => ?_, drop h.nodup, drop h.back, fun y hy => h.self y (hmem y hy), fun j o hj ho e he hb => ?_⟩
  · rw [getD_set_ne true (Ne.symm (hne y hy))]
    exact h.un y (hmem y hy)
  · by_cases hjx : x.1 = j
    · exfalso
      subst hjx
      simp [hxl] at hj
    · rw [getD_set_ne true hjx] at hj
      obtain ⟨y, hy, rfl⟩ := h.all j hj
      refine ⟨y, ?_, rfl⟩
      rcases List.mem_append.1 hy with hy | hy
      · exact List.mem_append_left _ hy
      · rcases List.mem_cons.1 hy with rfl | hy
        · exact absurd rfl hjx
        · exact List.mem_append_right _ hy
  · by_cases hjx : x.1 = j
    · subst hjx
      have := h.at_ x (List.mem_append_right _ (List.mem_cons_self ..))
      rw [ho] at this
      cases this
      exact keep _ (hready e he hb)
    · rw [getD_set_ne false hjx] at hj
      exact keep _ (h.closed j o hj ho e he hb)

def PairOk (ops : Array Oper) (x y : Tr) : Prop := Before ops x.1 y.1 ∨ (x.2.1.apart ops y.2.1 = true ∧ noConf x.2.2 y.2.2 = true)

theorem drawn {callI : FuncId → List AV → Mem → Option (AV × Mem)} {call : FuncId → List AV → Option AV} (H : Hyps2 C callI call) {n : Nat} {ops : Array Oper} (hdst : ∀ o ∈ ops.toList, ∀ d, o.dst = some d → d < n)
    {base : Nat} {Q : Exit → _root_.Go.Act → World → Prop} {s' : St} : ∀ (k : Nat) (L : List Tr) (listed : Array Bool) (G : Gh) (A : _root_.Go.Act) (w : World) (s : St), L.length = k → Link ops L listed → RunTr C callI call ops base L s s' → L.Pairwise (PairOk ops) → Sim C n G A w s →
      (∀ x ∈ L, ∀ g, G.T (base + x.1) g = none) → base + ops.size ≤ s.nid → (∀ A' w', After C n G w A base s' A' w' → Q .normal A' w') → wpAny C.P .any ops Q k listed A w
  | 0, L, listed, G, A, w, s, hlen, hlink, hrun, hpair, hs, hfr, hb, hq => by
    have : L = [] := List.eq_nil_of_length_eq_zero hlen
    subst this
    cases hrun
    refine ⟨?_, hq _ _ (After.refl hs (by omega))⟩
    cases hr : Region.ready .any ops listed with
    | nil => rfl
    | cons j js =>
      have hj : j ∈ Region.ready .any ops listed := by rw [hr]; exact List.mem_cons_self ..
      obtain ⟨h1, _⟩ := mem_ready.1 hj
      obtain ⟨x, hx, _⟩ := hlink.all j h1
      cases hx
  | k + 1, L, listed, G, A, w, s, hlen, hlink, hrun, hpair, hs, hfr, hb, hq => by
    refine ⟨fun hnil => ?_, fun i hi => ?_⟩
    · exfalso
      cases L with
      | nil => simp at hlen
      | cons x0 L =>
        have h0 := hlink.at_ x0 (List.mem_cons_self ..)
        have : x0.1 ∈ Region.ready .any ops listed := mem_ready.2 ⟨hlink.un x0 (List.mem_cons_self ..), x0.2.1, h0, fun e he hbd => by
          obtain ⟨hlt, hne⟩ := hlink.self x0 (List.mem_cons_self ..) e he hbd
          cases hl : listed.getD e.on true with
          | true =>
            have : e.on < listed.size := by rw [hlink.size]; omega
            simp [this] at hl ⊢
            exact hl
          | false =>
            exfalso
            obtain ⟨y, hy, hye⟩ := hlink.all _ hl
            rcases List.mem_cons.1 hy with rfl | hy
            · exact hne hye.symm
            · exact (List.pairwise_cons.1 hlink.back).1 y hy ⟨e, he, hbd, hye.symm⟩⟩
        rw [hnil] at this
        cases this
    · obtain ⟨h1, o', ho', hall⟩ := mem_ready.1 hi
      obtain ⟨x, hx, rfl⟩ := hlink.all i h1
      obtain ⟨i, o, a⟩ := x
      have ho := hlink.at_ _ hx
      simp only at ho ho' h1 hall
      rw [ho] at ho'
      have heq := Option.some.inj ho'
      subst heq
      obtain ⟨l1, l2, rfl⟩ := List.append_of_mem hx
      have hbub : RunTr C callI call ops base ((i, o, a) :: (l1 ++ l2)) s s' := bubble l1 s (fun p hp => by
        rw [List.pairwise_append] at hpair
        rcases hpair.2.2 p hp _ (List.mem_cons_self ..) with hord | hok
        · exfalso
          have h2 := hord.listed hlink o ho (fun e he hb => hall e he hb)
          have h3 := hlink.un p (List.mem_append_left _ hp)
          have hin : p.1 < listed.size := by
            rcases Nat.lt_or_ge p.1 listed.size with h' | h'
            · exact h'
            · simp [h'] at h3
          simp [hin] at h2 h3
          rw [h2] at h3
          cases h3
        · exact hok) hrun
      have hlink' := hlink.set (fun e he hb => hall e he hb)
      have hlen' : (l1 ++ l2).length = k := by simp at hlen ⊢; omega
      have hsubm : ∀ y ∈ l1 ++ l2, y ∈ l1 ++ (i, o, a) :: l2 := fun y hy => by
        rcases List.mem_append.1 hy with hy | hy
        · exact List.mem_append_left _ hy
        · exact List.mem_append_right _ (List.mem_cons_of_mem _ hy)
      have hpair' : (l1 ++ l2).Pairwise (PairOk ops) := by
        rw [List.pairwise_append] at hpair ⊢
        exact ⟨hpair.1, (List.pairwise_cons.1 hpair.2.1).2, fun p hp q hq => hpair.2.2 p hp q (List.mem_cons_of_mem _ hq)⟩
      have hnei : ∀ y ∈ l1 ++ l2, y.1 ≠ i := fun y hy => by
        have hso := hlink.nodup
        rw [List.pairwise_append] at hso
        rcases List.mem_append.1 hy with hy | hy
        · exact hso.2.2 y hy _ (List.mem_cons_self ..)
        · exact ((List.pairwise_cons.1 hso.2.1).1 y hy).symm
      have hlti : i < ops.size := (Array.getElem?_eq_some_iff.1 ho).1
      have hlty : ∀ y ∈ l1 ++ l2, y.1 < ops.size := fun y hy => (Array.getElem?_eq_some_iff.1 (hlink.at_ y (hsubm y hy))).1
      have hdo : ∀ d, o.dst = some d → d < n := hdst o (by
        have := (Array.getElem?_eq_some_iff.1 ho).2
        rw [← this]
        exact Array.getElem_mem_toList hlti)
      cases hbub with
      | cons hres hrun' =>
        unfold wpOp
        simp only [ho]
        unfold resD at hres
        simp only [Option.bind_eq_some_iff] at hres
        obtain ⟨b, hbw, hres⟩ := hres
        rw [wants_spec hs.env hbw]
        cases b with
        | false =>
          simp only [Bool.false_eq_true, if_false, Option.some.injEq] at hres ⊢
          subst hres
          obtain ⟨p1, p2⟩ := hs.put (Ext.refl _ _) hs.inv hdo (v := Go.undef) (x := .void) (.void _)
          exact drawn H hdst k _ _ G _ w _ hlen' hlink' hrun' hpair' p1 (fun y hy g => hfr y (hsubm y hy) g) hb (fun A' w' ⟨G', q1, q2, q3, q4, q5⟩ => hq A' w' ⟨G', q1, q2, q3.trans p2, q4, q5⟩)
        | true =>
          simp only [if_true] at hres ⊢
          left
          cases hlc : loudCall C o s with
          | none =>
            rw [hlc] at hres
            simp only [Option.map_eq_some_iff] at hres
            obtain ⟨a', ha', rfl⟩ := hres
            refine act_wp H.toHyps hs.env hs.ctx hs.inv (fb := base + i) (nid' := s.nid) (hfr _ hx) (Nat.le_refl _) ha' (.inr (by omega)) (fun v w' G' hr hi' he' hfresh => ?_)
            obtain ⟨p1, p2⟩ := hs.put he' hi' hdo hr
            exact drawn H hdst k _ _ G' _ w' _ hlen' hlink' hrun' hpair' p1 (fun y hy g => hfresh.1 _ (by have := hnei y hy; omega) (hfr y (hsubm y hy)) g) hb (fun A' w2 ⟨G2, q1, q2, q3, q4, q5⟩ => hq A' w2 ⟨G2, q1, he'.trans q2, q3.trans p2, NewIn.trans he'.T (hfresh.newIn (Nat.le_add_right _ _)) q4 (Nat.le_refl _), q5⟩)
          | some fa =>
            obtain ⟨f, args⟩ := fa
            rw [hlc] at hres
            simp only at hres
            obtain ⟨ids, r, m1, rfl, hcl, hcall, hgen⟩ := far_spec hres
            obtain ⟨c, fo, cvs, as, hop, hco, hfx, hargs, hlen2, hrep⟩ := loud_rep hs hlc
            obtain ⟨hen, hcalls⟩ := far_call H hcl hcall hgen hs.inv hs.ctx (vs := c.args.map A.eval ++ cvs) hlen2 hrep
            refine wp_call (f := f) (vs := c.args.map A.eval ++ cvs) (by rw [exec_call hop hco hfx]; exact hen _ _) (hcalls.mono ?_)
            rintro e w' ⟨v, G', rfl, hrr, hi', he', hn', hnid⟩
            obtain ⟨p1, p2⟩ := hs.put he' hi' hdo hrr
            refine ⟨v, rfl, ?_⟩
            exact drawn H hdst k _ _ G' _ w' _ hlen' hlink' hrun' hpair' p1 (fun y hy g => hn'.1 _ (by have := hlty y hy; show base + y.1 < s.nid; omega) (hfr y (hsubm y hy)) g) (Nat.le_trans hb hnid) (fun A' w2 ⟨G2, q1, q2, q3, q4, q5⟩ => hq A' w2 ⟨G2, q1, he'.trans q2, q3.trans p2, NewIn.trans he'.T ⟨fun id hid h0 => hn'.1 id (by show id < s.nid; omega) h0, hn'.2⟩ q4 (Nat.le_refl _), q5⟩)

end Go.Ev
end
