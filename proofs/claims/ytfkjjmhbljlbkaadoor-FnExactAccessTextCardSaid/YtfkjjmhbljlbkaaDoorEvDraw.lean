/- Part of the proof of a statement about the given program: EvDraw. No condition of its own. -/
import Derived.Test.YtfkjjmhbljlbkaaDoorEvRun
namespace Go.Ev
set_option linter.unusedVariables false
set_option linter.unusedSimpArgs false
variable {C : Ctx} {G : Gh} {w : World} {m : Mem}

theorem reach_local {m m' : Mem} : ∀ (k : Nat) (x : AV), (∀ id ∈ reachD m k x, m.sto id = m'.sto id) → reachD m' k x = reachD m k x
  | 0, x, _ => by cases x <;> rfl
  | k + 1, x, h => by
    have many : ∀ (cs : List AV), (∀ id ∈ (cs.map (reachD m k)).flatten, m.sto id = m'.sto id) → (cs.map (reachD m' k)).flatten = (cs.map (reachD m k)).flatten := by
      intro cs hcs
      congr 1
      apply List.map_congr_left
      intro c hc
      exact reach_local k c (fun id hid => hcs id (List.mem_flatten.2 ⟨_, List.mem_map.2 ⟨c, hc, rfl⟩, hid⟩))
    cases x with
    | arr id g off n sz app =>
      simp only [reachD, List.mem_cons] at h ⊢
      have h0 := h id (.inl rfl)
      rw [← h0, many _ (fun i hi => h i (.inr hi))]
    | agg cs => simp only [reachD] at h ⊢; exact many cs h
    | tup cs => simp only [reachD] at h ⊢; exact many cs h
    | _ => rfl

theorem mapM_congr {α β : Type} {f g : α → Option β} : ∀ (l : List α), (∀ a ∈ l, f a = g a) → l.mapM f = l.mapM g
  | [], _ => rfl
  | a :: l, h => by
    simp only [List.mapM_cons, h a (List.mem_cons_self ..), mapM_congr l (fun b hb => h b (List.mem_cons_of_mem _ hb))]

theorem snap_local {m m' : Mem} : ∀ (k : Nat) (x : AV), (∀ id ∈ reachD m k x, m.sto id = m'.sto id) → snapD m' k x = snapD m k x
  | 0, x, _ => by cases x <;> rfl
  | k + 1, x, h => by
    have many : ∀ (cs ds : List AV), (∀ c ∈ ds, c ∈ cs) → (∀ id ∈ (cs.map (reachD m k)).flatten, m.sto id = m'.sto id) → ds.mapM (snapD m' k) = ds.mapM (snapD m k) := by
      intro cs ds hsub hcs
      exact mapM_congr ds (fun c hc => snap_local k c (fun id hid => hcs id (List.mem_flatten.2 ⟨_, List.mem_map.2 ⟨c, hsub c hc, rfl⟩, hid⟩)))
    cases x with
    | arr id g off n sz app =>
      simp only [reachD, List.mem_cons] at h
      have h0 := h id (.inl rfl)
      simp only [snapD, ← h0]
      rw [many (m.sto id).cells _ (fun c hc => List.mem_of_mem_drop (List.mem_of_mem_take hc)) (fun i hi => h i (.inr hi))]
    | agg cs => simp only [reachD] at h; simp only [snapD, many cs cs (fun _ h => h) h]
    | tup cs => simp only [reachD] at h; simp only [snapD, many cs cs (fun _ h => h) h]
    | _ => rfl

theorem argsA_local {env env' : Nat → AV} : ∀ (xs : List Operand) (ts : List TypeId), (∀ x ∈ xs, ∀ t, opd C env t x = opd C env' t x) → argsA C env' xs ts = argsA C env xs ts
  | [], ts, _ => by cases ts <;> rfl
  | x :: xs, [], _ => rfl
  | x :: xs, t :: ts, h => by
    simp only [argsA, ← h x (List.mem_cons_self ..) t, argsA_local xs ts (fun y hy => h y (List.mem_cons_of_mem _ hy))]

/-- What an operation comes to hangs on its operands and on the blocks that it reads. -/
theorem act_local {call : FuncId → List AV → Option AV} {fb : Nat} {o : Oper} {s s' : St} {a : Act} (h : act C call fb o s = some a) (hE : ∀ x ∈ o.op.operands, ∀ t, opd C s.env t x = opd C s'.env t x) (hS : ∀ id ∈ a.sr, s.sto id = s'.sto id) : act C call fb o s' = some a := by
  obtain ⟨dst, oper, type, pos, after, guard⟩ := o
  simp only at hE
  unfold act at h ⊢
  cases oper with
  | move x => simp only [← hE x (by simp [Op.operands])]; exact h
  | assign x => simp only [← hE x (by simp [Op.operands])]; exact h
  | pick c x y => simp only [← hE c (by simp [Op.operands]), ← hE x (by simp [Op.operands]), ← hE y (by simp [Op.operands])]; exact h
  | alloc e => exact h
  | box e x => simp only [← hE x (by simp [Op.operands])]; exact h
  | build t parts =>
    have e1 : ∀ fs : Array Field, (parts.toList.mapM fun (p : Nat × Operand) => (fs[p.1]?).bind fun (f : Field) => (opd C s'.env f.type p.2).map fun a => (f.offset, szT C.P f.type, a)) = (parts.toList.mapM fun (p : Nat × Operand) => (fs[p.1]?).bind fun (f : Field) => (opd C s.env f.type p.2).map fun a => (f.offset, szT C.P f.type, a)) := by
      intro fs
      exact mapM_congr _ (fun p hp => by simp only [hE p.2 (by simp [Op.operands]; exact ⟨p.1, by simpa using hp⟩)])
    simp only [e1]
    exact h
  | buildSlice t n parts =>
    have e1 : ∀ e sz, (parts.toList.mapM fun (p : Nat × Operand) => if p.1 < n then (opd C s'.env e p.2).map fun a => (p.1 * sz, sz, a) else none) = (parts.toList.mapM fun (p : Nat × Operand) => if p.1 < n then (opd C s.env e p.2).map fun a => (p.1 * sz, sz, a) else none) := by
      intro e sz
      exact mapM_congr _ (fun p hp => by simp only [hE p.2 (by simp [Op.operands]; exact ⟨p.1, by simpa using hp⟩)])
    simp only [e1]
    exact h
  | load t x =>
    simp only [← hE x (by simp [Op.operands])]
    simp only [Option.bind_eq_some_iff] at h ⊢
    obtain ⟨a', ha', h⟩ := h
    refine ⟨a', ha', ?_⟩
    split at h
    · rename_i id g off
      split at h
      · simp only [Option.map_eq_some_iff] at h
        obtain ⟨y, hy, rfl⟩ := h
        have := hS id (by simp)
        simp only [← this]
        rw [if_pos (by assumption), hy]
        rfl
      · cases h
    · exact h
    · cases h
  | store t x y =>
    simp only [← hE x (by simp [Op.operands]), ← hE y (by simp [Op.operands])]
    simp only [Option.bind_eq_some_iff] at h ⊢
    obtain ⟨a', ha', b', hb', h⟩ := h
    refine ⟨a', ha', b', hb', ?_⟩
    split at h
    · rename_i id g off
      split at h
      · simp only [Option.some.injEq] at h
        subst h
        have := hS id (by simp)
        simp only [← this]
        rw [if_pos (by assumption)]
      · cases h
    · cases h
  | nilCheck x => simp only [← hE x (by simp [Op.operands])]; exact h
  | binOp op xt x y yt => simp only [← hE x (by simp [Op.operands]), ← hE y (by simp [Op.operands])]; exact h
  | unOp op xt x => simp only [← hE x (by simp [Op.operands])]; exact h
  | convert src dst' x =>
    simp only [← hE x (by simp [Op.operands])]
    simp only [Option.bind_eq_some_iff] at h ⊢
    obtain ⟨a', ha', h⟩ := h
    refine ⟨a', ha', ?_⟩
    unfold convA at h ⊢
    split at h
    · exact h
    · exact h
    · exact h
    · split at h
      · exact h
      · exact h
      · split at h
        · simp only [Option.map_eq_some_iff] at h
          obtain ⟨l, hl, rfl⟩ := h
          rename_i id g off n app he hg
          have := hS id (by simp)
          simp only [he, ← this]
          rw [if_pos hg, hl]
          rfl
        · cases h
      · cases h
    · cases h
  | makeFunc fn first captured =>
    have e1 : (captured.toList.mapM fun x => opd C s'.env 0 x) = (captured.toList.mapM fun x => opd C s.env 0 x) := mapM_congr _ (fun x hx => (hE x (by simp [Op.operands]; exact .inr (by simpa using hx)) 0).symm)
    simp only [e1]
    exact h
  | makeSlice t l c => simp only [← hE l (by simp [Op.operands]), ← hE c (by simp [Op.operands])]; exact h
  | slice t x lo hi mx =>
    have e1 : ∀ q : Option Operand, (∀ x, q = some x → ∀ t, opd C s.env t x = opd C s'.env t x) → opds C s'.env 3 q = opds C s.env 3 q := by
      intro q hq
      cases q with
      | none => rfl
      | some x => simp only [opds, hq x rfl]
    simp only [← hE x (by simp [Op.operands]), e1 lo (fun x hx => hE x (by simp [Op.operands, hx])), e1 hi (fun x hx => hE x (by simp [Op.operands, hx])), e1 mx (fun x hx => hE x (by simp [Op.operands, hx]))]
    exact h
  | fieldAddr t x f => simp only [← hE x (by simp [Op.operands])]; exact h
  | field t x f => simp only [← hE x (by simp [Op.operands])]; exact h
  | indexAddr t x i => simp only [← hE x (by simp [Op.operands]), ← hE i (by simp [Op.operands])]; exact h
  | index t x i => simp only [← hE x (by simp [Op.operands]), ← hE i (by simp [Op.operands])]; exact h
  | extract t i => simp only [← hE t (by simp [Op.operands])]; exact h
  | call c =>
    have eargs := argsA_local (C := C) (env := s.env) (env' := s'.env) c.args.toList c.argTypes.toList (fun x hx => hE x (by simp [Op.operands, Call.operands]; exact .inr (by simpa using hx)))
    simp only at h ⊢
    split at h
    · rename_i b hco
      simp only [eargs]
      simp only [Option.bind_eq_some_iff] at h ⊢
      obtain ⟨args, hargs, h⟩ := h
      refine ⟨args, hargs, ?_⟩
      unfold builtinA at h ⊢
      split at h
      · exact h
      · rename_i x y t t2 hts
        split at h
        · rw [if_pos (by assumption)]
          unfold appendA at h ⊢
          simp only [Option.bind_eq_some_iff] at h ⊢
          obtain ⟨e, he, h⟩ := h
          refine ⟨e, he, ?_⟩
          split at h
          · rw [if_pos (by assumption)]
            simp only [Option.bind_eq_some_iff, Prod.exists] at h ⊢
            obtain ⟨ys, k, sr, hn, h⟩ := h
            have hsub : ∀ id ∈ sr, id ∈ a.sr := by
              split at h
              · split at h
                · split at h
                  · simp only [Option.some.injEq] at h; subst h; exact fun _ h => h
                  · split at h
                    · simp only [Option.some.injEq] at h; subst h; exact fun _ h => h
                    · cases h
                · cases h
              · split at h
                · simp only [Option.some.injEq] at h; subst h; exact fun _ h => List.mem_cons_of_mem _ h
                · cases h
              · cases h
            have hnews : newsA s' (szT C.P e) y = some (ys, k, sr) := by
              unfold newsA at hn ⊢
              split at hn
              · exact hn
              · exact hn
              · rename_i id g off n z app
                split at hn
                · simp only [Option.some.injEq, Prod.mk.injEq] at hn
                  obtain ⟨rfl, rfl, rfl⟩ := hn
                  have := hS id (hsub id (by simp))
                  simp only [← this]
                  rw [if_pos (by assumption)]
                · cases hn
              · exact hn
              · cases hn
            refine ⟨ys, k, sr, hnews, ?_⟩
            split at h
            · exact h
            · rename_i id g n z
              split at h
              · simp only [Option.some.injEq] at h
                subst h
                have := hS id (by simp)
                simp only [← this]
                rw [if_pos (by assumption)]
              · cases h
            · cases h
          · cases h
        · cases h
      · exact h
      · exact h
      · unfold dataA at h ⊢
        split at h
        · exact h
        · rename_i id g off n z app
          split at h
          · rename_i hg
            simp only [Option.some.injEq] at h
            subst h
            have := hS id (by simp)
            simp only [← this]
            rw [if_pos hg]
          · cases h
        · cases h
      · unfold textA at h ⊢
        split at h
        · exact h
        · rename_i id g k
          split at h
          · rename_i e he
            split at h
            · rename_i hg
              simp only [Option.map_eq_some_iff] at h
              obtain ⟨l, hl, rfl⟩ := h
              have := hS id (by simp)
              simp only [he, ← this]
              rw [if_pos hg, hl]
              rfl
            · cases h
          · cases h
        · cases h
      · exact h
      · cases h
    · rename_i fo hco
      simp only [eargs, ← hE fo (by simp [Op.operands, Call.operands, hco])]
      simp only [Option.bind_eq_some_iff] at h ⊢
      obtain ⟨fv, hfv, args, hargs, h⟩ := h
      refine ⟨fv, hfv, args, hargs, ?_⟩
      split at h
      · rename_i f cap
        split at h
        · cases h
        · rw [if_neg (by assumption)]
          simp only [Option.bind_eq_some_iff, Option.map_eq_some_iff] at h ⊢
          obtain ⟨l, hl, r, hr, rfl⟩ := h
          have hag : ∀ x ∈ args ++ cap, ∀ id ∈ reachD s.toMem 8 x, s.toMem.sto id = s'.toMem.sto id := fun x hx id hid => hS id (List.mem_flatten.2 ⟨_, List.mem_map.2 ⟨x, hx, rfl⟩, hid⟩)
          have e1 : ((args ++ cap).map (reachD s'.toMem 8)).flatten = ((args ++ cap).map (reachD s.toMem 8)).flatten := by
            congr 1
            exact List.map_congr_left (fun x hx => reach_local 8 x (hag x hx))
          have e2 : (args ++ cap).mapM (snapD s'.toMem 8) = (args ++ cap).mapM (snapD s.toMem 8) := mapM_congr _ (fun x hx => snap_local 8 x (hag x hx))
          have e3 : froz s' ((args ++ cap).map (reachD s.toMem 8)).flatten = froz s ((args ++ cap).map (reachD s.toMem 8)).flatten := by
            unfold froz
            exact List.map_congr_left (fun i hi => by rw [hS i hi])
          refine ⟨l, by rw [e2]; exact hl, r, hr, ?_⟩
          rw [e1, e3]
      · cases h
    · cases h
  | _ => cases h

end Go.Ev
