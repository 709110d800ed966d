/- Part of the proof of a statement about the given program: EvMask. No condition of its own. -/
import Derived.Test.YtfkjjmhbljlbkaaDoorEvDraw
namespace Go.Ev
set_option linter.unusedVariables false
set_option linter.unusedSimpArgs false
variable {C : Ctx} {G : Gh} {w : World} {m : Mem}

theorem reachL_local {m m' : Mem} : ∀ (k : Nat) (x : AV), (∀ id ∈ reachL m k x, m.sto id = m'.sto id) → reachL m' k x = reachL m k x
  | 0, x, _ => by cases x <;> rfl
  | k + 1, x, h => by
    have many : ∀ (cs : List AV), (∀ id ∈ (cs.map (reachL m k)).flatten, m.sto id = m'.sto id) → (cs.map (reachL m' k)).flatten = (cs.map (reachL m k)).flatten := by
      intro cs hcs
      congr 1
      apply List.map_congr_left
      intro c hc
      exact reachL_local k c (fun id hid => hcs id (List.mem_flatten.2 ⟨_, List.mem_map.2 ⟨c, hc, rfl⟩, hid⟩))
    cases x with
    | arr id g off n sz app =>
      simp only [reachL, List.mem_cons] at h ⊢
      have h0 := h id (.inl rfl)
      rw [← h0, many _ (fun i hi => h i (.inr hi))]
    | ptr id g off =>
      simp only [reachL, List.mem_cons] at h ⊢
      have h0 := h id (.inl rfl)
      rw [← h0, many _ (fun i hi => h i (.inr hi))]
    | agg cs => simp only [reachL] at h ⊢; exact many cs h
    | tup cs => simp only [reachL] at h ⊢; exact many cs h
    | fn f cs => simp only [reachL] at h ⊢; exact many cs h
    | _ => rfl

theorem leads_ref {ids : List Nat} {m m' : Mem} (h : ∀ id ∈ ids, m.sto id = m'.sto id) (id g : Nat) : (ids.contains id && g == (m'.sto id).gen) = (ids.contains id && g == (m.sto id).gen) := by
  by_cases hc : id ∈ ids
  · rw [h id hc]
  · have : ids.contains id = false := by simpa using hc
    rw [this]
    rfl

theorem leads_local {ids : List Nat} {m m' : Mem} (h : ∀ id ∈ ids, m.sto id = m'.sto id) : ∀ (k : Nat) (x : AV), leadsB m' ids k x = leadsB m ids k x
  | 0, x => by cases x <;> first | rfl | exact leads_ref h _ _
  | k + 1, x => by
    have many : ∀ (cs : List AV), cs.all (leadsB m' ids k) = cs.all (leadsB m ids k) := by
      intro cs
      congr 1
      funext c
      exact leads_local h k c
    cases x with
    | agg cs => exact many cs
    | tup cs => exact many cs
    | fn f cs => exact many cs
    | ptr id g off => exact leads_ref h _ _
    | arr id g off n sz app => exact leads_ref h _ _
    | _ => rfl

theorem mask_eq {ids : List Nat} {m m' : Mem} (h : ∀ id ∈ ids, m.sto id = m'.sto id) (hn : m.nid = m'.nid) : mask ids m' = mask ids m := by
  unfold mask
  rw [hn]
  congr 1
  funext i
  by_cases hc : i ∈ ids
  · rw [h i hc]
  · have : ids.contains i = false := by simpa using hc
    rw [this]
    rfl

theorem all_congr {α : Type} {p q : α → Bool} : ∀ (l : List α), (∀ a ∈ l, p a = q a) → l.all p = l.all q
  | [], _ => rfl
  | a :: l, h => by simp only [List.all_cons, h a (List.mem_cons_self ..), all_congr l (fun b hb => h b (List.mem_cons_of_mem _ hb))]

theorem far_local {callI : FuncId → List AV → Mem → Option (AV × Mem)} {f : FuncId} {args : List AV} {m m' : Mem} {ids : List Nat} {n0 : Nat} {r : AV} {m1 : Mem} (h : farOf callI f args m = some (.call ids n0 r m1)) (hS : ∀ id ∈ ids, m.sto id = m'.sto id) (hn : m.nid = m'.nid) : farOf callI f args m' = some (.call ids n0 r m1) := by
  unfold farOf at h ⊢
  dsimp only at h ⊢
  split at h
  · rename_i hc
    simp only [Option.bind_eq_some_iff, Prod.exists] at h
    obtain ⟨r', m1', hr, h⟩ := h
    split at h
    · rename_i hg
      simp only [Option.some.injEq, Do.call.injEq] at h
      obtain ⟨rfl, rfl, rfl, rfl⟩ := h
      have e1 : (args.map (reachL m' 8)).flatten = (args.map (reachL m 8)).flatten := by
        congr 1
        exact List.map_congr_left (fun x hx => reachL_local 8 x (fun id hid => hS id (List.mem_flatten.2 ⟨_, List.mem_map.2 ⟨x, hx, rfl⟩, hid⟩)))
      rw [e1]
      have e2 : closedB m' (args.map (reachL m 8)).flatten args = closedB m (args.map (reachL m 8)).flatten args := by
        unfold closedB
        rw [show leadsB m' (args.map (reachL m 8)).flatten 8 = leadsB m (args.map (reachL m 8)).flatten 8 from funext (leads_local hS 8)]
        congr 1
        exact all_congr _ (fun i hi => by rw [hS i hi])
      rw [e2, if_pos hc, mask_eq hS hn, hr]
      simp only [Option.bind_some]
      have e3 : (args.map (reachL m 8)).flatten.all (fun i => decide ((m'.sto i).gen ≤ (m1'.sto i).gen)) = (args.map (reachL m 8)).flatten.all (fun i => decide ((m.sto i).gen ≤ (m1'.sto i).gen)) := all_congr _ (fun i hi => by rw [hS i hi])
      rw [e3, if_pos hg, hn]
    · cases h
  · cases h

theorem far_spec {callI : FuncId → List AV → Mem → Option (AV × Mem)} {f : FuncId} {args : List AV} {m : Mem} {a : Do} (h : farOf callI f args m = some a) : ∃ ids r m1, a = .call ids m.nid r m1 ∧ closedB m ids args = true ∧ callI f args (mask ids m) = some (r, m1) ∧ ∀ i ∈ ids, (m.sto i).gen ≤ (m1.sto i).gen := by
  unfold farOf at h
  dsimp only at h
  split at h
  · rename_i hc
    simp only [Option.bind_eq_some_iff, Prod.exists] at h
    obtain ⟨r', m1', hr, h⟩ := h
    split at h
    · rename_i hg
      simp only [Option.some.injEq] at h
      subst h
      exact ⟨_, r', m1', rfl, hc, hr, fun i hi => by simpa using List.all_eq_true.1 hg i hi⟩
    · cases h
  · cases h

/-- What is known of these blocks alone. -/
def Gh.mask (G : Gh) (m : Mem) (ids : List Nat) : Gh := ⟨G.M, fun id g => if ids.contains id = true ∧ g = (m.sto id).gen then G.T id g else none⟩

theorem mask_T {ids : List Nat} {id g : Nat} {x : Nat × Nat × Bool} (h : (G.mask m ids).T id g = some x) : ids.contains id = true ∧ g = (m.sto id).gen ∧ G.T id g = some x := by
  simp only [Gh.mask] at h
  split at h
  · rename_i hc; exact ⟨hc.1, hc.2, h⟩
  · cases h

theorem Rep.lead {m : Mem} {ids : List Nat} {G : Gh} {v : Value} {x : AV} (h : Rep G v x) : ∀ (G' : Gh) (k : Nat), G'.M = G.M → (∀ id, ids.contains id = true → ∀ y, G.T id (m.sto id).gen = some y → G'.T id (m.sto id).gen = some y) → leadsB m ids k x = true → Rep G' v x := by
  have bareEq : ∀ {G G' : Gh}, G'.M = G.M → G'.bare = G.bare := fun h => by unfold Gh.bare; rw [h]
  induction h with
  | undef => exact fun _ _ _ _ _ => .undef _ _
  | void => exact fun _ _ _ _ _ => .void _
  | bool => exact fun _ _ _ _ _ => .bool _ _
  | int => exact fun _ _ _ _ _ => .int _ _ _
  | str => exact fun _ _ _ _ _ => .str _ _
  | nilp => exact fun _ _ _ _ _ => .nilp _
  | nilf => exact fun _ _ _ _ _ => .nilf _
  | nili => exact fun _ _ _ _ _ => .nili _
  | nils => exact fun _ _ _ _ _ => .nils _ _
  | slice0 => exact fun _ _ _ _ _ => .slice0 _ _
  | sliceE => exact fun _ _ _ _ _ => .sliceE _ _ _ _
  | slice G b off n cap sz xs vs hn hc hs hl hm h1 hr ih => exact fun G' k hM _ _ => .slice _ b off n cap sz xs vs hn hc hs hl (fun j v hv => by rw [hM]; exact hm j v hv) h1 (fun j v c hv hc => by rw [bareEq hM]; exact hr j v c hv hc)
  | eptr G b off cs vs hl hm hr ih => exact fun G' k hM _ _ => .eptr _ b off cs vs hl (fun j v hv => by rw [hM]; exact hm j v hv) (fun j v c hv hc => by rw [bareEq hM]; exact hr j v c hv hc)
  | ptr G id g off b x h =>
    intro G' k hM hT hl
    have hl' : (ids.contains id && g == (m.sto id).gen) = true := by cases k <;> exact hl
    simp only [Bool.and_eq_true, beq_iff_eq] at hl'
    obtain ⟨h1, rfl⟩ := hl'
    exact .ptr _ id _ off b x (hT id h1 _ h)
  | arr G id g off n sz b cap tot app ap h hc ha =>
    intro G' k hM hT hl
    have hl' : (ids.contains id && g == (m.sto id).gen) = true := by cases k <;> exact hl
    simp only [Bool.and_eq_true, beq_iff_eq] at hl'
    obtain ⟨h1, rfl⟩ := hl'
    exact .arr _ id _ off n sz b cap tot app ap (hT id h1 _ h) hc ha
  | agg G vs cs hl hr ih =>
    intro G' k hM hT hk
    cases k with
    | zero => cases hk
    | succ k =>
      simp only [leadsB, List.all_eq_true] at hk
      exact .agg _ vs cs hl (fun j v c hv hc => ih j v c hv hc G' k hM hT (hk c (List.mem_of_getElem? hc)))
  | tup G vs cs hl hr ih =>
    intro G' k hM hT hk
    cases k with
    | zero => cases hk
    | succ k =>
      simp only [leadsB, List.all_eq_true] at hk
      exact .tup _ vs cs hl (fun j v c hv hc => ih j v c hv hc G' k hM hT (hk c (List.mem_of_getElem? hc)))
  | fn G f vs cs hl hr ih =>
    intro G' k hM hT hk
    cases k with
    | zero => cases hk
    | succ k =>
      simp only [leadsB, List.all_eq_true] at hk
      exact .fn _ f vs cs hl (fun j v c hv hc => ih j v c hv hc G' k hM hT (hk c (List.mem_of_getElem? hc)))

theorem mask_keep {ids : List Nat} (id : Nat) (h : ids.contains id = true) (y : Nat × Nat × Bool) (hy : G.T id (m.sto id).gen = some y) : (G.mask m ids).T id (m.sto id).gen = some y := by
  show (if ids.contains id = true ∧ (m.sto id).gen = (m.sto id).gen then G.T id (m.sto id).gen else none) = some y
  rw [if_pos ⟨h, rfl⟩]
  exact hy

theorem mask_sto {ids : List Nat} {id : Nat} (h : ids.contains id = true) : (mask ids m).sto id = m.sto id := by
  simp only [mask]
  rw [if_pos h]

theorem inv_mask (hi : Inv G w m) {ids : List Nat} (hcl : ∀ i ∈ ids, (m.sto i).cells.all (leadsB m ids 8) = true) : Inv (G.mask m ids) w (mask ids m) where
  okM := hi.okM
  live id b tot ap h := by
    obtain ⟨h1, h2, h3⟩ := mask_T h
    rw [mask_sto h1] at h h3
    obtain ⟨cur, e, fr, hl⟩ := hi.live _ _ _ _ h3
    refine ⟨cur, e, fr, ?_, hl.heap, hl.size, hl.fr, ?_, ?_, ?_, ?_, ?_, ?_⟩ <;> rw [mask_sto h1]
    · exact h
    · exact hl.len
    · intro j v c hv hc
      refine (hl.rep j v c hv hc).lead (m := m) (ids := ids) _ 8 rfl mask_keep ?_
      exact List.all_eq_true.1 (hcl id (by simpa using h1)) c (List.mem_of_getElem? hc)
    · exact hl.one
    · exact hl.kept
    · exact hl.soft
    · exact hl.typ
  dist id id' b x y h h' := by
    obtain ⟨h1, h2, h3⟩ := mask_T h
    obtain ⟨k1, k2, k3⟩ := mask_T h'
    rw [mask_sto h1] at h3
    rw [mask_sto k1] at k3
    exact hi.dist _ _ _ _ _ h3 k3
  dom id g x h := by
    obtain ⟨h1, h2, h3⟩ := mask_T h
    rw [mask_sto h1]
    exact hi.dom _ _ _ h3

theorem CtxOk.sameM {G G' : Gh} (h : CtxOk C G w) (hM : G'.M = G.M) (hT : ∀ id g x, G'.T id g = some x → G.T id g = some x) : CtxOk C G' w := ⟨fun g cs hg => by
  have := h.glob g cs hg
  cases this with
  | eptr _ _ _ _ vs hl hm hr => exact .eptr _ _ _ _ vs hl (fun j v hv => by rw [hM]; exact hm j v hv) (fun j v c hv hc => by rw [show G'.bare = G.bare by unfold Gh.bare; rw [hM]]; exact hr j v c hv hc), fun p hp => ⟨(h.tabs p hp).1, fun _ _ _ hx => (h.tabs p hp).2 _ _ _ (hT _ _ _ hx)⟩⟩

def joinG (G G1 : Gh) : Gh := ⟨G1.M, fun id g => (G1.T id g).or (G.T id g)⟩

def joinM (ids : List Nat) (n0 : Nat) (m m1 : Mem) : Mem := ⟨fun i => if ids.contains i || decide (n0 ≤ i) then m1.sto i else m.sto i, m1.nid⟩

/-- What a call behind a mask leaves, and what was hidden. -/
theorem far_join {ids : List Nat} {m1 : Mem} {G1 : Gh} {w1 : World} (hi : Inv G w m) (hi1 : Inv G1 w1 m1) (he : Ext (G.mask m ids) w G1 w1) (hn : NewIn m.nid (G.mask m ids) G1) (hnid : m.nid ≤ m1.nid) (hg : ∀ i ∈ ids, (m.sto i).gen ≤ (m1.sto i).gen) :
    Inv (joinG G G1) w1 (joinM ids m.nid m m1) ∧ Ext G w (joinG G G1) w1 ∧ NewIn m.nid G (joinG G G1) ∧ ∀ {v x}, Rep G1 v x → Rep (joinG G G1) v x := by
  have hin : ∀ id g x, G1.T id g = some x → ids.contains id = true ∨ m.nid ≤ id := by
    intro id g x h
    by_cases h1 : ids.contains id = true
    · exact .inl h1
    · rcases Nat.lt_or_ge id m.nid with h2 | h2
      · have := hn.1 id h2 (fun g => by simp only [Gh.mask]; rw [if_neg (fun hc => h1 hc.1)]) g
        rw [this] at h; cases h
      · exact .inr h2
  have live0 : ∀ id g y y', G.T id g = some y → G1.T id g = some y' → True := fun _ _ _ _ _ _ => trivial
  have cur0 : ∀ id g y', G1.T id g = some y' → (∃ g0 y, G.T id g0 = some y) → ids.contains id = true ∧ ∃ z, G.T id (m.sto id).gen = some z := by
    rintro id g y' h ⟨g0, y, h0⟩
    have hlt := (hi.dom _ _ _ h0).1
    have hc : ids.contains id = true := by
      rcases hin _ _ _ h with hc | hc
      · exact hc
      · omega
    refine ⟨hc, ?_⟩
    cases hz : G.T id (m.sto id).gen with
    | some z => exact ⟨z, rfl⟩
    | none =>
      have := hn.1 id hlt (fun g => by
        simp only [Gh.mask]
        split
        · rename_i hh; rw [hh.2]; exact hz
        · rfl) g
      rw [this] at h; cases h
  have hT : ∀ id g y, G.T id g = some y → (joinG G G1).T id g = some y := by
    intro id g y h
    simp only [joinG]
    cases h1 : G1.T id g with
    | none => exact h
    | some y' =>
      obtain ⟨hc, z, hz⟩ := cur0 _ _ _ h1 ⟨g, y, h⟩
      rcases hn.2 id g y' h1 with h2 | h2
      · obtain ⟨_, _, h3⟩ := mask_T h2
        rw [h] at h3
        exact h3 ▸ rfl
      · have := h2 _ _ (mask_keep id hc z hz)
        have := (hi.dom _ _ _ h).2
        omega
  have mono1 : ∀ {v x}, Rep G1 v x → Rep (joinG G G1) v x := fun h => h.mono (fun _ => List.prefix_refl _) (fun id g y hy => by simp only [joinG, hy, Option.some_or])
  have mono0 : ∀ {v x}, Rep G v x → Rep (joinG G G1) v x := fun h => h.mono he.M hT
  have stoIn : ∀ id, ids.contains id = true ∨ m.nid ≤ id → (joinM ids m.nid m m1).sto id = m1.sto id := by
    intro id h
    simp only [joinM]
    rw [if_pos (by simpa using h)]
  have stoOut : ∀ id, ¬ (ids.contains id = true ∨ m.nid ≤ id) → (joinM ids m.nid m m1).sto id = m.sto id := by
    intro id h
    simp only [joinM]
    rw [if_neg (by simpa using h)]
  have curIn : ∀ id x, (ids.contains id = true ∨ m.nid ≤ id) → (joinG G G1).T id (m1.sto id).gen = some x → G1.T id (m1.sto id).gen = some x := by
    intro id x hid h
    simp only [joinG] at h
    cases h1 : G1.T id (m1.sto id).gen with
    | some y => rw [h1] at h; simpa using h
    | none =>
      exfalso
      rw [h1] at h
      simp only [Option.none_or] at h
      have hlt := hi.dom _ _ _ h
      have hc : ids.contains id = true := by
        rcases hid with hc | hc
        · exact hc
        · omega
      have hle := hg id (by simpa using hc)
      have heq : (m1.sto id).gen = (m.sto id).gen := by omega
      rw [heq] at h h1
      have := he.T _ _ _ (mask_keep id hc x h)
      rw [h1] at this
      cases this
  have curOut : ∀ id g x, ¬ (ids.contains id = true ∨ m.nid ≤ id) → (joinG G G1).T id g = some x → G.T id g = some x := by
    intro id g x hid h
    simp only [joinG] at h
    cases h1 : G1.T id g with
    | some y => exact absurd (hin _ _ _ h1) hid
    | none => rw [h1] at h; exact h
  have apart : ∀ i id b x y g, G1.T i g = some (b, x) → ¬ (ids.contains id = true ∨ m.nid ≤ id) → G.T id (m.sto id).gen = some (b, y) → False := by
    intro i id b x y g h1 hid h2
    obtain ⟨tot, ap⟩ := y
    obtain ⟨cur, e, fr, hl⟩ := hi.live id b tot ap h2
    obtain ⟨j, g', x', hx'⟩ := he.own _ _ _ _ h1 hl.lt
    obtain ⟨k1, k2, k3⟩ := mask_T hx'
    rw [k2] at k3
    have := hi.dist _ _ _ _ _ k3 h2
    exact hid (.inl (this ▸ k1))
  refine ⟨⟨hi1.okM, fun id b tot ap h => ?_, fun id id' b x y h h' => ?_, fun id g x h => ?_⟩, ⟨he.M, hT, he.os, he.tape, he.output, he.size, fun b hb hno => ?_, fun id g b x h hb => ?_⟩, ⟨fun id hid h0 g => ?_, fun id g x h => ?_⟩, mono1⟩
  · by_cases hid : ids.contains id = true ∨ m.nid ≤ id
    · rw [stoIn id hid] at h
      have h1 := curIn id _ hid h
      obtain ⟨cur, e, fr, hl⟩ := hi1.live _ _ _ _ h1
      refine ⟨cur, e, fr, ?_, hl.heap, hl.size, hl.fr, ?_, ?_, ?_, ?_, ?_, ?_⟩ <;> rw [stoIn id hid]
      · exact h
      · exact hl.len
      · exact fun j v c hv hc => mono1 (hl.rep j v c hv hc)
      · exact hl.one
      · exact hl.kept
      · exact hl.soft
      · exact hl.typ
    · rw [stoOut id hid] at h
      have h1 := curOut id _ _ hid h
      obtain ⟨cur, e, fr, hl⟩ := hi.live _ _ _ _ h1
      obtain ⟨f1, f2⟩ := he.frame b hl.lt (fun i g x hx => by
        obtain ⟨k1, k2, k3⟩ := mask_T hx
        rw [k2] at k3
        exact hid (.inl (hi.dist _ _ _ _ _ k3 h1 ▸ k1)))
      refine ⟨cur, e, fr, ?_, f1.trans hl.heap, hl.size, hl.fr, ?_, ?_, ?_, ?_, ?_, ?_⟩ <;> rw [stoOut id hid]
      · exact h
      · exact hl.len
      · exact fun j v c hv hc => mono0 (hl.rep j v c hv hc)
      · exact hl.one
      · show (G1.M b).length ≤ _
        rw [f2]
        exact hl.kept
      · intro hf
        show G1.M b = []
        rw [f2]
        exact hl.soft hf
      · exact hl.typ
  · by_cases hid : ids.contains id = true ∨ m.nid ≤ id
    · rw [stoIn id hid] at h
      have h1 := curIn id _ hid h
      by_cases hid' : ids.contains id' = true ∨ m.nid ≤ id'
      · rw [stoIn id' hid'] at h'
        exact hi1.dist _ _ _ _ _ h1 (curIn id' _ hid' h')
      · rw [stoOut id' hid'] at h'
        exact (apart _ _ _ _ _ _ h1 hid' (curOut id' _ _ hid' h')).elim
    · rw [stoOut id hid] at h
      have h1 := curOut id _ _ hid h
      by_cases hid' : ids.contains id' = true ∨ m.nid ≤ id'
      · rw [stoIn id' hid'] at h'
        exact (apart _ _ _ _ _ _ (curIn id' _ hid' h') hid h1).elim
      · rw [stoOut id' hid'] at h'
        exact hi.dist _ _ _ _ _ h1 (curOut id' _ _ hid' h')
  · simp only [joinG] at h
    cases h1 : G1.T id g with
    | some y =>
      have := hi1.dom _ _ _ h1
      rw [stoIn id (hin _ _ _ h1)]
      exact this
    | none =>
      rw [h1] at h
      simp only [Option.none_or] at h
      have hd := hi.dom _ _ _ h
      refine ⟨Nat.lt_of_lt_of_le hd.1 hnid, ?_⟩
      by_cases hid : ids.contains id = true ∨ m.nid ≤ id
      · rw [stoIn id hid]
        rcases hid with hc | hc
        · exact Nat.le_trans hd.2 (hg id (by simpa using hc))
        · omega
      · rw [stoOut id hid]
        exact hd.2
  · exact he.frame b hb (fun id g x hx => hno id g x (mask_T hx).2.2)
  · simp only [joinG] at h
    cases h1 : G1.T id g with
    | some y =>
      rw [h1] at h
      simp only [Option.some_or, Option.some.injEq] at h
      subst h
      obtain ⟨i, g', x', hx'⟩ := he.own _ _ _ _ h1 hb
      exact ⟨i, g', x', (mask_T hx').2.2⟩
    | none =>
      rw [h1] at h
      exact ⟨id, g, x, h⟩
  · simp only [joinG]
    rw [h0 g, hn.1 id hid (fun g => by simp only [Gh.mask]; split <;> first | exact h0 g | rfl) g]
    rfl
  · simp only [joinG] at h
    cases h1 : G1.T id g with
    | none => rw [h1] at h; exact .inl h
    | some y =>
      rw [h1] at h
      simp only [Option.some_or, Option.some.injEq] at h
      subst h
      rcases hn.2 id g y h1 with h2 | h2
      · exact .inl (mask_T h2).2.2
      · right
        intro g0 y0 h0
        obtain ⟨hc, z, hz⟩ := cur0 _ _ _ h1 ⟨g0, y0, h0⟩
        have := h2 _ _ (mask_keep id hc z hz)
        have := (hi.dom _ _ _ h0).2
        omega

/-- The step of a call behind a mask. -/
theorem far_call {callI : FuncId → List AV → Mem → Option (AV × Mem)} {call : FuncId → List AV → Option AV} (H : Hyps2 C callI call) {f : FuncId} {args : List AV} {ids : List Nat} {r : AV} {m1 : Mem} (hcl : closedB m ids args = true) (hcall : callI f args (mask ids m) = some (r, m1)) (hg : ∀ i ∈ ids, (m.sto i).gen ≤ (m1.sto i).gen)
    (hi : Inv G w m) (hc : CtxOk C G w) {vs : Array Value} (hsz : vs.size = args.length) (hr : ∀ (j : Nat) v a, vs[j]? = some v → args[j]? = some a → Rep G v a) :
    (∀ (vs : Array Value) (w : World), (callFunc f vs).run C.P w = .ok (.enter f vs) w) ∧
    Calls C.P f vs w fun e w' => ∃ v G', e = .returned v ∧ Rep G' v r ∧ Inv G' w' (joinM ids m.nid m m1) ∧ Ext G w G' w' ∧ NewIn m.nid G G' ∧ m.nid ≤ m1.nid := by
  obtain ⟨hen, hsh⟩ := H.share _ _ _ _ _ hcall
  simp only [closedB, Bool.and_eq_true] at hcl
  have h1 := List.all_eq_true.1 hcl.1
  have h2 := List.all_eq_true.1 hcl.2
  refine ⟨hen, ?_⟩
  refine (hsh (G.mask m ids) w vs (inv_mask hi h2) (hc.sameM rfl (fun id g x hx => (mask_T hx).2.2)) hsz (fun j v a hv ha => (hr j v a hv ha).lead (m := m) (ids := ids) _ 8 rfl mask_keep (h1 a (List.mem_of_getElem? ha)))).mono ?_
  rintro e w' ⟨v, G', rfl, hrr, hi', he', hn', hnid⟩
  obtain ⟨j1, j2, j3, j4⟩ := far_join hi hi' he' hn' hnid hg
  exact ⟨v, joinG G G', rfl, j4 hrr, j1, j2, j3, hnid⟩

end Go.Ev
