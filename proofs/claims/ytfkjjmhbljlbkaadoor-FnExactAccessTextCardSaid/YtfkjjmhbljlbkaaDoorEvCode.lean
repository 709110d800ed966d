/- Part of the proof of a statement about the given program: EvCode. No condition of its own. -/
import Derived.Test.YtfkjjmhbljlbkaaDoorEvDraw2
namespace Go.Ev
set_option linter.unusedVariables false
set_option linter.unusedSimpArgs false
variable {C : Ctx} {G : Gh} {w : World} {m : Mem}

theorem mask_spec {look : Nat → Nat} {i : Nat} : ∀ (l : List Edge), (maskOf look l).testBit i = true → ∃ e ∈ l, Region.binds .any e = true ∧ (e.on = i ∨ (look e.on).testBit i = true)
  | [], h => by simp [maskOf] at h
  | e :: l, h => by
    have ih := mask_spec (look := look) (i := i) l
    have hu : maskOf look (e :: l) = if Region.binds .any e = true then (1 <<< e.on) ||| look e.on ||| maskOf look l else maskOf look l := rfl
    rw [hu] at h
    split at h
    · rename_i hb
      simp only [Nat.testBit_or, Bool.or_eq_true, Nat.one_shiftLeft, Nat.testBit_two_pow, decide_eq_true_eq] at h
      rcases h with (h | h) | h
      · exact ⟨e, List.mem_cons_self .., hb, .inl h⟩
      · exact ⟨e, List.mem_cons_self .., hb, .inr h⟩
      · obtain ⟨e', h1, h2, h3⟩ := ih h
        exact ⟨e', List.mem_cons_of_mem _ h1, h2, h3⟩
    · obtain ⟨e', h1, h2, h3⟩ := ih h
      exact ⟨e', List.mem_cons_of_mem _ h1, h2, h3⟩

def TblOk (ops : Array Oper) (tbl : List Nat) : Prop := ∀ j i, (tbl.getD j 0).testBit i = true → Before ops i j

theorem befT_ok {ops : Array Oper} : ∀ (l tbl : List Nat), TblOk ops tbl → TblOk ops (befT ops l tbl)
  | [], tbl, h => h
  | j :: l, tbl, h => by
    refine befT_ok l _ ?_
    intro k i hk
    by_cases hjk : j = k
    · subst hjk
      simp only [List.getD_eq_getElem?_getD, List.getElem?_set, if_true] at hk
      split at hk
      · simp only [Option.getD_some] at hk
        obtain ⟨e, he, hb, hc⟩ := mask_spec _ hk
        cases ho : ops[j]? with
        | none => rw [ho] at he; simp at he
        | some o =>
          rw [ho] at he
          simp only [Option.map_some, Option.getD_some, Array.mem_toList_iff] at he
          rcases hc with hc | hc
          · exact .one ho he hb hc
          · exact .step ho he hb (h _ _ (by simpa [List.getD_eq_getElem?_getD] using hc))
      · simp at hk
    · simp only [List.getD_eq_getElem?_getD, List.getElem?_set, if_neg hjk] at hk
      exact h k i (by simpa [List.getD_eq_getElem?_getD] using hk)

theorem back_spec {ops : Array Oper} : ∀ (l : List Nat), backOk ops l = true → l.Pairwise (· ≠ ·) ∧ l.Pairwise (fun i j => ∀ o, ops[i]? = some o → ¬ Needs j o) ∧ ∀ i ∈ l, i < ops.size ∧ ∀ o, ops[i]? = some o → ∀ e ∈ o.after, Region.binds .any e = true → e.on < ops.size ∧ e.on ≠ i
  | [], _ => ⟨.nil, .nil, fun i hi => (by cases hi)⟩
  | i :: l, h => by
    simp only [backOk, Bool.and_eq_true, decide_eq_true_eq, Bool.not_eq_true'] at h
    obtain ⟨⟨⟨h1, h2⟩, h3⟩, h4⟩ := h
    obtain ⟨k1, k2, k3⟩ := back_spec l h4
    have edge : ∀ o, ops[i]? = some o → ∀ e ∈ o.after, Region.binds .any e = true → e.on < ops.size ∧ e.on ≠ i ∧ e.on ∉ l := by
      intro o ho e he hb
      rw [ho] at h1
      simp only [Option.map_some, Option.getD_some, List.all_eq_true, Array.mem_toList_iff, Bool.or_eq_true, Bool.not_eq_true', Bool.and_eq_true, decide_eq_true_eq, bne_iff_ne, ne_eq, List.contains_eq_mem, decide_eq_false_iff_not] at h1
      rcases h1 e he with hx | ⟨⟨hx, hy⟩, hz⟩
      · rw [hb] at hx; cases hx
      · exact ⟨hx, hy, hz⟩
    have hnl : i ∉ l := by simpa using h2
    refine ⟨List.pairwise_cons.2 ⟨fun j hj e => hnl (e ▸ hj), k1⟩, List.pairwise_cons.2 ⟨fun j hj o ho ⟨e, he, hb, hon⟩ => (edge o ho e he hb).2.2 (hon ▸ hj), k2⟩, fun j hj => ?_⟩
    rcases List.mem_cons.1 hj with rfl | hj
    · exact ⟨h3, fun o ho e he hb => ⟨(edge o ho e he hb).1, (edge o ho e he hb).2.1⟩⟩
    · exact k3 j hj

theorem planD_spec {ops : Array Oper} {ord : List Nat} {ps : List (Nat × Nat)} (h : planD ops = some (ord, ps)) : backOk ops ord = true ∧ (∀ j, j < ops.size → j ∈ ord) ∧ ord.length = ops.size ∧
    ∀ (a b i j : Nat) (p q : Oper), a < b → ord[a]? = some i → ord[b]? = some j → ops[i]? = some p → ops[j]? = some q → Before ops i j ∨ (p.apart ops q = true ∧ (worldless p.op = true ∨ worldless q.op = true ∨ (a, b) ∈ ps)) := by
  unfold planD at h
  dsimp only at h
  generalize hord : topoK ops ops.size [] = ord' at h
  split at h
  · cases h
  · rename_i hb
    simp only [Bool.not_eq_true', Bool.not_eq_false, Bool.and_eq_true, List.all_eq_true, List.mem_range, List.contains_eq_mem, decide_eq_true_eq, beq_iff_eq] at hb
    obtain ⟨⟨hb1, hb2⟩, hb3⟩ := hb
    simp only [Option.map_eq_some_iff, Prod.mk.injEq] at h
    obtain ⟨ps', ⟨ls, hls, hps⟩, hoo, hpp⟩ := h
    subst hoo hpp hps
    refine ⟨hb1, hb2, hb3, fun a b i j p q hab hi hj hp hq => ?_⟩
    have zi : ∀ (a i : Nat), ord'[a]? = some i → ord'.zipIdx[a]? = some (i, a) := by
      intro a i ho
      rw [List.getElem?_zipIdx]
      simp [ho]
    obtain ⟨m1, m2⟩ := mapM_spec hls
    obtain ⟨c, hc1, hc2⟩ := m2 b _ (zi b j hj)
    simp only [Option.map_eq_some_iff] at hc2
    obtain ⟨l2, hl2, rfl⟩ := hc2
    obtain ⟨n1, n2⟩ := mapM_spec hl2
    have htake : (ord'.zipIdx.take b)[a]? = some (i, a) := by rw [List.getElem?_take, if_pos hab]; exact zi a i hi
    obtain ⟨d, hd1, hd2⟩ := n2 a _ htake
    split at hd2
    · rename_i htb
      left
      refine befT_ok ord' (List.replicate ops.size 0) ?_ j i htb
      intro k i' hk
      exfalso
      have : (List.replicate ops.size 0).getD k 0 = 0 := by
        rw [List.getD_eq_getElem?_getD, List.getElem?_replicate]
        split <;> rfl
      rw [this] at hk
      simp at hk
    · simp only [hp, hq, Option.bind_some] at hd2
      split at hd2
      · rename_i hap
        right
        refine ⟨hap, ?_⟩
        simp only [Option.some.injEq] at hd2
        split at hd2
        · rename_i hw
          simp only [Bool.or_eq_true] at hw
          rcases hw with hw | hw
          · exact .inl hw
          · exact .inr (.inl hw)
        · subst hd2
          right; right
          exact List.mem_flatten.2 ⟨_, List.mem_of_getElem? hc1, List.mem_flatten.2 ⟨_, List.mem_of_getElem? hd1, by simp⟩⟩
      · cases hd2

theorem worldless_act {call : FuncId → List AV → Option AV} {fb : Nat} {o : Oper} {s : St} {a : Act} (hw : worldless o.op = true) (h : act C call fb o s = some a) : a.sr = [] ∧ a.sw = [] := by
  have key : ∀ {x : Option AV}, (x.map fun x => ({ val := x } : Act)) = some a → a.sr = [] ∧ a.sw = [] := by
    intro x hx
    simp only [Option.map_eq_some_iff] at hx
    obtain ⟨y, _, rfl⟩ := hx
    exact ⟨rfl, rfl⟩
  obtain ⟨dst, oper, type, pos, after, guard⟩ := o
  unfold act at h
  cases oper with
  | move x => exact key h
  | assign x => exact key h
  | pick c x y =>
    simp only [Option.bind_eq_some_iff] at h
    obtain ⟨_, _, h⟩ := h
    split at h
    · exact key h
    · cases h
  | build t parts =>
    simp only at h
    split at h
    · simp only [Option.bind_eq_some_iff] at h
      obtain ⟨_, _, _, _, h⟩ := h
      exact key h
    · cases h
  | nilCheck x =>
    simp only [Option.bind_eq_some_iff] at h
    obtain ⟨_, _, h⟩ := h
    split at h <;> first | exact key h | cases h
  | binOp op xt x y yt =>
    simp only [Option.bind_eq_some_iff] at h
    obtain ⟨_, _, _, _, h⟩ := h
    exact key h
  | unOp op xt x =>
    simp only [Option.bind_eq_some_iff] at h
    obtain ⟨_, _, h⟩ := h
    exact key h
  | makeFunc fn first captured =>
    simp only at h
    split at h
    · split at h
      · simp only [Option.bind_eq_some_iff] at h
        obtain ⟨_, _, h⟩ := h
        split at h
        · exact key h
        · cases h
      · cases h
    · cases h
  | slice t x lo hi mx =>
    simp only [Option.bind_eq_some_iff] at h
    obtain ⟨_, _, _, _, _, _, _, _, h⟩ := h
    split at h
    · cases h
    · exact key h
  | fieldAddr t x f =>
    simp only [Option.bind_eq_some_iff] at h
    obtain ⟨_, _, _, _, h⟩ := h
    split at h
    · cases h
    · simp only [Option.bind_eq_some_iff] at h
      obtain ⟨_, _, h⟩ := h
      split at h <;> first | exact key h | cases h
  | field t x f =>
    simp only [Option.bind_eq_some_iff] at h
    obtain ⟨_, _, _, _, _, _, h⟩ := h
    split at h <;> first | exact key h | cases h
  | indexAddr t x i =>
    simp only [Option.bind_eq_some_iff] at h
    obtain ⟨_, _, _, _, h⟩ := h
    split at h
    · simp only [Option.bind_eq_some_iff] at h
      obtain ⟨_, _, _, _, h⟩ := h
      split at h <;> first | exact key h | cases h
    · simp only [Option.bind_eq_some_iff] at h
      obtain ⟨_, _, _, _, h⟩ := h
      split at h <;> first | exact key h | cases h
    · split at h
      · simp only [Option.bind_eq_some_iff] at h
        obtain ⟨_, _, h⟩ := h
        split at h <;> first | exact key h | cases h
      · cases h
    · cases h
  | index t x i =>
    simp only [Option.bind_eq_some_iff] at h
    obtain ⟨_, _, _, _, h⟩ := h
    split at h
    · split at h
      · simp only [Option.bind_eq_some_iff] at h
        obtain ⟨_, _, h⟩ := h
        exact key h
      · cases h
    · cases h
  | extract t i =>
    simp only [Option.bind_eq_some_iff] at h
    obtain ⟨_, _, h⟩ := h
    split at h <;> first | exact key h | cases h
  | call c =>
    obtain ⟨callee, args, ts⟩ := c
    cases callee with
    | builtin b =>
      cases b <;> simp only [worldless, Bool.false_eq_true] at hw
      simp only [Option.bind_eq_some_iff] at h
      obtain ⟨_, _, h⟩ := h
      unfold builtinA at h
      split at h
      all_goals first
        | (simp only [Option.map_eq_some_iff] at h; obtain ⟨_, _, rfl⟩ := h; exact ⟨rfl, rfl⟩)
        | (cases h; done)
        | contradiction
    | _ => simp [worldless] at hw
  | _ => simp [worldless] at hw

/-- It touches no memory. -/
def Less (a : Do) : Prop := a = .skip ∨ ∃ x, a = .act x ∧ x.sr = [] ∧ x.sw = []

theorem noConf_left {a b : Do} (h : Less a) : noConf a b = true := by
  rcases h with rfl | ⟨x, rfl, h1, h2⟩
  · cases b <;> rfl
  · cases b <;> simp [noConf, farB, h1, h2]

theorem noConf_right {a b : Do} (h : Less b) : noConf a b = true := by
  rcases h with rfl | ⟨x, rfl, h1, h2⟩
  · cases a <;> rfl
  · cases a <;> simp [noConf, farB, h1, h2]

theorem resD_less {callI : FuncId → List AV → Mem → Option (AV × Mem)} {call : FuncId → List AV → Option AV} {ops : Array Oper} {base i : Nat} {o : Oper} {s : St} {a : Do} (hw : worldless o.op = true) (h : resD C callI call ops base i o s = some a) : Less a := by
  unfold resD at h
  simp only [Option.bind_eq_some_iff] at h
  obtain ⟨b, _, h⟩ := h
  cases b with
  | false => simp at h; exact .inl h.symm
  | true =>
    simp only [if_true] at h
    have hl : loudCall C o s = none := by
      unfold loudCall
      split
      · rename_i c hop
        split
        · rename_i f hco
          rw [hop] at hw
          obtain ⟨callee, as, ts⟩ := c
          simp only at hco
          subst hco
          simp [worldless] at hw
        · rfl
      · rfl
    rw [hl] at h
    simp only [Option.map_eq_some_iff] at h
    obtain ⟨a', ha', rfl⟩ := h
    obtain ⟨h1, h2⟩ := worldless_act hw ha'
    exact .inr ⟨a', rfl, h1, h2⟩

/-- The recorded run. -/
theorem goD_run {callI : FuncId → List AV → Mem → Option (AV × Mem)} {call : FuncId → List AV → Option AV} {ops : Array Oper} {base : Nat} : ∀ (ord : List Nat) (s : St) (l : List Do) (s' : St), goD C callI call ops base ord s = some (l, s') →
    ∃ L : List Tr, RunTr C callI call ops base L s s' ∧ L.length = ord.length ∧ (∀ (j : Nat) x, L[j]? = some x → ord[j]? = some x.1 ∧ ops[x.1]? = some x.2.1 ∧ l[j]? = some x.2.2 ∧ (worldless x.2.1.op = true → Less x.2.2))
  | [], s, l, s', h => by
    simp only [goD, Option.some.injEq, Prod.mk.injEq] at h
    obtain ⟨rfl, rfl⟩ := h
    exact ⟨[], .nil _, rfl, fun j x hx => by simp at hx⟩
  | i :: r, s, l, s', h => by
    simp only [goD, Option.bind_eq_some_iff, Option.map_eq_some_iff, Prod.exists, Prod.mk.injEq] at h
    obtain ⟨o, ho, a, ha, l1, s1, h1, rfl, rfl⟩ := h
    obtain ⟨L, hr, hl1, hL⟩ := goD_run r _ l1 s1 h1
    refine ⟨(i, o, a) :: L, .cons ha hr, by simp [hl1], fun j x hx => ?_⟩
    cases j with
    | zero =>
      simp only [List.getElem?_cons_zero, Option.some.injEq] at hx
      subst hx
      exact ⟨rfl, ho, rfl, fun hw => resD_less hw ha⟩
    | succ j =>
      simp only [List.getElem?_cons_succ] at hx ⊢
      exact hL j x hx

theorem runD_wp {callI : FuncId → List AV → Mem → Option (AV × Mem)} {call : FuncId → List AV → Option AV} (H : Hyps2 C callI call) (hm : C.P.follows .mixedOrders = true) {n id : Nat} {ops : Array Oper} (hdst : ∀ o ∈ ops.toList, ∀ d, o.dst = some d → d < n) {A : _root_.Go.Act} {s s' : St}
    (h : runD C callI call ops s = some s') (hs : Sim C n G A w s) {Q : Exit → _root_.Go.Act → World → Prop} (hq : ∀ A' w', After C n G w A s.nid s' A' w' → Q .normal A' w') : (Code.region id ops true).wp C.P Q A w := by
  unfold runD at h
  simp only [Option.bind_eq_some_iff, Prod.exists] at h
  obtain ⟨ord, ps, hps, l, s1, hgo, h⟩ := h
  split at h
  · rename_i hall
    simp only [Option.some.injEq] at h
    subst h
    obtain ⟨hback, hin, hlo, hpairs⟩ := planD_spec hps
    obtain ⟨b1, b2, b3⟩ := back_spec ord hback
    obtain ⟨L, hr, hl1, hget⟩ := goD_run ord _ l s1 hgo
    have hpw : ∀ (R : Tr → Tr → Prop), (∀ (i j : Nat) x y, i < j → L[i]? = some x → L[j]? = some y → R x y) → L.Pairwise R := by
      intro R hR
      rw [List.pairwise_iff_getElem]
      intro i j hi hj hij
      exact hR i j _ _ hij (List.getElem?_eq_getElem hi) (List.getElem?_eq_getElem hj)
    have hpo : ∀ {R : Nat → Nat → Prop}, ord.Pairwise R → ∀ (i j : Nat) x y, i < j → ord[i]? = some x → ord[j]? = some y → R x y := by
      intro R hR i j x y hij hx hy
      obtain ⟨hi, rfl⟩ := List.getElem?_eq_some_iff.1 hx
      obtain ⟨hj, rfl⟩ := List.getElem?_eq_some_iff.1 hy
      exact List.pairwise_iff_getElem.1 hR i j hi hj hij
    have hmem : ∀ x ∈ L, ∃ i : Nat, L[i]? = some x ∧ ord[i]? = some x.1 ∧ ops[x.1]? = some x.2.1 := by
      intro x hx
      obtain ⟨i, hi, rfl⟩ := List.mem_iff_getElem.1 hx
      obtain ⟨e1, e2, _⟩ := hget i _ (List.getElem?_eq_getElem hi)
      exact ⟨i, List.getElem?_eq_getElem hi, e1, e2⟩
    refine wp_region_any hm ?_
    have hdrewSim : Sim C n G A { w with drawn := w.drawn + 1 } { s with nid := s.nid + ops.size } := ⟨hs.env, (inv_drew hs.inv).more (Nat.le_add_right _ _), ⟨hs.ctx.glob, hs.ctx.tabs⟩, hs.size⟩
    have hext : Ext G w G { w with drawn := w.drawn + 1 } := ⟨fun _ => List.prefix_refl _, fun _ _ _ h => h, rfl, rfl, rfl, Nat.le_refl _, fun _ _ _ => ⟨rfl, rfl⟩, fun id g b x h _ => ⟨id, g, x, h⟩⟩
    refine drawn H hdst (base := s.nid) ops.size L _ G A _ _ (hl1.trans hlo) ⟨by simp, fun x hx => (hmem x hx).choose_spec.2.2, fun x hx => ?_, fun j hj => ?_, ?_, ?_, fun x hx e he hb => ?_, fun j o hj ho => ?_⟩ hr ?_ hdrewSim ?_ (Nat.le_refl _) (fun A' w' ⟨G', q1, q2, q3, q4, q5⟩ => hq A' w' ⟨G', q1, hext.trans q2, q3, q4, q5⟩)
    · obtain ⟨i, _, _, e2⟩ := hmem x hx
      have : x.1 < ops.size := (Array.getElem?_eq_some_iff.1 e2).1
      simp [this]
    · have hlt : j < ops.size := by
        rcases Nat.lt_or_ge j ops.size with h' | h'
        · exact h'
        · simp [h'] at hj
      obtain ⟨i, hi, hij⟩ := List.mem_iff_getElem.1 (hin j hlt)
      have hil : i < L.length := by omega
      obtain ⟨e1, _⟩ := hget i _ (List.getElem?_eq_getElem hil)
      refine ⟨_, List.getElem_mem hil, ?_⟩
      rw [List.getElem?_eq_getElem hi, hij] at e1
      exact (Option.some.inj e1).symm
    · exact hpw _ (fun i j x y hij hx hy => hpo b1 i j _ _ hij (hget i x hx).1 (hget j y hy).1)
    · exact hpw _ (fun i j x y hij hx hy => hpo b2 i j _ _ hij (hget i x hx).1 (hget j y hy).1 _ (hget i x hx).2.1)
    · obtain ⟨i, _, e1, e2⟩ := hmem x hx
      exact (b3 x.1 (List.mem_of_getElem? e1)).2 _ e2 e he hb
    · exfalso
      rw [Array.getD_eq_getD_getElem?, Array.getElem?_replicate] at hj
      split at hj <;> simp at hj
    · refine hpw _ (fun i j x y hij hx hy => ?_)
      obtain ⟨x1, x2, x3, x4⟩ := hget i x hx
      obtain ⟨y1, y2, y3, y4⟩ := hget j y hy
      unfold PairOk
      rcases hpairs i j _ _ _ _ hij x1 y1 x2 y2 with hord | ⟨hap, hw⟩
      · exact .inl hord
      · right
        refine ⟨hap, ?_⟩
        rcases hw with hw | hw | hw
        · exact noConf_left (x4 hw)
        · exact noConf_right (y4 hw)
        · have := List.all_eq_true.1 hall _ hw
          simp only [List.getD_eq_getElem?_getD, x3, y3, Option.getD_some] at this
          exact this
    · intro x hx g
      cases hT : G.T (s.nid + x.1) g with
      | none => rfl
      | some y => have := (hs.inv.dom _ _ _ hT).1; omega
  · cases h

theorem Sem_ok_ret {n : Nat} : True := trivial

def PostW (C : Ctx) (n : Nat) (G : Gh) (w : World) (A : _root_.Go.Act) (n0 : Nat) (e : Ex) (s' : St) (e' : Exit) (A' : _root_.Go.Act) (w' : World) : Prop := e' = exOf e ∧ After C n G w A n0 s' A' w'

theorem After.trans {n n0 n1 : Nat} {A A1 A2 : _root_.Go.Act} {w1 w2 : World} {s2 : St} {G1 : Gh} (he : Ext G w G1 w1) (hd : A1.defers = A.defers) (hn : NewIn n0 G G1) (hl : n0 ≤ n1) (h : After C n G1 w1 A1 n1 s2 A2 w2) : After C n G w A n0 s2 A2 w2 := by
  obtain ⟨G2, h1, h2, h3, h4, h5⟩ := h
  exact ⟨G2, h1, he.trans h2, h3.trans hd, NewIn.trans he.T hn h4 hl, Nat.le_trans hl h5⟩

theorem least {p : Nat → Prop} (h : ∃ n, p n) : ∃ n, p n ∧ ∀ m, p m → n ≤ m := by
  obtain ⟨n, hn⟩ := h
  induction n using Nat.strongRecOn with
  | _ n ih =>
    by_cases hx : ∃ m, m < n ∧ p m
    · obtain ⟨m, hm, hp⟩ := hx
      exact ih m hm hp
    · exact ⟨n, hn, fun m hp => Nat.le_of_not_lt (fun hlt => hx ⟨m, hlt, hp⟩)⟩

open Classical in
/-- WHAT CODE COMES TO. -/
theorem evc_wp {callI : FuncId → List AV → Mem → Option (AV × Mem)} {call : FuncId → List AV → Option AV} (H : Hyps2 C callI call) (hm : C.P.follows .mixedOrders = true) {n k : Nat} : ∀ (c : Code), codeOk n c = true → ∀ (G : Gh) (A : _root_.Go.Act) (w : World) (s s' : St) (e : Ex), evc C callI call (fun b s => loopN b k s) c s = some (e, s') → Sim C n G A w s →
    c.wp C.P (PostW C n G w A s.nid e s') A w := by
  intro c
  induction c with
  | skip =>
    intro _ G A w s s' e h hs
    simp only [evc, Option.some.injEq, Prod.mk.injEq] at h
    obtain ⟨rfl, rfl⟩ := h
    exact wp_skip ⟨rfl, After.refl hs (Nat.le_refl _)⟩
  | region id ops dr =>
    intro hok G A w s s' e h hs
    have hdst := codeOk_dst hok
    cases dr with
    | true =>
      simp only [evc, regS, Option.map_eq_some_iff, Prod.mk.injEq] at h
      obtain ⟨s1, h1, rfl, rfl⟩ := h
      exact runD_wp H hm hdst h1 hs (fun A' w' ha => ⟨rfl, ha⟩)
    | false =>
      simp only [evc, regS, Option.map_eq_some_iff, Prod.mk.injEq] at h
      obtain ⟨s1, h1, rfl, rfl⟩ := h
      refine wp_region ?_
      have := runT_wp H hdst (Q := PostW C n G w A s.nid .normal s1) ops.size 0 G A w s (by omega) (by simpa using h1) hs (fun A' w' ha => ⟨rfl, ha⟩)
      rw [List.range_eq_range']
      exact this
  | seq a b iha ihb =>
    intro hok G A w s s' e h hs
    simp only [codeOk, Bool.and_eq_true] at hok
    simp only [evc] at h
    cases h1 : evc C callI call (fun b s => loopN b k s) a s with
    | none => rw [h1] at h; cases h
    | some x =>
      obtain ⟨e1, s1⟩ := x
      rw [h1] at h
      refine wp_seq (wp_mono (iha hok.1 G A w s s1 e1 h1 hs) ?_)
      rintro ex A1 w1 ⟨rfl, G1, hs1, he1, hd1, hn1, hl1⟩
      cases e1 with
      | normal =>
        simp only [thenS] at h
        exact wp_mono (ihb hok.2 G1 A1 w1 s1 s' e h hs1) (fun e' A2 w2 ⟨p1, p2⟩ => ⟨p1, After.trans he1 hd1 hn1 hl1 p2⟩)
      | exit n' =>
        simp only [thenS, Option.some.injEq, Prod.mk.injEq] at h
        obtain ⟨rfl, rfl⟩ := h
        exact ⟨rfl, G1, hs1, he1, hd1, hn1, hl1⟩
      | ret =>
        simp only [thenS, Option.some.injEq, Prod.mk.injEq] at h
        obtain ⟨rfl, rfl⟩ := h
        exact ⟨rfl, G1, hs1, he1, hd1, hn1, hl1⟩
  | cond c a b iha ihb =>
    intro hok G A w s s' e h hs
    simp only [codeOk, Bool.and_eq_true] at hok
    simp only [evc, condS] at h
    split at h
    · rename_i t hc
      have hv := rep_bool (opd_rep hs.env hs.ctx hc)
      refine wp_cond hv ?_
      cases t with
      | true =>
        simp only [if_true] at h ⊢
        exact iha hok.1 G A w s s' e h hs
      | false =>
        simp only [Bool.false_eq_true, if_false] at h ⊢
        exact ihb hok.2 G A w s s' e h hs
    · cases h
  | block id a iha =>
    intro hok G A w s s' e h hs
    simp only [codeOk] at hok
    simp only [evc] at h
    cases h1 : evc C callI call (fun b s => loopN b k s) a s with
    | none => rw [h1] at h; cases h
    | some x =>
      obtain ⟨e1, s1⟩ := x
      rw [h1] at h
      refine wp_block (wp_mono (iha hok G A w s s1 e1 h1 hs) ?_)
      rintro ex A1 w1 ⟨rfl, ha⟩
      cases e1 with
      | normal =>
        simp only [blockS, Option.some.injEq, Prod.mk.injEq] at h
        obtain ⟨rfl, rfl⟩ := h
        exact ⟨rfl, ha⟩
      | ret =>
        simp only [blockS, Option.some.injEq, Prod.mk.injEq] at h
        obtain ⟨rfl, rfl⟩ := h
        exact ⟨rfl, ha⟩
      | exit n' =>
        simp only [blockS] at h
        simp only [exOf, Exit.inBlock]
        by_cases hn : n' = id
        · subst hn
          rw [if_pos rfl] at h ⊢
          simp only [Option.some.injEq, Prod.mk.injEq] at h
          obtain ⟨rfl, rfl⟩ := h
          exact ⟨rfl, ha⟩
        · rw [if_neg hn] at h ⊢
          simp only [Option.some.injEq, Prod.mk.injEq] at h
          obtain ⟨rfl, rfl⟩ := h
          exact ⟨rfl, ha⟩
  | loop a iha =>
    intro hok G A w s s' e h hs
    simp only [codeOk] at hok
    simp only [evc] at h
    let J : Nat → _root_.Go.Act → World → Prop := fun j A1 w1 => ∃ G1 s1, loopN (evc C callI call (fun b s => loopN b k s) a) j s1 = some (e, s') ∧ Sim C n G1 A1 w1 s1 ∧ Ext G w G1 w1 ∧ A1.defers = A.defers ∧ NewIn s.nid G G1 ∧ s.nid ≤ s1.nid
    let μ : _root_.Go.Act → World → Nat := fun A1 w1 => if h : ∃ j, J j A1 w1 then (least h).choose else 0
    refine wp_loop (fun A1 w1 => ∃ j, J j A1 w1) μ ⟨k, G, s, h, hs, Ext.refl _ _, rfl, NewIn.refl _ _, Nat.le_refl _⟩ ?_
    rintro A1 w1 hI
    have hμ : μ A1 w1 = (least hI).choose := dif_pos hI
    obtain ⟨G1, s1, hl, hs1, he1, hd1, hn1, hl1⟩ := (least hI).choose_spec.1
    rw [← hμ] at hl
    cases hk : μ A1 w1 with
    | zero => rw [hk] at hl; simp [loopN] at hl
    | succ j =>
      rw [hk] at hl
      simp only [loopN, Option.bind_eq_some_iff, Prod.exists] at hl
      obtain ⟨e2, s2, h2, h3⟩ := hl
      refine wp_mono (iha hok G1 A1 w1 s1 s2 e2 h2 hs1) ?_
      rintro ex A2 w2 ⟨rfl, G2, hs2, he2, hd2, hn2, hl2⟩
      cases e2 with
      | normal =>
        simp only at h3
        have hJ : J j A2 w2 := ⟨G2, s2, h3, hs2, he1.trans he2, hd2.trans hd1, NewIn.trans he1.T hn1 hn2 hl1, Nat.le_trans hl1 hl2⟩
        refine ⟨⟨j, hJ⟩, ?_⟩
        have hex : ∃ j, J j A2 w2 := ⟨j, hJ⟩
        have h5 : μ A2 w2 = (least hex).choose := dif_pos hex
        rw [h5]
        exact Nat.lt_of_le_of_lt ((least hex).choose_spec.2 j hJ) (Nat.lt_succ_self j)
      | exit n' =>
        simp only [Option.some.injEq, Prod.mk.injEq] at h3
        obtain ⟨rfl, rfl⟩ := h3
        exact ⟨rfl, G2, hs2, he1.trans he2, hd2.trans hd1, NewIn.trans he1.T hn1 hn2 hl1, Nat.le_trans hl1 hl2⟩
      | ret =>
        simp only [Option.some.injEq, Prod.mk.injEq] at h3
        obtain ⟨rfl, rfl⟩ := h3
        exact ⟨rfl, G2, hs2, he1.trans he2, hd2.trans hd1, NewIn.trans he1.T hn1 hn2 hl1, Nat.le_trans hl1 hl2⟩
  | exit id =>
    intro _ G A w s s' e h hs
    simp only [evc, Option.some.injEq, Prod.mk.injEq] at h
    obtain ⟨rfl, rfl⟩ := h
    exact wp_exit ⟨rfl, After.refl hs (Nat.le_refl _)⟩
  | ret =>
    intro _ G A w s s' e h hs
    simp only [evc, Option.some.injEq, Prod.mk.injEq] at h
    obtain ⟨rfl, rfl⟩ := h
    exact wp_ret ⟨rfl, After.refl hs (Nat.le_refl _)⟩
  | rangeFunc f ps a b iha ihb => intro _ G A w s s' e h hs; simp [evc] at h
  | scope a iha => intro _ G A w s s' e h hs; simp [evc] at h
  | label l => intro _ G A w s s' e h hs; simp [evc] at h
  | goto l => intro _ G A w s s' e h hs; simp [evc] at h
  | refuse y => intro _ G A w s s' e h hs; simp [evc] at h

end Go.Ev
