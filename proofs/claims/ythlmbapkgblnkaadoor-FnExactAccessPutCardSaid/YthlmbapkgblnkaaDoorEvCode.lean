/- Part of the proof of a statement about the given program: EvCode EvFun EvLim. No condition of its own. -/
import Derived.Test.YthlmbapkgblnkaaDoorEvDraw
section
namespace Go.Ev
set_option linter.unusedVariables false
set_option linter.unusedSimpArgs false
variable {C : Ctx} {G : Gh} {w : World} {m : Mem}

theorem mask_spec {look : Nat → Nat} {i : Nat} : ∀ (l : List Edge), (maskOf look l).testBit i = true → ∃ e ∈ l, Region.binds .any e = true ∧ (e.on = i ∨ (look e.on).testBit i = true)
  | [], h => by simp [maskOf] at h
  | e :: l, h => by
    have ih := mask_spec (look := look) (i := i) l
    have hu : maskOf look (e :: l) = if Region.binds .any e = true then (1 <<< e.on) ||| look e.on ||| maskOf look l else maskOf look l := rfl
    rw [hu] at h
    split at h
    · rename_i hb
      simp only [Nat.testBit_or, Bool.or_eq_true, Nat.one_shiftLeft, Nat.testBit_two_pow, decide_eq_true_eq] at h
      rcases h with (h | h) | h
      · exact ⟨e, List.mem_cons_self .., hb, .inl h⟩
      · exact ⟨e, List.mem_cons_self .., hb, .inr h⟩
      · obtain ⟨e', h1, h2, h3⟩ := ih h
        exact ⟨e', List.mem_cons_of_mem _ h1, h2, h3⟩
    · obtain ⟨e', h1, h2, h3⟩ := ih h
      exact ⟨e', List.mem_cons_of_mem _ h1, h2, h3⟩

def TblOk (ops : Array Oper) (tbl : List Nat) : Prop := ∀ j i, (tbl.getD j 0).testBit i = true → Before ops i j

theorem befT_ok {ops : Array Oper} : ∀ (l tbl : List Nat), TblOk ops tbl → TblOk ops (befT ops l tbl)
  | [], tbl, h => h
  | j :: l, tbl, h => by
    refine befT_ok l _ ?_
    intro k i hk
    by_cases hjk : j = k
    · subst hjk
      simp only [List.getD_eq_getElem?_getD, List.getElem?_set, if_true] at hk
      split at hk
      · simp only [Option.getD_some] at hk
        obtain ⟨e, he, hb, hc⟩ := mask_spec _ hk
        cases ho : ops[j]? with
        | none => rw [ho] at he; simp at he
        | some o =>
          rw [ho] at he
          simp only [Option.map_some, Option.getD_some, Array.mem_toList_iff] at he
          rcases hc with hc | hc
          · exact .one ho he hb hc
          · exact .step ho he hb (h _ _ (by simpa [List.getD_eq_getElem?_getD] using hc))
      · simp at hk
    · simp only [List.getD_eq_getElem?_getD, List.getElem?_set, if_neg hjk] at hk
      exact h k i (by simpa [List.getD_eq_getElem?_getD] using hk)

theorem back_spec {ops : Array Oper} : ∀ (l : List Nat), backOk ops l = true → l.Pairwise (· ≠ ·) ∧ l.Pairwise (fun i j => ∀ o, ops[i]? = some o → ¬ Needs j o) ∧ ∀ i ∈ l, i < ops.size ∧ ∀ o, ops[i]? = some o → ∀ e ∈ o.after, Region.binds .any e = true → e.on < ops.size ∧ e.on ≠ i
  | [], _ => ⟨.nil, .nil, fun i hi => (by cases hi)⟩
  | i :: l, h => by
    simp only [backOk, Bool.and_eq_true, decide_eq_true_eq, Bool.not_eq_true'] at h
    obtain ⟨⟨⟨h1, h2⟩, h3⟩, h4⟩ := h
    obtain ⟨k1, k2, k3⟩ := back_spec l h4
    have edge : ∀ o, ops[i]? = some o → ∀ e ∈ o.after, Region.binds .any e = true → e.on < ops.size ∧ e.on ≠ i ∧ e.on ∉ l := by
      intro o ho e he hb
      rw [ho] at h1
      simp only [Option.map_some, Option.getD_some, List.all_eq_true, Array.mem_toList_iff, Bool.or_eq_true, Bool.not_eq_true', Bool.and_eq_true, decide_eq_true_eq, bne_iff_ne, ne_eq, List.contains_eq_mem, decide_eq_false_iff_not] at h1
      rcases h1 e he with hx | ⟨⟨hx, hy⟩, hz⟩
      · rw [hb] at hx; cases hx
      · exact ⟨hx, hy, hz⟩
    have hnl : i ∉ l := by simpa using h2
    refine ⟨List.pairwise_cons.2 ⟨fun j hj e => hnl (e ▸ hj), k1⟩, List.pairwise_cons.2 ⟨fun j hj o ho ⟨e, he, hb, hon⟩ => (edge o ho e he hb).2.2 (hon ▸ hj), k2⟩, fun j hj => ?_⟩
    rcases List.mem_cons.1 hj with rfl | hj
    · exact ⟨h3, fun o ho e he hb => ⟨(edge o ho e he hb).1, (edge o ho e he hb).2.1⟩⟩
    · exact k3 j hj

theorem planD_spec {ops : Array Oper} {ord : List Nat} {ps : List (Nat × Nat)} (h : planD ops = some (ord, ps)) : backOk ops ord = true ∧ (∀ j, j < ops.size → j ∈ ord) ∧ ord.length = ops.size ∧
    ∀ (a b i j : Nat) (p q : Oper), a < b → ord[a]? = some i → ord[b]? = some j → ops[i]? = some p → ops[j]? = some q → Before ops i j ∨ (p.apart ops q = true ∧ (worldless p.op = true ∨ worldless q.op = true ∨ (a, b) ∈ ps)) := by
  unfold planD at h
  dsimp only at h
  generalize hord : topoK ops ops.size [] = ord' at h
  split at h
  · cases h
  · rename_i hb
    simp only [Bool.not_eq_true', Bool.not_eq_false, Bool.and_eq_true, List.all_eq_true, List.mem_range, List.contains_eq_mem, decide_eq_true_eq, beq_iff_eq] at hb
    obtain ⟨⟨hb1, hb2⟩, hb3⟩ := hb
    simp only [Option.map_eq_some_iff, Prod.mk.injEq] at h
    obtain ⟨ps', ⟨ls, hls, hps⟩, hoo, hpp⟩ := h
    subst hoo hpp hps
    refine ⟨hb1, hb2, hb3, fun a b i j p q hab hi hj hp hq => ?_⟩
    have zi : ∀ (a i : Nat), ord'[a]? = some i → ord'.zipIdx[a]? = some (i, a) := by
      intro a i ho
      rw [List.getElem?_zipIdx]
      simp [ho]
    obtain ⟨m1, m2⟩ := mapM_spec hls
    obtain ⟨c, hc1, hc2⟩ := m2 b _ (zi b j hj)
    simp only [Option.map_eq_some_iff] at hc2
    obtain ⟨l2, hl2, rfl⟩ := hc2
    obtain ⟨n1, n2⟩ := mapM_spec hl2
    have htake : (ord'.zipIdx.take b)[a]? = some (i, a) := by rw [List.getElem?_take, if_pos hab]; exact zi a i hi
    obtain ⟨d, hd1, hd2⟩ := n2 a _ htake
    split at hd2
    · rename_i htb
      left
      refine befT_ok ord' (List.replicate ops.size 0) ?_ j i htb
      intro k i' hk
      exfalso
      have : (List.replicate ops.size 0).getD k 0 = 0 := by
        rw [List.getD_eq_getElem?_getD, List.getElem?_replicate]
        split <;> rfl
      rw [this] at hk
      simp at hk
    · simp only [hp, hq, Option.bind_some] at hd2
      split at hd2
      · rename_i hap
        right
        refine ⟨hap, ?_⟩
        simp only [Option.some.injEq] at hd2
        split at hd2
        · rename_i hw
          simp only [Bool.or_eq_true] at hw
          rcases hw with hw | hw
          · exact .inl hw
          · exact .inr (.inl hw)
        · subst hd2
          right; right
          exact List.mem_flatten.2 ⟨_, List.mem_of_getElem? hc1, List.mem_flatten.2 ⟨_, List.mem_of_getElem? hd1, by simp⟩⟩
      · cases hd2

theorem worldless_act {call : FuncId → List AV → Option AV} {fb : Nat} {o : Oper} {s : St} {a : Act} (hw : worldless o.op = true) (h : act C call fb o s = some a) : a.sr = [] ∧ a.sw = [] := by
  have key : ∀ {x : Option AV}, (x.map fun x => ({ val := x } : Act)) = some a → a.sr = [] ∧ a.sw = [] := by
    intro x hx
    simp only [Option.map_eq_some_iff] at hx
    obtain ⟨y, _, rfl⟩ := hx
    exact ⟨rfl, rfl⟩
  obtain ⟨dst, oper, type, pos, after, guard⟩ := o
  unfold act at h
  cases oper with
  | move x => exact key h
  | assign x => exact key h
  | pick c x y =>
    simp only [Option.bind_eq_some_iff] at h
    obtain ⟨_, _, h⟩ := h
    split at h
    · exact key h
    · cases h
  | build t parts =>
    simp only at h
    split at h
    · simp only [Option.bind_eq_some_iff] at h
      obtain ⟨_, _, _, _, h⟩ := h
      exact key h
    · cases h
  | nilCheck x =>
    simp only [Option.bind_eq_some_iff] at h
    obtain ⟨_, _, h⟩ := h
    split at h <;> first | exact key h | cases h
  | binOp op xt x y yt =>
    simp only [Option.bind_eq_some_iff] at h
    obtain ⟨_, _, _, _, h⟩ := h
    exact key h
  | unOp op xt x =>
    simp only [Option.bind_eq_some_iff] at h
    obtain ⟨_, _, h⟩ := h
    exact key h
  | makeInterface t x =>
    simp only [Option.bind_eq_some_iff] at h
    obtain ⟨_, _, h⟩ := h
    split at h <;> first | exact key h | cases h
  | makeFunc fn first captured =>
    simp only at h
    split at h
    · split at h
      · simp only [Option.bind_eq_some_iff] at h
        obtain ⟨_, _, h⟩ := h
        split at h
        · exact key h
        · cases h
      · cases h
    · cases h
  | slice t x lo hi mx =>
    simp only [Option.bind_eq_some_iff] at h
    obtain ⟨_, _, _, _, _, _, _, _, h⟩ := h
    split at h
    · cases h
    · exact key h
  | fieldAddr t x f =>
    simp only [Option.bind_eq_some_iff] at h
    obtain ⟨_, _, _, _, h⟩ := h
    split at h
    · cases h
    · simp only [Option.bind_eq_some_iff] at h
      obtain ⟨_, _, h⟩ := h
      split at h <;> first | exact key h | cases h
  | field t x f =>
    simp only [Option.bind_eq_some_iff] at h
    obtain ⟨_, _, _, _, _, _, h⟩ := h
    split at h <;> first | exact key h | cases h
  | indexAddr t x i =>
    simp only [Option.bind_eq_some_iff] at h
    obtain ⟨_, _, _, _, h⟩ := h
    split at h
    · simp only [Option.bind_eq_some_iff] at h
      obtain ⟨_, _, _, _, h⟩ := h
      split at h <;> first | exact key h | cases h
    · simp only [Option.bind_eq_some_iff] at h
      obtain ⟨_, _, _, _, h⟩ := h
      split at h <;> first | exact key h | cases h
    · split at h
      · simp only [Option.bind_eq_some_iff] at h
        obtain ⟨_, _, h⟩ := h
        split at h <;> first | exact key h | cases h
      · cases h
    · split at h
      · simp only [Option.bind_eq_some_iff] at h
        obtain ⟨_, _, h⟩ := h
        split at h <;> first | exact key h | cases h
      · cases h
    · cases h
  | index t x i =>
    simp only [Option.bind_eq_some_iff] at h
    obtain ⟨_, _, _, _, h⟩ := h
    split at h
    · split at h
      · simp only [Option.bind_eq_some_iff] at h
        obtain ⟨_, _, h⟩ := h
        exact key h
      · cases h
    · cases h
  | extract t i =>
    simp only [Option.bind_eq_some_iff] at h
    obtain ⟨_, _, h⟩ := h
    split at h <;> first | exact key h | cases h
  | call c =>
    obtain ⟨callee, args, ts⟩ := c
    cases callee with
    | builtin b =>
      cases b <;> simp only [worldless, Bool.false_eq_true] at hw
      simp only [Option.bind_eq_some_iff] at h
      obtain ⟨_, _, h⟩ := h
      unfold builtinA at h
      split at h
      all_goals first
        | (simp only [Option.map_eq_some_iff] at h; obtain ⟨_, _, rfl⟩ := h; exact ⟨rfl, rfl⟩)
        | (cases h; done)
        | contradiction
    | _ => simp [worldless] at hw
  | _ => simp [worldless] at hw

/-- It touches no memory. -/
def Less (a : Do) : Prop := a = .skip ∨ ∃ x, a = .act x ∧ x.sr = [] ∧ x.sw = []

theorem noConf_left {a b : Do} (h : Less a) : noConf a b = true := by
  rcases h with rfl | ⟨x, rfl, h1, h2⟩
  · cases b <;> rfl
  · cases b <;> simp [noConf, farB, h1, h2]

theorem noConf_right {a b : Do} (h : Less b) : noConf a b = true := by
  rcases h with rfl | ⟨x, rfl, h1, h2⟩
  · cases a <;> rfl
  · cases a <;> simp [noConf, farB, h1, h2]

theorem resD_less {callI : FuncId → List AV → Mem → Option (AV × Mem)} {call : FuncId → List AV → Option AV} {ops : Array Oper} {base i : Nat} {o : Oper} {s : St} {a : Do} (hw : worldless o.op = true) (h : resD C callI call ops base i o s = some a) : Less a := by
  unfold resD at h
  simp only [Option.bind_eq_some_iff] at h
  obtain ⟨b, _, h⟩ := h
  cases b with
  | false => simp at h; exact .inl h.symm
  | true =>
    simp only [if_true] at h
    have hl : loudCall C o s = none := by
      unfold loudCall
      split
      · rename_i c hop
        split
        · rename_i f hco
          rw [hop] at hw
          obtain ⟨callee, as, ts⟩ := c
          simp only at hco
          subst hco
          simp [worldless] at hw
        · rfl
      · rfl
    rw [hl] at h
    simp only [Option.map_eq_some_iff] at h
    obtain ⟨a', ha', rfl⟩ := h
    obtain ⟨h1, h2⟩ := worldless_act hw ha'
    exact .inr ⟨a', rfl, h1, h2⟩

/-- The recorded run. -/
theorem goD_run {callI : FuncId → List AV → Mem → Option (AV × Mem)} {call : FuncId → List AV → Option AV} {ops : Array Oper} {base : Nat} : ∀ (ord : List Nat) (s : St) (l : List Do) (s' : St), goD C callI call ops base ord s = some (l, s') →
    ∃ L : List Tr, RunTr C callI call ops base L s s' ∧ L.length = ord.length ∧ (∀ (j : Nat) x, L[j]? = some x → ord[j]? = some x.1 ∧ ops[x.1]? = some x.2.1 ∧ l[j]? = some x.2.2 ∧ (worldless x.2.1.op = true → Less x.2.2))
  | [], s, l, s', h => by
    simp only [goD, Option.some.injEq, Prod.mk.injEq] at h
    obtain ⟨rfl, rfl⟩ := h
    exact ⟨[], .nil _, rfl, fun j x hx => by simp at hx⟩
  | i :: r, s, l, s', h => by
    simp only [goD, Option.bind_eq_some_iff, Option.map_eq_some_iff, Prod.exists, Prod.mk.injEq] at h
    obtain ⟨o, ho, a, ha, l1, s1, h1, rfl, rfl⟩ := h
    obtain ⟨L, hr, hl1, hL⟩ := goD_run r _ l1 s1 h1
    refine ⟨(i, o, a) :: L, .cons ha hr, by simp [hl1], fun j x hx => ?_⟩
    cases j with
    | zero =>
      simp only [List.getElem?_cons_zero, Option.some.injEq] at hx
      subst hx
      exact ⟨rfl, ho, rfl, fun hw => resD_less hw ha⟩
    | succ j =>
      simp only [List.getElem?_cons_succ] at hx ⊢
      exact hL j x hx

theorem runD_wp {callI : FuncId → List AV → Mem → Option (AV × Mem)} {call : FuncId → List AV → Option AV} (H : Hyps2 C callI call) (hm : C.P.follows .mixedOrders = true) {n id : Nat} {ops : Array Oper} (hdst : ∀ o ∈ ops.toList, ∀ d, o.dst = some d → d < n) {A : _root_.Go.Act} {s s' : St}
    (h : runD C callI call ops s = some s') (hs : Sim C n G A w s) {Q : Exit → _root_.Go.Act → World → Prop} (hq : ∀ A' w', After C n G w A s.nid s' A' w' → Q .normal A' w') : (Code.region id ops true).wp C.P Q A w := by
  unfold runD at h
  simp only [Option.bind_eq_some_iff, Prod.exists] at h
  obtain ⟨ord, ps, hps, l, s1, hgo, h⟩ := h
  split at h
  · rename_i hall
    simp only [Option.some.injEq] at h
    subst h
    obtain ⟨hback, hin, hlo, hpairs⟩ := planD_spec hps
    obtain ⟨b1, b2, b3⟩ := back_spec ord hback
    obtain ⟨L, hr, hl1, hget⟩ := goD_run ord _ l s1 hgo
    have hpw : ∀ (R : Tr → Tr → Prop), (∀ (i j : Nat) x y, i < j → L[i]? = some x → L[j]? = some y → R x y) → L.Pairwise R := by
      intro R hR
      rw [List.pairwise_iff_getElem]
      intro i j hi hj hij
      exact hR i j _ _ hij (List.getElem?_eq_getElem hi) (List.getElem?_eq_getElem hj)
    have hpo : ∀ {R : Nat → Nat → Prop}, ord.Pairwise R → ∀ (i j : Nat) x y, i < j → ord[i]? = some x → ord[j]? = some y → R x y := by
      intro R hR i j x y hij hx hy
      obtain ⟨hi, rfl⟩ := List.getElem?_eq_some_iff.1 hx
      obtain ⟨hj, rfl⟩ := List.getElem?_eq_some_iff.1 hy
      exact List.pairwise_iff_getElem.1 hR i j hi hj hij
    have hmem : ∀ x ∈ L, ∃ i : Nat, L[i]? = some x ∧ ord[i]? = some x.1 ∧ ops[x.1]? = some x.2.1 := by
      intro x hx
      obtain ⟨i, hi, rfl⟩ := List.mem_iff_getElem.1 hx
      obtain ⟨e1, e2, _⟩ := hget i _ (List.getElem?_eq_getElem hi)
      exact ⟨i, List.getElem?_eq_getElem hi, e1, e2⟩
    refine wp_region_any hm ?_
    have hdrewSim : Sim C n G A { w with drawn := w.drawn + 1 } { s with nid := s.nid + ops.size } := ⟨hs.env, (inv_drew hs.inv).more (Nat.le_add_right _ _), ⟨hs.ctx.glob, hs.ctx.tabs⟩, hs.size⟩
    have hext : Ext G w G { w with drawn := w.drawn + 1 } := ⟨fun _ => List.prefix_refl _, fun _ _ _ h => h, rfl, rfl, rfl, Nat.le_refl _, fun _ _ _ => ⟨rfl, rfl⟩, fun id g b x h _ => ⟨id, g, x, h⟩⟩
    refine drawn H hdst (base := s.nid) ops.size L _ G A _ _ (hl1.trans hlo) ⟨by simp, fun x hx => (hmem x hx).choose_spec.2.2, fun x hx => ?_, fun j hj => ?_, ?_, ?_, fun x hx e he hb => ?_, fun j o hj ho => ?_⟩ hr ?_ hdrewSim ?_ (Nat.le_refl _) (fun A' w' ⟨G', q1, q2, q3, q4, q5⟩ => hq A' w' ⟨G', q1, hext.trans q2, q3, q4, q5⟩)
    · obtain ⟨i, _, _, e2⟩ := hmem x hx
      have : x.1 < ops.size := (Array.getElem?_eq_some_iff.1 e2).1
      simp [this]
    · have hlt : j < ops.size := by
        rcases Nat.lt_or_ge j ops.size with h' | h'
        · exact h'
        · simp [h'] at hj
      obtain ⟨i, hi, hij⟩ := List.mem_iff_getElem.1 (hin j hlt)
      have hil : i < L.length := by omega
      obtain ⟨e1, _⟩ := hget i _ (List.getElem?_eq_getElem hil)
      refine ⟨_, List.getElem_mem hil, ?_⟩
      rw [List.getElem?_eq_getElem hi, hij] at e1
      exact (Option.some.inj e1).symm
    · exact hpw _ (fun i j x y hij hx hy => hpo b1 i j _ _ hij (hget i x hx).1 (hget j y hy).1)
    · exact hpw _ (fun i j x y hij hx hy => hpo b2 i j _ _ hij (hget i x hx).1 (hget j y hy).1 _ (hget i x hx).2.1)
    · obtain ⟨i, _, e1, e2⟩ := hmem x hx
      exact (b3 x.1 (List.mem_of_getElem? e1)).2 _ e2 e he hb
    · exfalso
      rw [Array.getD_eq_getD_getElem?, Array.getElem?_replicate] at hj
      split at hj <;> simp at hj
    · refine hpw _ (fun i j x y hij hx hy => ?_)
      obtain ⟨x1, x2, x3, x4⟩ := hget i x hx
      obtain ⟨y1, y2, y3, y4⟩ := hget j y hy
      unfold PairOk
      rcases hpairs i j _ _ _ _ hij x1 y1 x2 y2 with hord | ⟨hap, hw⟩
      · exact .inl hord
      · right
        refine ⟨hap, ?_⟩
        rcases hw with hw | hw | hw
        · exact noConf_left (x4 hw)
        · exact noConf_right (y4 hw)
        · have := List.all_eq_true.1 hall _ hw
          simp only [List.getD_eq_getElem?_getD, x3, y3, Option.getD_some] at this
          exact this
    · intro x hx g
      cases hT : G.T (s.nid + x.1) g with
      | none => rfl
      | some y => have := (hs.inv.dom _ _ _ hT).1; omega
  · cases h

theorem Sem_ok_ret {n : Nat} : True := trivial

def PostW (C : Ctx) (n : Nat) (G : Gh) (w : World) (A : _root_.Go.Act) (n0 : Nat) (e : Ex) (s' : St) (e' : Exit) (A' : _root_.Go.Act) (w' : World) : Prop := e' = exOf e ∧ After C n G w A n0 s' A' w'

theorem After.trans {n n0 n1 : Nat} {A A1 A2 : _root_.Go.Act} {w1 w2 : World} {s2 : St} {G1 : Gh} (he : Ext G w G1 w1) (hd : A1.defers = A.defers) (hn : NewIn n0 G G1) (hl : n0 ≤ n1) (h : After C n G1 w1 A1 n1 s2 A2 w2) : After C n G w A n0 s2 A2 w2 := by
  obtain ⟨G2, h1, h2, h3, h4, h5⟩ := h
  exact ⟨G2, h1, he.trans h2, h3.trans hd, NewIn.trans he.T hn h4 hl, Nat.le_trans hl h5⟩

theorem least {p : Nat → Prop} (h : ∃ n, p n) : ∃ n, p n ∧ ∀ m, p m → n ≤ m := by
  obtain ⟨n, hn⟩ := h
  induction n using Nat.strongRecOn with
  | _ n ih =>
    by_cases hx : ∃ m, m < n ∧ p m
    · obtain ⟨m, hm, hp⟩ := hx
      exact ih m hm hp
    · exact ⟨n, hn, fun m hp => Nat.le_of_not_lt (fun hlt => hx ⟨m, hlt, hp⟩)⟩

open Classical in
/-- WHAT CODE COMES TO. -/
theorem evc_wp {callI : FuncId → List AV → Mem → Option (AV × Mem)} {call : FuncId → List AV → Option AV} (H : Hyps2 C callI call) (hm : C.P.follows .mixedOrders = true) {n k : Nat} : ∀ (c : Code), codeOk n c = true → ∀ (G : Gh) (A : _root_.Go.Act) (w : World) (s s' : St) (e : Ex), evc C callI call (fun b s => loopN b k s) c s = some (e, s') → Sim C n G A w s →
    c.wp C.P (PostW C n G w A s.nid e s') A w := by
  intro c
  induction c with
  | skip =>
    intro _ G A w s s' e h hs
    simp only [evc, Option.some.injEq, Prod.mk.injEq] at h
    obtain ⟨rfl, rfl⟩ := h
    exact wp_skip ⟨rfl, After.refl hs (Nat.le_refl _)⟩
  | region id ops dr =>
    intro hok G A w s s' e h hs
    have hdst := codeOk_dst hok
    cases dr with
    | true =>
      simp only [evc, regS, Option.map_eq_some_iff, Prod.mk.injEq] at h
      obtain ⟨s1, h1, rfl, rfl⟩ := h
      exact runD_wp H hm hdst h1 hs (fun A' w' ha => ⟨rfl, ha⟩)
    | false =>
      simp only [evc, regS, Option.map_eq_some_iff, Prod.mk.injEq] at h
      obtain ⟨s1, h1, rfl, rfl⟩ := h
      refine wp_region ?_
      have := runT_wp H hdst (Q := PostW C n G w A s.nid .normal s1) ops.size 0 G A w s (by omega) (by simpa using h1) hs (fun A' w' ha => ⟨rfl, ha⟩)
      rw [List.range_eq_range']
      exact this
  | seq a b iha ihb =>
    intro hok G A w s s' e h hs
    simp only [codeOk, Bool.and_eq_true] at hok
    simp only [evc] at h
    cases h1 : evc C callI call (fun b s => loopN b k s) a s with
    | none => rw [h1] at h; cases h
    | some x =>
      obtain ⟨e1, s1⟩ := x
      rw [h1] at h
      refine wp_seq (wp_mono (iha hok.1 G A w s s1 e1 h1 hs) ?_)
      rintro ex A1 w1 ⟨rfl, G1, hs1, he1, hd1, hn1, hl1⟩
      cases e1 with
      | normal =>
        simp only [thenS] at h
        exact wp_mono (ihb hok.2 G1 A1 w1 s1 s' e h hs1) (fun e' A2 w2 ⟨p1, p2⟩ => ⟨p1, After.trans he1 hd1 hn1 hl1 p2⟩)
      | exit n' =>
        simp only [thenS, Option.some.injEq, Prod.mk.injEq] at h
        obtain ⟨rfl, rfl⟩ := h
        exact ⟨rfl, G1, hs1, he1, hd1, hn1, hl1⟩
      | ret =>
        simp only [thenS, Option.some.injEq, Prod.mk.injEq] at h
        obtain ⟨rfl, rfl⟩ := h
        exact ⟨rfl, G1, hs1, he1, hd1, hn1, hl1⟩
  | cond c a b iha ihb =>
    intro hok G A w s s' e h hs
    simp only [codeOk, Bool.and_eq_true] at hok
    simp only [evc, condS] at h
    split at h
    · rename_i t hc
      have hv := rep_bool (opd_rep hs.env hs.ctx hc)
      refine wp_cond hv ?_
      cases t with
      | true =>
        simp only [if_true] at h ⊢
        exact iha hok.1 G A w s s' e h hs
      | false =>
        simp only [Bool.false_eq_true, if_false] at h ⊢
        exact ihb hok.2 G A w s s' e h hs
    · cases h
  | block id a iha =>
    intro hok G A w s s' e h hs
    simp only [codeOk] at hok
    simp only [evc] at h
    cases h1 : evc C callI call (fun b s => loopN b k s) a s with
    | none => rw [h1] at h; cases h
    | some x =>
      obtain ⟨e1, s1⟩ := x
      rw [h1] at h
      refine wp_block (wp_mono (iha hok G A w s s1 e1 h1 hs) ?_)
      rintro ex A1 w1 ⟨rfl, ha⟩
      cases e1 with
      | normal =>
        simp only [blockS, Option.some.injEq, Prod.mk.injEq] at h
        obtain ⟨rfl, rfl⟩ := h
        exact ⟨rfl, ha⟩
      | ret =>
        simp only [blockS, Option.some.injEq, Prod.mk.injEq] at h
        obtain ⟨rfl, rfl⟩ := h
        exact ⟨rfl, ha⟩
      | exit n' =>
        simp only [blockS] at h
        simp only [exOf, Exit.inBlock]
        by_cases hn : n' = id
        · subst hn
          rw [if_pos rfl] at h ⊢
          simp only [Option.some.injEq, Prod.mk.injEq] at h
          obtain ⟨rfl, rfl⟩ := h
          exact ⟨rfl, ha⟩
        · rw [if_neg hn] at h ⊢
          simp only [Option.some.injEq, Prod.mk.injEq] at h
          obtain ⟨rfl, rfl⟩ := h
          exact ⟨rfl, ha⟩
  | loop a iha =>
    intro hok G A w s s' e h hs
    simp only [codeOk] at hok
    simp only [evc] at h
    let J : Nat → _root_.Go.Act → World → Prop := fun j A1 w1 => ∃ G1 s1, loopN (evc C callI call (fun b s => loopN b k s) a) j s1 = some (e, s') ∧ Sim C n G1 A1 w1 s1 ∧ Ext G w G1 w1 ∧ A1.defers = A.defers ∧ NewIn s.nid G G1 ∧ s.nid ≤ s1.nid
    let μ : _root_.Go.Act → World → Nat := fun A1 w1 => if h : ∃ j, J j A1 w1 then (least h).choose else 0
    refine wp_loop (fun A1 w1 => ∃ j, J j A1 w1) μ ⟨k, G, s, h, hs, Ext.refl _ _, rfl, NewIn.refl _ _, Nat.le_refl _⟩ ?_
    rintro A1 w1 hI
    have hμ : μ A1 w1 = (least hI).choose := dif_pos hI
    obtain ⟨G1, s1, hl, hs1, he1, hd1, hn1, hl1⟩ := (least hI).choose_spec.1
    rw [← hμ] at hl
    cases hk : μ A1 w1 with
    | zero => rw [hk] at hl; simp [loopN] at hl
    | succ j =>
      rw [hk] at hl
      simp only [loopN, Option.bind_eq_some_iff, Prod.exists] at hl
      obtain ⟨e2, s2, h2, h3⟩ := hl
      refine wp_mono (iha hok G1 A1 w1 s1 s2 e2 h2 hs1) ?_
      rintro ex A2 w2 ⟨rfl, G2, hs2, he2, hd2, hn2, hl2⟩
      cases e2 with
      | normal =>
        simp only at h3
        have hJ : J j A2 w2 := ⟨G2, s2, h3, hs2, he1.trans he2, hd2.trans hd1, NewIn.trans he1.T hn1 hn2 hl1, Nat.le_trans hl1 hl2⟩
        refine ⟨⟨j, hJ⟩, ?_⟩
        have hex : ∃ j, J j A2 w2 := ⟨j, hJ⟩
        have h5 : μ A2 w2 = (least hex).choose := dif_pos hex
        rw [h5]
        exact Nat.lt_of_le_of_lt ((least hex).choose_spec.2 j hJ) (Nat.lt_succ_self j)
      | exit n' =>
        simp only [Option.some.injEq, Prod.mk.injEq] at h3
        obtain ⟨rfl, rfl⟩ := h3
        exact ⟨rfl, G2, hs2, he1.trans he2, hd2.trans hd1, NewIn.trans he1.T hn1 hn2 hl1, Nat.le_trans hl1 hl2⟩
      | ret =>
        simp only [Option.some.injEq, Prod.mk.injEq] at h3
        obtain ⟨rfl, rfl⟩ := h3
        exact ⟨rfl, G2, hs2, he1.trans he2, hd2.trans hd1, NewIn.trans he1.T hn1 hn2 hl1, Nat.le_trans hl1 hl2⟩
  | exit id =>
    intro _ G A w s s' e h hs
    simp only [evc, Option.some.injEq, Prod.mk.injEq] at h
    obtain ⟨rfl, rfl⟩ := h
    exact wp_exit ⟨rfl, After.refl hs (Nat.le_refl _)⟩
  | ret =>
    intro _ G A w s s' e h hs
    simp only [evc, Option.some.injEq, Prod.mk.injEq] at h
    obtain ⟨rfl, rfl⟩ := h
    exact wp_ret ⟨rfl, After.refl hs (Nat.le_refl _)⟩
  | rangeFunc f ps a b iha ihb => intro _ G A w s s' e h hs; simp [evc] at h
  | scope a iha => intro _ G A w s s' e h hs; simp [evc] at h
  | label l => intro _ G A w s s' e h hs; simp [evc] at h
  | goto l => intro _ G A w s s' e h hs; simp [evc] at h
  | refuse y => intro _ G A w s s' e h hs; simp [evc] at h

end Go.Ev
end
section
namespace Go.Ev
set_option linter.unusedVariables false
set_option linter.unusedSimpArgs false
variable {C : Ctx} {G : Gh} {w : World} {m : Mem}

/-- Closed facts of a program. -/
structure ProgOk (P : Program) : Prop where
  zero : ZeroOk P
  mixed : P.follows .mixedOrders = true
  code : ∀ (f : Nat) (fn : Func) c, P.funcs[f]? = some fn → fn.body = some c → codeOk fn.ntmps c = true
  name : ∀ (f : Nat) (fn : Func) c, P.funcs[f]? = some fn → fn.body = some c → fn.name ≠ "runtime.NumGoroutine"

theorem enter_ok {P : Program} (hP : ProgOk P) {f : FuncId} {fn : Func} {c : Code} (hf : P.funcs[f]? = some fn) (hb : fn.body = some c) (vs : Array Value) (w : World) : (callFunc f vs).run P w = .ok (.enter f vs) w := by
  have h1 := hP.name f fn c hf hb
  simp [callFunc, hf, hb, h1]

/-- A function's results. -/
theorem run_results {fn : Func} {A : _root_.Go.Act} {s : St} (he : EnvRep G A.tmps s.env) (hi : Inv G w s.toMem) {r : AV} (h : resA C fn s = some r) : ∃ v, (results fn A.tmps).run C.P w = .ok v w ∧ Rep G v r := by
  unfold resA at h
  simp only [Option.map_eq_some_iff] at h
  obtain ⟨xs, hxs, hr⟩ := h
  have gen : ∀ (F : ResultVar → Sem Value), (∀ t, F (.tmp t) = pure (A.tmps.getD t Go.undef)) → (∀ a t, F (.cell a t) = (asAddr (A.tmps.getD a Go.undef) >>= fun x => loadVar t x)) → ∀ (l : List ResultVar) (xs : List AV), (l.mapM fun r => match r with
      | ResultVar.tmp t => some (s.env t)
      | .cell a t => match s.env a with
        | .ptr id g off => if g = (s.sto id).gen then loadA C t ((s.sto id).cells.drop off) else none
        | _ => none) = some xs → ∃ vs : List Value, (l.mapM F).run C.P w = .ok vs w ∧ vs.length = xs.length ∧ ∀ (j : Nat) v x, vs[j]? = some v → xs[j]? = some x → Rep G v x := by
    intro F hF1 hF2 l
    induction l with
    | nil => intro xs h; simp at h; subst h; exact ⟨[], rfl, rfl, fun j v x hv => by simp at hv⟩
    | cons r l ih =>
      intro xs h
      simp only [List.mapM_cons, Option.bind_eq_bind, Option.bind_eq_some_iff, Option.pure_def, Option.some.injEq] at h
      obtain ⟨x, hx, xs', hxs', rfl⟩ := h
      obtain ⟨vs, h1, h2, h3⟩ := ih xs' hxs'
      have one : ∃ v, (F r).run C.P w = .ok v w ∧ Rep G v x := by
        cases r with
        | tmp t =>
          simp only [Option.some.injEq] at hx
          subst hx
          exact ⟨_, by rw [hF1]; rfl, he t⟩
        | cell a t =>
          simp only at hx
          split at hx
          · rename_i id g off hp
            split at hx
            · rename_i hg
              have hra := he a
              rw [hp] at hra
              generalize hav : A.tmps.getD a Go.undef = u at hra
              cases hra with
              | ptr _ _ _ _ b y hT =>
                subst hg
                obtain ⟨cur, e, fr, hl⟩ := live_of hi hT
                obtain ⟨l1, l2, l3⟩ := live_row hl off
                obtain ⟨v, hv, hr⟩ := run_loadA (C := C) hx (cur.toList.drop off) l1 l2 l3
                exact ⟨v, by simp only [hF2, hav, asAddr, Sem.run_bind, Sem.run_pure, Result.andThen_ok, hv], hr⟩
            · cases hx
          · cases hx
      obtain ⟨v, hv, hrv⟩ := one
      refine ⟨v :: vs, ?_, by simp [h2], fun j v' x' hv' hx' => ?_⟩
      · simp only [List.mapM_cons, Sem.run_bind, hv, Result.andThen_ok, h1, Sem.run_pure]
      · cases j with
        | zero => simp only [List.getElem?_cons_zero, Option.some.injEq] at hv' hx'; subst hv' hx'; exact hrv
        | succ j => exact h3 j v' x' (by simpa using hv') (by simpa using hx')
  have hres : ∃ vs : List Value, (results fn A.tmps).run C.P w = .ok (if h : vs.toArray.size = 1 then vs.toArray[0] else .tuple vs.toArray) w ∧ vs.length = xs.length ∧ ∀ (j : Nat) v x, vs[j]? = some v → xs[j]? = some x → Rep G v x := by
    have key : ∀ (KF : ResultVar → Sem Value), (∀ t, KF (.tmp t) = pure (A.tmps.getD t Go.undef)) → (∀ a t, KF (.cell a t) = (asAddr (A.tmps.getD a Go.undef) >>= fun x => loadVar t x)) →
        ∃ vs : List Value, ((fn.results.mapM KF >>= fun vs => pure (if h : vs.size = 1 then vs[0] else .tuple vs)) : Sem Value).run C.P w = .ok (if h : vs.toArray.size = 1 then vs.toArray[0] else .tuple vs.toArray) w ∧ vs.length = xs.length ∧ ∀ (j : Nat) v x, vs[j]? = some v → xs[j]? = some x → Rep G v x := by
      intro KF k1 k2
      obtain ⟨vs, h1, h2, h3⟩ := gen KF k1 k2 _ _ hxs
      refine ⟨vs, ?_, h2, h3⟩
      rw [Array.mapM_eq_mapM_toList]
      simp only [Sem.run_bind, Sem.run_map, h1, Result.andThen_ok, Sem.run_pure]
    unfold results
    refine key _ ?_ ?_
    · intro t; rfl
    · intro a t; rfl
  obtain ⟨vs, hrun, h2, h3⟩ := hres
  refine ⟨_, hrun, ?_⟩
  subst hr
  cases xs with
  | nil =>
    have : vs = [] := List.eq_nil_of_length_eq_zero (by simpa using h2)
    subst this
    exact .tup _ _ _ rfl (fun j v c hv => by simp at hv)
  | cons x xs =>
    cases xs with
    | nil =>
      cases vs with
      | nil => simp at h2
      | cons v vs =>
        have : vs = [] := List.eq_nil_of_length_eq_zero (by simpa using h2)
        subst this
        exact h3 0 v x rfl rfl
    | cons y ys =>
      have hne : ¬ (vs.toArray.size = 1) := by simp [h2]
      rw [dif_neg hne]
      exact .tup _ _ _ (by simp [h2]) (fun j v c hv hc => h3 j v c (by simpa using hv) hc)

theorem enter_sim {fn : Func} {args : List AV} {vs : Array Value} (hi : Inv G w m) (hc : CtxOk C G w) (hsz : vs.size = args.length) (hr : ∀ (j : Nat) v a, vs[j]? = some v → args[j]? = some a → Rep G v a) (n : Nat) :
    EnvRep G (vs ++ Array.replicate n Go.undef) (enterA fn args m).env := by
  intro t
  simp only [enterA]
  by_cases ht : t < vs.size
  · have h1 : args.getD t .void = args[t]'(by omega) := by simp [List.getD, List.getElem?_eq_getElem (show t < args.length by omega)]
    have h2 : (vs ++ Array.replicate n Go.undef).getD t Go.undef = vs[t] := by
      rw [Array.getD_eq_getD_getElem?, Array.getElem?_append_left ht, Array.getElem?_eq_getElem ht]
      rfl
    rw [h1, h2]
    exact hr t _ _ (Array.getElem?_eq_getElem ht) (List.getElem?_eq_getElem _)
  · have h1 : args.getD t .void = .void := by simp [List.getD, List.getElem?_eq_none (show args.length ≤ t by omega)]
    have h2 : (vs ++ Array.replicate n Go.undef).getD t Go.undef = Go.undef := by
      rw [Array.getD_eq_getD_getElem?, Array.getElem?_append_right (by omega)]
      rw [Array.getElem?_replicate]
      split <;> rfl
    rw [h1, h2]
    exact .void _

/-- A function's body, in some memory. -/
theorem body_wp {callI : FuncId → List AV → Mem → Option (AV × Mem)} {call : FuncId → List AV → Option AV} (hP : ProgOk C.P) (H : Hyps2 C callI call) {k : Nat} {f : FuncId} {fn : Func} {c : Code} (hf : C.P.funcs[f]? = some fn) (hb : fn.body = some c) {args : List AV} {e : Ex} {s : St} {r : AV}
    (h : evc C callI call (fun b s => loopN b k s) c (enterA fn args m) = some (e, s)) (hex : ∀ n, e ≠ .exit n) (hres : resA C fn s = some r) {vs : Array Value} (hi : Inv G w m) (hc : CtxOk C G w) (hsz : vs.size = args.length) (hn : args.length ≤ fn.ntmps) (hr : ∀ (j : Nat) v a, vs[j]? = some v → args[j]? = some a → Rep G v a) :
    Calls C.P f vs w fun e w' => ∃ v G', e = .returned v ∧ Rep G' v r ∧ Inv G' w' s.toMem ∧ Ext G w G' w' ∧ NewIn m.nid G G' ∧ m.nid ≤ s.nid := by
  refine calls_of_wp hf hb ?_
  have hsim : Sim C fn.ntmps G { tmps := vs ++ Array.replicate (fn.ntmps - vs.size) Go.undef, defers := [] } w (enterA fn args m) := ⟨enter_sim hi hc hsz hr _, hi, hc, by simp; omega⟩
  refine wp_mono (evc_wp H hP.mixed c (hP.code f fn c hf hb) G _ w _ s e h hsim) ?_
  rintro ex A' w' ⟨rfl, G', hs', he', hd', hn', hl'⟩
  obtain ⟨v, hv, hrv⟩ := run_results (C := C) (w := w') hs'.env hs'.inv hres
  cases e with
  | normal => exact ⟨hd', v, hv, v, G', rfl, hrv, hs'.inv, he', hn', hl'⟩
  | ret => exact ⟨hd', v, hv, v, G', rfl, hrv, hs'.inv, he', hn', hl'⟩
  | exit n => exact absurd rfl (hex n)

theorem inv_empty (h : Inv G w m) : Inv G.bare w .empty := ⟨h.okM, fun _ _ _ _ h => by simp [Gh.bare] at h, fun _ _ _ _ _ h => by simp [Gh.bare] at h, fun _ _ _ h => by simp [Gh.bare] at h⟩

/-- The entry of a function that takes plain values. -/
theorem entry_ok {f : FuncId} {args args1 : List AV} {m m1 : Mem} (h : entryI C f args m = some (args1, m1)) (hi : Inv G w m) {vs : Array Value} (hr : ∀ (j : Nat) v a, vs[j]? = some v → args[j]? = some a → Rep G v a) :
    ∃ G0, Inv G0 w m1 ∧ Ext G w G0 w ∧ G0.T = G.T ∧ m1.nid = m.nid ∧ args1.length = args.length ∧ ∀ (j : Nat) v a, vs[j]? = some v → args1[j]? = some a → Rep G0 v a := by
  unfold entryI at h
  split at h
  · simp only [Option.map_eq_some_iff, Prod.mk.injEq] at h
    obtain ⟨l, hl, rfl, rfl⟩ := h
    obtain ⟨m1, m2⟩ := mapM_spec hl
    obtain ⟨hi1, he1⟩ := inv_fix hi ((args.map fun a => if a.loud then [] else reachD m 2097152 a)).flatten (frozM m ((args.map fun a => if a.loud then [] else reachD m 2097152 a)).flatten).sto (fun i => rfl)
    refine ⟨_, hi1, he1, rfl, rfl, m1, fun j v b hv hb => ?_⟩
    have hj : j < args.length := by rw [← m1]; exact (List.getElem?_eq_some_iff.1 hb).1
    obtain ⟨b', hb', hs⟩ := m2 j _ (List.getElem?_eq_getElem hj)
    rw [hb] at hb'
    cases hb'
    have hra := hr j v _ hv (List.getElem?_eq_getElem hj)
    split at hs
    · simp only [Option.some.injEq] at hs
      rw [← hs]
      exact hra.ext he1
    · rename_i hnl
      refine (snap_rep hi 2097152 hra hs (fun id hid => ?_)).mono (fun _ => List.prefix_refl _) (fun _ _ _ h => by simp [Gh.bare] at h)
      refine List.mem_flatten.2 ⟨_, List.mem_map.2 ⟨_, List.getElem_mem hj, rfl⟩, ?_⟩
      rw [if_neg hnl]
      exact hid
  · simp only [Option.some.injEq, Prod.mk.injEq] at h
    obtain ⟨rfl, rfl⟩ := h
    exact ⟨G, hi, Ext.refl _ _, rfl, rfl, rfl, hr⟩

/-- THE EVALUATOR TELLS WHAT THE PROGRAM DOES. -/
theorem sound (hP : ProgOk C.P) {prim : FuncId → List AV → Option AV} (hprim : ∀ f args r, prim f args = some r → PureOk C f args r) (hpI : ∀ f args m r m', C.pI f args m = some (r, m') → ShareOk C f args m r m') : ∀ k : Nat, Hyps2 C (evI C prim k) (evf C prim k)
  | 0 => { zero := hP.zero, pure := fun f args r h => by simp [evf] at h, share := fun f args m r m' h => by simp [evI] at h }
  | k + 1 => by
    have IH := sound hP hprim hpI k
    refine { zero := hP.zero, pure := fun f args r h => ?_, share := fun f args m r m' h => ?_ }
    · simp only [evf] at h
      split at h
      · rename_i r' hpr
        simp only [Option.some.injEq] at h
        subst h
        exact hprim _ _ _ hpr
      · unfold bodyF at h
        split at h
        · rename_i fn hf
          split at h
          · rename_i c hb
            split at h
            · rename_i hn
              have hh : ∃ e s, evc C (evI C prim k) (evf C prim k) (fun b s => loopN b k s) c (enterA fn args .empty) = some (e, s) ∧ (∀ n, e ≠ .exit n) ∧ ∃ r0, resA C fn s = some r0 ∧ snapD s.toMem 2097152 r0 = some r := by
                unfold endF at h
                split at h
                · cases h
                · cases h
                · rename_i e s hne hev
                  simp only [Option.bind_eq_some_iff] at h
                  exact ⟨e, s, hev, fun n hn => hne n hn, h⟩
              obtain ⟨e, s, hev, hex, r0, hr0, hsn⟩ := hh
              refine ⟨fun vs w => enter_ok hP hf hb vs w, fun G w vs hT hi hc hsz hr => ?_⟩
              refine (body_wp hP IH hf hb hev hex hr0 hi hc hsz hn hr).mono ?_
              rintro e' w' ⟨v, G', rfl, hrv, hi', he', _⟩
              obtain ⟨hi1, he1⟩ := inv_fix hi' (reachD s.toMem 2097152 r0) (fun i => if i ∈ reachD s.toMem 2097152 r0 then { s.sto i with froz := true } else s.sto i) (fun i => rfl)
              have he2 := he'.trans he1
              refine ⟨v, (G'.fix w' s.toMem (reachD s.toMem 2097152 r0)).bare, rfl, fun _ _ => rfl, snap_rep hi' 2097152 hrv hsn (fun id hid => hid), ⟨hi1.okM, fun _ _ _ _ h => by simp [Gh.bare] at h, fun _ _ _ _ _ h => by simp [Gh.bare] at h, fun _ _ _ h => by simp [Gh.bare] at h⟩, ?_⟩
              exact ⟨he2.M, fun id g x hx => (by rw [hT] at hx; cases hx), he2.os, he2.tape, he2.output, he2.size, he2.frame, fun id g b x hx _ => (by simp [Gh.bare] at hx)⟩
            · cases h
          · cases h
        · cases h
    · simp only [evI] at h
      split at h
      · rename_i r' hpr
        simp only [Option.some.injEq] at h
        subst h
        exact hpI _ _ _ _ _ hpr
      · unfold bodyI at h
        split at h
        · rename_i fn hf
          split at h
          · rename_i c hb
            split at h
            · rename_i hn
              simp only [Option.bind_eq_some_iff, Prod.exists] at h
              obtain ⟨args1, m1, hen, h⟩ := h
              have hh : ∃ e s, evc C (evI C prim k) (evf C prim k) (fun b s => loopN b k s) c (enterA fn args1 m1) = some (e, s) ∧ (∀ n, e ≠ .exit n) ∧ ∃ r0, resA C fn s = some r0 ∧ snapI C f r0 s.toMem = some (r, m') := by
                unfold endI at h
                split at h
                · cases h
                · cases h
                · rename_i e s hne hev
                  simp only [Option.bind_eq_some_iff] at h
                  exact ⟨e, s, hev, fun n hn => hne n hn, h⟩
              obtain ⟨e, s, hev, hex, r0, hr0, hsn⟩ := hh
              refine ⟨fun vs w => enter_ok hP hf hb vs w, fun G w vs hi hc hsz hr => ?_⟩
              obtain ⟨G0, hi0, hx0, hT0, hnid0, hlen0, hr0'⟩ := entry_ok hen hi hr
              refine (body_wp hP IH hf hb hev hex hr0 hi0 (hc.ext hx0) (hsz.trans hlen0.symm) (by omega) hr0').mono ?_
              rintro e' w' ⟨v, G', rfl, hrv, hi', he0', hn', hl'⟩
              have he' := hx0.trans he0'
              rw [hnid0] at hn' hl'
              replace hn' : NewIn m.nid G G' := ⟨fun id hid h0 => hn'.1 id hid (fun g => by rw [hT0]; exact h0 g), fun id g x hx => by rw [← hT0]; exact hn'.2 id g x hx⟩
              unfold snapI at hsn
              split at hsn
              · simp only [Option.map_eq_some_iff, Prod.mk.injEq] at hsn
                obtain ⟨x, hx, rfl, rfl⟩ := hsn
                obtain ⟨hi1, he1⟩ := inv_fix hi' (reachD s.toMem 2097152 r0) (fun i => if i ∈ reachD s.toMem 2097152 r0 then { s.sto i with froz := true } else s.sto i) (fun i => rfl)
                refine ⟨v, G'.fix w' s.toMem (reachD s.toMem 2097152 r0), rfl, (snap_rep hi' 2097152 hrv hx (fun id hid => hid)).mono (fun _ => List.prefix_refl _) (fun _ _ _ h => by simp [Gh.bare] at h), hi1, he'.trans he1, hn', hl'⟩
              · simp only [Option.some.injEq, Prod.mk.injEq] at hsn
                obtain ⟨rfl, rfl⟩ := hsn
                exact ⟨v, G', rfl, hrv, hi', he', hn', hl'⟩
            · cases h
          · cases h
        · cases h

end Go.Ev
end
section
namespace Go.Ev
set_option linter.unusedVariables false
set_option linter.unusedSimpArgs false
variable {C : Ctx}

abbrev CI := FuncId → List AV → Mem → Option (AV × Mem)
abbrev CA := FuncId → List AV → Option AV

def HoldI (I : CI) (l : List (FuncId × List AV × Mem × (AV × Mem))) : Prop := ∀ x ∈ l, I x.1 x.2.1 x.2.2.1 = some x.2.2.2
def HoldA (A : CA) (l : List (FuncId × List AV × AV)) : Prop := ∀ x ∈ l, A x.1 x.2.1 = some x.2.2

/-- What is told out of finitely many calls. -/
def Fin' {α : Type} (F : CI → CA → Option α) : Prop := ∀ I A r, F I A = some r → ∃ LI LA, HoldI I LI ∧ HoldA A LA ∧ ∀ I' A', HoldI I' LI → HoldA A' LA → F I' A' = some r

theorem Fin'.const {α : Type} (x : Option α) : Fin' (fun _ _ => x) := fun I A r h => ⟨[], [], fun _ h => (by cases h), fun _ h => (by cases h), fun _ _ _ _ => h⟩

theorem Fin'.bind {α β : Type} {F : CI → CA → Option α} {G : α → CI → CA → Option β} (h : Fin' F) (k : ∀ a, Fin' (G a)) : Fin' (fun I A => (F I A).bind fun a => G a I A) := by
  intro I A r hr
  simp only [Option.bind_eq_some_iff] at hr
  obtain ⟨a, ha, hr⟩ := hr
  obtain ⟨L1, A1, h1, h2, h3⟩ := h I A a ha
  obtain ⟨L2, A2, k1, k2, k3⟩ := k a I A r hr
  refine ⟨L1 ++ L2, A1 ++ A2, fun x hx => ?_, fun x hx => ?_, fun I' A' hI hA => ?_⟩
  · rcases List.mem_append.1 hx with hx | hx
    · exact h1 x hx
    · exact k1 x hx
  · rcases List.mem_append.1 hx with hx | hx
    · exact h2 x hx
    · exact k2 x hx
  · simp only [Option.bind_eq_some_iff]
    exact ⟨a, h3 I' A' (fun x hx => hI x (List.mem_append_left _ hx)) (fun x hx => hA x (List.mem_append_left _ hx)), k3 I' A' (fun x hx => hI x (List.mem_append_right _ hx)) (fun x hx => hA x (List.mem_append_right _ hx))⟩

theorem Fin'.map {α β : Type} {F : CI → CA → Option α} (g : α → β) (h : Fin' F) : Fin' (fun I A => (F I A).map g) := by
  intro I A r hr
  simp only [Option.map_eq_some_iff] at hr
  obtain ⟨a, ha, rfl⟩ := hr
  obtain ⟨L1, A1, h1, h2, h3⟩ := h I A a ha
  exact ⟨L1, A1, h1, h2, fun I' A' hI hA => by simp only [h3 I' A' hI hA, Option.map_some]⟩

theorem Fin'.callA (f : FuncId) (l : List AV) : Fin' (fun _ A => A f l) := fun I A r h => ⟨[], [(f, l, r)], fun _ h => (by cases h), fun x hx => by simp only [List.mem_singleton] at hx; subst hx; exact h, fun I' A' _ hA => hA (f, l, r) (List.mem_singleton.2 rfl)⟩
theorem Fin'.callI (f : FuncId) (l : List AV) (m : Mem) : Fin' (fun I _ => I f l m) := fun I A r h => ⟨[(f, l, m, r)], [], fun x hx => by simp only [List.mem_singleton] at hx; subst hx; exact h, fun _ h => (by cases h), fun I' A' hI _ => hI (f, l, m, r) (List.mem_singleton.2 rfl)⟩

theorem Fin'.ite {α : Type} {p : Prop} [Decidable p] {F G : CI → CA → Option α} (h : Fin' F) (k : Fin' G) : Fin' (fun I A => if p then F I A else G I A) := by
  by_cases hp : p
  · simp only [if_pos hp]; exact h
  · simp only [if_neg hp]; exact k

theorem fin_act (fb : Nat) (o : Oper) (s : St) : Fin' (fun _ A => act C A fb o s) := by
  obtain ⟨dst, oper, type, pos, after, guard⟩ := o
  cases oper with
  | call c =>
    obtain ⟨callee, args, ts⟩ := c
    cases callee with
    | value f =>
      unfold act
      refine Fin'.bind (Fin'.const _) (fun fv => Fin'.bind (Fin'.const _) (fun as => ?_))
      cases fv with
      | fn f cap =>
        refine Fin'.ite (Fin'.const _) ?_
        exact Fin'.bind (Fin'.const _) (fun l => Fin'.map _ (Fin'.callA f l))
      | _ => exact Fin'.const _
    | _ => exact Fin'.const _
  | _ => exact Fin'.const _

theorem fin_step (ops : Array Oper) (o : Oper) (s : St) : Fin' (fun I A => stepN C I A ops o s) := by
  unfold stepN
  refine Fin'.bind (Fin'.const _) (fun w => Fin'.ite ?_ (Fin'.const _))
  cases loudCall C o s with
  | none => exact Fin'.map _ (fin_act _ _ _)
  | some x =>
    obtain ⟨f, args⟩ := x
    exact Fin'.map _ (Fin'.callI f args _)

theorem fin_runT (ops : Array Oper) : ∀ (l : List Oper) (s : St), Fin' (fun I A => runT C I A ops l s)
  | [], s => Fin'.const _
  | o :: l, s => Fin'.bind (fin_step ops o s) (fun s' => fin_runT ops l s')

theorem fin_far (f : FuncId) (args : List AV) (m : Mem) : Fin' (fun I _ => farOf I f args m) := by
  unfold farOf
  dsimp only
  refine Fin'.ite ?_ (Fin'.const _)
  exact Fin'.bind (Fin'.callI f args _) (fun x => Fin'.ite (Fin'.const _) (Fin'.const _))

theorem fin_goD (ops : Array Oper) (base : Nat) : ∀ (l : List Nat) (s : St), Fin' (fun I A => goD C I A ops base l s)
  | [], s => Fin'.const _
  | i :: r, s => by
    refine Fin'.bind (Fin'.const _) (fun o => Fin'.bind (F := fun I A => resD C I A ops base i o s) ?_ (fun a => Fin'.map _ (fin_goD ops base r (onD o a s))))
    unfold resD
    refine Fin'.bind (Fin'.const _) (fun w => Fin'.ite ?_ (Fin'.const _))
    cases loudCall C o s with
    | none => exact Fin'.map _ (fin_act _ _ _)
    | some x =>
      obtain ⟨f, args⟩ := x
      exact fin_far f args _

theorem fin_runD (ops : Array Oper) (s : St) : Fin' (fun I A => runD C I A ops s) := by
  unfold runD
  exact Fin'.bind (Fin'.const _) (fun ps => Fin'.bind (fin_goD ops _ _ _) (fun x => Fin'.ite (Fin'.const _) (Fin'.const _)))

theorem fin_loopN {F : CI → CA → St → Option (Ex × St)} (h : ∀ s, Fin' (fun I A => F I A s)) : ∀ (j : Nat) (s : St), Fin' (fun I A => loopN (F I A) j s)
  | 0, s => Fin'.const _
  | j + 1, s => Fin'.bind (h s) (fun x => by
    obtain ⟨e, s'⟩ := x
    cases e with
    | normal => exact fin_loopN h j s'
    | exit n => exact Fin'.const _
    | ret => exact Fin'.const _)

theorem fin_evc (j : Nat) : ∀ (c : Code) (s : St), Fin' (fun I A => evc C I A (fun b s => loopN b j s) c s) := by
  intro c
  induction c with
  | region id ops dr =>
    intro s
    cases dr with
    | true => exact Fin'.map _ (fin_runD ops s)
    | false => exact Fin'.map _ (fin_runT ops _ s)
  | seq a b iha ihb =>
    intro s I A r h
    simp only [evc] at h
    cases h1 : evc C I A (fun b s => loopN b j s) a s with
    | none => rw [h1] at h; cases h
    | some x =>
      obtain ⟨e, s1⟩ := x
      rw [h1] at h
      obtain ⟨L1, A1, k1, k2, k3⟩ := iha s I A _ h1
      cases e with
      | normal =>
        obtain ⟨L2, A2, m1, m2, m3⟩ := ihb s1 I A r h
        refine ⟨L1 ++ L2, A1 ++ A2, fun x hx => ?_, fun x hx => ?_, fun I' A' hI hA => ?_⟩
        · rcases List.mem_append.1 hx with hx | hx
          · exact k1 x hx
          · exact m1 x hx
        · rcases List.mem_append.1 hx with hx | hx
          · exact k2 x hx
          · exact m2 x hx
        · simp only [evc, k3 I' A' (fun x hx => hI x (List.mem_append_left _ hx)) (fun x hx => hA x (List.mem_append_left _ hx)), thenS]
          exact m3 I' A' (fun x hx => hI x (List.mem_append_right _ hx)) (fun x hx => hA x (List.mem_append_right _ hx))
      | exit n => exact ⟨L1, A1, k1, k2, fun I' A' hI hA => by simp only [evc, k3 I' A' hI hA]; exact h⟩
      | ret => exact ⟨L1, A1, k1, k2, fun I' A' hI hA => by simp only [evc, k3 I' A' hI hA]; exact h⟩
  | cond c a b iha ihb =>
    intro s
    simp only [evc, condS]
    split
    · exact Fin'.ite (iha s) (ihb s)
    · exact Fin'.const _
  | block n a iha =>
    intro s I A r h
    simp only [evc] at h
    cases h1 : evc C I A (fun b s => loopN b j s) a s with
    | none => rw [h1] at h; cases h
    | some x =>
      rw [h1] at h
      obtain ⟨L1, A1, k1, k2, k3⟩ := iha s I A _ h1
      exact ⟨L1, A1, k1, k2, fun I' A' hI hA => by simp only [evc, k3 I' A' hI hA]; exact h⟩
  | loop a iha => intro s; exact fin_loopN (F := fun I A => evc C I A (fun b s => loopN b j s) a) iha j s
  | _ => intro s; exact Fin'.const _

/-! ### what is told in the end -/

open Classical in
noncomputable def lim {α : Type} (g : Nat → Option α) : Option α := if h : ∃ r k, g k = some r then some h.choose else none

theorem lim_of {α : Type} {g : Nat → Option α} (mono : ∀ k r, g k = some r → g (k + 1) = some r) {k : Nat} {r : α} (h : g k = some r) : lim g = some r := by
  have up : ∀ (d k : Nat) r, g k = some r → g (k + d) = some r := by
    intro d
    induction d with
    | zero => exact fun k r h => h
    | succ d ih => exact fun k r h => mono _ _ (ih k r h)
  have hex : ∃ r k, g k = some r := ⟨r, k, h⟩
  unfold lim
  rw [dif_pos hex]
  obtain ⟨k', hk'⟩ := hex.choose_spec
  have h1 := up k' k r h
  have h2 := up k k' _ hk'
  rw [Nat.add_comm] at h2
  rw [h1] at h2
  exact h2.symm

theorem of_lim {α : Type} {g : Nat → Option α} {r : α} (h : lim g = some r) : ∃ k, g k = some r := by
  unfold lim at h
  split at h
  · rename_i hex
    obtain ⟨k, hk⟩ := hex.choose_spec
    simp only [Option.some.injEq] at h
    exact ⟨k, h ▸ hk⟩
  · cases h

theorem loopN_mono {b b' : St → Option (Ex × St)} (hb : ∀ s r, b s = some r → b' s = some r) : ∀ (j j' : Nat) (s : St) r, j ≤ j' → loopN b j s = some r → loopN b' j' s = some r
  | 0, j', s, r, _, h => by simp [loopN] at h
  | j + 1, 0, s, r, hj, h => by omega
  | j + 1, j' + 1, s, r, hj, h => by
    simp only [loopN, Option.bind_eq_some_iff, Prod.exists] at h ⊢
    obtain ⟨e, s', h1, h2⟩ := h
    refine ⟨e, s', hb _ _ h1, ?_⟩
    cases e with
    | normal => exact loopN_mono hb j j' s' r (by omega) h2
    | exit n => exact h2
    | ret => exact h2

noncomputable def lpL (b : St → Option (Ex × St)) (s : St) : Option (Ex × St) := lim fun k => loopN b k s

theorem lpL_next {b : St → Option (Ex × St)} {s s' : St} {r : Ex × St} (h : b s = some (.normal, s')) (hr : lpL b s' = some r) : lpL b s = some r := by
  obtain ⟨k, hk⟩ := of_lim hr
  exact lim_of (fun k r h => loopN_mono (fun _ _ h => h) k (k + 1) s r (by omega) h) (k := k + 1) (by simp only [loopN, h, Option.bind_some]; exact hk)

theorem lpL_stop {b : St → Option (Ex × St)} {s s' : St} {e : Ex} (h : b s = some (e, s')) (he : e ≠ .normal) : lpL b s = some (e, s') := by
  refine lim_of (fun k r h => loopN_mono (fun _ _ h => h) k (k + 1) s r (by omega) h) (k := 1) ?_
  simp only [loopN, h, Option.bind_some]

theorem evc_lp {I : CI} {A : CA} : ∀ (c : Code) (s : St) r, evc C I A lpL c s = some r → ∃ j, ∀ j', j ≤ j' → evc C I A (fun b s => loopN b j' s) c s = some r := by
  intro c
  induction c with
  | region id ops dr => intro s r h; cases dr <;> exact ⟨0, fun _ _ => h⟩
  | seq a b iha ihb =>
    intro s r h
    simp only [evc] at h
    cases h1 : evc C I A lpL a s with
    | none => rw [h1] at h; cases h
    | some x =>
      obtain ⟨e, s1⟩ := x
      rw [h1] at h
      obtain ⟨j1, k1⟩ := iha s _ h1
      cases e with
      | normal =>
        obtain ⟨j2, k2⟩ := ihb s1 r h
        exact ⟨max j1 j2, fun j' hj => by simp only [evc, k1 j' (by omega), thenS]; exact k2 j' (by omega)⟩
      | exit n => exact ⟨j1, fun j' hj => by simp only [evc, k1 j' hj]; exact h⟩
      | ret => exact ⟨j1, fun j' hj => by simp only [evc, k1 j' hj]; exact h⟩
  | cond c a b iha ihb =>
    intro s r h
    simp only [evc, condS] at h ⊢
    split at h
    · rename_i t ht
      cases t with
      | true => exact iha s r h
      | false => exact ihb s r h
    · cases h
  | block n a iha =>
    intro s r h
    simp only [evc] at h
    cases h1 : evc C I A lpL a s with
    | none => rw [h1] at h; cases h
    | some x =>
      rw [h1] at h
      obtain ⟨j1, k1⟩ := iha s _ h1
      exact ⟨j1, fun j' hj => by simp only [evc, k1 j' hj]; exact h⟩
  | loop a iha =>
    intro s r h
    simp only [evc] at h
    obtain ⟨k, hk⟩ := of_lim h
    have gen : ∀ (k : Nat) (s : St), loopN (evc C I A lpL a) k s = some r → ∃ j, ∀ j', j ≤ j' → ∀ i, k ≤ i → loopN (evc C I A (fun b s => loopN b j' s) a) i s = some r := by
      intro k
      induction k with
      | zero => intro s h; simp [loopN] at h
      | succ k ih =>
        intro s h
        simp only [loopN, Option.bind_eq_some_iff, Prod.exists] at h
        obtain ⟨e, s1, h1, h2⟩ := h
        obtain ⟨j1, k1⟩ := iha s _ h1
        cases e with
        | normal =>
          obtain ⟨j2, k2⟩ := ih s1 h2
          refine ⟨max j1 j2, fun j' hj i hi => ?_⟩
          obtain ⟨i, rfl⟩ : ∃ q, i = q + 1 := ⟨i - 1, by omega⟩
          simp only [loopN, k1 j' (by omega), Option.bind_some]
          exact k2 j' (by omega) i (by omega)
        | exit n =>
          refine ⟨j1, fun j' hj i hi => ?_⟩
          obtain ⟨i, rfl⟩ : ∃ q, i = q + 1 := ⟨i - 1, by omega⟩
          simp only [loopN, k1 j' (by omega), Option.bind_some]
          exact h2
        | ret =>
          refine ⟨j1, fun j' hj i hi => ?_⟩
          obtain ⟨i, rfl⟩ : ∃ q, i = q + 1 := ⟨i - 1, by omega⟩
          simp only [loopN, k1 j' (by omega), Option.bind_some]
          exact h2
    obtain ⟨j, hj⟩ := gen k s hk
    exact ⟨max j k, fun j' hj' => hj j' (by omega) j' (by omega)⟩
  | _ => intro s r h; exact ⟨0, fun _ _ => h⟩

theorem evc_lp_mono {I : CI} {A : CA} {j j' : Nat} (hj : j ≤ j') : ∀ (c : Code) (s : St) r, evc C I A (fun b s => loopN b j s) c s = some r → evc C I A (fun b s => loopN b j' s) c s = some r := by
  intro c
  induction c with
  | region id ops dr => intro s r h; cases dr <;> exact h
  | seq a b iha ihb =>
    intro s r h
    simp only [evc] at h ⊢
    cases h1 : evc C I A (fun b s => loopN b j s) a s with
    | none => rw [h1] at h; cases h
    | some x =>
      obtain ⟨e, s1⟩ := x
      rw [h1] at h
      rw [iha s _ h1]
      cases e with
      | normal => exact ihb s1 r h
      | exit n => exact h
      | ret => exact h
  | cond c a b iha ihb =>
    intro s r h
    simp only [evc, condS] at h ⊢
    split at h
    · rename_i t ht
      cases t with
      | true => exact iha s r h
      | false => exact ihb s r h
    · cases h
  | block n a iha =>
    intro s r h
    simp only [evc] at h ⊢
    cases h1 : evc C I A (fun b s => loopN b j s) a s with
    | none => rw [h1] at h; cases h
    | some x => rw [h1] at h; rw [iha s _ h1]; exact h
  | loop a iha => intro s r h; exact loopN_mono iha j j' s r hj h
  | _ => intro s r h; exact h

variable (C) (prim : FuncId → List AV → Option AV)

theorem ev_mono : ∀ k : Nat, (∀ f l m r, evI C prim k f l m = some r → evI C prim (k + 1) f l m = some r) ∧ ∀ f l r, evf C prim k f l = some r → evf C prim (k + 1) f l = some r
  | 0 => ⟨fun f l m r h => by simp [evI] at h, fun f l r h => by simp [evf] at h⟩
  | k + 1 => by
    obtain ⟨hI, hA⟩ := ev_mono k
    have body : ∀ c s r, evc C (evI C prim k) (evf C prim k) (fun b s => loopN b k s) c s = some r → evc C (evI C prim (k + 1)) (evf C prim (k + 1)) (fun b s => loopN b (k + 1) s) c s = some r := by
      intro c s r h
      obtain ⟨L1, A1, h1, h2, h3⟩ := fin_evc (C := C) k c s _ _ r h
      exact evc_lp_mono (Nat.le_succ k) c s r (h3 _ _ (fun x hx => hI _ _ _ _ (h1 x hx)) (fun x hx => hA _ _ _ (h2 x hx)))
    refine ⟨fun f l m r h => ?_, fun f l r h => ?_⟩
    · rw [evI] at h ⊢
      split at h
      · exact h
      · unfold bodyI at h ⊢
        split at h
        · rename_i fn hf
          split at h
          · rename_i c hb
            split at h
            · rw [if_pos (by assumption)]
              cases h0 : entryI C f l m with
              | none => rw [h0] at h; cases h
              | some p =>
                rw [h0] at h
                simp only [Option.bind_some] at h ⊢
                cases h1 : evc C (evI C prim k) (evf C prim k) (fun b s => loopN b k s) c (enterA fn p.1 p.2) with
                | none => rw [h1] at h; cases h
                | some x => rw [h1] at h; rw [body _ _ _ h1]; exact h
            · cases h
          · cases h
        · cases h
    · rw [evf] at h ⊢
      split at h
      · exact h
      · unfold bodyF at h ⊢
        split at h
        · rename_i fn hf
          split at h
          · rename_i c hb
            split at h
            · rw [if_pos (by assumption)]
              cases h1 : evc C (evI C prim k) (evf C prim k) (fun b s => loopN b k s) c (enterA fn l .empty) with
              | none => rw [h1] at h; cases h
              | some x => rw [h1] at h; rw [body _ _ _ h1]; exact h
            · cases h
          · cases h
        · cases h

/-- What a function comes to, however long it takes. -/
noncomputable def fnI : CI := fun f l m => lim fun k => evI C prim k f l m
noncomputable def fnA : CA := fun f l => lim fun k => evf C prim k f l

theorem ev_up : ∀ (d k : Nat), (∀ f l m r, evI C prim k f l m = some r → evI C prim (k + d) f l m = some r) ∧ ∀ f l r, evf C prim k f l = some r → evf C prim (k + d) f l = some r
  | 0, k => ⟨fun _ _ _ _ h => h, fun _ _ _ h => h⟩
  | d + 1, k => ⟨fun f l m r h => (ev_mono C prim (k + d)).1 _ _ _ _ ((ev_up d k).1 _ _ _ _ h), fun f l r h => (ev_mono C prim (k + d)).2 _ _ _ ((ev_up d k).2 _ _ _ h)⟩

theorem evc_lim {c : Code} {s : St} {r : Ex × St} (h : evc C (fnI C prim) (fnA C prim) lpL c s = some r) : ∃ k, evc C (evI C prim k) (evf C prim k) (fun b s => loopN b k s) c s = some r := by
  obtain ⟨j, hj⟩ := evc_lp c s r h
  obtain ⟨L1, A1, h1, h2, h3⟩ := fin_evc (C := C) j c s _ _ r (hj j (Nat.le_refl _))
  have hI : ∀ L, HoldI (fnI C prim) L → ∃ k, ∀ k', k ≤ k' → HoldI (evI C prim k') L := by
    intro L
    induction L with
    | nil => exact fun _ => ⟨0, fun _ _ x hx => (by cases hx)⟩
    | cons x L ih =>
      intro hL
      obtain ⟨k1, e1⟩ := ih (fun y hy => hL y (List.mem_cons_of_mem _ hy))
      obtain ⟨k2, e2⟩ := of_lim (hL x (List.mem_cons_self ..))
      refine ⟨max k1 k2, fun k' hk y hy => ?_⟩
      rcases List.mem_cons.1 hy with rfl | hy
      · have := (ev_up C prim (k' - k2) k2).1 _ _ _ _ e2
        rwa [show k2 + (k' - k2) = k' by omega] at this
      · exact e1 k' (by omega) y hy
  have hA : ∀ L, HoldA (fnA C prim) L → ∃ k, ∀ k', k ≤ k' → HoldA (evf C prim k') L := by
    intro L
    induction L with
    | nil => exact fun _ => ⟨0, fun _ _ x hx => (by cases hx)⟩
    | cons x L ih =>
      intro hL
      obtain ⟨k1, e1⟩ := ih (fun y hy => hL y (List.mem_cons_of_mem _ hy))
      obtain ⟨k2, e2⟩ := of_lim (hL x (List.mem_cons_self ..))
      refine ⟨max k1 k2, fun k' hk y hy => ?_⟩
      rcases List.mem_cons.1 hy with rfl | hy
      · have := (ev_up C prim (k' - k2) k2).2 _ _ _ e2
        rwa [show k2 + (k' - k2) = k' by omega] at this
      · exact e1 k' (by omega) y hy
  obtain ⟨k1, e1⟩ := hI L1 h1
  obtain ⟨k2, e2⟩ := hA A1 h2
  refine ⟨max j (max k1 k2), ?_⟩
  exact evc_lp_mono (Nat.le_max_left _ _) c s r (h3 _ _ (e1 _ (by omega)) (e2 _ (by omega)))

theorem fnA_prim {f : FuncId} {l : List AV} {r : AV} (h : prim f l = some r) : fnA C prim f l = some r :=
  lim_of (fun k r h => (ev_mono C prim k).2 _ _ _ h) (k := 1) (by simp only [evf, h])

theorem fnA_body {f : FuncId} {l : List AV} {r : AV} (hp : prim f l = none) (h : bodyF C (fnI C prim) (fnA C prim) lpL f l = some r) : fnA C prim f l = some r := by
  unfold bodyF at h
  split at h
  · rename_i fn hf
    split at h
    · rename_i c hb
      split at h
      · rename_i hn
        cases h1 : evc C (fnI C prim) (fnA C prim) lpL c (enterA fn l .empty) with
        | none => rw [h1] at h; cases h
        | some x =>
          rw [h1] at h
          obtain ⟨k, hk⟩ := evc_lim C prim h1
          refine lim_of (fun k r h => (ev_mono C prim k).2 _ _ _ h) (k := k + 1) ?_
          simp only [evf, hp]
          unfold bodyF
          simp only [hf, hb, if_pos hn, hk]
          exact h
      · cases h
    · cases h
  · cases h

theorem fnI_prim {f : FuncId} {l : List AV} {m : Mem} {r : AV × Mem} (h : C.pI f l m = some r) : fnI C prim f l m = some r :=
  lim_of (fun k r h => (ev_mono C prim k).1 _ _ _ _ h) (k := 1) (by simp only [evI, h])

theorem fnI_body {f : FuncId} {l : List AV} {m : Mem} {r : AV × Mem} (hp : C.pI f l m = none) (h : bodyI C (fnI C prim) (fnA C prim) lpL f l m = some r) : fnI C prim f l m = some r := by
  unfold bodyI at h
  split at h
  · rename_i fn hf
    split at h
    · rename_i c hb
      split at h
      · rename_i hn
        cases h0 : entryI C f l m with
        | none => rw [h0] at h; cases h
        | some p =>
          rw [h0] at h
          simp only [Option.bind_some] at h
          cases h1 : evc C (fnI C prim) (fnA C prim) lpL c (enterA fn p.1 p.2) with
          | none => rw [h1] at h; cases h
          | some x =>
            rw [h1] at h
            obtain ⟨k, hk⟩ := evc_lim C prim h1
            refine lim_of (fun k r h => (ev_mono C prim k).1 _ _ _ _ h) (k := k + 1) ?_
            simp only [evI, hp]
            unfold bodyI
            simp only [hf, hb, if_pos hn, h0, Option.bind_some, hk]
            exact h
      · cases h
    · cases h
  · cases h

/-- THE EVALUATOR TELLS WHAT THE PROGRAM DOES. -/
theorem fnA_sound (hP : ProgOk C.P) (hprim : ∀ f args r, prim f args = some r → PureOk C f args r) (hpI : ∀ f args m r m', C.pI f args m = some (r, m') → ShareOk C f args m r m') {f : FuncId} {args : List AV} {r : AV} (h : fnA C prim f args = some r) : PureOk C f args r := by
  obtain ⟨k, hk⟩ := of_lim h
  exact (sound hP hprim hpI k).pure _ _ _ hk

end Go.Ev
end
