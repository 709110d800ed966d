/- Part of the proof of a statement about the given program: EvDraw2. No condition of its own. -/
import Derived.Test.YtfkjjmhbljlbkaaDoorEvMask
namespace Go.Ev
set_option linter.unusedVariables false
set_option linter.unusedSimpArgs false
variable {C : Ctx} {G : Gh} {w : World} {m : Mem}

def rdD : Do → List Nat
  | .skip => []
  | .act a => a.sr
  | .call ids _ _ _ => ids

def isFar : Do → Prop
  | .call _ _ _ _ => True
  | _ => False

theorem opd_tmps {env env' : Nat → AV} {x : Operand} (h : ∀ i, x = .tmp i → env i = env' i) (t : TypeId) : opd C env t x = opd C env' t x := by
  cases x with
  | tmp i => simp only [opd, h i rfl]
  | _ => rfl

theorem looks_op {ops : Array Oper} {o : Oper} {x : Operand} (hx : x ∈ o.op.operands) {i : Nat} (h : x = .tmp i) : i ∈ o.looksAt ops := by
  subst h
  exact List.mem_append_left _ (List.mem_filterMap.2 ⟨.tmp i, by simpa using hx, rfl⟩)

theorem resD_local {callI : FuncId → List AV → Mem → Option (AV × Mem)} {call : FuncId → List AV → Option AV} {ops : Array Oper} {base i : Nat} {o : Oper} {s s' : St} {a : Do} (h : resD C callI call ops base i o s = some a) (hE : ∀ t ∈ o.looksAt ops, s.env t = s'.env t) (hS : ∀ id ∈ rdD a, s.sto id = s'.sto id) (hN : isFar a → s.nid = s'.nid) : resD C callI call ops base i o s' = some a := by
  have hO : ∀ x ∈ o.op.operands, ∀ t, opd C s.env t x = opd C s'.env t x := fun x hx t => opd_tmps (fun i hi => hE i (looks_op hx hi)) t
  unfold resD at h ⊢
  have hw : wants ops s'.env o = wants ops s.env o := by
    unfold wants
    cases hg : o.guard with
    | none => rfl
    | some jw =>
      obtain ⟨j, wt⟩ := jw
      simp only
      cases hd : (ops[j]?).bind (·.dst) with
      | none => rfl
      | some d =>
        have : s.env d = s'.env d := hE d (by
          unfold Oper.looksAt
          rw [hg]
          simp only
          rw [hd]
          simp)
        simp only [this]
  have hl : loudCall C o s' = loudCall C o s := by
    unfold loudCall
    split
    · rename_i c hop
      split
      · rename_i f hco
        have e1 := hO f (by rw [hop]; simp [Op.operands, Call.operands, hco]) 0
        have e2 := argsA_local (C := C) (env := s.env) (env' := s'.env) c.args.toList c.argTypes.toList (fun x hx => hO x (by rw [hop]; simp [Op.operands, Call.operands]; exact .inr (by simpa using hx)))
        simp only [e2, ← e1]
      · rfl
    · rfl
  rw [hw, hl]
  simp only [Option.bind_eq_some_iff] at h ⊢
  obtain ⟨b, hb, h⟩ := h
  refine ⟨b, hb, ?_⟩
  cases b with
  | false => exact h
  | true =>
    simp only [if_true] at h ⊢
    cases hlc : loudCall C o s with
    | some x =>
      obtain ⟨f, args⟩ := x
      rw [hlc] at h
      simp only at h ⊢
      obtain ⟨ids, r, m1, rfl, _⟩ := far_spec h
      exact far_local h hS (hN trivial)
    | none =>
      rw [hlc] at h
      simp only [Option.map_eq_some_iff] at h ⊢
      obtain ⟨a', ha', rfl⟩ := h
      exact ⟨a', act_local ha' hO hS, rfl⟩

theorem updL_in : ∀ (l : List (Nat × Blk)) (f g : Nat → Blk) (i : Nat), (∃ x ∈ l, x.1 = i) → updL f l i = updL g l i
  | [], f, g, i, h => by obtain ⟨x, hx, _⟩ := h; cases hx
  | (j, b) :: l, f, g, i, h => by
    simp only [updL]
    by_cases hl : ∃ x ∈ l, x.1 = i
    · exact updL_in l _ _ i hl
    · obtain ⟨x, hx, hxi⟩ := h
      rcases List.mem_cons.1 hx with rfl | hx
      · have key : ∀ (l : List (Nat × Blk)) (f g : Nat → Blk), f i = g i → updL f l i = updL g l i := by
          intro l
          induction l with
          | nil => intro f g h; exact h
          | cons y l ih =>
            intro f g h
            simp only [updL]
            apply ih
            unfold upd
            split
            · rfl
            · exact h
        apply key
        simp only at hxi
        subst hxi
        simp [upd]
      · exact absurd ⟨x, hx, hxi⟩ hl

theorem updL_out : ∀ (l : List (Nat × Blk)) (f : Nat → Blk) (i : Nat), (∀ x ∈ l, x.1 ≠ i) → updL f l i = f i
  | [], f, i, _ => rfl
  | (j, b) :: l, f, i, h => by
    simp only [updL]
    rw [updL_out l _ i (fun x hx => h x (List.mem_cons_of_mem _ hx)), upd_ne _ _ (fun e => h (j, b) (List.mem_cons_self ..) e.symm)]

theorem updL_comm (a b : List (Nat × Blk)) (f : Nat → Blk) (h : ∀ x ∈ a, ∀ y ∈ b, x.1 ≠ y.1) : updL (updL f a) b = updL (updL f b) a := by
  funext i
  by_cases hb : ∃ y ∈ b, y.1 = i
  · have ha : ∀ x ∈ a, x.1 ≠ i := fun x hx e => by
      obtain ⟨y, hy, rfl⟩ := hb
      exact h x hx y hy e
    rw [updL_in b _ f i hb, updL_out a _ i ha]
  · have hb' : ∀ y ∈ b, y.1 ≠ i := fun y hy e => hb ⟨y, hy, e⟩
    rw [updL_out b _ i hb']
    by_cases ha : ∃ x ∈ a, x.1 = i
    · exact updL_in a _ _ i ha
    · have ha' : ∀ x ∈ a, x.1 ≠ i := fun x hx e => ha ⟨x, hx, e⟩
      rw [updL_out a _ i ha', updL_out a _ i ha', updL_out b _ i hb']

theorem putE_ne {env : Nat → AV} {d : Option Tmp} {x : AV} {t : Nat} (h : ∀ d', d = some d' → t ≠ d') : putE env d x t = env t := by
  cases d with
  | none => rfl
  | some d => exact upd_ne _ _ (h d rfl)

theorem putE_comm {env : Nat → AV} {d d' : Option Tmp} {x y : AV} (h : ∀ k, d = some k → d' ≠ some k) : putE (putE env d x) d' y = putE (putE env d' y) d x := by
  cases d with
  | none => rfl
  | some k =>
    cases d' with
    | none => rfl
    | some k' =>
      have hne : k' ≠ k := fun e => h k rfl (e ▸ rfl)
      funext t
      simp only [putE, upd]
      by_cases h1 : t = k'
      · subst h1; simp [hne]
      · simp [h1]

theorem onD_env (o : Oper) (a : Do) (s : St) : ∃ x, ∀ s' : St, (onD o a s').env = putE s'.env o.dst x := by
  cases a with
  | skip => exact ⟨.void, fun _ => rfl⟩
  | act a => exact ⟨a.val, fun _ => rfl⟩
  | call ids n0 r m => exact ⟨r, fun _ => rfl⟩

/-- Which blocks it writes. -/
def wrD : Do → Nat → Prop
  | .skip, _ => False
  | .act a, i => ∃ x ∈ a.sw, x.1 = i
  | .call ids n0 _ _, i => i ∈ ids ∨ n0 ≤ i

theorem onD_out {o : Oper} {a : Do} {s : St} {i : Nat} (h : ¬ wrD a i) : (onD o a s).sto i = s.sto i := by
  cases a with
  | skip => rfl
  | act a => exact updL_out a.sw s.sto i (fun x hx e => h ⟨x, hx, e⟩)
  | call ids n0 r m =>
    simp only [wrD, not_or] at h
    simp only [onD]
    rw [if_neg (by simp; exact ⟨h.1, by omega⟩)]

theorem onD_in {o : Oper} {a : Do} {s s' : St} {i : Nat} (h : wrD a i) : (onD o a s).sto i = (onD o a s').sto i := by
  cases a with
  | skip => cases h
  | act a => exact updL_in a.sw s.sto s'.sto i h
  | call ids n0 r m =>
    simp only [wrD] at h
    simp only [onD]
    rw [if_pos (by simpa using h), if_pos (by simpa using h)]

theorem onD_nid {o : Oper} {a : Do} {s : St} (h : ¬ isFar a) : (onD o a s).nid = s.nid := by
  cases a with
  | skip => rfl
  | act a => rfl
  | call ids n0 r m => exact absurd trivial h

theorem farB_spec {ids : List Nat} {n0 : Nat} {a : Act} (h : farB ids n0 a = true) : (∀ i ∈ a.sr, i ∉ ids ∧ i < n0) ∧ ∀ x ∈ a.sw, x.1 ∉ ids ∧ x.1 < n0 := by
  simp only [farB, Bool.and_eq_true, List.all_eq_true, Bool.not_eq_true', List.contains_eq_mem, decide_eq_false_iff_not, decide_eq_true_eq] at h
  exact h

theorem noConf_spec {a b : Do} (h : noConf a b = true) : (∀ id ∈ rdD b, ¬ wrD a id) ∧ (∀ i, wrD a i → ¬ wrD b i) ∧ (∀ id ∈ rdD a, ¬ wrD b id) ∧ ¬ (isFar a ∧ isFar b) := by
  cases a with
  | skip => exact ⟨fun _ _ h => h, fun _ h => h.elim, fun _ h => (by cases h), fun h => h.1⟩
  | act a =>
    cases b with
    | skip => exact ⟨fun _ h => (by cases h), fun _ _ h => h, fun _ _ h => h, fun h => h.2⟩
    | act b =>
      simp only [noConf, Bool.and_eq_true, List.all_eq_true, Bool.not_eq_true', List.contains_eq_mem, decide_eq_false_iff_not, bne_iff_ne, ne_eq] at h
      refine ⟨fun id hid ⟨x, hx, e⟩ => (h.1 x hx).1 (e ▸ hid), fun i ⟨x, hx, e⟩ ⟨y, hy, e'⟩ => (h.1 x hx).2 y hy (e.trans e'.symm), fun id hid ⟨y, hy, e⟩ => h.2 y hy (e ▸ hid), fun h => h.1⟩
    | call ids n0 r m =>
      obtain ⟨h1, h2⟩ := farB_spec h
      refine ⟨fun id hid ⟨x, hx, e⟩ => (h2 x hx).1 (e ▸ hid), fun i ⟨x, hx, e⟩ hw => ?_, fun id hid hw => ?_, fun h => h.1⟩
      · have := h2 x hx
        rcases hw with hw | hw
        · exact this.1 (e ▸ hw)
        · omega
      · have := h1 id hid
        rcases hw with hw | hw
        · exact this.1 hw
        · omega
  | call ids n0 r m =>
    cases b with
    | skip => exact ⟨fun _ h => (by cases h), fun _ _ h => h, fun _ _ h => h, fun h => h.2⟩
    | act b =>
      obtain ⟨h1, h2⟩ := farB_spec h
      refine ⟨fun id hid hw => ?_, fun i hw ⟨x, hx, e⟩ => ?_, fun id hid ⟨x, hx, e⟩ => (h2 x hx).1 (e ▸ hid), fun h => h.2⟩
      · have := h1 id hid
        rcases hw with hw | hw
        · exact this.1 hw
        · omega
      · have := h2 x hx
        rcases hw with hw | hw
        · exact this.1 (e ▸ hw)
        · omega
    | call _ _ _ _ => cases h

theorem St.ext' {s s' : St} (h1 : s.env = s'.env) (h2 : s.sto = s'.sto) (h3 : s.nid = s'.nid) : s = s' := by
  obtain ⟨⟨_, _⟩, _⟩ := s
  obtain ⟨⟨_, _⟩, _⟩ := s'
  simp only at h1 h2 h3
  subst h1 h2 h3
  rfl

/-- Two operations that don't conflict, either way round. -/
theorem swapD {callI : FuncId → List AV → Mem → Option (AV × Mem)} {call : FuncId → List AV → Option AV} {ops : Array Oper} {base i j : Nat} {p q : Oper} {a b : Do} {s : St} (h1 : resD C callI call ops base i p s = some a) (h2 : resD C callI call ops base j q (onD p a s) = some b) (hap : p.apart ops q = true) (hc : noConf a b = true) :
    resD C callI call ops base j q s = some b ∧ resD C callI call ops base i p (onD q b s) = some a ∧ onD p a (onD q b s) = onD q b (onD p a s) := by
  obtain ⟨a1, a2, a3⟩ := Oper.apart_spec hap
  obtain ⟨c1, c2, c3, c4⟩ := noConf_spec hc
  obtain ⟨xa, hxa⟩ := onD_env p a s
  obtain ⟨xb, hxb⟩ := onD_env q b s
  refine ⟨?_, ?_, ?_⟩
  · refine resD_local h2 (fun t ht => ?_) (fun id hid => onD_out (c1 id hid)) (fun hf => onD_nid (fun ha => c4 ⟨ha, hf⟩))
    rw [hxa, putE_ne (fun d hd e => a1 d hd (e ▸ ht))]
  · refine resD_local h1 (fun t ht => ?_) (fun id hid => (onD_out (c3 id hid)).symm) (fun hf => (onD_nid (fun hb => c4 ⟨hf, hb⟩)).symm)
    rw [hxb, putE_ne (fun d hd e => a3 d hd (e ▸ ht))]
  · have hd : ∀ k, q.dst = some k → p.dst ≠ some k := fun k hk hp => a2 k hp hk
    refine St.ext' ?_ ?_ ?_
    · rw [hxa, hxb, hxb, hxa, putE_comm hd]
    · funext i
      by_cases ha : wrD a i
      · have hb := c2 i ha
        rw [onD_out (a := b) hb]
        exact onD_in ha
      · rw [onD_out (a := a) ha]
        by_cases hb : wrD b i
        · exact onD_in hb
        · rw [onD_out hb, onD_out hb, onD_out ha]
    · by_cases ha : isFar a
      · have hb : ¬ isFar b := fun hb => c4 ⟨ha, hb⟩
        rw [onD_nid (a := b) hb]
        cases a <;> first | rfl | exact ha.elim
      · rw [onD_nid ha]
        by_cases hb : isFar b
        · cases b <;> first | rfl | exact hb.elim
        · rw [onD_nid hb, onD_nid hb, onD_nid ha]

/-- A call's function and arguments, in the frame. -/
theorem loud_rep {n : Nat} {A : _root_.Go.Act} {s : St} {o : Oper} {f : FuncId} {args : List AV} (hs : Sim C n G A w s) (hl : loudCall C o s = some (f, args)) : ∃ (c : Call) (fo : Operand) (cvs : Array Value) (as : List AV), o.op = .call c ∧ c.callee = .value fo ∧ A.eval fo = .func (.func f) #[] cvs ∧ as.length = c.args.size ∧ (c.args.map A.eval ++ cvs).size = args.length ∧ ∀ (j : Nat) v a, (c.args.map A.eval ++ cvs)[j]? = some v → args[j]? = some a → Rep G v a := by
  unfold loudCall at hl
  split at hl
  · rename_i c hop
    split at hl
    · rename_i fo hco
      simp only [Option.bind_eq_some_iff] at hl
      obtain ⟨fv, hfv, as, has, hl⟩ := hl
      split at hl
      · rename_i f' cap
        split at hl
        · simp only [Option.some.injEq, Prod.mk.injEq] at hl
          obtain ⟨rfl, rfl⟩ := hl
          obtain ⟨a1, a2⟩ := argsA_rep hs.env hs.ctx has
          have hfr := opd_rep hs.env hs.ctx hfv
          generalize hfx : A.eval fo = u at hfr
          cases hfr with
          | fn _ _ cvs _ hcl hcr =>
            refine ⟨c, fo, cvs, as, hop, hco, hfx, by simp [a1], by simp [a1, hcl], fun j v a hv ha => ?_⟩
            have hsz : (c.args.map A.eval).size = as.length := by simp [a1]
            by_cases hj : j < as.length
            · rw [List.getElem?_append_left hj] at ha
              rw [Array.getElem?_append_left (by omega)] at hv
              obtain ⟨x, hx, hr⟩ := a2 j a ha
              simp only [Array.getElem?_map, Option.map_eq_some_iff] at hv
              obtain ⟨x', hx', rfl⟩ := hv
              rw [Array.getElem?_toList] at hx
              rw [hx] at hx'
              cases hx'
              exact hr
            · rw [List.getElem?_append_right (by omega)] at ha
              rw [Array.getElem?_append_right (by omega), hsz] at hv
              exact hcr _ _ _ hv ha
        · cases hl
      · cases hl
    · cases hl
  · cases hl

abbrev Tr := Nat × Oper × Do

inductive RunTr (C : Ctx) (callI : FuncId → List AV → Mem → Option (AV × Mem)) (call : FuncId → List AV → Option AV) (ops : Array Oper) (base : Nat) : List Tr → St → St → Prop
  | nil (s : St) : RunTr C callI call ops base [] s s
  | cons {i : Nat} {o : Oper} {a : Do} {l : List Tr} {s s' : St} (h : resD C callI call ops base i o s = some a) (r : RunTr C callI call ops base l (onD o a s) s') : RunTr C callI call ops base ((i, o, a) :: l) s s'

theorem bubble {callI : FuncId → List AV → Mem → Option (AV × Mem)} {call : FuncId → List AV → Option AV} {ops : Array Oper} {base : Nat} {x : Tr} {l2 : List Tr} {s' : St} : ∀ (l1 : List Tr) (s : St), (∀ p ∈ l1, p.2.1.apart ops x.2.1 = true ∧ noConf p.2.2 x.2.2 = true) → RunTr C callI call ops base (l1 ++ x :: l2) s s' → RunTr C callI call ops base (x :: (l1 ++ l2)) s s'
  | [], s, _, h => h
  | (i, p, a) :: l1, s, hc, h => by
    cases h with
    | cons h1 r =>
      have ih := bubble l1 _ (fun q hq => hc q (List.mem_cons_of_mem _ hq)) r
      obtain ⟨j, q, b⟩ := x
      cases ih with
      | cons h2 r2 =>
        obtain ⟨k1, k2⟩ := hc (i, p, a) (List.mem_cons_self ..)
        obtain ⟨s1, s2, s3⟩ := swapD h1 h2 k1 k2
        exact .cons s1 (.cons s2 (by rw [s3]; exact r2))

/-- One operation is to come before another, by way of others maybe. -/
inductive Before (ops : Array Oper) : Nat → Nat → Prop
  | one {i j : Nat} {o : Oper} {e : Edge} (h : ops[j]? = some o) (he : e ∈ o.after) (hb : Region.binds .any e = true) (hi : e.on = i) : Before ops i j
  | step {i j : Nat} {o : Oper} {e : Edge} (h : ops[j]? = some o) (he : e ∈ o.after) (hb : Region.binds .any e = true) (r : Before ops i e.on) : Before ops i j

def Needs (i : Nat) (o : Oper) : Prop := ∃ e ∈ o.after, Region.binds .any e = true ∧ e.on = i

/-- What is left to be done is what is not listed. -/
structure Link (ops : Array Oper) (L : List Tr) (listed : Array Bool) : Prop where
  size : listed.size = ops.size
  at_ : ∀ x ∈ L, ops[x.1]? = some x.2.1
  un : ∀ x ∈ L, listed.getD x.1 true = false
  all : ∀ j, listed.getD j true = false → ∃ x ∈ L, x.1 = j
  nodup : L.Pairwise fun x y => x.1 ≠ y.1
  back : L.Pairwise fun x y => ¬ Needs y.1 x.2.1
  self : ∀ x ∈ L, ∀ e ∈ x.2.1.after, Region.binds .any e = true → e.on < ops.size ∧ e.on ≠ x.1
  closed : ∀ (j : Nat) (o : Oper), listed.getD j false = true → ops[j]? = some o → ∀ e ∈ o.after, Region.binds .any e = true → listed.getD e.on false = true

theorem Before.listed {ops : Array Oper} {L : List Tr} {listed : Array Bool} (h : Link ops L listed) {i j : Nat} (hb : Before ops i j) : ∀ o, ops[j]? = some o → (∀ e ∈ o.after, Region.binds .any e = true → listed.getD e.on false = true) → listed.getD i false = true := by
  induction hb with
  | one h1 he hb hi =>
    intro o ho hall
    rw [h1] at ho
    cases ho
    exact hi ▸ hall _ he hb
  | step h1 he hb r ih =>
    intro o ho hall
    rw [h1] at ho
    cases ho
    have h2 := hall _ he hb
    cases r with
    | one k1 ke kb ki => exact ih _ k1 (fun e he hb => h.closed _ _ h2 k1 e he hb)
    | step k1 ke kb kr => exact ih _ k1 (fun e he hb => h.closed _ _ h2 k1 e he hb)

theorem Link.set {ops : Array Oper} {l1 l2 : List Tr} {x : Tr} {listed : Array Bool} (h : Link ops (l1 ++ x :: l2) listed) (hready : ∀ e ∈ x.2.1.after, Region.binds .any e = true → listed.getD e.on false = true) : Link ops (l1 ++ l2) (listed.setIfInBounds x.1 true) := by
  have hmem : ∀ y ∈ l1 ++ l2, y ∈ l1 ++ x :: l2 := fun y hy => by
    rcases List.mem_append.1 hy with hy | hy
    · exact List.mem_append_left _ hy
    · exact List.mem_append_right _ (List.mem_cons_of_mem _ hy)
  have drop : ∀ {R : Tr → Tr → Prop}, (l1 ++ x :: l2).Pairwise R → (l1 ++ l2).Pairwise R := fun hs => by
    rw [List.pairwise_append] at hs ⊢
    exact ⟨hs.1, (List.pairwise_cons.1 hs.2.1).2, fun a ha b hb => hs.2.2 a ha b (List.mem_cons_of_mem _ hb)⟩
  have hne : ∀ y ∈ l1 ++ l2, y.1 ≠ x.1 := fun y hy => by
    have hs := h.nodup
    rw [List.pairwise_append] at hs
    rcases List.mem_append.1 hy with hy | hy
    · exact hs.2.2 y hy x (List.mem_cons_self ..)
    · exact ((List.pairwise_cons.1 hs.2.1).1 y hy).symm
  have hxl : x.1 < listed.size := by
    have hx := h.un x (List.mem_append_right _ (List.mem_cons_self ..))
    rcases Nat.lt_or_ge x.1 listed.size with h' | h'
    · exact h'
    · simp [h'] at hx
  have keep : ∀ j, listed.getD j false = true → (listed.setIfInBounds x.1 true).getD j false = true := by
    intro j hj
    by_cases hjx : x.1 = j
    · subst hjx
      simp [hxl]
    · rw [getD_set_ne false hjx]
      exact hj
  refine ⟨by simp [h.size], fun y hy => h.at_ y (hmem y hy), fun y hy => ?_, fun j hj => ?_, drop h.nodup, drop h.back, fun y hy => h.self y (hmem y hy), fun j o hj ho e he hb => ?_⟩
  · rw [getD_set_ne true (Ne.symm (hne y hy))]
    exact h.un y (hmem y hy)
  · by_cases hjx : x.1 = j
    · exfalso
      subst hjx
      simp [hxl] at hj
    · rw [getD_set_ne true hjx] at hj
      obtain ⟨y, hy, rfl⟩ := h.all j hj
      refine ⟨y, ?_, rfl⟩
      rcases List.mem_append.1 hy with hy | hy
      · exact List.mem_append_left _ hy
      · rcases List.mem_cons.1 hy with rfl | hy
        · exact absurd rfl hjx
        · exact List.mem_append_right _ hy
  · by_cases hjx : x.1 = j
    · subst hjx
      have := h.at_ x (List.mem_append_right _ (List.mem_cons_self ..))
      rw [ho] at this
      cases this
      exact keep _ (hready e he hb)
    · rw [getD_set_ne false hjx] at hj
      exact keep _ (h.closed j o hj ho e he hb)

def PairOk (ops : Array Oper) (x y : Tr) : Prop := Before ops x.1 y.1 ∨ (x.2.1.apart ops y.2.1 = true ∧ noConf x.2.2 y.2.2 = true)

theorem drawn {callI : FuncId → List AV → Mem → Option (AV × Mem)} {call : FuncId → List AV → Option AV} (H : Hyps2 C callI call) {n : Nat} {ops : Array Oper} (hdst : ∀ o ∈ ops.toList, ∀ d, o.dst = some d → d < n)
    {base : Nat} {Q : Exit → _root_.Go.Act → World → Prop} {s' : St} : ∀ (k : Nat) (L : List Tr) (listed : Array Bool) (G : Gh) (A : _root_.Go.Act) (w : World) (s : St), L.length = k → Link ops L listed → RunTr C callI call ops base L s s' → L.Pairwise (PairOk ops) → Sim C n G A w s →
      (∀ x ∈ L, ∀ g, G.T (base + x.1) g = none) → base + ops.size ≤ s.nid → (∀ A' w', After C n G w A base s' A' w' → Q .normal A' w') → wpAny C.P .any ops Q k listed A w
  | 0, L, listed, G, A, w, s, hlen, hlink, hrun, hpair, hs, hfr, hb, hq => by
    have : L = [] := List.eq_nil_of_length_eq_zero hlen
    subst this
    cases hrun
    refine ⟨?_, hq _ _ (After.refl hs (by omega))⟩
    cases hr : Region.ready .any ops listed with
    | nil => rfl
    | cons j js =>
      have hj : j ∈ Region.ready .any ops listed := by rw [hr]; exact List.mem_cons_self ..
      obtain ⟨h1, _⟩ := mem_ready.1 hj
      obtain ⟨x, hx, _⟩ := hlink.all j h1
      cases hx
  | k + 1, L, listed, G, A, w, s, hlen, hlink, hrun, hpair, hs, hfr, hb, hq => by
    refine ⟨fun hnil => ?_, fun i hi => ?_⟩
    · exfalso
      cases L with
      | nil => simp at hlen
      | cons x0 L =>
        have h0 := hlink.at_ x0 (List.mem_cons_self ..)
        have : x0.1 ∈ Region.ready .any ops listed := mem_ready.2 ⟨hlink.un x0 (List.mem_cons_self ..), x0.2.1, h0, fun e he hbd => by
          obtain ⟨hlt, hne⟩ := hlink.self x0 (List.mem_cons_self ..) e he hbd
          cases hl : listed.getD e.on true with
          | true =>
            have : e.on < listed.size := by rw [hlink.size]; omega
            simp [this] at hl ⊢
            exact hl
          | false =>
            exfalso
            obtain ⟨y, hy, hye⟩ := hlink.all _ hl
            rcases List.mem_cons.1 hy with rfl | hy
            · exact hne hye.symm
            · exact (List.pairwise_cons.1 hlink.back).1 y hy ⟨e, he, hbd, hye.symm⟩⟩
        rw [hnil] at this
        cases this
    · obtain ⟨h1, o', ho', hall⟩ := mem_ready.1 hi
      obtain ⟨x, hx, rfl⟩ := hlink.all i h1
      obtain ⟨i, o, a⟩ := x
      have ho := hlink.at_ _ hx
      simp only at ho ho' h1 hall
      rw [ho] at ho'
      have heq := Option.some.inj ho'
      subst heq
      obtain ⟨l1, l2, rfl⟩ := List.append_of_mem hx
      have hbub : RunTr C callI call ops base ((i, o, a) :: (l1 ++ l2)) s s' := bubble l1 s (fun p hp => by
        rw [List.pairwise_append] at hpair
        rcases hpair.2.2 p hp _ (List.mem_cons_self ..) with hord | hok
        · exfalso
          have h2 := hord.listed hlink o ho (fun e he hb => hall e he hb)
          have h3 := hlink.un p (List.mem_append_left _ hp)
          have hin : p.1 < listed.size := by
            rcases Nat.lt_or_ge p.1 listed.size with h' | h'
            · exact h'
            · simp [h'] at h3
          simp [hin] at h2 h3
          rw [h2] at h3
          cases h3
        · exact hok) hrun
      have hlink' := hlink.set (fun e he hb => hall e he hb)
      have hlen' : (l1 ++ l2).length = k := by simp at hlen ⊢; omega
      have hsubm : ∀ y ∈ l1 ++ l2, y ∈ l1 ++ (i, o, a) :: l2 := fun y hy => by
        rcases List.mem_append.1 hy with hy | hy
        · exact List.mem_append_left _ hy
        · exact List.mem_append_right _ (List.mem_cons_of_mem _ hy)
      have hpair' : (l1 ++ l2).Pairwise (PairOk ops) := by
        rw [List.pairwise_append] at hpair ⊢
        exact ⟨hpair.1, (List.pairwise_cons.1 hpair.2.1).2, fun p hp q hq => hpair.2.2 p hp q (List.mem_cons_of_mem _ hq)⟩
      have hnei : ∀ y ∈ l1 ++ l2, y.1 ≠ i := fun y hy => by
        have hso := hlink.nodup
        rw [List.pairwise_append] at hso
        rcases List.mem_append.1 hy with hy | hy
        · exact hso.2.2 y hy _ (List.mem_cons_self ..)
        · exact ((List.pairwise_cons.1 hso.2.1).1 y hy).symm
      have hlti : i < ops.size := (Array.getElem?_eq_some_iff.1 ho).1
      have hlty : ∀ y ∈ l1 ++ l2, y.1 < ops.size := fun y hy => (Array.getElem?_eq_some_iff.1 (hlink.at_ y (hsubm y hy))).1
      have hdo : ∀ d, o.dst = some d → d < n := hdst o (by
        have := (Array.getElem?_eq_some_iff.1 ho).2
        rw [← this]
        exact Array.getElem_mem_toList hlti)
      cases hbub with
      | cons hres hrun' =>
        unfold wpOp
        simp only [ho]
        unfold resD at hres
        simp only [Option.bind_eq_some_iff] at hres
        obtain ⟨b, hbw, hres⟩ := hres
        rw [wants_spec hs.env hbw]
        cases b with
        | false =>
          simp only [Bool.false_eq_true, if_false, Option.some.injEq] at hres ⊢
          subst hres
          obtain ⟨p1, p2⟩ := hs.put (Ext.refl _ _) hs.inv hdo (v := Go.undef) (x := .void) (.void _)
          exact drawn H hdst k _ _ G _ w _ hlen' hlink' hrun' hpair' p1 (fun y hy g => hfr y (hsubm y hy) g) hb (fun A' w' ⟨G', q1, q2, q3, q4, q5⟩ => hq A' w' ⟨G', q1, q2, q3.trans p2, q4, q5⟩)
        | true =>
          simp only [if_true] at hres ⊢
          left
          cases hlc : loudCall C o s with
          | none =>
            rw [hlc] at hres
            simp only [Option.map_eq_some_iff] at hres
            obtain ⟨a', ha', rfl⟩ := hres
            refine act_wp H.toHyps hs.env hs.ctx hs.inv (fb := base + i) (nid' := s.nid) (hfr _ hx) (Nat.le_refl _) ha' (.inr (by omega)) (fun v w' G' hr hi' he' hfresh => ?_)
            obtain ⟨p1, p2⟩ := hs.put he' hi' hdo hr
            exact drawn H hdst k _ _ G' _ w' _ hlen' hlink' hrun' hpair' p1 (fun y hy g => hfresh.1 _ (by have := hnei y hy; omega) (hfr y (hsubm y hy)) g) hb (fun A' w2 ⟨G2, q1, q2, q3, q4, q5⟩ => hq A' w2 ⟨G2, q1, he'.trans q2, q3.trans p2, NewIn.trans he'.T (hfresh.newIn (Nat.le_add_right _ _)) q4 (Nat.le_refl _), q5⟩)
          | some fa =>
            obtain ⟨f, args⟩ := fa
            rw [hlc] at hres
            simp only at hres
            obtain ⟨ids, r, m1, rfl, hcl, hcall, hgen⟩ := far_spec hres
            obtain ⟨c, fo, cvs, as, hop, hco, hfx, hargs, hlen2, hrep⟩ := loud_rep hs hlc
            obtain ⟨hen, hcalls⟩ := far_call H hcl hcall hgen hs.inv hs.ctx (vs := c.args.map A.eval ++ cvs) hlen2 hrep
            refine wp_call (f := f) (vs := c.args.map A.eval ++ cvs) (by rw [exec_call hop hco hfx]; exact hen _ _) (hcalls.mono ?_)
            rintro e w' ⟨v, G', rfl, hrr, hi', he', hn', hnid⟩
            obtain ⟨p1, p2⟩ := hs.put he' hi' hdo hrr
            refine ⟨v, rfl, ?_⟩
            exact drawn H hdst k _ _ G' _ w' _ hlen' hlink' hrun' hpair' p1 (fun y hy g => hn'.1 _ (by have := hlty y hy; show base + y.1 < s.nid; omega) (hfr y (hsubm y hy)) g) (Nat.le_trans hb hnid) (fun A' w2 ⟨G2, q1, q2, q3, q4, q5⟩ => hq A' w2 ⟨G2, q1, he'.trans q2, q3.trans p2, NewIn.trans he'.T ⟨fun id hid h0 => hn'.1 id (by show id < s.nid; omega) h0, hn'.2⟩ q4 (Nat.le_refl _), q5⟩)

end Go.Ev
