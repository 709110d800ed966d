/- Part of the proof of a statement about the given program: EvRep. No condition of its own. -/
import Derived.WalkKit
import Derived.Test.YtfkjjmhbljlbkaaDoorEvDef
namespace Go.Ev
set_option linter.unusedVariables false

/-- What is known of memory: cells that stay (block by block, from the first on); where the numbered blocks lie, how many cells they have, and whether they may be appended to. -/
structure Gh where
  M : Nat → List Value
  T : Nat → Nat → Option (Nat × Nat × Bool)

def Gh.bare (G : Gh) : Gh := ⟨G.M, fun _ _ => none⟩

abbrev flat (xs : List AV) : List AV := (xs.map AV.cells).flatten

inductive Rep : Gh → Value → AV → Prop
  | undef (G : Gh) (v : Value) : Rep G v .undef
  | void (G : Gh) : Rep G Go.undef .void
  | bool (G : Gh) (b : Bool) : Rep G (.bool b) (.bool b)
  | int (G : Gh) (k : IntKind) (n : Int) : Rep G (.int k n) (.int k n)
  | str (G : Gh) (s : ByteArray) : Rep G (.string s) (.str s)
  | nilp (G : Gh) : Rep G (.pointer none) .nilp
  | nilf (G : Gh) : Rep G .nilFunc .nilf
  | nili (G : Gh) : Rep G .nilIface .nili
  | nils (G : Gh) (sz : Nat) : Rep G (.slice none 0 0) (.nils sz)
  | slice0 (G : Gh) (sz : Nat) : Rep G (.slice none 0 0) (.slice sz [])
  | sliceE (G : Gh) (a : Addr) (cap sz : Nat) : Rep G (.slice (some a) 0 cap) (.slice sz [])
  | slice (G : Gh) (b off n cap sz : Nat) (xs : List AV) (vs : List Value) (hn : xs.length = n) (hc : n ≤ cap) (hs : ∀ x ∈ xs, x.cells.length = sz)
      (hl : vs.length = (flat xs).length) (hM : ∀ (j : Nat) v, vs[j]? = some v → (G.M b)[off + j]? = some v)
      (h1 : ∀ c ∈ flat xs, c.one = true) (hr : ∀ (j : Nat) v c, vs[j]? = some v → (flat xs)[j]? = some c → Rep G.bare v c) :
      Rep G (.slice (some ⟨b, off, none⟩) n cap) (.slice sz xs)
  | eptr (G : Gh) (b off : Nat) (cs : List AV) (vs : List Value)
      (hl : vs.length = cs.length) (hM : ∀ (j : Nat) v, vs[j]? = some v → (G.M b)[off + j]? = some v)
      (hr : ∀ (j : Nat) v c, vs[j]? = some v → cs[j]? = some c → Rep G.bare v c) : Rep G (.pointer (some ⟨b, off, none⟩)) (.eptr cs)
  | ptr (G : Gh) (id g off b : Nat) (x : Nat × Bool) (h : G.T id g = some (b, x)) : Rep G (.pointer (some ⟨b, off, none⟩)) (.ptr id g off)
  | arr (G : Gh) (id g off n sz b cap tot : Nat) (app ap : Bool) (h : G.T id g = some (b, tot, ap)) (hc : n ≤ cap) (ha : app = true → off = 0 ∧ cap * sz = tot ∧ ap = true) :
      Rep G (.slice (some ⟨b, off, none⟩) n cap) (.arr id g off n sz app)
  | agg (G : Gh) (vs : Array Value) (cs : List AV) (hl : vs.size = cs.length) (hr : ∀ (j : Nat) v c, vs[j]? = some v → cs[j]? = some c → Rep G v c) : Rep G (.agg vs) (.agg cs)
  | tup (G : Gh) (vs : Array Value) (cs : List AV) (hl : vs.size = cs.length) (hr : ∀ (j : Nat) v c, vs[j]? = some v → cs[j]? = some c → Rep G v c) : Rep G (.tuple vs) (.tup cs)
  | fn (G : Gh) (f : FuncId) (vs : Array Value) (cs : List AV) (hl : vs.size = cs.length) (hr : ∀ (j : Nat) v c, vs[j]? = some v → cs[j]? = some c → Rep G v c) : Rep G (.func (.func f) #[] vs) (.fn f cs)

theorem prefix_get {α : Type} {l m : List α} (h : l <+: m) {j : Nat} {v : α} (hv : l[j]? = some v) : m[j]? = some v := by
  obtain ⟨t, rfl⟩ := h
  rw [List.getElem?_append_left (List.getElem?_eq_some_iff.1 hv).1]
  exact hv

theorem Rep.mono {G G' : Gh} {v : Value} {x : AV} (h : Rep G v x) (hM : ∀ b, G.M b <+: G'.M b) (hT : ∀ id g y, G.T id g = some y → G'.T id g = some y) : Rep G' v x := by
  induction h generalizing G' with
  | undef => exact .undef _ _
  | void => exact .void _
  | bool => exact .bool _ _
  | int => exact .int _ _ _
  | str => exact .str _ _
  | nilp => exact .nilp _
  | nilf => exact .nilf _
  | nili => exact .nili _
  | nils => exact .nils _ _
  | slice0 => exact .slice0 _ _
  | sliceE => exact .sliceE _ _ _ _
  | slice G b off n cap sz xs vs hn hc hs hl hm h1 hr ih => exact .slice _ b off n cap sz xs vs hn hc hs hl (fun j v hv => prefix_get (hM b) (hm j v hv)) h1 (fun j v c hv hc => ih j v c hv hc (G' := G'.bare) hM (fun _ _ _ h => h))
  | eptr G b off cs vs hl hm hr ih => exact .eptr _ b off cs vs hl (fun j v hv => prefix_get (hM b) (hm j v hv)) (fun j v c hv hc => ih j v c hv hc (G' := G'.bare) hM (fun _ _ _ h => h))
  | ptr G id g off b x h => exact .ptr _ id g off b x (hT _ _ _ h)
  | arr G id g off n sz b cap tot app ap h hc ha => exact .arr _ id g off n sz b cap tot app ap (hT _ _ _ h) hc ha
  | agg G vs cs hl hr ih => exact .agg _ vs cs hl (fun j v c hv hc => ih j v c hv hc hM hT)
  | tup G vs cs hl hr ih => exact .tup _ vs cs hl (fun j v c hv hc => ih j v c hv hc hM hT)
  | fn G f vs cs hl hr ih => exact .fn _ f vs cs hl (fun j v c hv hc => ih j v c hv hc hM hT)

theorem Rep.one {G : Gh} {v : Value} {x : AV} (h : Rep G v x) (h1 : x.one = true) : v.oneCell' = true := by
  cases h <;> first | rfl | (simp [AV.one] at h1)

theorem AV.cells_one {x : AV} (h : x.one = true) : x.cells = [x] := by cases x <;> first | rfl | (simp [AV.one] at h)
theorem cells_one {v : Value} (h : v.oneCell' = true) : v.cells = #[v] := by cases v <;> first | rfl | (simp [Value.oneCell'] at h)

/-- The cells of a value. -/
theorem Rep.cells {G : Gh} {v : Value} {x : AV} (h : Rep G v x) (h1 : x.cells.all AV.one = true) : v.cells.size = x.cells.length ∧ (∀ (j : Nat) u c, v.cells[j]? = some u → x.cells[j]? = some c → Rep G u c) ∧ ∀ (j : Nat) u, v.cells[j]? = some u → u.oneCell' = true := by
  by_cases hx : x.one = true
  · have hv := h.one hx
    rw [AV.cells_one hx, cells_one hv]
    refine ⟨rfl, fun j u c hu hc => ?_, fun j u hu => ?_⟩
    · rcases j with _ | j
      · simp only [List.getElem?_cons_zero, Option.some.injEq, List.getElem?_toArray] at hu hc
        subst hu hc
        exact h
      · simp at hu
    · rcases j with _ | j
      · simp at hu
        exact hu ▸ hv
      · simp at hu
  · cases h with
    | agg _ vs cs hl hr =>
      refine ⟨hl, hr, fun j u hu => ?_⟩
      simp only [Value.cells] at hu
      have hj : j < cs.length := hl ▸ (Array.getElem?_eq_some_iff.1 hu).1
      have hc : cs[j]? = some cs[j] := List.getElem?_eq_getElem hj
      refine (hr j u _ hu hc).one ?_
      simp only [AV.cells, List.all_eq_true] at h1
      exact h1 _ (List.getElem_mem hj)
    | _ => first | (simp [AV.cells, AV.one] at h1; done) | exact absurd rfl hx

structure LiveAt (G : Gh) (w : World) (m : Mem) (id b tot : Nat) (ap : Bool) (cur : Array Value) (e : TypeId) (fr : Nat × Nat) : Prop where
  t : G.T id (m.sto id).gen = some (b, tot, ap)
  heap : w.heap[b]? = some (.cells cur e fr)
  size : cur.size = tot
  fr : fr = (0, 0) ∨ (ap = false ∧ fr = (tot, tot + 1))
  len : (m.sto id).cells.length ≤ tot
  rep : ∀ (j : Nat) v c, cur[j]? = some v → (m.sto id).cells[j]? = some c → Rep G v c
  one : ∀ c ∈ (m.sto id).cells, c.one = true
  kept : (G.M b).length ≤ (m.sto id).cells.length
  soft : (m.sto id).froz = false → G.M b = []
  typ : ∀ t x, (m.sto id).ty = some (t, x) → e = t ∧ (x = true → tot = (m.sto id).cells.length)

structure Inv (G : Gh) (w : World) (m : Mem) : Prop where
  okM : ∀ b (j : Nat) v, (G.M b)[j]? = some v → w.cell? ⟨b, j, none⟩ = some v
  live : ∀ id b tot ap, G.T id (m.sto id).gen = some (b, tot, ap) → ∃ cur e fr, LiveAt G w m id b tot ap cur e fr
  dist : ∀ id id' b x y, G.T id (m.sto id).gen = some (b, x) → G.T id' (m.sto id').gen = some (b, y) → id = id'
  dom : ∀ id g x, G.T id g = some x → id < m.nid ∧ g ≤ (m.sto id).gen

structure Ext (G : Gh) (w : World) (G' : Gh) (w' : World) : Prop where
  M : ∀ b, G.M b <+: G'.M b
  T : ∀ id g x, G.T id g = some x → G'.T id g = some x
  os : w'.os = w.os
  tape : w'.tape = w.tape
  output : w'.output = w.output
  size : w.heap.size ≤ w'.heap.size
  frame : ∀ b, b < w.heap.size → (∀ id g x, G.T id g ≠ some (b, x)) → w'.heap[b]? = w.heap[b]? ∧ G'.M b = G.M b
  own : ∀ id g b x, G'.T id g = some (b, x) → b < w.heap.size → ∃ id' g' x', G.T id' g' = some (b, x')

theorem Ext.refl (G : Gh) (w : World) : Ext G w G w := ⟨fun _ => List.prefix_refl _, fun _ _ _ h => h, rfl, rfl, rfl, Nat.le_refl _, fun _ _ _ => ⟨rfl, rfl⟩, fun id g b x h _ => ⟨id, g, x, h⟩⟩

theorem Ext.trans {G G1 G2 : Gh} {w w1 w2 : World} (h : Ext G w G1 w1) (k : Ext G1 w1 G2 w2) : Ext G w G2 w2 where
  M b := (h.M b).trans (k.M b)
  T id g x hx := k.T _ _ _ (h.T _ _ _ hx)
  os := k.os.trans h.os
  tape := k.tape.trans h.tape
  output := k.output.trans h.output
  size := Nat.le_trans h.size k.size
  frame b hb hn := by
    obtain ⟨h1, h2⟩ := h.frame b hb hn
    obtain ⟨k1, k2⟩ := k.frame b (Nat.lt_of_lt_of_le hb h.size) (fun id g x hx => by
      obtain ⟨i, g', x', hx'⟩ := h.own id g b x hx hb
      exact hn _ _ _ hx')
    exact ⟨k1.trans h1, k2.trans h2⟩
  own id g b x hx hb := by
    obtain ⟨i, g', x', hx'⟩ := k.own id g b x hx (Nat.lt_of_lt_of_le hb h.size)
    exact h.own _ _ _ _ hx' hb

theorem Rep.ext {G G' : Gh} {w w' : World} {v : Value} {x : AV} (h : Rep G v x) (e : Ext G w G' w') : Rep G' v x := h.mono e.M e.T

/-- What the frame's slots hold. -/
def EnvRep (G : Gh) (tmps : Array Value) (env : Nat → AV) : Prop := ∀ t, Rep G (tmps.getD t Go.undef) (env t)

theorem EnvRep.ext {G G' : Gh} {w w' : World} {a : Array Value} {env : Nat → AV} (h : EnvRep G a env) (e : Ext G w G' w') : EnvRep G' a env := fun t => (h t).ext e

theorem EnvRep.put {G : Gh} {a : Array Value} {env : Nat → AV} (h : EnvRep G a env) {d : Nat} {v : Value} {x : AV} (hd : d < a.size) (hr : Rep G v x) : EnvRep G (a.setIfInBounds d v) (upd env d x) := by
  intro t
  unfold upd
  by_cases e : t = d
  · subst e
    simpa [Array.getD, hd] using hr
  · rw [if_neg e]
    have := h t
    simp only [Array.getD_eq_getD_getElem?] at this ⊢
    rwa [Array.getElem?_setIfInBounds_ne (Ne.symm e)]

end Go.Ev
