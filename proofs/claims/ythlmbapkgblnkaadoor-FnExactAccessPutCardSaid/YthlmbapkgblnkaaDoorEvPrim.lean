/- Part of the proof of a statement about the given program: EvPrim EvRow. No condition of its own. -/
import Derived.Test.YthlmbapkgblnkaaDoorEvProg
import Derived.Sort.Grow
import Derived.Deep.Draws
import Derived.Below
section
namespace Go.Ev
open Go.Sort
set_option linter.unusedVariables false
variable {C : Ctx}

/-- A function by a contract that says: it returns what reads as r, and the world has but grown. -/
theorem pure_grow {f : FuncId} {args : List AV} {r : AV} (hen : ∀ (vs : Array Value) (w : World), (callFunc f vs).run C.P w = .ok (.enter f vs) w)
    (h : ∀ (G : Gh) (w : World) (vs : Array Value), (∀ i g, G.T i g = none) → Inv G w .empty → CtxOk C G w → vs.size = args.length → (∀ (j : Nat) v a, vs[j]? = some v → args[j]? = some a → Rep G v a) →
      Calls C.P f vs w fun e w' => ∃ v, e = .returned v ∧ (∀ G, Rep G v r) ∧ w'.os = w.os ∧ w'.tape = w.tape ∧ w'.output = w.output ∧ w.heap.size ≤ w'.heap.size ∧ ∀ k, k < w.heap.size → w'.heap[k]? = w.heap[k]?) : PureOk C f args r := by
  refine ⟨hen, fun G w vs hT hi hc hsz hr => (h G w vs hT hi hc hsz hr).mono ?_⟩
  rintro e w' ⟨v, rfl, hv, h1, h2, h3, h4, h5⟩
  refine ⟨v, G, rfl, hT, hv G, ⟨fun b j u hu => ?_, fun id b tot ap h => (by rw [hT] at h; cases h), fun id id' b x y h => (by rw [hT] at h; cases h), fun id g x h => (by rw [hT] at h; cases h)⟩, ⟨fun _ => List.prefix_refl _, fun _ _ _ h => h, h1, h2, h3, h4, fun b hb _ => ⟨h5 b hb, rfl⟩, fun id g b x h => (by rw [hT] at h; cases h)⟩⟩
  have hc' := hi.okM b j u hu
  have hlt : b < w.heap.size := by
    rcases Nat.lt_or_ge b w.heap.size with hb | hb
    · exact hb
    · exfalso
      simp only [World.cell?] at hc'
      rw [Array.getElem?_eq_none hb] at hc'
      cases hc'
  simp only [World.cell?] at hc' ⊢
  rw [h5 b hlt]
  exact hc'

theorem grown {w : World} {k : Nat} {os : Array Obj} : (grow (w.drewN k) os).os = w.os ∧ (grow (w.drewN k) os).tape = w.tape ∧ (grow (w.drewN k) os).output = w.output ∧ w.heap.size ≤ (grow (w.drewN k) os).heap.size ∧ ∀ i, i < w.heap.size → (grow (w.drewN k) os).heap[i]? = w.heap[i]? := by
  refine ⟨rfl, rfl, rfl, ?_, fun i hi => ?_⟩
  · show w.heap.size ≤ (w.heap ++ os).size
    rw [Array.size_append]
    omega
  · show (w.heap ++ os)[i]? = w.heap[i]?
    rw [Array.getElem?_append_left hi]
end Go.Ev
end
section
namespace Go.Ev
set_option linter.unusedVariables false
variable {C : Ctx}

def blockLen (w : World) (b : Nat) : Nat :=
  match w.heap[b]? with
  | some (.cells cur _ _) => cur.size
  | _ => 0

/-- All that lies in a world, to stay. -/
def Gh.ofWorld (w : World) : Gh := ⟨fun b => rowOf w b (blockLen w b), fun _ _ => none⟩

theorem ofWorld_cell {w : World} {b j : Nat} {v : Value} (h : w.cell? ⟨b, j, none⟩ = some v) : ((Gh.ofWorld w).M b)[j]? = some v := by
  show (rowOf w b (blockLen w b))[j]? = some v
  rw [rowOf_get]
  have hlt : j < blockLen w b := by
    unfold blockLen
    simp only [World.cell?] at h
    split at h
    · rename_i c e fr hh
      rw [hh]
      simp only [Option.isSome_none, Bool.false_eq_true, if_false] at h
      exact (Array.getElem?_eq_some_iff.1 h).1
    · cases h
  rw [if_pos hlt, h]
  rfl

theorem inv_ofWorld (w : World) : Inv (Gh.ofWorld w) w .empty := by
  refine ⟨fun b j v h => ?_, fun _ _ _ _ h => by simp [Gh.ofWorld] at h, fun _ _ _ _ _ h => by simp [Gh.ofWorld] at h, fun _ _ _ h => by simp [Gh.ofWorld] at h⟩
  have h' : (rowOf w b (blockLen w b))[j]? = some v := h
  rw [rowOf_get] at h'
  split at h'
  · rename_i hj
    simp only [Option.some.injEq] at h'
    unfold blockLen at hj
    split at hj
    · rename_i c e fr hh
      rw [cell_live hh] at h' ⊢
      rw [Array.getElem?_eq_getElem hj] at h' ⊢
      simpa using h'
    · omega
  · cases h'

/-- A slice of bytes that lies in the world. -/
theorem rep_bytes {w : World} {a : Option Addr} {n cap : Nat} {zs : List Int} (hn : n ≤ cap) (hz : zs.length = cap) (hnil : a = none → n = 0 ∧ cap = 0) (hc : ∀ x, a = some x → ∀ i, i < zs.length → w.cell? (x.add i) = some (.int .u8 (zs.getD i 0))) :
    Rep (Gh.ofWorld w) (.slice a n cap) (.slice 1 ((zs.take n).map (.int .u8 ·))) := by
  cases a with
  | none =>
    obtain ⟨rfl, rfl⟩ := hnil rfl
    exact .slice0 _ _
  | some x =>
    by_cases h0 : n = 0
    · subst h0
      exact .sliceE _ _ _ _
    · obtain ⟨b, off, spot⟩ := x
      have hsp : spot = none := by
        have := hc _ rfl 0 (by omega)
        cases spot with
        | none => rfl
        | some s =>
          exfalso
          simp only [World.cell?] at this
          split at this
          · first
              | (simp [Addr.add] at this; done)
              | (simp at this)
          · cases this
      subst hsp
      have hfl : flat ((zs.take n).map (AV.int .u8 ·)) = (zs.take n).map (AV.int .u8 ·) := by
        unfold flat
        induction (zs.take n) with
        | nil => rfl
        | cons z l ih => simp only [List.map_cons, List.flatten_cons, ih]; rfl
      refine .slice _ b off n cap 1 _ ((zs.take n).map (Value.int .u8 ·)) (by simp; omega) hn (fun x hx => ?_) (by rw [hfl]; simp) (fun j v hv => ?_) (fun c hcc => ?_) (fun j v c hv hcc => ?_)
      · obtain ⟨z, _, rfl⟩ := List.mem_map.1 hx
        rfl
      · simp only [List.getElem?_map, Option.map_eq_some_iff, List.getElem?_take] at hv
        obtain ⟨z, hz', rfl⟩ := hv
        split at hz'
        · apply ofWorld_cell
          have hj : j < zs.length := (List.getElem?_eq_some_iff.1 hz').1
          have := hc _ rfl j hj
          rw [List.getD_eq_getElem?_getD, hz', add_addr] at this
          exact this
        · cases hz'
      · rw [hfl] at hcc
        obtain ⟨z, _, rfl⟩ := List.mem_map.1 hcc
        rfl
      · rw [hfl] at hcc
        simp only [List.getElem?_map, Option.map_eq_some_iff] at hv hcc
        obtain ⟨z, hz1, rfl⟩ := hv
        obtain ⟨z', hz2, rfl⟩ := hcc
        rw [hz1] at hz2
        cases hz2
        exact .int _ _ _

/-- The call of a law. -/
theorem calls_of {prim : FuncId → List AV → Option AV} (hP : ProgOk C.P) (hprim : ∀ f args r, prim f args = some r → PureOk C f args r) (hpI : ∀ f args m r m', C.pI f args m = some (r, m') → ShareOk C f args m r m') {f : FuncId} {args : List AV} {b : Bool} (h : fnA C prim f args = some (.bool b)) {w : World} {vs : Array Value} (hc : CtxOk C (Gh.ofWorld w) w) (hsz : vs.size = args.length) (hr : ∀ (j : Nat) v a, vs[j]? = some v → args[j]? = some a → Rep (Gh.ofWorld w) v a) :
    Calls C.P f vs w fun e w' => e = .returned (.bool b) ∧ Go.RowKit.Below w.heap.size w w' := by
  refine ((fnA_sound C prim hP hprim hpI h).2 (Gh.ofWorld w) w vs (fun _ _ => rfl) (inv_ofWorld w) hc hsz hr).mono ?_
  rintro e w' ⟨v, G', rfl, _, hrr, _, he⟩
  obtain rfl := rep_bool hrr
  exact ⟨rfl, he.os, he.tape, he.output, he.size, fun k hk => (he.frame k hk (fun _ _ _ h => by simp [Gh.ofWorld] at h)).1⟩
end Go.Ev
end
