/- Part of the proof of a statement about the given program: EvProg. No condition of its own. -/
import Derived.Test.YthlmbapkgblnkaaDoorEvCode
namespace Go.Ev
set_option linter.unusedVariables false

def likeB : Value → AV → Bool
  | .bool a, .bool b => a == b
  | .int k a, .int k' b => decide (k = k') && a == b
  | .string a, .str b => decide (a = b)
  | .pointer none, .nilp => true
  | .nilFunc, .nilf => true
  | .nilIface, .nili => true
  | .slice none 0 0, .nils _ => true
  | _, _ => false

theorem like_rep {G : Gh} {v : Value} {x : AV} (h : likeB v x = true) : Rep G v x := by
  unfold likeB at h
  split at h
  · simp only [beq_iff_eq] at h; subst h; exact .bool _ _
  · simp only [Bool.and_eq_true, decide_eq_true_eq, beq_iff_eq] at h; obtain ⟨rfl, rfl⟩ := h; exact .int _ _ _
  · simp only [decide_eq_true_eq] at h; subst h; exact .str _ _
  · exact .nilp _
  · exact .nilf _
  · exact .nili _
  · exact .nils _ _
  · cases h

def rowB : List Value → List AV → Bool
  | [], [] => true
  | v :: vs, x :: xs => likeB v x && rowB vs xs
  | _, _ => false

theorem row_rep {G : Gh} : ∀ {vs : List Value} {xs : List AV}, rowB vs xs = true → vs.length = xs.length ∧ ∀ (j : Nat) v c, vs[j]? = some v → xs[j]? = some c → Rep G v c
  | [], [], _ => ⟨rfl, fun j v c h => by simp at h⟩
  | v :: vs, x :: xs, h => by
    simp only [rowB, Bool.and_eq_true] at h
    obtain ⟨h1, h2⟩ := row_rep (G := G) h.2
    refine ⟨by simp [h1], fun j u c hu hc => ?_⟩
    cases j with
    | zero =>
      simp only [List.getElem?_cons_zero, Option.some.injEq] at hu hc
      subst hu hc
      exact like_rep h.1
    | succ j => exact h2 j u c (by simpa using hu) (by simpa using hc)
  | [], _ :: _, h => by simp [rowB] at h
  | _ :: _, [], h => by simp [rowB] at h

def zeroB (P : Program) (t : TypeId) : Bool :=
  match zeroC P 6 t with
  | none => true
  | some cs => match (P.info? t).bind (·.zero) with
    | some z => rowB z.cells.toList cs
    | none => false

def progB (P : Program) : Bool := (List.range P.types.size).all (zeroB P) && P.follows .mixedOrders && P.funcs.all fun fn => match fn.body with | some c => codeOk fn.ntmps c && fn.name != "runtime.NumGoroutine" | none => true

theorem progB_ok {P : Program} (h : progB P = true) : ProgOk P := by
  simp only [progB, Bool.and_eq_true, List.all_eq_true, List.mem_range] at h
  obtain ⟨⟨h1, h2⟩, h3⟩ := h
  rw [Array.all_eq_true_iff_forall_mem] at h3
  refine ⟨fun G t cs hz => ?_, h2, fun f fn c hf hb => ?_, fun f fn c hf hb => ?_⟩
  · have hlt : t < P.types.size := by
      rcases Nat.lt_or_ge t P.types.size with h | h
      · exact h
      · exfalso
        unfold zeroC at hz
        rw [if_pos h] at hz
        cases hz
    have := h1 t hlt
    unfold zeroB at this
    rw [hz] at this
    simp only at this
    split at this
    · rename_i z hzz
      obtain ⟨k1, k2⟩ := row_rep (G := G) this
      exact ⟨z, hzz, by simpa using k1, fun j v c hv hc => k2 j v c (by simpa using hv) hc⟩
    · cases this
  · have := h3 fn (Array.mem_of_getElem? hf)
    rw [hb] at this
    simp only [Bool.and_eq_true] at this
    exact this.1
  · have := h3 fn (Array.mem_of_getElem? hf)
    rw [hb] at this
    simp only [Bool.and_eq_true, bne_iff_ne, ne_eq] at this
    exact this.2
end Go.Ev
