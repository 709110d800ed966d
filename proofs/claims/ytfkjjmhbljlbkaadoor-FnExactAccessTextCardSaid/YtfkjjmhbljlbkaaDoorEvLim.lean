/- Part of the proof of a statement about the given program: EvLim. No condition of its own. -/
import Derived.Test.YtfkjjmhbljlbkaaDoorEvFun
namespace Go.Ev
set_option linter.unusedVariables false
set_option linter.unusedSimpArgs false
variable {C : Ctx}

abbrev CI := FuncId → List AV → Mem → Option (AV × Mem)
abbrev CA := FuncId → List AV → Option AV

def HoldI (I : CI) (l : List (FuncId × List AV × Mem × (AV × Mem))) : Prop := ∀ x ∈ l, I x.1 x.2.1 x.2.2.1 = some x.2.2.2
def HoldA (A : CA) (l : List (FuncId × List AV × AV)) : Prop := ∀ x ∈ l, A x.1 x.2.1 = some x.2.2

/-- What is told out of finitely many calls. -/
def Fin' {α : Type} (F : CI → CA → Option α) : Prop := ∀ I A r, F I A = some r → ∃ LI LA, HoldI I LI ∧ HoldA A LA ∧ ∀ I' A', HoldI I' LI → HoldA A' LA → F I' A' = some r

theorem Fin'.const {α : Type} (x : Option α) : Fin' (fun _ _ => x) := fun I A r h => ⟨[], [], fun _ h => (by cases h), fun _ h => (by cases h), fun _ _ _ _ => h⟩

theorem Fin'.bind {α β : Type} {F : CI → CA → Option α} {G : α → CI → CA → Option β} (h : Fin' F) (k : ∀ a, Fin' (G a)) : Fin' (fun I A => (F I A).bind fun a => G a I A) := by
  intro I A r hr
  simp only [Option.bind_eq_some_iff] at hr
  obtain ⟨a, ha, hr⟩ := hr
  obtain ⟨L1, A1, h1, h2, h3⟩ := h I A a ha
  obtain ⟨L2, A2, k1, k2, k3⟩ := k a I A r hr
  refine ⟨L1 ++ L2, A1 ++ A2, fun x hx => ?_, fun x hx => ?_, fun I' A' hI hA => ?_⟩
  · rcases List.mem_append.1 hx with hx | hx
    · exact h1 x hx
    · exact k1 x hx
  · rcases List.mem_append.1 hx with hx | hx
    · exact h2 x hx
    · exact k2 x hx
  · simp only [Option.bind_eq_some_iff]
    exact ⟨a, h3 I' A' (fun x hx => hI x (List.mem_append_left _ hx)) (fun x hx => hA x (List.mem_append_left _ hx)), k3 I' A' (fun x hx => hI x (List.mem_append_right _ hx)) (fun x hx => hA x (List.mem_append_right _ hx))⟩

theorem Fin'.map {α β : Type} {F : CI → CA → Option α} (g : α → β) (h : Fin' F) : Fin' (fun I A => (F I A).map g) := by
  intro I A r hr
  simp only [Option.map_eq_some_iff] at hr
  obtain ⟨a, ha, rfl⟩ := hr
  obtain ⟨L1, A1, h1, h2, h3⟩ := h I A a ha
  exact ⟨L1, A1, h1, h2, fun I' A' hI hA => by simp only [h3 I' A' hI hA, Option.map_some]⟩

theorem Fin'.callA (f : FuncId) (l : List AV) : Fin' (fun _ A => A f l) := fun I A r h => ⟨[], [(f, l, r)], fun _ h => (by cases h), fun x hx => by simp only [List.mem_singleton] at hx; subst hx; exact h, fun I' A' _ hA => hA (f, l, r) (List.mem_singleton.2 rfl)⟩
theorem Fin'.callI (f : FuncId) (l : List AV) (m : Mem) : Fin' (fun I _ => I f l m) := fun I A r h => ⟨[(f, l, m, r)], [], fun x hx => by simp only [List.mem_singleton] at hx; subst hx; exact h, fun _ h => (by cases h), fun I' A' hI _ => hI (f, l, m, r) (List.mem_singleton.2 rfl)⟩

theorem Fin'.ite {α : Type} {p : Prop} [Decidable p] {F G : CI → CA → Option α} (h : Fin' F) (k : Fin' G) : Fin' (fun I A => if p then F I A else G I A) := by
  by_cases hp : p
  · simp only [if_pos hp]; exact h
  · simp only [if_neg hp]; exact k

theorem fin_act (fb : Nat) (o : Oper) (s : St) : Fin' (fun _ A => act C A fb o s) := by
  obtain ⟨dst, oper, type, pos, after, guard⟩ := o
  cases oper with
  | call c =>
    obtain ⟨callee, args, ts⟩ := c
    cases callee with
    | value f =>
      unfold act
      refine Fin'.bind (Fin'.const _) (fun fv => Fin'.bind (Fin'.const _) (fun as => ?_))
      cases fv with
      | fn f cap =>
        refine Fin'.ite (Fin'.const _) ?_
        exact Fin'.bind (Fin'.const _) (fun l => Fin'.map _ (Fin'.callA f l))
      | _ => exact Fin'.const _
    | _ => exact Fin'.const _
  | _ => exact Fin'.const _

theorem fin_step (ops : Array Oper) (o : Oper) (s : St) : Fin' (fun I A => stepN C I A ops o s) := by
  unfold stepN
  refine Fin'.bind (Fin'.const _) (fun w => Fin'.ite ?_ (Fin'.const _))
  cases loudCall C o s with
  | none => exact Fin'.map _ (fin_act _ _ _)
  | some x =>
    obtain ⟨f, args⟩ := x
    exact Fin'.map _ (Fin'.callI f args _)

theorem fin_runT (ops : Array Oper) : ∀ (l : List Oper) (s : St), Fin' (fun I A => runT C I A ops l s)
  | [], s => Fin'.const _
  | o :: l, s => Fin'.bind (fin_step ops o s) (fun s' => fin_runT ops l s')

theorem fin_far (f : FuncId) (args : List AV) (m : Mem) : Fin' (fun I _ => farOf I f args m) := by
  unfold farOf
  dsimp only
  refine Fin'.ite ?_ (Fin'.const _)
  exact Fin'.bind (Fin'.callI f args _) (fun x => Fin'.ite (Fin'.const _) (Fin'.const _))

theorem fin_goD (ops : Array Oper) (base : Nat) : ∀ (l : List Nat) (s : St), Fin' (fun I A => goD C I A ops base l s)
  | [], s => Fin'.const _
  | i :: r, s => by
    refine Fin'.bind (Fin'.const _) (fun o => Fin'.bind (F := fun I A => resD C I A ops base i o s) ?_ (fun a => Fin'.map _ (fin_goD ops base r (onD o a s))))
    unfold resD
    refine Fin'.bind (Fin'.const _) (fun w => Fin'.ite ?_ (Fin'.const _))
    cases loudCall C o s with
    | none => exact Fin'.map _ (fin_act _ _ _)
    | some x =>
      obtain ⟨f, args⟩ := x
      exact fin_far f args _

theorem fin_runD (ops : Array Oper) (s : St) : Fin' (fun I A => runD C I A ops s) := by
  unfold runD
  exact Fin'.bind (Fin'.const _) (fun ps => Fin'.bind (fin_goD ops _ _ _) (fun x => Fin'.ite (Fin'.const _) (Fin'.const _)))

theorem fin_loopN {F : CI → CA → St → Option (Ex × St)} (h : ∀ s, Fin' (fun I A => F I A s)) : ∀ (j : Nat) (s : St), Fin' (fun I A => loopN (F I A) j s)
  | 0, s => Fin'.const _
  | j + 1, s => Fin'.bind (h s) (fun x => by
    obtain ⟨e, s'⟩ := x
    cases e with
    | normal => exact fin_loopN h j s'
    | exit n => exact Fin'.const _
    | ret => exact Fin'.const _)

theorem fin_evc (j : Nat) : ∀ (c : Code) (s : St), Fin' (fun I A => evc C I A (fun b s => loopN b j s) c s) := by
  intro c
  induction c with
  | region id ops dr =>
    intro s
    cases dr with
    | true => exact Fin'.map _ (fin_runD ops s)
    | false => exact Fin'.map _ (fin_runT ops _ s)
  | seq a b iha ihb =>
    intro s I A r h
    simp only [evc] at h
    cases h1 : evc C I A (fun b s => loopN b j s) a s with
    | none => rw [h1] at h; cases h
    | some x =>
      obtain ⟨e, s1⟩ := x
      rw [h1] at h
      obtain ⟨L1, A1, k1, k2, k3⟩ := iha s I A _ h1
      cases e with
      | normal =>
        obtain ⟨L2, A2, m1, m2, m3⟩ := ihb s1 I A r h
        refine ⟨L1 ++ L2, A1 ++ A2, fun x hx => ?_, fun x hx => ?_, fun I' A' hI hA => ?_⟩
        · rcases List.mem_append.1 hx with hx | hx
          · exact k1 x hx
          · exact m1 x hx
        · rcases List.mem_append.1 hx with hx | hx
          · exact k2 x hx
          · exact m2 x hx
        · simp only [evc, k3 I' A' (fun x hx => hI x (List.mem_append_left _ hx)) (fun x hx => hA x (List.mem_append_left _ hx)), thenS]
          exact m3 I' A' (fun x hx => hI x (List.mem_append_right _ hx)) (fun x hx => hA x (List.mem_append_right _ hx))
      | exit n => exact ⟨L1, A1, k1, k2, fun I' A' hI hA => by simp only [evc, k3 I' A' hI hA]; exact h⟩
      | ret => exact ⟨L1, A1, k1, k2, fun I' A' hI hA => by simp only [evc, k3 I' A' hI hA]; exact h⟩
  | cond c a b iha ihb =>
    intro s
    simp only [evc, condS]
    split
    · exact Fin'.ite (iha s) (ihb s)
    · exact Fin'.const _
  | block n a iha =>
    intro s I A r h
    simp only [evc] at h
    cases h1 : evc C I A (fun b s => loopN b j s) a s with
    | none => rw [h1] at h; cases h
    | some x =>
      rw [h1] at h
      obtain ⟨L1, A1, k1, k2, k3⟩ := iha s I A _ h1
      exact ⟨L1, A1, k1, k2, fun I' A' hI hA => by simp only [evc, k3 I' A' hI hA]; exact h⟩
  | loop a iha => intro s; exact fin_loopN (F := fun I A => evc C I A (fun b s => loopN b j s) a) iha j s
  | _ => intro s; exact Fin'.const _

/-! ### what is told in the end -/

open Classical in
noncomputable def lim {α : Type} (g : Nat → Option α) : Option α := if h : ∃ r k, g k = some r then some h.choose else none

theorem lim_of {α : Type} {g : Nat → Option α} (mono : ∀ k r, g k = some r → g (k + 1) = some r) {k : Nat} {r : α} (h : g k = some r) : lim g = some r := by
  have up : ∀ (d k : Nat) r, g k = some r → g (k + d) = some r := by
    intro d
    induction d with
    | zero => exact fun k r h => h
    | succ d ih => exact fun k r h => mono _ _ (ih k r h)
  have hex : ∃ r k, g k = some r := ⟨r, k, h⟩
  unfold lim
  rw [dif_pos hex]
  obtain ⟨k', hk'⟩ := hex.choose_spec
  have h1 := up k' k r h
  have h2 := up k k' _ hk'
  rw [Nat.add_comm] at h2
  rw [h1] at h2
  exact h2.symm

theorem of_lim {α : Type} {g : Nat → Option α} {r : α} (h : lim g = some r) : ∃ k, g k = some r := by
  unfold lim at h
  split at h
  · rename_i hex
    obtain ⟨k, hk⟩ := hex.choose_spec
    simp only [Option.some.injEq] at h
    exact ⟨k, h ▸ hk⟩
  · cases h

theorem loopN_mono {b b' : St → Option (Ex × St)} (hb : ∀ s r, b s = some r → b' s = some r) : ∀ (j j' : Nat) (s : St) r, j ≤ j' → loopN b j s = some r → loopN b' j' s = some r
  | 0, j', s, r, _, h => by simp [loopN] at h
  | j + 1, 0, s, r, hj, h => by omega
  | j + 1, j' + 1, s, r, hj, h => by
    simp only [loopN, Option.bind_eq_some_iff, Prod.exists] at h ⊢
    obtain ⟨e, s', h1, h2⟩ := h
    refine ⟨e, s', hb _ _ h1, ?_⟩
    cases e with
    | normal => exact loopN_mono hb j j' s' r (by omega) h2
    | exit n => exact h2
    | ret => exact h2

noncomputable def lpL (b : St → Option (Ex × St)) (s : St) : Option (Ex × St) := lim fun k => loopN b k s

theorem lpL_next {b : St → Option (Ex × St)} {s s' : St} {r : Ex × St} (h : b s = some (.normal, s')) (hr : lpL b s' = some r) : lpL b s = some r := by
  obtain ⟨k, hk⟩ := of_lim hr
  exact lim_of (fun k r h => loopN_mono (fun _ _ h => h) k (k + 1) s r (by omega) h) (k := k + 1) (by simp only [loopN, h, Option.bind_some]; exact hk)

theorem lpL_stop {b : St → Option (Ex × St)} {s s' : St} {e : Ex} (h : b s = some (e, s')) (he : e ≠ .normal) : lpL b s = some (e, s') := by
  refine lim_of (fun k r h => loopN_mono (fun _ _ h => h) k (k + 1) s r (by omega) h) (k := 1) ?_
  simp only [loopN, h, Option.bind_some]

theorem evc_lp {I : CI} {A : CA} : ∀ (c : Code) (s : St) r, evc C I A lpL c s = some r → ∃ j, ∀ j', j ≤ j' → evc C I A (fun b s => loopN b j' s) c s = some r := by
  intro c
  induction c with
  | region id ops dr => intro s r h; cases dr <;> exact ⟨0, fun _ _ => h⟩
  | seq a b iha ihb =>
    intro s r h
    simp only [evc] at h
    cases h1 : evc C I A lpL a s with
    | none => rw [h1] at h; cases h
    | some x =>
      obtain ⟨e, s1⟩ := x
      rw [h1] at h
      obtain ⟨j1, k1⟩ := iha s _ h1
      cases e with
      | normal =>
        obtain ⟨j2, k2⟩ := ihb s1 r h
        exact ⟨max j1 j2, fun j' hj => by simp only [evc, k1 j' (by omega), thenS]; exact k2 j' (by omega)⟩
      | exit n => exact ⟨j1, fun j' hj => by simp only [evc, k1 j' hj]; exact h⟩
      | ret => exact ⟨j1, fun j' hj => by simp only [evc, k1 j' hj]; exact h⟩
  | cond c a b iha ihb =>
    intro s r h
    simp only [evc, condS] at h ⊢
    split at h
    · rename_i t ht
      cases t with
      | true => exact iha s r h
      | false => exact ihb s r h
    · cases h
  | block n a iha =>
    intro s r h
    simp only [evc] at h
    cases h1 : evc C I A lpL a s with
    | none => rw [h1] at h; cases h
    | some x =>
      rw [h1] at h
      obtain ⟨j1, k1⟩ := iha s _ h1
      exact ⟨j1, fun j' hj => by simp only [evc, k1 j' hj]; exact h⟩
  | loop a iha =>
    intro s r h
    simp only [evc] at h
    obtain ⟨k, hk⟩ := of_lim h
    have gen : ∀ (k : Nat) (s : St), loopN (evc C I A lpL a) k s = some r → ∃ j, ∀ j', j ≤ j' → ∀ i, k ≤ i → loopN (evc C I A (fun b s => loopN b j' s) a) i s = some r := by
      intro k
      induction k with
      | zero => intro s h; simp [loopN] at h
      | succ k ih =>
        intro s h
        simp only [loopN, Option.bind_eq_some_iff, Prod.exists] at h
        obtain ⟨e, s1, h1, h2⟩ := h
        obtain ⟨j1, k1⟩ := iha s _ h1
        cases e with
        | normal =>
          obtain ⟨j2, k2⟩ := ih s1 h2
          refine ⟨max j1 j2, fun j' hj i hi => ?_⟩
          obtain ⟨i, rfl⟩ : ∃ q, i = q + 1 := ⟨i - 1, by omega⟩
          simp only [loopN, k1 j' (by omega), Option.bind_some]
          exact k2 j' (by omega) i (by omega)
        | exit n =>
          refine ⟨j1, fun j' hj i hi => ?_⟩
          obtain ⟨i, rfl⟩ : ∃ q, i = q + 1 := ⟨i - 1, by omega⟩
          simp only [loopN, k1 j' (by omega), Option.bind_some]
          exact h2
        | ret =>
          refine ⟨j1, fun j' hj i hi => ?_⟩
          obtain ⟨i, rfl⟩ : ∃ q, i = q + 1 := ⟨i - 1, by omega⟩
          simp only [loopN, k1 j' (by omega), Option.bind_some]
          exact h2
    obtain ⟨j, hj⟩ := gen k s hk
    exact ⟨max j k, fun j' hj' => hj j' (by omega) j' (by omega)⟩
  | _ => intro s r h; exact ⟨0, fun _ _ => h⟩

theorem evc_lp_mono {I : CI} {A : CA} {j j' : Nat} (hj : j ≤ j') : ∀ (c : Code) (s : St) r, evc C I A (fun b s => loopN b j s) c s = some r → evc C I A (fun b s => loopN b j' s) c s = some r := by
  intro c
  induction c with
  | region id ops dr => intro s r h; cases dr <;> exact h
  | seq a b iha ihb =>
    intro s r h
    simp only [evc] at h ⊢
    cases h1 : evc C I A (fun b s => loopN b j s) a s with
    | none => rw [h1] at h; cases h
    | some x =>
      obtain ⟨e, s1⟩ := x
      rw [h1] at h
      rw [iha s _ h1]
      cases e with
      | normal => exact ihb s1 r h
      | exit n => exact h
      | ret => exact h
  | cond c a b iha ihb =>
    intro s r h
    simp only [evc, condS] at h ⊢
    split at h
    · rename_i t ht
      cases t with
      | true => exact iha s r h
      | false => exact ihb s r h
    · cases h
  | block n a iha =>
    intro s r h
    simp only [evc] at h ⊢
    cases h1 : evc C I A (fun b s => loopN b j s) a s with
    | none => rw [h1] at h; cases h
    | some x => rw [h1] at h; rw [iha s _ h1]; exact h
  | loop a iha => intro s r h; exact loopN_mono iha j j' s r hj h
  | _ => intro s r h; exact h

variable (C) (prim : FuncId → List AV → Option AV)

theorem ev_mono : ∀ k : Nat, (∀ f l m r, evI C prim k f l m = some r → evI C prim (k + 1) f l m = some r) ∧ ∀ f l r, evf C prim k f l = some r → evf C prim (k + 1) f l = some r
  | 0 => ⟨fun f l m r h => by simp [evI] at h, fun f l r h => by simp [evf] at h⟩
  | k + 1 => by
    obtain ⟨hI, hA⟩ := ev_mono k
    have body : ∀ c s r, evc C (evI C prim k) (evf C prim k) (fun b s => loopN b k s) c s = some r → evc C (evI C prim (k + 1)) (evf C prim (k + 1)) (fun b s => loopN b (k + 1) s) c s = some r := by
      intro c s r h
      obtain ⟨L1, A1, h1, h2, h3⟩ := fin_evc (C := C) k c s _ _ r h
      exact evc_lp_mono (Nat.le_succ k) c s r (h3 _ _ (fun x hx => hI _ _ _ _ (h1 x hx)) (fun x hx => hA _ _ _ (h2 x hx)))
    refine ⟨fun f l m r h => ?_, fun f l r h => ?_⟩
    · rw [evI] at h ⊢
      split at h
      · exact h
      · unfold bodyI at h ⊢
        split at h
        · rename_i fn hf
          split at h
          · rename_i c hb
            split at h
            · rw [if_pos (by assumption)]
              cases h1 : evc C (evI C prim k) (evf C prim k) (fun b s => loopN b k s) c (enterA fn l m) with
              | none => rw [h1] at h; cases h
              | some x => rw [h1] at h; rw [body _ _ _ h1]; exact h
            · cases h
          · cases h
        · cases h
    · rw [evf] at h ⊢
      split at h
      · exact h
      · unfold bodyF at h ⊢
        split at h
        · rename_i fn hf
          split at h
          · rename_i c hb
            split at h
            · rw [if_pos (by assumption)]
              cases h1 : evc C (evI C prim k) (evf C prim k) (fun b s => loopN b k s) c (enterA fn l .empty) with
              | none => rw [h1] at h; cases h
              | some x => rw [h1] at h; rw [body _ _ _ h1]; exact h
            · cases h
          · cases h
        · cases h

/-- What a function comes to, however long it takes. -/
noncomputable def fnI : CI := fun f l m => lim fun k => evI C prim k f l m
noncomputable def fnA : CA := fun f l => lim fun k => evf C prim k f l

theorem ev_up : ∀ (d k : Nat), (∀ f l m r, evI C prim k f l m = some r → evI C prim (k + d) f l m = some r) ∧ ∀ f l r, evf C prim k f l = some r → evf C prim (k + d) f l = some r
  | 0, k => ⟨fun _ _ _ _ h => h, fun _ _ _ h => h⟩
  | d + 1, k => ⟨fun f l m r h => (ev_mono C prim (k + d)).1 _ _ _ _ ((ev_up d k).1 _ _ _ _ h), fun f l r h => (ev_mono C prim (k + d)).2 _ _ _ ((ev_up d k).2 _ _ _ h)⟩

theorem evc_lim {c : Code} {s : St} {r : Ex × St} (h : evc C (fnI C prim) (fnA C prim) lpL c s = some r) : ∃ k, evc C (evI C prim k) (evf C prim k) (fun b s => loopN b k s) c s = some r := by
  obtain ⟨j, hj⟩ := evc_lp c s r h
  obtain ⟨L1, A1, h1, h2, h3⟩ := fin_evc (C := C) j c s _ _ r (hj j (Nat.le_refl _))
  have hI : ∀ L, HoldI (fnI C prim) L → ∃ k, ∀ k', k ≤ k' → HoldI (evI C prim k') L := by
    intro L
    induction L with
    | nil => exact fun _ => ⟨0, fun _ _ x hx => (by cases hx)⟩
    | cons x L ih =>
      intro hL
      obtain ⟨k1, e1⟩ := ih (fun y hy => hL y (List.mem_cons_of_mem _ hy))
      obtain ⟨k2, e2⟩ := of_lim (hL x (List.mem_cons_self ..))
      refine ⟨max k1 k2, fun k' hk y hy => ?_⟩
      rcases List.mem_cons.1 hy with rfl | hy
      · have := (ev_up C prim (k' - k2) k2).1 _ _ _ _ e2
        rwa [show k2 + (k' - k2) = k' by omega] at this
      · exact e1 k' (by omega) y hy
  have hA : ∀ L, HoldA (fnA C prim) L → ∃ k, ∀ k', k ≤ k' → HoldA (evf C prim k') L := by
    intro L
    induction L with
    | nil => exact fun _ => ⟨0, fun _ _ x hx => (by cases hx)⟩
    | cons x L ih =>
      intro hL
      obtain ⟨k1, e1⟩ := ih (fun y hy => hL y (List.mem_cons_of_mem _ hy))
      obtain ⟨k2, e2⟩ := of_lim (hL x (List.mem_cons_self ..))
      refine ⟨max k1 k2, fun k' hk y hy => ?_⟩
      rcases List.mem_cons.1 hy with rfl | hy
      · have := (ev_up C prim (k' - k2) k2).2 _ _ _ e2
        rwa [show k2 + (k' - k2) = k' by omega] at this
      · exact e1 k' (by omega) y hy
  obtain ⟨k1, e1⟩ := hI L1 h1
  obtain ⟨k2, e2⟩ := hA A1 h2
  refine ⟨max j (max k1 k2), ?_⟩
  exact evc_lp_mono (Nat.le_max_left _ _) c s r (h3 _ _ (e1 _ (by omega)) (e2 _ (by omega)))

theorem fnA_prim {f : FuncId} {l : List AV} {r : AV} (h : prim f l = some r) : fnA C prim f l = some r :=
  lim_of (fun k r h => (ev_mono C prim k).2 _ _ _ h) (k := 1) (by simp only [evf, h])

theorem fnA_body {f : FuncId} {l : List AV} {r : AV} (hp : prim f l = none) (h : bodyF C (fnI C prim) (fnA C prim) lpL f l = some r) : fnA C prim f l = some r := by
  unfold bodyF at h
  split at h
  · rename_i fn hf
    split at h
    · rename_i c hb
      split at h
      · rename_i hn
        cases h1 : evc C (fnI C prim) (fnA C prim) lpL c (enterA fn l .empty) with
        | none => rw [h1] at h; cases h
        | some x =>
          rw [h1] at h
          obtain ⟨k, hk⟩ := evc_lim C prim h1
          refine lim_of (fun k r h => (ev_mono C prim k).2 _ _ _ h) (k := k + 1) ?_
          simp only [evf, hp]
          unfold bodyF
          simp only [hf, hb, if_pos hn, hk]
          exact h
      · cases h
    · cases h
  · cases h

theorem fnI_prim {f : FuncId} {l : List AV} {m : Mem} {r : AV × Mem} (h : C.pI f l m = some r) : fnI C prim f l m = some r :=
  lim_of (fun k r h => (ev_mono C prim k).1 _ _ _ _ h) (k := 1) (by simp only [evI, h])

theorem fnI_body {f : FuncId} {l : List AV} {m : Mem} {r : AV × Mem} (hp : C.pI f l m = none) (h : bodyI C (fnI C prim) (fnA C prim) lpL f l m = some r) : fnI C prim f l m = some r := by
  unfold bodyI at h
  split at h
  · rename_i fn hf
    split at h
    · rename_i c hb
      split at h
      · rename_i hn
        cases h1 : evc C (fnI C prim) (fnA C prim) lpL c (enterA fn l m) with
        | none => rw [h1] at h; cases h
        | some x =>
          rw [h1] at h
          obtain ⟨k, hk⟩ := evc_lim C prim h1
          refine lim_of (fun k r h => (ev_mono C prim k).1 _ _ _ _ h) (k := k + 1) ?_
          simp only [evI, hp]
          unfold bodyI
          simp only [hf, hb, if_pos hn, hk]
          exact h
      · cases h
    · cases h
  · cases h

/-- THE EVALUATOR TELLS WHAT THE PROGRAM DOES. -/
theorem fnA_sound (hP : ProgOk C.P) (hprim : ∀ f args r, prim f args = some r → PureOk C f args r) (hpI : ∀ f args m r m', C.pI f args m = some (r, m') → ShareOk C f args m r m') {f : FuncId} {args : List AV} {r : AV} (h : fnA C prim f args = some r) : PureOk C f args r := by
  obtain ⟨k, hk⟩ := of_lim h
  exact (sound hP hprim hpI k).pure _ _ _ hk

end Go.Ev
