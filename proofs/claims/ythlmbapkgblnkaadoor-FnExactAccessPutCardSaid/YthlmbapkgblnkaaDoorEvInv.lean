/- Part of the proof of a statement about the given program: EvInv EvEff EvEff2 EvEff3 EvEff4. No condition of its own. -/
import Derived.Test.YthlmbapkgblnkaaDoorEvDef
import Derived.Lib.UnsafeStr
section
namespace Go.Ev
set_option linter.unusedVariables false
set_option linter.unusedSimpArgs false
variable {C : Ctx} {G : Gh} {w : World} {m : Mem}

theorem upd_same {α : Type} (f : Nat → α) (i : Nat) (v : α) : upd f i v i = v := by simp [upd]
theorem upd_ne {α : Type} (f : Nat → α) {i j : Nat} (v : α) (h : j ≠ i) : upd f i v j = f j := by simp [upd, h]

/-- One more row in the table of blocks. -/
def Gh.put (G : Gh) (id g : Nat) (x : Nat × Nat × Bool) : Gh := ⟨G.M, fun i h => if i = id ∧ h = g then some x else G.T i h⟩

theorem noM (hi : Inv G w m) {b : Nat} (hb : w.heap.size ≤ b) : G.M b = [] := by
  cases hM : G.M b with
  | nil => rfl
  | cons v r =>
    have h := hi.okM b 0 v (by rw [hM]; rfl)
    have := World.block_lt_of_cell? w _ h
    simp at this
    omega

theorem put_T {id g : Nat} {x : Nat × Nat × Bool} (hn : G.T id g = none) (i h : Nat) (y) (hy : G.T i h = some y) : (G.put id g x).T i h = some y := by
  simp only [Gh.put]
  rw [if_neg]
  · exact hy
  · rintro ⟨rfl, rfl⟩
    rw [hn] at hy
    cases hy

theorem LiveAt.lt {id b tot : Nat} {ap : Bool} {cur : Array Value} {e : TypeId} {fr : Nat × Nat} (h : LiveAt G w m id b tot ap cur e fr) : b < w.heap.size := (Array.getElem?_eq_some_iff.1 h.heap).1

/-- A new block. 'w1': the world with it, and perhaps some draws. -/
theorem inv_new (hi : Inv G w m) {fb nid' : Nat} {ty : Option (TypeId × Bool)} (hf : ∀ g, G.T fb g = none) (h1 : fb < nid') (h2 : m.nid ≤ nid') {cur : Array Value} {e : TypeId} {fr : Nat × Nat} {cs : List AV} {ap : Bool} {w1 : World}
    (hh : w1.heap = w.heap.push (.cells cur e fr)) (ho : w1.os = w.os) (ht : w1.tape = w.tape) (hout : w1.output = w.output)
    (hfr : fr = (0, 0) ∨ (ap = false ∧ fr = (cur.size, cur.size + 1))) (hlen : cs.length ≤ cur.size) (hone : ∀ c ∈ cs, c.one = true)
    (hrep : ∀ (j : Nat) v c, cur[j]? = some v → cs[j]? = some c → Rep G v c) (hty : ∀ t x, ty = some (t, x) → e = t ∧ (x = true → cur.size = cs.length)) :
    Inv (G.put fb 0 (w.heap.size, cur.size, ap)) w1 ⟨upd m.sto fb ⟨cs, 0, false, ty⟩, nid'⟩ ∧ Ext G w (G.put fb 0 (w.heap.size, cur.size, ap)) w1 := by
  have old : ∀ b, b < w.heap.size → w1.heap[b]? = w.heap[b]? := fun b hb => by rw [hh, Array.getElem?_push, if_neg (by omega)]
  have new : w1.heap[w.heap.size]? = some (.cells cur e fr) := by rw [hh]; simp
  have hsz : w1.heap.size = w.heap.size + 1 := by rw [hh]; simp
  have hT : ∀ i h y, G.T i h = some y → (G.put fb 0 (w.heap.size, cur.size, ap)).T i h = some y := fun i h y hy => put_T (hf 0) i h y hy
  have mono : ∀ {v x}, Rep G v x → Rep (G.put fb 0 (w.heap.size, cur.size, ap)) v x := fun h => h.mono (fun _ => List.prefix_refl _) hT
  have hne : ∀ i h y, G.T i h = some y → i ≠ fb := fun i h y hy e => by subst e; rw [hf] at hy; cases hy
  have hTinv : ∀ i h y, (G.put fb 0 (w.heap.size, cur.size, ap)).T i h = some y → (i = fb ∧ h = 0 ∧ y = (w.heap.size, cur.size, ap)) ∨ (i ≠ fb ∧ G.T i h = some y) := by
    intro i h y hy
    simp only [Gh.put] at hy
    split at hy
    · rename_i hc
      simp only [Option.some.injEq] at hy
      exact .inl ⟨hc.1, hc.2, hy.symm⟩
    · exact .inr ⟨hne _ _ _ hy, hy⟩
  refine ⟨⟨?_, ?_, ?_, ?_⟩, ⟨fun _ => List.prefix_refl _, hT, ho, ht, hout, by omega, fun b hb _ => ⟨old b hb, rfl⟩, fun id g b x hx hb => ?_⟩⟩
  · intro b j v hv
    have h := hi.okM b j v hv
    have hlt := World.block_lt_of_cell? w _ h
    rw [← h]
    exact World.cell?_of_block (w := w) (old b hlt)
  · intro id b tot ap' h
    rcases hTinv _ _ _ h with ⟨rfl, _, he⟩ | ⟨hid, h'⟩
    · simp only [Prod.mk.injEq] at he
      obtain ⟨rfl, rfl, rfl⟩ := he
      refine ⟨cur, e, fr, h, new, rfl, hfr, ?_, ?_, ?_, ?_, ?_, fun t x ht => by simp only [upd_same] at ht ⊢; exact hty t x ht⟩
      · simpa [upd_same] using hlen
      · intro j v c hv hc
        simp only [upd_same] at hc
        exact mono (hrep j v c hv hc)
      · intro c hc
        simp only [upd_same] at hc
        exact hone c hc
      · show (G.M _).length ≤ _
        rw [noM hi (Nat.le_refl _)]
        simp
      · intro _
        exact noM hi (Nat.le_refl _)
    · simp only [upd_ne _ _ hid] at h'
      obtain ⟨cur', e', fr', hl⟩ := hi.live _ _ _ _ h'
      refine ⟨cur', e', fr', h, (old b hl.lt).trans hl.heap, hl.size, hl.fr, ?_, ?_, ?_, ?_, ?_, fun t x ht => by simp only [upd_ne _ _ hid] at ht ⊢; exact hl.typ t x ht⟩
      · simpa [upd_ne _ _ hid] using hl.len
      · intro j v c hv hc
        simp only [upd_ne _ _ hid] at hc
        exact mono (hl.rep j v c hv hc)
      · intro c hc
        simp only [upd_ne _ _ hid] at hc
        exact hl.one c hc
      · simpa [upd_ne _ _ hid, Gh.put] using hl.kept
      · intro hfz
        simp only [upd_ne _ _ hid] at hfz
        exact hl.soft hfz
  · intro id id' b x y h h'
    rcases hTinv _ _ _ h with ⟨rfl, _, he⟩ | ⟨hid, hh1⟩
    · rcases hTinv _ _ _ h' with ⟨rfl, _, he'⟩ | ⟨hid', hh2⟩
      · rfl
      · simp only [upd_ne _ _ hid'] at hh2
        obtain ⟨_, _, _, hl⟩ := hi.live _ _ _ _ hh2
        have := hl.lt
        simp only [Prod.mk.injEq] at he
        omega
    · simp only [upd_ne _ _ hid] at hh1
      rcases hTinv _ _ _ h' with ⟨rfl, _, he'⟩ | ⟨hid', hh2⟩
      · obtain ⟨_, _, _, hl⟩ := hi.live _ _ _ _ hh1
        have := hl.lt
        simp only [Prod.mk.injEq] at he'
        omega
      · simp only [upd_ne _ _ hid'] at hh2
        exact hi.dist _ _ _ _ _ hh1 hh2
  · intro id g x h
    rcases hTinv _ _ _ h with ⟨rfl, rfl, _⟩ | ⟨hid, h'⟩
    · exact ⟨h1, Nat.zero_le _⟩
    · have := hi.dom _ _ _ h'
      simp only [upd_ne _ _ hid]
      exact ⟨by omega, this.2⟩
  · rcases hTinv _ _ _ hx with ⟨_, _, he⟩ | ⟨_, h'⟩
    · simp only [Prod.mk.injEq] at he
      omega
    · exact ⟨_, _, _, h'⟩

/-- A live block whose cells are turned, or that has more of them; under the next number of appending, perhaps. -/
theorem inv_turn (hi : Inv G w m) {id b tot : Nat} {ap : Bool} {cur cur1 : Array Value} {e : TypeId} {fr : Nat × Nat} (hl : LiveAt G w m id b tot ap cur e fr) {cs1 : List AV} {g1 : Nat} {w1 : World} {ty1 : Option (TypeId × Bool)}
    (hg : g1 = (m.sto id).gen ∨ g1 = (m.sto id).gen + 1) (hh : w1.heap[b]? = some (.cells cur1 e fr)) (hother : ∀ k, k ≠ b → w1.heap[k]? = w.heap[k]?) (hsize : w1.heap.size = w.heap.size)
    (ho : w1.os = w.os) (ht : w1.tape = w.tape) (hout : w1.output = w.output) (hc1 : cur1.size = cur.size) (hlen : cs1.length ≤ tot) (hone : ∀ c ∈ cs1, c.one = true)
    (hrep : ∀ (j : Nat) v c, cur1[j]? = some v → cs1[j]? = some c → Rep G v c) (hkeep : ∀ j : Nat, j < (G.M b).length → cur1[j]? = cur[j]?) (hlk : (G.M b).length ≤ cs1.length) (hty : ∀ t x, ty1 = some (t, x) → ∃ y, (m.sto id).ty = some (t, y) ∧ (x = true → y = true ∧ cs1.length = (m.sto id).cells.length)) :
    Inv (G.put id g1 (b, tot, ap)) w1 ⟨upd m.sto id ⟨cs1, g1, (m.sto id).froz, ty1⟩, m.nid⟩ ∧ Ext G w (G.put id g1 (b, tot, ap)) w1 := by
  have hT : ∀ i h y, G.T i h = some y → (G.put id g1 (b, tot, ap)).T i h = some y := by
    intro i h y hy
    simp only [Gh.put]
    split
    · rename_i hc
      obtain ⟨rfl, rfl⟩ := hc
      rcases hg with rfl | rfl
      · rw [hl.t] at hy
        exact hy
      · have := (hi.dom _ _ _ hy).2
        omega
    · exact hy
  have mono : ∀ {v x}, Rep G v x → Rep (G.put id g1 (b, tot, ap)) v x := fun h => h.mono (fun _ => List.prefix_refl _) hT
  have hTinv : ∀ i h y, (G.put id g1 (b, tot, ap)).T i h = some y → (i = id ∧ h = g1 ∧ y = (b, tot, ap)) ∨ (¬ (i = id ∧ h = g1) ∧ G.T i h = some y) := by
    intro i h y hy
    simp only [Gh.put] at hy
    split at hy
    · rename_i hc
      simp only [Option.some.injEq] at hy
      exact .inl ⟨hc.1, hc.2, hy.symm⟩
    · rename_i hc
      exact .inr ⟨hc, hy⟩
  have hbv : ∀ i c f, LiveAt G w m i b c f cur e fr → True := fun _ _ _ _ => trivial
  refine ⟨⟨?_, ?_, ?_, ?_⟩, ⟨fun _ => List.prefix_refl _, hT, ho, ht, hout, by omega, fun k hk hn => ⟨hother k (fun ek => hn id _ _ (ek ▸ hl.t)), rfl⟩, fun i g k x hx hk => ?_⟩⟩
  · intro k j v hv
    have h := hi.okM k j v hv
    by_cases hk : k = b
    · subst hk
      have hj : j < (G.M k).length := (List.getElem?_eq_some_iff.1 hv).1
      have hcell : cur[j]? = some v := by
        simp only [World.cell?, hl.heap, Option.isSome_none, Bool.false_eq_true, if_false] at h
        exact h
      simp only [World.cell?, hh, Option.isSome_none, Bool.false_eq_true, if_false]
      rw [hkeep j hj]
      exact hcell
    · rw [← h]
      exact World.cell?_of_block (w := w) (hother k hk)
  · intro i k tot' ap' h
    by_cases hid : i = id
    · subst hid
      simp only [upd_same] at h
      have hx := hTinv _ _ _ h
      have he : (k, tot', ap') = (b, tot, ap) := by
        rcases hx with ⟨_, _, he⟩ | ⟨hne, _⟩
        · exact he
        · exact absurd ⟨rfl, rfl⟩ hne
      simp only [Prod.mk.injEq] at he
      obtain ⟨rfl, rfl, rfl⟩ := he
      refine ⟨cur1, e, fr, by simpa [upd_same] using h, hh, hc1.trans hl.size, hl.fr, ?_, ?_, ?_, ?_, ?_, fun t x ht => by
        simp only [upd_same] at ht ⊢
        obtain ⟨y, k1, k2⟩ := hty t x ht
        obtain ⟨k3, k4⟩ := hl.typ t y k1
        exact ⟨k3, fun hx => by rw [(k2 hx).2]; exact k4 (k2 hx).1⟩⟩
      · simpa [upd_same] using hlen
      · intro j v c hv hc
        simp only [upd_same] at hc
        exact mono (hrep j v c hv hc)
      · intro c hc
        simp only [upd_same] at hc
        exact hone c hc
      · simpa [upd_same, Gh.put] using hlk
      · intro hfz
        simp only [upd_same] at hfz
        exact hl.soft hfz
    · simp only [upd_ne _ _ hid] at h
      rcases hTinv _ _ _ h with ⟨hc, _, _⟩ | ⟨_, h'⟩
      · exact absurd hc hid
      · obtain ⟨cur', e', fr', hl'⟩ := hi.live _ _ _ _ h'
        have hkb : k ≠ b := fun ek => hid (hi.dist _ _ _ _ _ h' (ek ▸ hl.t))
        refine ⟨cur', e', fr', by simpa [upd_ne _ _ hid] using h, (hother k hkb).trans hl'.heap, hl'.size, hl'.fr, ?_, ?_, ?_, ?_, ?_, fun t x ht => by simp only [upd_ne _ _ hid] at ht ⊢; exact hl'.typ t x ht⟩
        · simpa [upd_ne _ _ hid] using hl'.len
        · intro j v c hv hc
          simp only [upd_ne _ _ hid] at hc
          exact mono (hl'.rep j v c hv hc)
        · intro c hc
          simp only [upd_ne _ _ hid] at hc
          exact hl'.one c hc
        · simpa [upd_ne _ _ hid, Gh.put] using hl'.kept
        · intro hfz
          simp only [upd_ne _ _ hid] at hfz
          exact hl'.soft hfz
  · intro i i' k x y h h'
    have conv : ∀ i x, (G.put id g1 (b, tot, ap)).T i ((upd m.sto id ⟨cs1, g1, (m.sto id).froz, ty1⟩) i).gen = some (k, x) → ∃ x', G.T i (m.sto i).gen = some (k, x') := by
      intro i x h
      by_cases hid : i = id
      · subst hid
        simp only [upd_same] at h
        rcases hTinv _ _ _ h with ⟨_, _, he⟩ | ⟨hne, _⟩
        · simp only [Prod.mk.injEq] at he
          exact ⟨_, he.1 ▸ hl.t⟩
        · exact absurd ⟨rfl, rfl⟩ hne
      · simp only [upd_ne _ _ hid] at h
        rcases hTinv _ _ _ h with ⟨hc, _, _⟩ | ⟨_, h'⟩
        · exact absurd hc hid
        · exact ⟨_, h'⟩
    obtain ⟨_, a1⟩ := conv _ _ h
    obtain ⟨_, a2⟩ := conv _ _ h'
    exact hi.dist _ _ _ _ _ a1 a2
  · intro i g x h
    rcases hTinv _ _ _ h with ⟨rfl, rfl, _⟩ | ⟨hne, h'⟩
    · simp only [upd_same]
      exact ⟨(hi.dom _ _ _ hl.t).1, Nat.le_refl _⟩
    · have := hi.dom _ _ _ h'
      by_cases hid : i = id
      · subst hid
        simp only [upd_same]
        refine ⟨this.1, ?_⟩
        rcases hg with rfl | rfl <;> omega
      · simp only [upd_ne _ _ hid]
        exact this
  · rcases hTinv _ _ _ hx with ⟨_, _, he⟩ | ⟨_, h'⟩
    · simp only [Prod.mk.injEq] at he
      exact ⟨id, _, _, he.1 ▸ hl.t⟩
    · exact ⟨_, _, _, h'⟩

/-- A live block whose contents move into a new block: under the next number of appending. -/
theorem inv_move (hi : Inv G w m) {id b tot : Nat} {ap : Bool} {cur : Array Value} {e : TypeId} {fr : Nat × Nat} (hl : LiveAt G w m id b tot ap cur e fr) {cur1 : Array Value} {e1 : TypeId} {cs1 : List AV} {w1 : World} {ty1 : Option (TypeId × Bool)}
    (hh : w1.heap = w.heap.push (.cells cur1 e1 (0, 0))) (ho : w1.os = w.os) (ht : w1.tape = w.tape) (hout : w1.output = w.output)
    (hlen : cs1.length ≤ cur1.size) (hone : ∀ c ∈ cs1, c.one = true) (hrep : ∀ (j : Nat) v c, cur1[j]? = some v → cs1[j]? = some c → Rep G v c) (hty : ∀ t x, ty1 = some (t, x) → e1 = t ∧ x = false) :
    Inv (G.put id ((m.sto id).gen + 1) (w.heap.size, cur1.size, true)) w1 ⟨upd m.sto id ⟨cs1, (m.sto id).gen + 1, (m.sto id).froz, ty1⟩, m.nid⟩ ∧ Ext G w (G.put id ((m.sto id).gen + 1) (w.heap.size, cur1.size, true)) w1 := by
  have old : ∀ b, b < w.heap.size → w1.heap[b]? = w.heap[b]? := fun b hb => by rw [hh, Array.getElem?_push, if_neg (by omega)]
  have new : w1.heap[w.heap.size]? = some (.cells cur1 e1 (0, 0)) := by rw [hh]; simp
  have hsz : w1.heap.size = w.heap.size + 1 := by rw [hh]; simp
  have hnone : G.T id ((m.sto id).gen + 1) = none := by
    cases h : G.T id ((m.sto id).gen + 1) with
    | none => rfl
    | some x => have := (hi.dom _ _ _ h).2; omega
  have hT : ∀ i h y, G.T i h = some y → (G.put id ((m.sto id).gen + 1) (w.heap.size, cur1.size, true)).T i h = some y := fun i h y hy => put_T hnone i h y hy
  have mono : ∀ {v x}, Rep G v x → Rep (G.put id ((m.sto id).gen + 1) (w.heap.size, cur1.size, true)) v x := fun h => h.mono (fun _ => List.prefix_refl _) hT
  have hTinv : ∀ i h y, (G.put id ((m.sto id).gen + 1) (w.heap.size, cur1.size, true)).T i h = some y → (i = id ∧ h = (m.sto id).gen + 1 ∧ y = (w.heap.size, cur1.size, true)) ∨ (¬ (i = id ∧ h = (m.sto id).gen + 1) ∧ G.T i h = some y) := by
    intro i h y hy
    simp only [Gh.put] at hy
    split at hy
    · rename_i hc
      simp only [Option.some.injEq] at hy
      exact .inl ⟨hc.1, hc.2, hy.symm⟩
    · rename_i hc
      exact .inr ⟨hc, hy⟩
  refine ⟨⟨?_, ?_, ?_, ?_⟩, ⟨fun _ => List.prefix_refl _, hT, ho, ht, hout, by omega, fun b hb _ => ⟨old b hb, rfl⟩, fun i g k x hx hk => ?_⟩⟩
  · intro b j v hv
    have h := hi.okM b j v hv
    have hlt := World.block_lt_of_cell? w _ h
    rw [← h]
    exact World.cell?_of_block (w := w) (old b hlt)
  · intro i k tot' ap' h
    by_cases hid : i = id
    · subst hid
      simp only [upd_same] at h
      have he : (k, tot', ap') = (w.heap.size, cur1.size, true) := by
        rcases hTinv _ _ _ h with ⟨_, _, he⟩ | ⟨hne, _⟩
        · exact he
        · exact absurd ⟨rfl, rfl⟩ hne
      simp only [Prod.mk.injEq] at he
      obtain ⟨rfl, rfl, rfl⟩ := he
      refine ⟨cur1, e1, (0, 0), by simpa [upd_same] using h, new, rfl, .inl rfl, ?_, ?_, ?_, ?_, ?_, fun t x ht => by
        simp only [upd_same] at ht
        obtain ⟨k1, k2⟩ := hty t x ht
        exact ⟨k1, fun hx => by rw [k2] at hx; cases hx⟩⟩
      · simpa [upd_same] using hlen
      · intro j v c hv hc
        simp only [upd_same] at hc
        exact mono (hrep j v c hv hc)
      · intro c hc
        simp only [upd_same] at hc
        exact hone c hc
      · show (G.M _).length ≤ _
        rw [noM hi (Nat.le_refl _)]
        simp
      · intro _
        exact noM hi (Nat.le_refl _)
    · simp only [upd_ne _ _ hid] at h
      rcases hTinv _ _ _ h with ⟨hc, _, _⟩ | ⟨_, h'⟩
      · exact absurd hc hid
      · obtain ⟨cur', e', fr', hl'⟩ := hi.live _ _ _ _ h'
        refine ⟨cur', e', fr', by simpa [upd_ne _ _ hid] using h, (old k hl'.lt).trans hl'.heap, hl'.size, hl'.fr, ?_, ?_, ?_, ?_, ?_, fun t x ht => by simp only [upd_ne _ _ hid] at ht ⊢; exact hl'.typ t x ht⟩
        · simpa [upd_ne _ _ hid] using hl'.len
        · intro j v c hv hc
          simp only [upd_ne _ _ hid] at hc
          exact mono (hl'.rep j v c hv hc)
        · intro c hc
          simp only [upd_ne _ _ hid] at hc
          exact hl'.one c hc
        · simpa [upd_ne _ _ hid, Gh.put] using hl'.kept
        · intro hfz
          simp only [upd_ne _ _ hid] at hfz
          exact hl'.soft hfz
  · intro i i' k x y h h'
    have conv : ∀ i x, (G.put id ((m.sto id).gen + 1) (w.heap.size, cur1.size, true)).T i ((upd m.sto id ⟨cs1, (m.sto id).gen + 1, (m.sto id).froz, ty1⟩) i).gen = some (k, x) → (i = id ∧ k = w.heap.size) ∨ (i ≠ id ∧ ∃ x', G.T i (m.sto i).gen = some (k, x')) := by
      intro i x h
      by_cases hid : i = id
      · subst hid
        simp only [upd_same] at h
        rcases hTinv _ _ _ h with ⟨_, _, he⟩ | ⟨hne, _⟩
        · simp only [Prod.mk.injEq] at he
          exact .inl ⟨rfl, he.1⟩
        · exact absurd ⟨rfl, rfl⟩ hne
      · simp only [upd_ne _ _ hid] at h
        rcases hTinv _ _ _ h with ⟨hc, _, _⟩ | ⟨_, h'⟩
        · exact absurd hc hid
        · exact .inr ⟨hid, _, h'⟩
    rcases conv _ _ h with ⟨rfl, rfl⟩ | ⟨hne, _, a1⟩
    · rcases conv _ _ h' with ⟨rfl, _⟩ | ⟨_, _, a2⟩
      · rfl
      · obtain ⟨_, _, _, hl'⟩ := hi.live _ _ _ _ a2
        have := hl'.lt
        omega
    · rcases conv _ _ h' with ⟨rfl, rfl⟩ | ⟨_, _, a2⟩
      · obtain ⟨_, _, _, hl'⟩ := hi.live _ _ _ _ a1
        have := hl'.lt
        omega
      · exact hi.dist _ _ _ _ _ a1 a2
  · intro i g x h
    rcases hTinv _ _ _ h with ⟨rfl, rfl, _⟩ | ⟨hne, h'⟩
    · simp only [upd_same]
      exact ⟨(hi.dom _ _ _ hl.t).1, Nat.le_refl _⟩
    · have := hi.dom _ _ _ h'
      by_cases hid : i = id
      · subst hid
        simp only [upd_same]
        exact ⟨this.1, by omega⟩
      · simp only [upd_ne _ _ hid]
        exact this
  · rcases hTinv _ _ _ hx with ⟨_, _, he⟩ | ⟨_, h'⟩
    · simp only [Prod.mk.injEq] at he
      omega
    · exact ⟨_, _, _, h'⟩

/-- A live block that is not looked at again, whatever becomes of it, but for what is to stay. -/
theorem inv_dead (hi : Inv G w m) {id b tot : Nat} {ap : Bool} {cur : Array Value} {e : TypeId} {fr fr1 : Nat × Nat} (hl : LiveAt G w m id b tot ap cur e fr) {w1 : World} {cs1 : List AV} {z1 : Bool} {ty1 : Option (TypeId × Bool)}
    (hh : w1.heap[b]? = some (.cells cur e fr1)) (hother : ∀ k, k ≠ b → w1.heap[k]? = w.heap[k]?) (hsize : w1.heap.size = w.heap.size) (ho : w1.os = w.os) (ht : w1.tape = w.tape) (hout : w1.output = w.output) :
    Inv G w1 ⟨upd m.sto id ⟨cs1, (m.sto id).gen + 1, z1, ty1⟩, m.nid⟩ ∧ Ext G w G w1 := by
  have hnone : ∀ x, G.T id ((m.sto id).gen + 1) ≠ some x := fun x h => by have := (hi.dom _ _ _ h).2; omega
  refine ⟨⟨?_, ?_, ?_, ?_⟩, ⟨fun _ => List.prefix_refl _, fun _ _ _ h => h, ho, ht, hout, by omega, fun k hk hn => ⟨hother k (fun ek => hn id _ _ (ek ▸ hl.t)), rfl⟩, fun i g k x hx hk => ⟨_, _, _, hx⟩⟩⟩
  · intro k j v hv
    have h := hi.okM k j v hv
    by_cases hk : k = b
    · subst hk
      simp only [World.cell?, hl.heap, hh, Option.isSome_none, Bool.false_eq_true, if_false] at h ⊢
      exact h
    · rw [← h]
      exact World.cell?_of_block (w := w) (hother k hk)
  · intro i k tot' ap' h
    by_cases hid : i = id
    · subst hid
      simp only [upd_same] at h
      exact absurd h (hnone _)
    · simp only [upd_ne _ _ hid] at h
      obtain ⟨cur', e', fr', hl'⟩ := hi.live _ _ _ _ h
      have hkb : k ≠ b := fun ek => hid (hi.dist _ _ _ _ _ h (ek ▸ hl.t))
      refine ⟨cur', e', fr', by simpa [upd_ne _ _ hid] using h, (hother k hkb).trans hl'.heap, hl'.size, hl'.fr, ?_, ?_, ?_, ?_, ?_, ?_⟩
      · simpa [upd_ne _ _ hid] using hl'.len
      · intro j v c hv hc
        simp only [upd_ne _ _ hid] at hc
        exact hl'.rep j v c hv hc
      · intro c hc
        simp only [upd_ne _ _ hid] at hc
        exact hl'.one c hc
      · simpa [upd_ne _ _ hid] using hl'.kept
      · intro hfz
        simp only [upd_ne _ _ hid] at hfz
        exact hl'.soft hfz
      · intro t x hx
        simp only [upd_ne _ _ hid] at hx ⊢
        exact hl'.typ t x hx
  · intro i i' k x y h h'
    have conv : ∀ i x, G.T i ((upd m.sto id ⟨cs1, (m.sto id).gen + 1, z1, ty1⟩) i).gen = some (k, x) → G.T i (m.sto i).gen = some (k, x) := by
      intro i x h
      by_cases hid : i = id
      · subst hid
        simp only [upd_same] at h
        exact absurd h (hnone _)
      · simpa only [upd_ne _ _ hid] using h
    exact hi.dist _ _ _ _ _ (conv _ _ h) (conv _ _ h')
  · intro i g x h
    have := hi.dom _ _ _ h
    by_cases hid : i = id
    · subst hid
      simp only [upd_same]
      exact ⟨this.1, by omega⟩
    · simp only [upd_ne _ _ hid]
      exact this

/-- The world after draws alone. -/
theorem inv_drew (hi : Inv G w m) : Inv G w.drew m := ⟨hi.okM, fun id b tot ap h => let ⟨cur, e, fr, hl⟩ := hi.live id b tot ap h; ⟨cur, e, fr, hl.t, hl.heap, hl.size, hl.fr, hl.len, hl.rep, hl.one, hl.kept, hl.soft, hl.typ⟩, hi.dist, hi.dom⟩

end Go.Ev
end
section
namespace Go.Ev
set_option linter.unusedVariables false
set_option linter.unusedSimpArgs false
variable {C : Ctx} {G : Gh} {w : World} {m : Mem}

theorem rep_get (z : List AV) : ∀ (n j : Nat), ((List.replicate n z).flatten)[j]? = if j < n * z.length then z[j % z.length]? else none
  | 0, j => by simp
  | n + 1, j => by
    rw [List.replicate_succ, List.flatten_cons]
    by_cases h : j < z.length
    · rw [List.getElem?_append_left h, if_pos (by rw [Nat.add_mul]; omega), Nat.mod_eq_of_lt h]
    · rw [List.getElem?_append_right (by omega), rep_get z n]
      have hz : (j - z.length) % z.length = j % z.length := (Nat.mod_eq_sub_mod (by omega)).symm
      rw [hz]
      by_cases h2 : j - z.length < n * z.length
      · rw [if_pos h2, if_pos (by rw [Nat.add_mul]; omega)]
      · rw [if_neg h2, if_neg (by rw [Nat.add_mul]; omega)]

theorem rep_len (z : List AV) (n : Nat) : ((List.replicate n z).flatten).length = n * z.length := by simp

/-- Noughts, so many times. -/
theorem zeros_rep {z : Array Value} {cs : List AV} (h : RowRep G z cs) (hn : 0 < cs.length) (n k : Nat) (hk : k = n * cs.length) :
    RowRep G ((Array.range k).map (z[· % z.size]!)) (List.replicate n cs).flatten := by
  have hs := h.size
  refine ⟨by simp [hk], fun j v c hv hc => ?_⟩
  rw [rep_get] at hc
  simp only [Array.getElem?_map, Array.getElem?_range] at hv
  split at hc
  · rename_i hj
    rw [if_pos (by omega)] at hv
    simp only [Option.map_some, Option.some.injEq] at hv
    have hlt : j % z.size < z.size := Nat.mod_lt _ (by omega)
    refine h.rep (j % z.size) v c ?_ (by rw [hs]; exact hc)
    rw [Array.getElem?_eq_getElem hlt, ← hv, getElem!_pos z _ hlt]
  · cases hc

/-- What an operation that is no call ends in. -/
inductive Out : Result Next → Value → World → Prop
  | value (v : Value) (w : World) : Out (.ok (.value v) w) v w
  | skip (w : World) : Out (.ok .skip w) Go.undef w

theorem Out.wp {P : Program} {o : Oper} {A : _root_.Go.Act} {v : Value} {w' : World} (h : Out ((execOp A.eval o).run P w) v w') {K : _root_.Go.Act → World → Prop} {Q : Exit → _root_.Go.Act → World → Prop} (hk : K (A.put o.dst v) w') : o.wp P A w K Q := by
  unfold Oper.wp
  cases hr : (execOp A.eval o).run P w with
  | ok x w1 =>
    rw [hr] at h
    cases h <;> exact hk
  | halt x w1 => rw [hr] at h; cases h

/-- No block is numbered but with fb. -/
def Fresh (fb : Nat) (G G' : Gh) : Prop := (∀ id, id ≠ fb → (∀ g, G.T id g = none) → ∀ g, G'.T id g = none) ∧ ∀ id g x, G'.T id g = some x → G.T id g = some x ∨ ∀ g0 y, G.T id g0 = some y → g0 < g

/-- What an operation comes to, memory and all. -/
def Eff (C : Ctx) (fb : Nat) (G : Gh) (w : World) (A : _root_.Go.Act) (o : Oper) (x : AV) (m' : Mem) : Prop :=
  ∃ v w' G', Out ((execOp A.eval o).run C.P w) v w' ∧ Rep G' v x ∧ Inv G' w' m' ∧ Ext G w G' w' ∧ Fresh fb G G'

theorem Fresh.refl (fb : Nat) (G : Gh) : Fresh fb G G := ⟨fun _ _ h => h, fun _ _ _ h => .inl h⟩
theorem Fresh.put_new (G : Gh) (fb g : Nat) (x : Nat × Nat × Bool) (hf : ∀ g, G.T fb g = none) : Fresh fb G (G.put fb g x) := ⟨fun id hid h k => by
  simp only [Gh.put]
  rw [if_neg (fun hc => hid hc.1)]
  exact h k, fun id g' y h => by
  simp only [Gh.put] at h
  split at h
  · rename_i hc
    right
    intro g0 y0 h0
    rw [hc.1, hf] at h0
    cases h0
  · exact .inl h⟩
theorem Fresh.put_old (fb : Nat) {G : Gh} {id g0 : Nat} {y : Nat × Nat × Bool} (h : G.T id g0 = some y) (g : Nat) (x : Nat × Nat × Bool) (hn : G.T id g = some x ∨ ∀ g0 y, G.T id g0 = some y → g0 < g) : Fresh fb G (G.put id g x) := ⟨fun i _ hn k => by
  simp only [Gh.put]
  rw [if_neg (fun hc => by rw [← hc.1, hn] at h; cases h)]
  exact hn k, fun i g' y' h' => by
  simp only [Gh.put] at h'
  split at h'
  · rename_i hc
    obtain ⟨rfl, rfl⟩ := hc
    rcases hn with hn | hn
    · left; rw [hn]; exact h'
    · right; exact hn
  · exact .inl h'⟩

theorem rowRep_box {v : Value} {x : AV} (h : Rep G v x) (h1 : x.cells.all AV.one = true) : RowRep G v.cells x.cells := ⟨(h.cells h1).1, (h.cells h1).2.1⟩

theorem eff_new (hi : Inv G w m) {fb nid' : Nat} {ty : Option (TypeId × Bool)} (hf : ∀ g, G.T fb g = none) (h1 : fb < nid') (h2 : m.nid ≤ nid') {A : _root_.Go.Act} {o : Oper} {cur : Array Value} {e : TypeId} {cs : List AV}
    (hrun : (execOp A.eval o).run C.P w = .ok (.value (.pointer (some ⟨w.heap.size, 0, none⟩))) (w.alloc (.cells cur e))) (hr : RowRep G cur cs) (hone : ∀ c ∈ cs, c.one = true) (hty : ty = none ∨ ty = some (e, true)) :
    Eff C fb G w A o (.ptr fb 0 0) ⟨upd m.sto fb ⟨cs, 0, false, ty⟩, nid'⟩ := by
  have hty' : ∀ t x, ty = some (t, x) → e = t ∧ (x = true → cur.size = cs.length) := by
    intro t x ht
    rcases hty with h | h
    · rw [h] at ht; cases ht
    · rw [h] at ht; cases ht; exact ⟨rfl, fun _ => hr.size⟩
  obtain ⟨hi', he⟩ := inv_new hi hf h1 h2 (w1 := w.alloc (.cells cur e)) (ap := false) (ty := ty) rfl rfl rfl rfl (.inl rfl) (Nat.le_of_eq hr.size.symm) hone hr.rep hty'
  refine ⟨_, _, _, by rw [hrun]; exact .value _ _, ?_, hi', he, Fresh.put_new _ _ _ _ hf⟩
  exact .ptr _ fb 0 0 _ (cur.size, false) (by simp [Gh.put])

theorem eff_alloc (hz : ZeroOk C.P) (hi : Inv G w m) {fb nid' : Nat} (hf : ∀ g, G.T fb g = none) (h1 : fb < nid') (h2 : m.nid ≤ nid') {A : _root_.Go.Act} {o : Oper} {e : TypeId} (ho : o.op = .alloc e) {cs : List AV} (hcs : zeroC C.P 6 e = some cs) :
    Eff C fb G w A o (.ptr fb 0 0) ⟨upd m.sto fb ⟨cs, 0, false, some (e, true)⟩, nid'⟩ := by
  obtain ⟨z, hzr, hrow⟩ := run_zero (w := w) hz hcs G
  refine eff_new (C := C) hi hf h1 h2 (e := e) (cur := z.cells) (ty := some (e, true)) ?_ hrow (zeroC_one _ _ _ _ hcs) (.inr rfl)
  unfold execOp
  simp only [ho]
  simp [Instr.alloc, hzr, newVar, newRow]

theorem eff_box (hi : Inv G w m) {fb nid' : Nat} (hf : ∀ g, G.T fb g = none) (h1 : fb < nid') (h2 : m.nid ≤ nid') {A : _root_.Go.Act} {o : Oper} {e : TypeId} {x : Operand} (ho : o.op = .box e x) {a : AV} (ha : Rep G (A.eval x) a) (hone : a.cells.all AV.one = true) :
    Eff C fb G w A o (.ptr fb 0 0) ⟨upd m.sto fb ⟨a.cells, 0, false, none⟩, nid'⟩ := by
  refine eff_new (C := C) hi hf h1 h2 (e := e) (cur := (A.eval x).cells) (ty := none) ?_ (rowRep_box ha hone) (by simpa using hone) (.inl rfl)
  unfold execOp
  simp only [ho]
  simp [Instr.box, newVar, newRow]

theorem eff_arr (hi : Inv G w m) {fb nid' : Nat} (hf : ∀ g, G.T fb g = none) (h1 : fb < nid') (h2 : m.nid ≤ nid') {A : _root_.Go.Act} {o : Oper} {cur : Array Value} {e : TypeId} {cs : List AV} {n sz : Nat}
    (hrun : (execOp A.eval o).run C.P w = .ok (.value (.slice (some ⟨w.heap.size, 0, none⟩) n n)) (w.alloc (.cells cur e))) (hr : RowRep G cur cs) (hone : ∀ c ∈ cs, c.one = true) (hsz : cs.length = n * sz) :
    Eff C fb G w A o (.arr fb 0 0 n sz true) ⟨upd m.sto fb ⟨cs, 0, false, none⟩, nid'⟩ := by
  obtain ⟨hi', he⟩ := inv_new hi hf h1 h2 (w1 := w.alloc (.cells cur e)) (ap := true) (ty := none) rfl rfl rfl rfl (.inl rfl) (Nat.le_of_eq hr.size.symm) hone hr.rep (fun _ _ ht => by cases ht)
  refine ⟨_, _, _, by rw [hrun]; exact .value _ _, ?_, hi', he, Fresh.put_new _ _ _ _ hf⟩
  exact .arr _ fb 0 0 n sz _ n cur.size true true (by simp [Gh.put]) (Nat.le_refl _) (fun _ => ⟨rfl, by rw [hr.size]; omega, rfl⟩)

theorem fillA_one : ∀ (qs : List (Nat × Nat × AV)) (cs r : List AV), fillA cs qs = some r → (∀ c ∈ cs, c.one = true) → (∀ c ∈ r, c.one = true) ∧ r.length = cs.length
  | [], cs, r, h, hc => by simp only [fillA, Option.some.injEq] at h; subst h; exact ⟨hc, rfl⟩
  | (off, size, a) :: qs, cs, r, h, hc => by
    simp only [fillA] at h
    split at h
    · rename_i hh
      obtain ⟨c1, c2, c3⟩ := hh
      have hlen := splice_length cs a.cells off (by omega)
      obtain ⟨d1, d2⟩ := fillA_one qs _ r h (fun c hcc => by
        unfold spliceA at hcc
        simp only [List.mem_append] at hcc
        rcases hcc with (hcc | hcc) | hcc
        · exact hc c (List.mem_of_mem_take hcc)
        · exact List.all_eq_true.1 c3 c hcc
        · exact hc c (List.mem_of_mem_drop hcc))
      exact ⟨d1, d2.trans hlen⟩
    · cases h

theorem elem_under {P : Program} {t e : TypeId} (h : elemT P t = some e) : P.underlying t = some (.slice e) := by
  unfold elemT at h
  split at h
  · simp only [Option.some.injEq] at h
    subst h
    assumption
  · cases h

theorem eff_buildSlice (hz : ZeroOk C.P) (hi : Inv G w m) {fb nid' : Nat} (hf : ∀ g, G.T fb g = none) (h1 : fb < nid') (h2 : m.nid ≤ nid') {A : _root_.Go.Act} {o : Oper} {t e : TypeId} {n : Nat} {parts : Array (Nat × Operand)} (ho : o.op = .buildSlice t n parts)
    (he : elemT C.P t = some e) {z : List AV} (hzc : zeroC C.P 6 e = some z) (h0 : 0 < szT C.P e) (hzl : z.length = szT C.P e) (hn : n * szT C.P e ≤ 16777216) {ps : List (Nat × Nat × AV)} {env : Nat → AV}
    (hop : ∀ ty x y, opd C env ty x = some y → Rep G (A.eval x) y)
    (hps : parts.toList.mapM (fun (p : Nat × Operand) => if p.1 < n then (opd C env e p.2).map fun a => (p.1 * szT C.P e, szT C.P e, a) else none) = some ps) {cs : List AV} (hfill : fillA (List.replicate n z).flatten ps = some cs) :
    Eff C fb G w A o (.arr fb 0 0 n (szT C.P e) true) ⟨upd m.sto fb ⟨cs, 0, false, none⟩, nid'⟩ := by
  obtain ⟨i, hii⟩ := info_of_sz h0
  have hut := elem_under he
  obtain ⟨m1, m2⟩ := mapM_spec hps
  obtain ⟨zv, hzr, hrow⟩ := run_zero (w := w) hz hzc G
  have hzone : ∀ c ∈ (List.replicate n z).flatten, c.one = true := fun c hc => by
    obtain ⟨l', hl', hcl⟩ := List.mem_flatten.1 hc
    rw [List.eq_of_mem_replicate hl'] at hcl
    exact zeroC_one _ _ _ _ hzc c hcl
  obtain ⟨f1, f2⟩ := fillA_one _ _ _ hfill hzone
  have hbase : RowRep G ((Array.range (n * szT C.P e)).map ((if n * szT C.P e = 0 then #[] else zv.cells)[· % (if n * szT C.P e = 0 then #[] else zv.cells).size]!)) (List.replicate n z).flatten := by
    by_cases hnz : n * szT C.P e = 0
    · have : n = 0 := by
        rcases Nat.mul_eq_zero.1 hnz with h | h
        · exact h
        · omega
      subst this
      exact ⟨by simp, fun j v c hv => by simp at hv⟩
    · rw [if_neg hnz]
      exact zeros_rep hrow (by omega) n _ (by rw [hzl])
  obtain ⟨out, hfo, hrow'⟩ := fill_rep (G := G) (place := fun i => some (i * szT C.P e, szT C.P e)) (parts.map fun (i, x) => (i, A.eval x)).toList ps _ _ cs (by simp [m1]) (fun j p q hp hq => by
    simp only [Array.toList_map, List.getElem?_map, Option.map_eq_some_iff] at hp
    obtain ⟨⟨pi, px⟩, hpa, rfl⟩ := hp
    obtain ⟨b, hb, hbf⟩ := m2 j _ hpa
    rw [hq] at hb
    cases hb
    simp only at hbf
    split at hbf
    · simp only [Option.map_eq_some_iff] at hbf
      obtain ⟨a, ha, rfl⟩ := hbf
      exact ⟨rfl, hop _ _ _ ha⟩
    · cases hbf) hbase hfill
  refine eff_arr (C := C) hi hf h1 h2 (e := e) (cur := out) ?_ hrow' f1 (by rw [f2, rep_len, hzl])
  unfold execOp
  simp only [ho]
  have hlt : ¬ (16777216 < n * szT C.P e) := by omega
  by_cases hnz : n * szT C.P e = 0
  · rw [if_pos hnz] at hfo
    simp only [Instr.buildSlice, Sem.run_bind, run_underlying hut, Result.andThen_ok, run_sizeOf hii]
    simp [hlt, hnz, newRow]
    rw [hnz] at hfo
    simp at hfo
    simp [hfo]
  · rw [if_neg hnz] at hfo
    simp only [Instr.buildSlice, Sem.run_bind, run_underlying hut, Result.andThen_ok, run_sizeOf hii]
    simp [hlt, hnz, hzr, newRow]
    simp at hfo
    simp [hfo]

end Go.Ev
end
section
namespace Go.Ev
set_option linter.unusedVariables false
set_option linter.unusedSimpArgs false
variable {C : Ctx} {G : Gh} {w : World} {m : Mem}

theorem cell_live {b : Nat} {cur : Array Value} {e : TypeId} {fr : Nat × Nat} (h : w.heap[b]? = some (.cells cur e fr)) (j : Nat) : w.cell? ⟨b, j, none⟩ = cur[j]? := by
  simp only [World.cell?, h, Option.isSome_none, Bool.false_eq_true, if_false]

theorem frozen_live {b : Nat} {cur : Array Value} {e : TypeId} {fr : Nat × Nat} (h : w.heap[b]? = some (.cells cur e fr)) (hfr : fr = (0, 0) ∨ fr = (cur.size, cur.size + 1)) (j : Nat) (hj : j < cur.size) : w.frozen? ⟨b, j, none⟩ = false := by
  simp only [World.frozen?, h]
  rcases hfr with rfl | rfl <;> simp <;> omega

/-- Storing cells into a row: the heap behind it. -/
theorem run_store_row (P : Program) (b e' : Nat) (fr : Nat × Nat) : ∀ (vs : List Value) (o : Nat) (cur : Array Value) (w : World), w.heap[b]? = some (.cells cur e' fr) → (fr = (0, 0) ∨ fr = (cur.size, cur.size + 1)) → o + vs.length ≤ cur.size → (∀ v ∈ vs, v.oneCell' = true) →
    ∀ (b0 i : Nat), b0 + i = o → ∃ w1 cur1, (storeCells ⟨b, b0, none⟩ vs i).run P w = .ok () w1 ∧ w1.heap[b]? = some (.cells cur1 e' fr) ∧ (∀ k, k ≠ b → w1.heap[k]? = w.heap[k]?) ∧ w1.heap.size = w.heap.size ∧ w1.os = w.os ∧ w1.tape = w.tape ∧ w1.output = w.output ∧ cur1.size = cur.size ∧
      (∀ j : Nat, cur1[j]? = if o ≤ j ∧ j < o + vs.length then vs[j - o]? else cur[j]?)
  | [], o, cur, w, hb, hfr, hl, h1, b0, i, hbi => ⟨w, cur, rfl, hb, fun _ _ => rfl, rfl, rfl, rfl, rfl, rfl, fun j => by simp; omega⟩
  | v :: vs, o, cur, w, hb, hfr, hl, h1, b0, i, hbi => by
    have hlt : b < w.heap.size := (Array.getElem?_eq_some_iff.1 hb).1
    have hv : w.heap[b] = .cells cur e' fr := (Array.getElem?_eq_some_iff.1 hb).2
    have hoo : o < cur.size := by simp at hl; omega
    have hcell : w.cell? ⟨b, o, none⟩ = some cur[o] := by rw [cell_live hb]; exact Array.getElem?_eq_getElem hoo
    have hst : (store ((⟨b, b0, none⟩ : Addr).add i) v).run P w = .ok () (w.setCell ⟨b, o, none⟩ v) := by
      rw [add_addr, hbi, run_store P w _ v _ (h1 v (by simp)), hcell]
      simp [frozen_live hb hfr o hoo]
    have hb1 : (w.setCell ⟨b, o, none⟩ v).heap[b]? = some (.cells (cur.setIfInBounds o v) e' fr) := by
      simp only [World.setCell, Array.getElem?_modify, if_true, hb, Option.map_some, Option.isSome_none, Bool.false_eq_true, if_false]
    obtain ⟨w1, cur1, r1, r2, r3, r4, r5, r6, r7, r8, r9⟩ := run_store_row P b e' fr vs (o + 1) (cur.setIfInBounds o v) (w.setCell ⟨b, o, none⟩ v) hb1 (by simpa using hfr) (by simp at hl ⊢; omega) (fun x hx => h1 x (by simp [hx])) b0 (i + 1) (by omega)
    refine ⟨w1, cur1, by simp only [storeCells, Sem.run_bind, hst, Result.andThen_ok, r1], r2, fun k hk => (r3 k hk).trans ?_, by simpa using r4, r5, r6, r7, by simpa using r8, fun j => ?_⟩
    · simp only [World.setCell, Array.getElem?_modify]
      rw [if_neg (Ne.symm hk)]
    · rw [r9 j]
      by_cases hj : j = o
      · subst hj
        rw [if_neg (by omega), if_pos ⟨Nat.le_refl _, by simp⟩, Array.getElem?_setIfInBounds_self, if_pos hoo]
        simp
      · rw [Array.getElem?_setIfInBounds_ne (Ne.symm hj)]
        by_cases hc : o + 1 ≤ j ∧ j < o + 1 + vs.length
        · rw [if_pos hc, if_pos ⟨by omega, by simp; omega⟩, show j - o = (j - (o + 1)) + 1 by omega, List.getElem?_cons_succ]
        · rw [if_neg hc, if_neg (by simp; omega)]

theorem eff_store (fb : Nat) (hi : Inv G w m) {A : _root_.Go.Act} {o : Oper} {t : TypeId} {xa xv : Operand} (ho : o.op = .store t xa xv) {id off : Nat} {a : AV}
    (ha : Rep G (A.eval xa) (.ptr id (m.sto id).gen off)) (hv : Rep G (A.eval xv) a) (hfz : (m.sto id).froz = false) (hlen : a.cells.length = szT C.P t) (hin : off + a.cells.length ≤ (m.sto id).cells.length) (hone : a.cells.all AV.one = true) (hinfo : ∃ i, C.P.info? t = some i) :
    Eff C fb G w A o .void ⟨upd m.sto id { m.sto id with cells := spliceA (m.sto id).cells off a.cells }, m.nid⟩ := by
  generalize hx : A.eval xa = x at ha
  cases ha with
  | ptr _ _ _ _ b y hT =>
    obtain ⟨tot, ap⟩ := y
    obtain ⟨cur, e, fr, hl⟩ := hi.live _ _ _ _ hT
    obtain ⟨i, hii⟩ := hinfo
    obtain ⟨d1, d2, d3⟩ := hv.cells hone
    have hlen' := hl.len
    have hsize := hl.size
    obtain ⟨w1, cur1, r1, r2, r3, r4, r5, r6, r7, r8, r9⟩ := run_store_row C.P b e fr (A.eval xv).cells.toList off cur w hl.heap (by rcases hl.fr with h | ⟨_, h⟩ <;> simp [h, hsize]) (by simp; omega)
      (fun v hvm => by
        obtain ⟨j, hj, rfl⟩ := List.mem_iff_getElem.1 hvm
        exact d3 j _ (by simp at hj ⊢)) off 0 rfl
    have hsoft := hl.soft hfz
    obtain ⟨hi', he⟩ := inv_turn (G := G) hi hl (cs1 := spliceA (m.sto id).cells off a.cells) (g1 := (m.sto id).gen) (.inl rfl) r2 r3 r4 r5 r6 r7 r8 (by rw [splice_length _ _ _ hin]; exact hlen') (fun c hc => by
        unfold spliceA at hc
        simp only [List.mem_append] at hc
        rcases hc with (hc | hc) | hc
        · exact hl.one c (List.mem_of_mem_take hc)
        · exact List.all_eq_true.1 hone c hc
        · exact hl.one c (List.mem_of_mem_drop hc)) (fun j v c hjv hjc => by
        rw [r9 j] at hjv
        rw [splice_get _ _ _ _ hin] at hjc
        by_cases hj : off ≤ j ∧ j < off + a.cells.length
        · rw [if_pos hj] at hjc
          rw [if_pos ⟨hj.1, by simp; omega⟩] at hjv
          exact d2 _ _ _ (by simpa using hjv) hjc
        · rw [if_neg hj] at hjc
          rw [if_neg (by simp; omega)] at hjv
          exact hl.rep _ _ _ hjv hjc) (fun j hj => by rw [hsoft] at hj; simp at hj) (by rw [hsoft]; simp) (ty1 := (m.sto id).ty) (fun t x ht => ⟨x, ht, fun hx => ⟨hx, splice_length _ _ _ hin⟩⟩)
    refine ⟨Go.undef, w1, _, ?_, .void _, hi', he, Fresh.put_old _ hl.t _ _ (.inl hl.t)⟩
    have hrun : (execOp A.eval o).run C.P w = .ok .skip w1 := by
      unfold execOp
      simp only [ho, hx]
      have hne : ¬ ((A.eval xv).cells.size ≠ szT C.P t) := by omega
      simp only [Instr.storeAt, Instr.sureAddr, storeVar, Sem.run_bind, Sem.run_pure, Result.andThen_ok, run_sizeOf hii, Sem.run_ite]
      rw [if_neg hne]
      simp [r1]
    rw [hrun]
    exact .skip _

theorem eff_makeSlice (hz : ZeroOk C.P) (hi : Inv G w m) {fb nid' : Nat} (hf : ∀ g, G.T fb g = none) (h1 : fb < nid') (h2 : m.nid ≤ nid') {A : _root_.Go.Act} {o : Oper} {t e : TypeId} {l c : Operand} (ho : o.op = .makeSlice t l c) (he : elemT C.P t = some e) {n : Int}
    (hlv : A.eval l = .int .i64 n) (hcv : A.eval c = .int .i64 n) (hn0 : 0 ≤ n) (hn : n ≤ most) (hb : bytesT C.P e ≤ 128) {z : List AV} (hzc : zeroC C.P 6 e = some z) (hzl : z.length = szT C.P e) (h0 : 0 < z.length) :
    Eff C fb G w A o (.arr fb 0 0 n.toNat z.length true) ⟨upd m.sto fb ⟨(List.replicate n.toNat z).flatten, 0, false, none⟩, nid'⟩ := by
  obtain ⟨i, hii⟩ := info_of_sz (P := C.P) (t := e) (by omega)
  have hut := elem_under he
  obtain ⟨zv, hzr, hrow⟩ := run_zero (w := w) hz hzc G
  have hbi : i.bytes ≤ 128 := by simpa [bytesT, hii] using hb
  have hw64 : IntKind.i64.wrap n = n := by
    have hm : n ≤ 1099511627776 := hn
    unfold IntKind.wrap IntKind.bits IntKind.signed
    simp
    omega
  have hprod : (i.bytes : Int) * n ≤ 128 * 1099511627776 := by
    have hm : n ≤ 1099511627776 := hn
    exact Int.mul_le_mul (by omega) hm hn0 (by omega)
  have key : Eff C fb G w A o (.arr fb 0 0 n.toNat z.length true) ⟨upd m.sto fb ⟨(List.replicate n.toNat z).flatten, 0, false, none⟩, nid'⟩ := by
    refine eff_arr (C := C) hi hf h1 h2 (e := e) (cur := (Array.range (n.toNat * szT C.P e)).map ((if n.toNat * szT C.P e = 0 then #[] else zv.cells)[· % (if n.toNat * szT C.P e = 0 then #[] else zv.cells).size]!)) ?_ ?_ (fun c hc => by
        obtain ⟨l', hl', hcl⟩ := List.mem_flatten.1 hc
        rw [List.eq_of_mem_replicate hl'] at hcl
        exact zeroC_one _ _ _ _ hzc c hcl) (by rw [rep_len])
    · unfold execOp
      simp only [ho, hlv, hcv]
      have hlt : ¬ (decide (n < 0) = true) := by simp; omega
      have htl : ¬ ((i.bytes : Int) * n > 281474976710656) := by omega
      simp only [Instr.makeSlice, Sem.run_bind, run_underlying hut, Result.andThen_ok, asInt, asIntOf, Sem.run_pure, typeInfo, run_program, hii, hw64]
      have h48 : ((2 : Int) ^ 48) = 281474976710656 := by decide
      simp only [h48, Int.lt_irrefl, decide_false, Bool.or_false, gt_iff_lt]
      have e1 : decide (n < 0) = false := by simp; omega
      have e2 : decide (281474976710656 < (i.bytes : Int) * n) = false := by simp; omega
      simp only [e1, e2, Bool.or_false, Bool.false_eq_true, if_false, Sem.run_bind, run_askRoom, Result.andThen_ok, run_sizeOf hii]
      by_cases hnz : n.toNat * szT C.P e = 0
      · simp [hnz, newRow]
      · simp [hnz, hzr, newRow]
    · by_cases hnz : n.toNat * szT C.P e = 0
      · have : n.toNat = 0 := by
          rcases Nat.mul_eq_zero.1 hnz with h | h <;> omega
        rw [this]
        exact ⟨by simp, fun j v c hv => by simp at hv⟩
      · rw [if_neg hnz]
        exact zeros_rep hrow h0 _ _ (by rw [hzl])
  exact key

/-- Bytes out of a text: a block of the call's own, of which nothing is known but its begin. -/
theorem eff_toBytes (hi : Inv G w m) {fb nid' : Nat} (hf : ∀ g, G.T fb g = none) (h1 : fb < nid') (h2 : m.nid ≤ nid') {A : _root_.Go.Act} {o : Oper} {src dst e : TypeId} {x : Operand} (ho : o.op = .convert src dst x)
    (hs : C.P.underlying src = some .string) (hd : C.P.underlying dst = some (.slice e)) (he : C.P.underlying e = some (.int .u8)) {b : ByteArray} (hx : A.eval x = .string b) :
    Eff C fb G w A o (.arr fb 0 0 b.size 1 false) ⟨upd m.sto fb ⟨strBytes b, 0, false, none⟩, nid'⟩ := by
  let cap := (Question.appendCap b.size 0 e).cut (w.tape w.drawn (.appendCap b.size 0 e))
  have hcap : b.size ≤ cap := grownCap_ge w b.size 0 e
  let cur : Array Value := (b.data.map fun x : UInt8 => Value.int .u8 (x.toNat : Int)) ++ Array.replicate (cap - b.size) (Value.int .u8 0)
  have hbs : b.data.size = b.size := rfl
  have hcs : cur.size = cap := by
    show ((b.data.map fun x : UInt8 => Value.int .u8 (x.toNat : Int)) ++ Array.replicate (cap - b.size) (Value.int .u8 0)).size = cap
    simp only [Array.size_append, Array.size_map, Array.size_replicate, hbs]
    omega
  let w1 : World := { w.drew with heap := w.heap.push (.cells cur e (cur.size, cur.size + 1)) }
  have hsb : (strBytes b).length = b.size := by simp [strBytes, hbs]
  obtain ⟨hi', hee⟩ := inv_new hi hf h1 h2 (cur := cur) (e := e) (fr := (cur.size, cur.size + 1)) (cs := strBytes b) (ap := false) (w1 := w1) rfl rfl rfl rfl (.inr ⟨rfl, rfl⟩) (by omega) (fun c hc => by
      simp only [strBytes, List.mem_map] at hc
      obtain ⟨_, _, rfl⟩ := hc
      rfl) (fun j v c hv hc => by
      simp only [strBytes, List.getElem?_map, Option.map_eq_some_iff] at hc
      obtain ⟨y, hy, rfl⟩ := hc
      have hj : j < b.data.size := by
        have := (List.getElem?_eq_some_iff.1 hy).1
        simpa using this
      have hvv : v = .int .u8 y.toNat := by
        have : cur[j]? = (b.data.map fun x : UInt8 => Value.int .u8 (x.toNat : Int))[j]? := Array.getElem?_append_left (by simpa using hj)
        rw [this] at hv
        simp only [Array.getElem?_map, Option.map_eq_some_iff] at hv
        obtain ⟨y', hy', rfl⟩ := hv
        simp only [Array.getElem?_toList] at hy
        rw [hy] at hy'
        cases hy'
        rfl
      subst hvv
      exact .int _ _ _) (ty := none) (fun _ _ ht => by cases ht)
  refine ⟨.slice (some ⟨w.heap.size, 0, none⟩) b.size cap, w1, _, ?_, .arr _ fb 0 0 b.size 1 _ cap cur.size false false (by simp [Gh.put]) hcap (by simp), hi', hee, Fresh.put_new _ _ _ _ hf⟩
  have hrun : (execOp A.eval o).run C.P w = .ok (.value (.slice (some ⟨w.heap.size, 0, none⟩) b.size cap)) w1 := by
    unfold execOp
    simp only [ho, hx]
    have hsh : (World.shape? { w.drew with heap := w.heap.push (.cells cur e) } w.heap.size) = some (e, cur.size) := by
      simp [World.shape?]
    have hfz : World.freeze { w.drew with heap := w.heap.push (.cells cur e) } ⟨w.heap.size, cur.size, none⟩ 1 = w1 := by
      simp only [World.freeze, w1]
      simp
      apply Array.ext
      · simp
      · intro i h1 h2
        simp only [Array.getElem_modify]
        by_cases hi : w.heap.size = i
        · subst hi
          simp
        · rw [if_neg hi]
          simp only [Array.size_modify, Array.size_push] at h1
          rw [Array.getElem_push_lt (by omega), Array.getElem_push_lt (by omega)]
    simp only [convert, Sem.run_bind, run_underlying hs, run_underlying hd, run_underlying he, Result.andThen_ok, Conv.stringToBytes, run_choose, Question.forced, Bool.false_eq_true, if_false, newRow, run_newObj, markStringish, run_shape, Sem.run_pure]
    have hsh2 : World.shape? ({ heap := w.heap.push (Obj.cells (Array.map (fun b : UInt8 => Value.int IntKind.u8 (b.toNat : Int)) b.data ++ Array.replicate ((Question.appendCap b.size 0 e).cut (w.tape w.drawn (Question.appendCap b.size 0 e)) - b.size) (Value.int IntKind.u8 0)) e), tape := w.tape, drawn := w.drawn + 1, os := w.os, output := w.output } : World) w.heap.size = some (e, cur.size) := hsh
    have hfz2 : World.freeze ({ heap := w.heap.push (Obj.cells (Array.map (fun b : UInt8 => Value.int IntKind.u8 (b.toNat : Int)) b.data ++ Array.replicate ((Question.appendCap b.size 0 e).cut (w.tape w.drawn (Question.appendCap b.size 0 e)) - b.size) (Value.int IntKind.u8 0)) e), tape := w.tape, drawn := w.drawn + 1, os := w.os, output := w.output } : World) ⟨w.heap.size, cur.size, none⟩ 1 = w1 := hfz
    rw [hsh2]
    simp only [run_freeze, Result.andThen_ok, hfz2]
    rfl
  rw [hrun]
  exact .value _ _

end Go.Ev
end
section
namespace Go.Ev
set_option linter.unusedVariables false
set_option linter.unusedSimpArgs false
variable {C : Ctx} {G : Gh} {w : World} {m : Mem}

section
variable {P : Program}

theorem run_zeros {t2 : TypeId} (h : noIntT P t2 = true) : ∃ d, P.underlying t2 = some d ∧ (match d with | .int _ => true | _ => false) = false := by
  unfold noIntT at h
  cases hd : P.underlying t2 with
  | none => rw [hd] at h; simp at h
  | some d => rw [hd] at h; exact ⟨d, rfl, by cases d <;> first | rfl | (simp at h)⟩

set_option maxHeartbeats 8000000 in
theorem app_nil0 {t t2 ty e : TypeId} {i : TypeInfo} (ht : P.underlying t = some (.slice e)) (hi : P.info? e = some i) (h2 : noIntT P t2 = true) {x : Value}
    (hlen : ∀ w', (Builtin.lenOf x).run P w' = .ok 0 w') (hnew : (Builtin.firstCells i.size 0 x).run P w = .ok #[] w) : (Builtin.append_ #[t, t2] ty #[.slice none 0 0, x]).run P w = .ok (.slice none 0 0) w := by
  obtain ⟨d, hd, hz⟩ := run_zeros h2
  cases d <;> first | (cases hz; done) | simp [Builtin.append_, run_underlying ht, run_underlying hd, sizeOf, typeInfo, hi, hlen, hnew]

set_option maxHeartbeats 8000000 in
theorem app_grow {t t2 ty e : TypeId} {i : TypeInfo} {z : Value} (ht : P.underlying t = some (.slice e)) (hi : P.info? e = some i) (hz0 : i.zero = some z) (h2 : noIntT P t2 = true) {x : Value} {base : Option Addr} {sLen sCap m : Nat} {olds news : Array Value}
    (hlen : ∀ w', (Builtin.lenOf x).run P w' = .ok m w') (hnew : (Builtin.firstCells i.size m x).run P w.drew = .ok news w.drew) (hold : (Builtin.firstCells i.size sLen (.slice base sLen sCap)).run P w.drew = .ok olds w.drew)
    (hg : sCap < sLen + m) (h63 : ((sLen + m : Nat) : Int) ≤ 9223372036854775807) (hfit : Builtin.nextslicecap (sLen + m) sCap * i.bytes ≤ 281474976710656) :
    (Builtin.append_ #[t, t2] ty #[.slice base sLen sCap, x]).run P w =
      .ok (.slice (some ⟨w.heap.size, 0, none⟩) (sLen + m) (grownCap w (sLen + m) sCap e))
        (w.drew.alloc (.cells (olds ++ news ++ Builtin.zeroCells z.cells (grownCap w (sLen + m) sCap e - (sLen + m))) e)) := by
  obtain ⟨d, hd, hz⟩ := run_zeros h2
  have hn : ¬ (sLen + m ≤ sCap) := by omega
  have h63' : ¬ (9223372036854775807 < ((sLen : Int) + (m : Int))) := by omega
  have h48' : ¬ (281474976710656 < Builtin.nextslicecap (sLen + m) sCap * i.bytes) := by omega
  cases d <;> first | (cases hz; done) | simp [Builtin.append_, run_underlying ht, run_underlying hd, sizeOf, typeInfo, zeroValue, hi, hz0, hlen, hn, h63', h48', Question.forced, hnew, hold, newRow, grownCap]

set_option maxHeartbeats 8000000 in
theorem app_room {t t2 ty e : TypeId} {i : TypeInfo} (ht : P.underlying t = some (.slice e)) (hi : P.info? e = some i) (h2 : noIntT P t2 = true) {x : Value} {b sLen sCap m : Nat} {news : Array Value} {w1 : World}
    (hlen : ∀ w', (Builtin.lenOf x).run P w' = .ok m w') (hnew : (Builtin.firstCells i.size m x).run P w = .ok news w) (hroom : sLen + m ≤ sCap)
    (hst : (storeCells ⟨b, sLen * i.size, none⟩ news.toList).run P w = .ok () w1) :
    (Builtin.append_ #[t, t2] ty #[.slice (some ⟨b, 0, none⟩) sLen sCap, x]).run P w = .ok (.slice (some ⟨b, 0, none⟩) (sLen + m) sCap) w1 := by
  obtain ⟨d, hd, hz⟩ := run_zeros h2
  cases d <;> first | (cases hz; done) | simp [Builtin.append_, run_underlying ht, run_underlying hd, sizeOf, typeInfo, hi, hlen, hroom, hnew, add_addr, hst]
end

/-- What is appended, in memory. -/
structure News (P : Program) (G : Gh) (w : World) (size m : Nat) (x : Value) (ys : List AV) : Prop where
  len : ∀ w', (Builtin.lenOf x).run P w' = .ok m w'
  num : ys.length = m * size
  one : ∀ c ∈ ys, c.one = true
  cells : ∃ news : Array Value, RowRep G news ys ∧ ∀ w', (∀ a, w'.cell? a = w.cell? a) → (Builtin.firstCells size m x).run P w' = .ok news w'

theorem firstCells_bytes (P : Program) (s : ByteArray) (w' : World) : (Builtin.firstCells 1 s.size (.string s)).run P w' = .ok (s.data.map fun b : UInt8 => Value.int .u8 (b.toNat : Int)) w' := by
  simp only [Builtin.firstCells, Sem.run_pure]
  have : s.extract 0 s.size = s := by simp
  rw [this]

theorem news_spec (hi : Inv G w m) {s : St} (hs : s.toMem = m) {sz k : Nat} (hsz : 0 < sz) {y : AV} {ys : List AV} {sr : List Nat} (h : newsA s sz y = some (ys, k, sr)) {x : Value} (hx : Rep G x y) : News C.P G w sz k x ys := by
  subst hs
  unfold newsA at h
  split at h
  · rename_i z xs
    split at h
    · rename_i hz
      subst hz
      simp only [Option.some.injEq, Prod.mk.injEq] at h
      obtain ⟨rfl, rfl, rfl⟩ := h
      cases hx with
      | slice0 => exact ⟨fun w' => rfl, by simp, by simp, #[], ⟨rfl, fun j v c hv => by simp at hv⟩, fun w' _ => rfl⟩
      | sliceE => exact ⟨fun w' => rfl, by simp, by simp, #[], ⟨rfl, fun j v c hv => by simp at hv⟩, fun w' _ => by simp [Builtin.firstCells, loadCells]; try rfl⟩
      | slice _ b off n cap _ _ vs hn hc hs hl hM h1 hr =>
        subst hn
        have hfl := flat_length z xs hs
        refine ⟨fun w' => rfl, hfl, h1, vs.toArray, ⟨by simp [hl], fun j v c hv hcc => (hr j v c (by simpa using hv) hcc).of_bare⟩, fun w' hw => ?_⟩
        exact run_firstCells_some (P := C.P) w' z xs.length ⟨b, off, none⟩ xs.length cap vs (by rw [hl]; exact hfl) (fun j v hv => by
          rw [add_addr, hw]
          exact hi.okM _ _ _ (hM j v hv))
    · cases h
  · simp only [Option.some.injEq, Prod.mk.injEq] at h
    obtain ⟨rfl, rfl, rfl⟩ := h
    cases hx
    exact ⟨fun w' => rfl, by simp, by simp, #[], ⟨rfl, fun j v c hv => by simp at hv⟩, fun w' _ => rfl⟩
  · rename_i id g off n z app
    split at h
    · rename_i hz
      obtain ⟨rfl, rfl, hnl⟩ := hz
      simp only [Option.some.injEq, Prod.mk.injEq] at h
      obtain ⟨rfl, rfl, rfl⟩ := h
      cases hx with
      | arr _ _ _ _ _ _ b cap tot _ ap hT hc ha =>
        obtain ⟨cur, e, fr, hl⟩ := live_of hi hT
        obtain ⟨h1, h2, h3⟩ := live_row hl off
        have hlen' : (((s.sto id).cells.drop off).take (n * z)).length = n * z := by rw [List.length_take]; omega
        have hlen2 : ((cur.toList.drop off).take (n * z)).length = n * z := by rw [List.length_take]; omega
        refine ⟨fun w' => rfl, hlen', fun c hc => hl.one c (List.mem_of_mem_drop (List.mem_of_mem_take hc)), ((cur.toList.drop off).take (n * z)).toArray, ⟨by simp only [List.size_toArray]; omega, fun j v c hv hcc => ?_⟩, fun w' hw => ?_⟩
        · simp only [List.getElem?_toArray, List.getElem?_take] at hv hcc
          split at hv
          · rw [if_pos (by assumption)] at hcc
            exact h3 j v c hv hcc
          · cases hv
        · exact run_firstCells_some (P := C.P) w' z n ⟨b, off, none⟩ n cap _ hlen2 (fun j v hv => by
            rw [add_addr, hw]
            rw [List.getElem?_take] at hv
            split at hv
            · exact h2 j v hv
            · cases hv)
    · cases h
  · rename_i b
    split at h
    · rename_i hz
      subst hz
      simp only [Option.some.injEq, Prod.mk.injEq] at h
      obtain ⟨rfl, rfl, rfl⟩ := h
      obtain rfl := rep_str hx
      have hbs : b.data.size = b.size := rfl
      refine ⟨fun w' => rfl, by simp [strBytes, hbs], fun c hc => by
        simp only [strBytes, List.mem_map] at hc
        obtain ⟨_, _, rfl⟩ := hc
        rfl, b.data.map fun b : UInt8 => Value.int .u8 (b.toNat : Int), ⟨by simp [strBytes], fun j v c hv hcc => ?_⟩, fun w' _ => firstCells_bytes _ _ _⟩
      simp only [strBytes, List.getElem?_map, Option.map_eq_some_iff, Array.getElem?_map, Array.getElem?_toList] at hv hcc
      obtain ⟨p, hp, rfl⟩ := hv
      obtain ⟨q, hq, rfl⟩ := hcc
      rw [hp] at hq
      cases hq
      exact .int _ _ _
    · cases h
  · cases h

theorem grewT_some {e t : TypeId} {x : Bool} {o : Option (TypeId × Bool)} (h : grewT e o = some (t, x)) : e = t ∧ x = false ∧ ∃ y, o = some (t, y) := by
  unfold grewT at h
  split at h
  · split at h
    · rename_i t' y he
      subst he
      simp only [Option.some.injEq, Prod.mk.injEq] at h
      obtain ⟨rfl, rfl⟩ := h
      exact ⟨rfl, rfl, y, rfl⟩
    · cases h
  · cases h

theorem zeroCells_size (z : Array Value) (n : Nat) : (Builtin.zeroCells z n).size = n * z.size := by simp [Builtin.zeroCells]

theorem eff_append (hz : ZeroOk C.P) {s : St} (hi : Inv G w s.toMem) {fb nid' : Nat} (hf : ∀ g, G.T fb g = none) (h1 : fb < nid') (h2 : s.nid ≤ nid') {A : _root_.Go.Act} {o : Oper} {t t2 : TypeId} {xs xy : Operand}
    (ho : o.op = .call { callee := .builtin .append, args := #[xs, xy], argTypes := #[t, t2] }) (hno : noIntT C.P t2 = true) {x y : AV} (hx : Rep G (A.eval xs) x) (hy : Rep G (A.eval xy) y) {a : Act} (ha : appendA C t s fb x y = some a) :
    ∃ nid2, (nid2 = s.nid ∨ nid2 = nid') ∧ (a.nb = 0 → nid2 = s.nid) ∧ Eff C fb G w A o a.val ⟨updL s.sto a.sw, nid2⟩ := by
  have exec : ∀ r, (Builtin.append_ #[t, t2] o.type #[A.eval xs, A.eval xy]).run C.P w = r → (execOp A.eval o).run C.P w = r.andThen fun v w' => .ok (.value v) w' := by
    intro r hr
    unfold execOp
    simp only [ho, resolve, invoke, builtin, Sem.run_bind, Sem.run_pure, Result.andThen_ok, List.map_toArray, List.map_cons, List.map_nil, hr]
  unfold appendA at ha
  simp only [Option.bind_eq_some_iff] at ha
  obtain ⟨e, he, ha⟩ := ha
  have hut := elem_under he
  split at ha
  · rename_i hcond
    obtain ⟨h0, hb, hzl⟩ := hcond
    simp only [Option.bind_eq_some_iff, Prod.exists] at ha
    obtain ⟨ys, k, sr, hn, ha⟩ := ha
    obtain ⟨i, hii⟩ := info_of_sz h0
    have hsi : i.size = szT C.P e := by simp [szT, hii]
    have hbi : i.bytes ≤ 128 := by simpa [bytesT, hii] using hb
    simp only [Option.map_eq_some_iff] at hzl
    obtain ⟨zl, hzc, hzlen⟩ := hzl
    obtain ⟨zv, hzb, hzrow⟩ := hz G e zl hzc
    have hz0 : i.zero = some zv := by simpa [hii] using hzb
    have hzs : zv.cells.size = szT C.P e := hzrow.size.trans hzlen
    have N := news_spec (C := C) hi rfl h0 hn hy
    rw [← hsi] at N
    obtain ⟨news, hnr, hnew⟩ := N.cells
    have fit : ∀ q cap : Nat, q ≤ most → cap < q → Builtin.nextslicecap q cap * i.bytes ≤ 281474976710656 := fun q cap hq hc => growslice_fits hc (by
      have hm : q ≤ 1099511627776 := hq
      calc q * i.bytes ≤ 1099511627776 * 128 := Nat.mul_le_mul hm hbi
        _ = 140737488355328 := by decide)
    have small : ∀ q : Nat, q ≤ most → (q : Int) ≤ 9223372036854775807 := fun q hq => by have hm : q ≤ 1099511627776 := hq; omega
    split at ha
    · rename_i z
      split at ha
      · rename_i hzz
        subst hzz
        generalize hxv : A.eval xs = vx at hx exec
        cases hx
        split at ha
        · rename_i hk
          subst hk
          simp only [Option.some.injEq] at ha
          subst ha
          have hr := app_nil0 (w := w) (ty := o.type) hut hii hno N.len (by
            have := hnew w (fun _ => rfl)
            have he : news = #[] := by
              have := hnr.size
              rw [N.num] at this
              simpa using this
            rw [he] at this
            exact this)
          refine ⟨s.nid, .inl rfl, fun _ => rfl, .slice none 0 0, w, G, ?_, .nils _ _, hi, Ext.refl _ _, Fresh.refl _ _⟩
          rw [exec _ hr]
          exact .value _ _
        · rename_i hk
          split at ha
          · rename_i hm
            simp only [Option.some.injEq] at ha
            subst ha
            have hr := app_grow (w := w) (ty := o.type) (base := none) (sLen := 0) (sCap := 0) (olds := #[]) hut hii hz0 hno N.len (hnew w.drew (fun _ => rfl)) rfl (by omega) (by simpa using small k hm) (by simpa using fit k 0 hm (by omega))
            simp only [Nat.zero_add] at hr
            have hge := grownCap_ge w k 0 e
            have hns := hnr.size
            have hnum := N.num
            generalize hcur : (#[] ++ news ++ Builtin.zeroCells zv.cells (grownCap w k 0 e - k)) = cur at hr
            have hcs : cur.size = grownCap w k 0 e * szT C.P e := by
              rw [← hcur]
              simp only [Array.size_append, zeroCells_size, hzs, hns, hnum, hsi]
              simp only [Array.size_empty, Nat.zero_add]
              rw [← Nat.add_mul]
              congr 1
              omega
            obtain ⟨hi', hee⟩ := inv_new hi hf h1 h2 (w1 := w.drew.alloc (.cells cur e)) (cur := cur) (e := e) (cs := ys) (ap := true) rfl rfl rfl rfl (.inl rfl) (by
                rw [hcs, hnum, hsi]
                exact Nat.mul_le_mul_right _ hge) N.one (fun j v c hv hc => by
                have hj : j < news.size := by rw [hns]; exact (List.getElem?_eq_some_iff.1 hc).1
                have : cur[j]? = news[j]? := by
                  rw [← hcur, Array.getElem?_append_left (by simpa using hj)]
                  simp
                exact hnr.rep j v c (by rw [← this]; exact hv) hc) (ty := some (e, false)) (fun t x ht => by cases ht; exact ⟨rfl, fun h => by cases h⟩)
            refine ⟨nid', .inr rfl, fun h => by simp at h, .slice (some ⟨w.heap.size, 0, none⟩) k (grownCap w k 0 e), _, _, ?_, ?_, hi', hee, Fresh.put_new _ _ _ _ hf⟩
            · rw [exec _ hr]
              exact .value _ _
            · exact .arr _ fb 0 0 k _ _ _ cur.size true true (by simp [Gh.put]) hge (fun _ => ⟨rfl, hcs.symm, rfl⟩)
          · cases ha
      · cases ha
    · rename_i id g n z
      split at ha
      · rename_i hcc
        obtain ⟨rfl, rfl, hnl, hm⟩ := hcc
        simp only [Option.some.injEq] at ha
        subst ha
        generalize hxv : A.eval xs = vx at hx exec
        cases hx with
        | arr _ _ _ _ _ _ b cap tot _ ap hT hc hap =>
          obtain ⟨_, hct, hapt⟩ := hap rfl
          obtain ⟨cur, e1, fr, hl⟩ := live_of hi hT
          simp only at hl
          subst hapt
          have hsize := hl.size
          have hfr : fr = (0, 0) := by rcases hl.fr with h | ⟨h, _⟩; exact h; cases h
          have hlen := hl.len
          have hns := hnr.size
          have hnum := N.num
          have hnone : ∀ v ∈ news.toList, v.oneCell' = true := fun v hv => by
            obtain ⟨j, hj, rfl⟩ := List.mem_iff_getElem.1 hv
            have hj' : j < ys.length := by rw [← hns]; simpa using hj
            exact (hnr.rep j _ _ (by simp) (List.getElem?_eq_getElem hj')).one (N.one _ (List.getElem_mem hj'))
          by_cases hroom : n + k ≤ cap
          · have hfit : n * szT C.P e + news.toList.length ≤ cur.size := by
              simp only [Array.length_toList, hns, hnum, hsi]
              rw [hsize, ← hct, ← Nat.add_mul]
              exact Nat.mul_le_mul_right _ hroom
            obtain ⟨w1, cur1, r1, r2, r3, r4, r5, r6, r7, r8, r9⟩ := run_store_row C.P b e1 fr news.toList (n * szT C.P e) cur w hl.heap (.inl hfr) hfit hnone (n * szT C.P e) 0 rfl
            have hr := app_room (w := w) (ty := o.type) (b := b) (sLen := n) (sCap := cap) hut hii hno N.len (hnew w (fun _ => rfl)) hroom (w1 := w1) (by rw [hsi]; exact r1)
            have hkept := hl.kept
            obtain ⟨hi', hee⟩ := inv_turn (G := G) hi hl (cs1 := (s.sto id).cells ++ ys) (g1 := (s.sto id).gen + 1) (.inr rfl) r2 r3 r4 r5 r6 r7 r8 (by
                rw [List.length_append, hnum, ← hnl, hsi, ← Nat.add_mul, ← hct]
                exact Nat.mul_le_mul_right _ hroom) (fun c hc => by
                rcases List.mem_append.1 hc with hc | hc
                · exact hl.one c hc
                · exact N.one c hc) (fun j v c hv hc => by
                rw [r9 j] at hv
                by_cases hj : j < (s.sto id).cells.length
                · rw [List.getElem?_append_left hj] at hc
                  rw [if_neg (by omega)] at hv
                  exact hl.rep _ _ _ hv hc
                · rw [List.getElem?_append_right (by omega)] at hc
                  have hj2 := (List.getElem?_eq_some_iff.1 hc).1
                  rw [if_pos ⟨by omega, by simp only [Array.length_toList]; omega⟩] at hv
                  rw [← hnl] at hc
                  exact hnr.rep _ _ _ (by simpa using hv) hc) (fun j hj => by
                rw [r9 j, if_neg (by omega)]) (by rw [List.length_append]; omega) (ty1 := grewT e (s.sto id).ty) (fun t x ht => by
                obtain ⟨rfl, rfl, y, hy⟩ := grewT_some ht
                exact ⟨y, hy, fun h => by cases h⟩)
            refine ⟨s.nid, .inl rfl, fun _ => rfl, .slice (some ⟨b, 0, none⟩) (n + k) cap, w1, _, ?_, ?_, hi', hee, Fresh.put_old _ hl.t _ _ (.inr (fun g0 y hy => Nat.lt_succ_of_le (hi.dom _ _ _ hy).2))⟩
            · rw [exec _ hr]
              exact .value _ _
            · exact .arr _ id _ 0 (n + k) _ b cap tot true true (by simp [Gh.put]) hroom (fun _ => ⟨rfl, hct, rfl⟩)
          · have hold : (Builtin.firstCells i.size n (.slice (some ⟨b, 0, none⟩) n cap)).run C.P w.drew = .ok (cur.toList.take (n * szT C.P e)).toArray w.drew := by
              have hll : (cur.toList.take (n * szT C.P e)).length = n * i.size := by
                rw [List.length_take, Array.length_toList, hsi]
                have : n * szT C.P e ≤ cur.size := by omega
                omega
              exact run_firstCells_some (P := C.P) w.drew i.size n ⟨b, 0, none⟩ n cap _ hll (fun j v hv => by
                rw [add_addr, Nat.zero_add]
                rw [List.getElem?_take] at hv
                split at hv
                · show w.cell? _ = _
                  rw [cell_live hl.heap]
                  simpa using hv
                · cases hv)
            have hr := app_grow (w := w) (ty := o.type) (sLen := n) (sCap := cap) hut hii hz0 hno N.len (hnew w.drew (fun _ => rfl)) hold (by omega) (small _ hm) (fit _ _ hm (by omega))
            have hge := grownCap_ge w (n + k) cap e
            generalize hcur : ((cur.toList.take (n * szT C.P e)).toArray ++ news ++ Builtin.zeroCells zv.cells (grownCap w (n + k) cap e - (n + k))) = cur1 at hr
            have holdl : (cur.toList.take (n * szT C.P e)).length = n * szT C.P e := by
              rw [List.length_take, Array.length_toList]
              have : n * szT C.P e ≤ cur.size := by omega
              omega
            have hcs : cur1.size = grownCap w (n + k) cap e * szT C.P e := by
              rw [← hcur]
              simp only [Array.size_append, zeroCells_size, hzs, hns, hnum, hsi, List.size_toArray, holdl]
              rw [← Nat.add_mul, ← Nat.add_mul]
              congr 1
              omega
            obtain ⟨hi', hee⟩ := inv_move hi hl (w1 := w.drew.alloc (.cells cur1 e)) (cur1 := cur1) (e1 := e) (cs1 := (s.sto id).cells ++ ys) rfl rfl rfl rfl (by
                rw [List.length_append, hnum, ← hnl, hsi, ← Nat.add_mul, hcs]
                exact Nat.mul_le_mul_right _ hge) (fun c hc => by
                rcases List.mem_append.1 hc with hc | hc
                · exact hl.one c hc
                · exact N.one c hc) (fun j v c hv hc => by
                by_cases hj : j < (s.sto id).cells.length
                · rw [List.getElem?_append_left hj] at hc
                  have : cur1[j]? = cur[j]? := by
                    rw [← hcur, Array.getElem?_append_left (by simp only [Array.size_append, List.size_toArray, holdl]; omega), Array.getElem?_append_left (by simp only [List.size_toArray, holdl]; omega)]
                    rw [List.getElem?_toArray, List.getElem?_take, if_pos (by omega)]
                    simp
                  rw [this] at hv
                  exact hl.rep _ _ _ hv hc
                · rw [List.getElem?_append_right (by omega)] at hc
                  have hj2 := (List.getElem?_eq_some_iff.1 hc).1
                  have : cur1[j]? = news[j - n * szT C.P e]? := by
                    rw [← hcur, Array.getElem?_append_left (by simp only [Array.size_append, List.size_toArray, holdl]; omega), Array.getElem?_append_right (by simp only [List.size_toArray, holdl]; omega)]
                    simp only [List.size_toArray, holdl]
                  rw [this] at hv
                  rw [← hnl] at hc
                  exact hnr.rep _ _ _ hv hc) (ty1 := grewT e (s.sto id).ty) (fun t x ht => by
                obtain ⟨rfl, rfl, y, hy⟩ := grewT_some ht
                exact ⟨rfl, rfl⟩)
            refine ⟨s.nid, .inl rfl, fun _ => rfl, .slice (some ⟨w.heap.size, 0, none⟩) (n + k) (grownCap w (n + k) cap e), _, _, ?_, ?_, hi', hee, Fresh.put_old _ hl.t _ _ (.inr (fun g0 y hy => Nat.lt_succ_of_le (hi.dom _ _ _ hy).2))⟩
            · rw [exec _ hr]
              exact .value _ _
            · exact .arr _ id _ 0 (n + k) _ _ _ cur1.size true true (by simp [Gh.put]) hge (fun _ => ⟨rfl, hcs.symm, rfl⟩)
      · cases ha
    · cases ha
  · cases ha

end Go.Ev
end
section
namespace Go.Ev
set_option linter.unusedVariables false
set_option linter.unusedSimpArgs false
variable {C : Ctx} {G : Gh} {w : World} {m : Mem}

theorem foldl_push : ∀ (ns : List Int) (a : ByteArray), ns.foldl (fun (r : ByteArray) n => r.push (UInt8.ofNat n.toNat)) a = ⟨a.data ++ (ns.map fun n => UInt8.ofNat n.toNat).toArray⟩
  | [], a => by simp
  | n :: ns, a => by
    rw [List.foldl_cons, foldl_push ns]
    simp only [List.map_cons, ByteArray.push]
    congr 1
    apply Array.ext'
    simp

/-- A row of bytes as a text. -/
theorem run_toStr {b off n cap : Nat} {cs : List AV} {l : List UInt8} {vs : List Value} (hl : vs.length = n) (hc : cs.length = n) (hcell : ∀ (j : Nat) v, vs[j]? = some v → w.cell? ⟨b, off + j, none⟩ = some v)
    (hr : ∀ (j : Nat) v c, vs[j]? = some v → cs[j]? = some c → Rep G v c) (h : bytesStr cs = some l) : (Conv.bytesToString (.slice (some ⟨b, off, none⟩) n cap)).run C.P w = .ok (.string ⟨l.toArray⟩) w := by
  obtain ⟨ns, rfl, rfl⟩ := bytes_rep cs l vs h (by omega) hr
  have hld := run_loadCells_list (P := C.P) w ⟨b, off, none⟩ (ns.map fun n => Value.int .u8 n) (fun j v hv => by rw [add_addr]; exact hcell j v hv)
  rw [hl] at hld
  rw [run_bytesToString w ⟨b, off, none⟩ n cap ns hld, foldl_push]
  simp

theorem run_conv {src dst : TypeId} {s : St} (hi : Inv G w s.toMem) {fb : Nat} {x : AV} {u : Value} (hu : Rep G u x) {a : Act} (h : convA C src dst s fb x = some a) :
    (∃ v, (convert src dst u).run C.P w = .ok v w ∧ Rep G v a.val ∧ a.sw = [] ∧ a.nb = 0) ∨
      ∃ e b, C.P.underlying src = some .string ∧ C.P.underlying dst = some (.slice e) ∧ C.P.underlying e = some (.int .u8) ∧ u = .string b ∧ a = { val := .arr fb 0 0 b.size 1 false, sw := [(fb, ⟨strBytes b, 0, false, none⟩)], nb := 1 } := by
  unfold convA at h
  split at h
  · rename_i k1 k2 k3 n hs hd
    simp only [Option.some.injEq] at h
    subst h
    obtain rfl := rep_int hu
    exact .inl ⟨_, by simp only [convert, Sem.run_bind, run_underlying hs, run_underlying hd, Result.andThen_ok, Conv.intToInt, Sem.run_pure], .int _ _ _, rfl, rfl⟩
  · rename_i b hs hd
    simp only [Option.some.injEq] at h
    subst h
    obtain rfl := rep_str hu
    exact .inl ⟨.string b, by simp only [convert, Sem.run_bind, run_underlying hs, run_underlying hd, Result.andThen_ok, Sem.run_pure], .str _ _, rfl, rfl⟩
  · rename_i e b hs hd
    split at h
    · rename_i he
      simp only [Option.some.injEq] at h
      subst h
      obtain rfl := rep_str hu
      exact .inr ⟨e, b, hs, hd, he, rfl, rfl⟩
    · cases h
  · rename_i x e hs hd
    have key : ∀ v l cap, C.P.underlying e = some (.int .u8) → (convert src dst (.slice v l cap)).run C.P w = (Conv.bytesToString (.slice v l cap)).run C.P w := by
      intro v l cap he
      simp only [convert, Sem.run_bind, run_underlying hs, run_underlying hd, run_underlying he, Result.andThen_ok]
    split at h
    · rename_i xs he
      simp only [Option.map_eq_some_iff] at h
      obtain ⟨l, hl, rfl⟩ := h
      cases hu with
      | slice0 =>
        simp only [bytesStr, Option.some.injEq] at hl
        subst hl
        exact .inl ⟨_, by rw [key _ _ _ he]; rfl, .str _ _, rfl, rfl⟩
      | sliceE =>
        simp only [bytesStr, Option.some.injEq] at hl
        subst hl
        exact .inl ⟨_, by rw [key _ _ _ he]; rfl, .str _ _, rfl, rfl⟩
      | slice _ b off n cap _ _ vs hn hc hs' hl' hM h1 hr =>
        subst hn
        have hfl : flat xs = xs := by
          have : ∀ y ∈ xs, y.cells = [y] := by
            have gen : ∀ (xs : List AV) (l : List UInt8), bytesStr xs = some l → ∀ y ∈ xs, y.cells = [y] := by
              intro xs
              induction xs with
              | nil => intro l _ y hy; cases hy
              | cons c cs ih =>
                intro l hb y hy
                unfold bytesStr at hb
                split at hb
                · rename_i heq; cases heq
                · rename_i n r heq
                  simp only [List.cons.injEq] at heq
                  obtain ⟨rfl, rfl⟩ := heq
                  simp only [Option.map_eq_some_iff] at hb
                  obtain ⟨l', hl', _⟩ := hb
                  rcases List.mem_cons.1 hy with rfl | hy
                  · rfl
                  · exact ih l' hl' y hy
                · cases hb
            exact gen xs l hl
          have gen2 : ∀ (xs : List AV), (∀ y ∈ xs, y.cells = [y]) → flat xs = xs := by
            intro xs
            induction xs with
            | nil => intro _; rfl
            | cons c cs ih =>
              intro h
              have := ih (fun y hy => h y (List.mem_cons_of_mem _ hy))
              simp only [flat, List.map_cons, List.flatten_cons, h c (List.mem_cons_self ..)] at this ⊢
              rw [this]
              rfl
          exact gen2 xs this
        have := run_toStr (C := C) (w := w) (G := G) (b := b) (off := off) (n := xs.length) (cap := cap) (cs := xs) (l := l) (vs := vs) (by rw [hl', hfl]) rfl (fun j v hv => hi.okM _ _ _ (hM j v hv)) (fun j v c hv hcc => (hr j v c hv (by rw [hfl]; exact hcc)).of_bare) hl
        exact .inl ⟨_, by rw [key _ _ _ he]; exact this, .str _ _, rfl, rfl⟩
    · rename_i sz he
      simp only [Option.some.injEq] at h
      subst h
      cases hu
      exact .inl ⟨_, by rw [key _ _ _ he]; rfl, .str _ _, rfl, rfl⟩
    · rename_i id g off n app he
      split at h
      · rename_i hg
        obtain ⟨rfl, hnl⟩ := hg
        simp only [Option.map_eq_some_iff] at h
        obtain ⟨l, hl, rfl⟩ := h
        cases hu with
        | arr _ _ _ _ _ _ b cap tot _ ap hT hc ha =>
          obtain ⟨cur, e1, fr, hlv⟩ := live_of hi hT
          obtain ⟨h1, h2, h3⟩ := live_row hlv off
          have := run_toStr (C := C) (w := w) (G := G) (b := b) (off := off) (n := n) (cap := cap) (cs := ((s.sto id).cells.drop off).take n) (l := l) (vs := (cur.toList.drop off).take n) (by rw [List.length_take]; omega) (by rw [List.length_take]; omega) (fun j v hv => by
              rw [List.getElem?_take] at hv
              split at hv
              · exact h2 j v hv
              · cases hv) (fun j v c hv hcc => by
              rw [List.getElem?_take] at hv hcc
              split at hv
              · rw [if_pos (by assumption)] at hcc
                exact h3 j v c hv hcc
              · cases hv) hl
          exact .inl ⟨_, by rw [key _ _ _ he]; exact this, .str _ _, rfl, rfl⟩
      · cases h
    · cases h
  · cases h


/-! ### unsafe.String -/
theorem run_loadInts {P : Program} : ∀ (l : List Int) (a : Addr) (acc : ByteArray), (∀ (j : Nat) x, l[j]? = some x → w.cell? (a.add j) = some (.int .u8 x)) →
    (loadBytes a acc l.length).run P w = .ok ⟨acc.data ++ (l.map fun n => UInt8.ofNat n.toNat).toArray⟩ w
  | [], a, acc, _ => by simp [loadBytes]
  | x :: l, a, acc, h => by
    have h0 : w.cell? a = some (.int .u8 x) := by
      have := h 0 x rfl
      simpa [Addr.add] using this
    have ih := run_loadInts (P := P) l (a.add 1) (acc.push (UInt8.ofNat x.toNat)) (fun j y hy => by
      have := h (j + 1) y (by simpa using hy)
      have e : (a.add 1).add j = a.add (j + 1) := by
        unfold Addr.add
        by_cases hj : j = 0
        · subst hj; simp
        · simp [hj]; omega
      rw [e]; exact this)
    have hx : x.toNat.toUInt8 = UInt8.ofNat x.toNat := rfl
    simp only [List.length_cons, loadBytes, Sem.run_bind, run_load, h0, Result.andThen, hx]
    rw [ih]
    congr 1
    apply ByteArray.ext
    simp [ByteArray.push]

theorem run_unsafeInts {P : Program} (pt it ty e : TypeId) (hp : P.underlying pt = some (.pointer e)) (hc : P.cellsOf e = 1) (g cells : Nat) (hsh : w.shape? g = some (e, cells)) (l : List Int) (h0 : l ≠ []) (hn : l.length ≤ cells) (h63 : l.length ≤ 9223372036854775807)
    (hcell : ∀ (j : Nat) x, l[j]? = some x → w.cell? ((⟨g, 0, none⟩ : Addr).add j) = some (.int .u8 x)) :
    (Builtin.unsafeString_ #[pt, it] ty #[.pointer (some ⟨g, 0, none⟩), .int .i64 l.length]).run P w = .ok (.string ⟨(l.map fun n => UInt8.ofNat n.toNat).toArray⟩) (w.freeze ⟨g, 0, none⟩ l.length) := by
  have hl : l.length ≠ 0 := by simpa using h0
  have hlb := run_loadInts (P := P) (w := w) l ⟨g, 0, none⟩ .empty hcell
  have hlies := Lib.liesAt_bytes (P := P) hc (cells / P.cellsOf e) l.length (by rw [hc]; simpa using hn)
  have h63' : ¬ (9223372036854775807 : Int) < (l.length : Int) := by omega
  have hdef : Builtin.unsafeString_ #[pt, it] ty #[.pointer (some ⟨g, 0, none⟩), .int .i64 l.length] =
      (do
        let n ← asInt (.int .i64 l.length)
        if n < 0 then runtimePanic (.error "unsafe.String: len out of range")
        if n > IntKind.i64.max then unsupported (.unsafePointer "String: a length above the largest int")
        if n = 0 then pure (.string .empty)
        else if ← variablesAt ⟨g, 0, none⟩ (← elemOf pt) n.toNat then do
          let s ← loadBytes ⟨g, 0, none⟩ .empty n.toNat
          freeze ⟨g, 0, none⟩ n.toNat
          pure (.string s)
        else unsupported (.unsafePointer "String: not so many bytes at ptr")) := rfl
  rw [hdef]
  have hmax : IntKind.i64.max = 9223372036854775807 := rfl
  have hneg : ¬ (l.length : Int) < 0 := by omega
  simp [asInt, asIntOf, hmax, h63', hneg, hl, variablesAt, hsh, elemOf, run_underlying hp, hlies, hlb]

theorem run_text {s : St} (hi : Inv G w s.toMem) {pt it ty : TypeId} {p n : AV} {u v : Value} (hu : Rep G u p) (hv : Rep G v n) {a : Act} (h : textA C pt s p n = some a) :
    (∃ r, (Builtin.unsafeString_ #[pt, it] ty #[u, v]).run C.P w = .ok r w ∧ Rep G r a.val ∧ a.sw = [] ∧ a.nb = 0) ∨
      ∃ r w1, (Builtin.unsafeString_ #[pt, it] ty #[u, v]).run C.P w = .ok r w1 ∧ Rep G r a.val ∧ Inv G w1 ⟨updL s.sto a.sw, s.nid⟩ ∧ Ext G w G w1 ∧ a.nb = 0 := by
  unfold textA at h
  split at h
  · rename_i k
    split at h
    · rename_i hk
      subst hk
      simp only [Option.some.injEq] at h
      subst h
      cases hu
      obtain rfl := rep_int hv
      exact .inl ⟨_, Lib.run_unsafeString_none w pt it ty none, .str _ _, rfl, rfl⟩
    · cases h
  · rename_i id g k
    split at h
    · rename_i e he
      split at h
      · rename_i hc
        obtain ⟨hk0, hkm, hg, hkl, hsz, hty⟩ := hc
        simp only [Option.map_eq_some_iff] at h
        obtain ⟨l, hl, rfl⟩ := h
        obtain rfl := rep_int hv
        subst hg
        cases hu with
        | ptr _ _ _ _ b y hT =>
          obtain ⟨tot, ap⟩ := y
          obtain ⟨cur, e1, fr, hlv⟩ := hi.live _ _ _ _ hT
          obtain ⟨t1, x1, ht1⟩ : ∃ t x, (s.sto id).ty = some (t, x) := by
            cases h1 : (s.sto id).ty with
            | none => rw [h1] at hty; simp at hty
            | some q => exact ⟨q.1, q.2, rfl⟩
          have he1 : e1 = e := by
            have h2 := (hlv.typ t1 x1 ht1).1
            rw [ht1] at hty
            simp at hty
            rw [h2, hty]
          subst he1
          have hlen := hlv.len
          have hsize := hlv.size
          obtain ⟨ns, hvs, rfl⟩ := bytes_rep ((s.sto id).cells.take k.toNat) l (cur.toList.take k.toNat) hl (by simp only [List.length_take, Array.length_toList]; omega) (fun j v c hv hcc => by
            rw [List.getElem?_take] at hv hcc
            split at hv
            · rw [if_pos (by assumption)] at hcc
              exact hlv.rep j v c (by simpa using hv) hcc
            · cases hv)
          have hnl : ns.length = k.toNat := by
            have := congrArg List.length hvs
            simp only [List.length_take, Array.length_toList, List.length_map] at this
            omega
          have hk : k = (ns.length : Int) := by omega
          have hcells : C.P.cellsOf e1 = 1 := hsz
          have hkm' : k ≤ 1099511627776 := hkm
          have hrun := run_unsafeInts (P := C.P) (w := w) pt it ty e1 he hcells b cur.size (by simp [World.shape?, hlv.heap]) ns (by intro h0; subst h0; simp at hnl; omega) (by omega) (by omega) (fun j x hx => by
            rw [add_addr, Nat.zero_add, cell_live hlv.heap]
            have hj : j < ns.length := (List.getElem?_eq_some_iff.1 hx).1
            have h3 : (cur.toList.take k.toNat)[j]? = some (.int .u8 x) := by rw [hvs, List.getElem?_map, hx]; rfl
            rw [List.getElem?_take, if_pos (by omega)] at h3
            simpa using h3)
          have hfz : ∃ fr1, (w.freeze ⟨b, 0, none⟩ ns.length).heap[b]? = some (.cells cur e1 fr1) ∧ (∀ k, k ≠ b → (w.freeze ⟨b, 0, none⟩ ns.length).heap[k]? = w.heap[k]?) ∧ (w.freeze ⟨b, 0, none⟩ ns.length).heap.size = w.heap.size ∧ (w.freeze ⟨b, 0, none⟩ ns.length).os = w.os ∧ (w.freeze ⟨b, 0, none⟩ ns.length).tape = w.tape ∧ (w.freeze ⟨b, 0, none⟩ ns.length).output = w.output := by
            unfold World.freeze
            split
            · exact ⟨fr, hlv.heap, fun _ _ => rfl, rfl, rfl, rfl, rfl⟩
            · refine ⟨(if fr.1 == fr.2 then (0, 0 + ns.length) else (min fr.1 0, max fr.2 (0 + ns.length))), ?_, fun k hk => ?_, by simp, rfl, rfl, rfl⟩
              · simp only [Array.getElem?_modify, if_true, hlv.heap, Option.map_some]
              · simp only [Array.getElem?_modify]
                rw [if_neg (Ne.symm hk)]
          obtain ⟨fr1, f1, f2, f3, f4, f5, f6⟩ := hfz
          obtain ⟨i1, i2⟩ := inv_dead hi hlv (cs1 := []) (z1 := true) (ty1 := none) f1 f2 f3 f4 f5 f6
          subst hk
          exact .inr ⟨_, _, hrun, .str _ _, i1, i2, rfl⟩
      · cases h
    · cases h
  · cases h

end Go.Ev
end
