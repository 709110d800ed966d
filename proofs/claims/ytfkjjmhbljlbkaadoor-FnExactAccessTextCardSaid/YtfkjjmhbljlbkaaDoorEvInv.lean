/- Part of the proof of a statement about the given program: EvInv. No condition of its own. -/
import Derived.Test.YtfkjjmhbljlbkaaDoorEvOps3
namespace Go.Ev
set_option linter.unusedVariables false
set_option linter.unusedSimpArgs false
variable {C : Ctx} {G : Gh} {w : World} {m : Mem}

theorem upd_same {α : Type} (f : Nat → α) (i : Nat) (v : α) : upd f i v i = v := by simp [upd]
theorem upd_ne {α : Type} (f : Nat → α) {i j : Nat} (v : α) (h : j ≠ i) : upd f i v j = f j := by simp [upd, h]

/-- One more row in the table of blocks. -/
def Gh.put (G : Gh) (id g : Nat) (x : Nat × Nat × Bool) : Gh := ⟨G.M, fun i h => if i = id ∧ h = g then some x else G.T i h⟩

theorem noM (hi : Inv G w m) {b : Nat} (hb : w.heap.size ≤ b) : G.M b = [] := by
  cases hM : G.M b with
  | nil => rfl
  | cons v r =>
    have h := hi.okM b 0 v (by rw [hM]; rfl)
    have := World.block_lt_of_cell? w _ h
    simp at this
    omega

theorem put_T {id g : Nat} {x : Nat × Nat × Bool} (hn : G.T id g = none) (i h : Nat) (y) (hy : G.T i h = some y) : (G.put id g x).T i h = some y := by
  simp only [Gh.put]
  rw [if_neg]
  · exact hy
  · rintro ⟨rfl, rfl⟩
    rw [hn] at hy
    cases hy

theorem LiveAt.lt {id b tot : Nat} {ap : Bool} {cur : Array Value} {e : TypeId} {fr : Nat × Nat} (h : LiveAt G w m id b tot ap cur e fr) : b < w.heap.size := (Array.getElem?_eq_some_iff.1 h.heap).1

/-- A new block. 'w1': the world with it, and perhaps some draws. -/
theorem inv_new (hi : Inv G w m) {fb nid' : Nat} {ty : Option (TypeId × Bool)} (hf : ∀ g, G.T fb g = none) (h1 : fb < nid') (h2 : m.nid ≤ nid') {cur : Array Value} {e : TypeId} {fr : Nat × Nat} {cs : List AV} {ap : Bool} {w1 : World}
    (hh : w1.heap = w.heap.push (.cells cur e fr)) (ho : w1.os = w.os) (ht : w1.tape = w.tape) (hout : w1.output = w.output)
    (hfr : fr = (0, 0) ∨ (ap = false ∧ fr = (cur.size, cur.size + 1))) (hlen : cs.length ≤ cur.size) (hone : ∀ c ∈ cs, c.one = true)
    (hrep : ∀ (j : Nat) v c, cur[j]? = some v → cs[j]? = some c → Rep G v c) (hty : ∀ t x, ty = some (t, x) → e = t ∧ (x = true → cur.size = cs.length)) :
    Inv (G.put fb 0 (w.heap.size, cur.size, ap)) w1 ⟨upd m.sto fb ⟨cs, 0, false, ty⟩, nid'⟩ ∧ Ext G w (G.put fb 0 (w.heap.size, cur.size, ap)) w1 := by
  have old : ∀ b, b < w.heap.size → w1.heap[b]? = w.heap[b]? := fun b hb => by rw [hh, Array.getElem?_push, if_neg (by omega)]
  have new : w1.heap[w.heap.size]? = some (.cells cur e fr) := by rw [hh]; simp
  have hsz : w1.heap.size = w.heap.size + 1 := by rw [hh]; simp
  have hT : ∀ i h y, G.T i h = some y → (G.put fb 0 (w.heap.size, cur.size, ap)).T i h = some y := fun i h y hy => put_T (hf 0) i h y hy
  have mono : ∀ {v x}, Rep G v x → Rep (G.put fb 0 (w.heap.size, cur.size, ap)) v x := fun h => h.mono (fun _ => List.prefix_refl _) hT
  have hne : ∀ i h y, G.T i h = some y → i ≠ fb := fun i h y hy e => by subst e; rw [hf] at hy; cases hy
  have hTinv : ∀ i h y, (G.put fb 0 (w.heap.size, cur.size, ap)).T i h = some y → (i = fb ∧ h = 0 ∧ y = (w.heap.size, cur.size, ap)) ∨ (i ≠ fb ∧ G.T i h = some y) := by
    intro i h y hy
    simp only [Gh.put] at hy
    split at hy
    · rename_i hc
      simp only [Option.some.injEq] at hy
      exact .inl ⟨hc.1, hc.2, hy.symm⟩
    · exact .inr ⟨hne _ _ _ hy, hy⟩
  refine ⟨⟨?_, ?_, ?_, ?_⟩, ⟨fun _ => List.prefix_refl _, hT, ho, ht, hout, by omega, fun b hb _ => ⟨old b hb, rfl⟩, fun id g b x hx hb => ?_⟩⟩
  · intro b j v hv
    have h := hi.okM b j v hv
    have hlt := World.block_lt_of_cell? w _ h
    rw [← h]
    exact World.cell?_of_block (w := w) (old b hlt)
  · intro id b tot ap' h
    rcases hTinv _ _ _ h with ⟨rfl, _, he⟩ | ⟨hid, h'⟩
    · simp only [Prod.mk.injEq] at he
      obtain ⟨rfl, rfl, rfl⟩ := he
      refine ⟨cur, e, fr, h, new, rfl, hfr, ?_, ?_, ?_, ?_, ?_, fun t x ht => by simp only [upd_same] at ht ⊢; exact hty t x ht⟩
      · simpa [upd_same] using hlen
      · intro j v c hv hc
        simp only [upd_same] at hc
        exact mono (hrep j v c hv hc)
      · intro c hc
        simp only [upd_same] at hc
        exact hone c hc
      · show (G.M _).length ≤ _
        rw [noM hi (Nat.le_refl _)]
        simp
      · intro _
        exact noM hi (Nat.le_refl _)
    · simp only [upd_ne _ _ hid] at h'
      obtain ⟨cur', e', fr', hl⟩ := hi.live _ _ _ _ h'
      refine ⟨cur', e', fr', h, (old b hl.lt).trans hl.heap, hl.size, hl.fr, ?_, ?_, ?_, ?_, ?_, fun t x ht => by simp only [upd_ne _ _ hid] at ht ⊢; exact hl.typ t x ht⟩
      · simpa [upd_ne _ _ hid] using hl.len
      · intro j v c hv hc
        simp only [upd_ne _ _ hid] at hc
        exact mono (hl.rep j v c hv hc)
      · intro c hc
        simp only [upd_ne _ _ hid] at hc
        exact hl.one c hc
      · simpa [upd_ne _ _ hid, Gh.put] using hl.kept
      · intro hfz
        simp only [upd_ne _ _ hid] at hfz
        exact hl.soft hfz
  · intro id id' b x y h h'
    rcases hTinv _ _ _ h with ⟨rfl, _, he⟩ | ⟨hid, hh1⟩
    · rcases hTinv _ _ _ h' with ⟨rfl, _, he'⟩ | ⟨hid', hh2⟩
      · rfl
      · simp only [upd_ne _ _ hid'] at hh2
        obtain ⟨_, _, _, hl⟩ := hi.live _ _ _ _ hh2
        have := hl.lt
        simp only [Prod.mk.injEq] at he
        omega
    · simp only [upd_ne _ _ hid] at hh1
      rcases hTinv _ _ _ h' with ⟨rfl, _, he'⟩ | ⟨hid', hh2⟩
      · obtain ⟨_, _, _, hl⟩ := hi.live _ _ _ _ hh1
        have := hl.lt
        simp only [Prod.mk.injEq] at he'
        omega
      · simp only [upd_ne _ _ hid'] at hh2
        exact hi.dist _ _ _ _ _ hh1 hh2
  · intro id g x h
    rcases hTinv _ _ _ h with ⟨rfl, rfl, _⟩ | ⟨hid, h'⟩
    · exact ⟨h1, Nat.zero_le _⟩
    · have := hi.dom _ _ _ h'
      simp only [upd_ne _ _ hid]
      exact ⟨by omega, this.2⟩
  · rcases hTinv _ _ _ hx with ⟨_, _, he⟩ | ⟨_, h'⟩
    · simp only [Prod.mk.injEq] at he
      omega
    · exact ⟨_, _, _, h'⟩

/-- A live block whose cells are turned, or that has more of them; under the next number of appending, perhaps. -/
theorem inv_turn (hi : Inv G w m) {id b tot : Nat} {ap : Bool} {cur cur1 : Array Value} {e : TypeId} {fr : Nat × Nat} (hl : LiveAt G w m id b tot ap cur e fr) {cs1 : List AV} {g1 : Nat} {w1 : World} {ty1 : Option (TypeId × Bool)}
    (hg : g1 = (m.sto id).gen ∨ g1 = (m.sto id).gen + 1) (hh : w1.heap[b]? = some (.cells cur1 e fr)) (hother : ∀ k, k ≠ b → w1.heap[k]? = w.heap[k]?) (hsize : w1.heap.size = w.heap.size)
    (ho : w1.os = w.os) (ht : w1.tape = w.tape) (hout : w1.output = w.output) (hc1 : cur1.size = cur.size) (hlen : cs1.length ≤ tot) (hone : ∀ c ∈ cs1, c.one = true)
    (hrep : ∀ (j : Nat) v c, cur1[j]? = some v → cs1[j]? = some c → Rep G v c) (hkeep : ∀ j : Nat, j < (G.M b).length → cur1[j]? = cur[j]?) (hlk : (G.M b).length ≤ cs1.length) (hty : ∀ t x, ty1 = some (t, x) → ∃ y, (m.sto id).ty = some (t, y) ∧ (x = true → y = true ∧ cs1.length = (m.sto id).cells.length)) :
    Inv (G.put id g1 (b, tot, ap)) w1 ⟨upd m.sto id ⟨cs1, g1, (m.sto id).froz, ty1⟩, m.nid⟩ ∧ Ext G w (G.put id g1 (b, tot, ap)) w1 := by
  have hT : ∀ i h y, G.T i h = some y → (G.put id g1 (b, tot, ap)).T i h = some y := by
    intro i h y hy
    simp only [Gh.put]
    split
    · rename_i hc
      obtain ⟨rfl, rfl⟩ := hc
      rcases hg with rfl | rfl
      · rw [hl.t] at hy
        exact hy
      · have := (hi.dom _ _ _ hy).2
        omega
    · exact hy
  have mono : ∀ {v x}, Rep G v x → Rep (G.put id g1 (b, tot, ap)) v x := fun h => h.mono (fun _ => List.prefix_refl _) hT
  have hTinv : ∀ i h y, (G.put id g1 (b, tot, ap)).T i h = some y → (i = id ∧ h = g1 ∧ y = (b, tot, ap)) ∨ (¬ (i = id ∧ h = g1) ∧ G.T i h = some y) := by
    intro i h y hy
    simp only [Gh.put] at hy
    split at hy
    · rename_i hc
      simp only [Option.some.injEq] at hy
      exact .inl ⟨hc.1, hc.2, hy.symm⟩
    · rename_i hc
      exact .inr ⟨hc, hy⟩
  have hbv : ∀ i c f, LiveAt G w m i b c f cur e fr → True := fun _ _ _ _ => trivial
  refine ⟨⟨?_, ?_, ?_, ?_⟩, ⟨fun _ => List.prefix_refl _, hT, ho, ht, hout, by omega, fun k hk hn => ⟨hother k (fun ek => hn id _ _ (ek ▸ hl.t)), rfl⟩, fun i g k x hx hk => ?_⟩⟩
  · intro k j v hv
    have h := hi.okM k j v hv
    by_cases hk : k = b
    · subst hk
      have hj : j < (G.M k).length := (List.getElem?_eq_some_iff.1 hv).1
      have hcell : cur[j]? = some v := by
        simp only [World.cell?, hl.heap, Option.isSome_none, Bool.false_eq_true, if_false] at h
        exact h
      simp only [World.cell?, hh, Option.isSome_none, Bool.false_eq_true, if_false]
      rw [hkeep j hj]
      exact hcell
    · rw [← h]
      exact World.cell?_of_block (w := w) (hother k hk)
  · intro i k tot' ap' h
    by_cases hid : i = id
    · subst hid
      simp only [upd_same] at h
      have hx := hTinv _ _ _ h
      have he : (k, tot', ap') = (b, tot, ap) := by
        rcases hx with ⟨_, _, he⟩ | ⟨hne, _⟩
        · exact he
        · exact absurd ⟨rfl, rfl⟩ hne
      simp only [Prod.mk.injEq] at he
      obtain ⟨rfl, rfl, rfl⟩ := he
      refine ⟨cur1, e, fr, by simpa [upd_same] using h, hh, hc1.trans hl.size, hl.fr, ?_, ?_, ?_, ?_, ?_, fun t x ht => by
        simp only [upd_same] at ht ⊢
        obtain ⟨y, k1, k2⟩ := hty t x ht
        obtain ⟨k3, k4⟩ := hl.typ t y k1
        exact ⟨k3, fun hx => by rw [(k2 hx).2]; exact k4 (k2 hx).1⟩⟩
      · simpa [upd_same] using hlen
      · intro j v c hv hc
        simp only [upd_same] at hc
        exact mono (hrep j v c hv hc)
      · intro c hc
        simp only [upd_same] at hc
        exact hone c hc
      · simpa [upd_same, Gh.put] using hlk
      · intro hfz
        simp only [upd_same] at hfz
        exact hl.soft hfz
    · simp only [upd_ne _ _ hid] at h
      rcases hTinv _ _ _ h with ⟨hc, _, _⟩ | ⟨_, h'⟩
      · exact absurd hc hid
      · obtain ⟨cur', e', fr', hl'⟩ := hi.live _ _ _ _ h'
        have hkb : k ≠ b := fun ek => hid (hi.dist _ _ _ _ _ h' (ek ▸ hl.t))
        refine ⟨cur', e', fr', by simpa [upd_ne _ _ hid] using h, (hother k hkb).trans hl'.heap, hl'.size, hl'.fr, ?_, ?_, ?_, ?_, ?_, fun t x ht => by simp only [upd_ne _ _ hid] at ht ⊢; exact hl'.typ t x ht⟩
        · simpa [upd_ne _ _ hid] using hl'.len
        · intro j v c hv hc
          simp only [upd_ne _ _ hid] at hc
          exact mono (hl'.rep j v c hv hc)
        · intro c hc
          simp only [upd_ne _ _ hid] at hc
          exact hl'.one c hc
        · simpa [upd_ne _ _ hid, Gh.put] using hl'.kept
        · intro hfz
          simp only [upd_ne _ _ hid] at hfz
          exact hl'.soft hfz
  · intro i i' k x y h h'
    have conv : ∀ i x, (G.put id g1 (b, tot, ap)).T i ((upd m.sto id ⟨cs1, g1, (m.sto id).froz, ty1⟩) i).gen = some (k, x) → ∃ x', G.T i (m.sto i).gen = some (k, x') := by
      intro i x h
      by_cases hid : i = id
      · subst hid
        simp only [upd_same] at h
        rcases hTinv _ _ _ h with ⟨_, _, he⟩ | ⟨hne, _⟩
        · simp only [Prod.mk.injEq] at he
          exact ⟨_, he.1 ▸ hl.t⟩
        · exact absurd ⟨rfl, rfl⟩ hne
      · simp only [upd_ne _ _ hid] at h
        rcases hTinv _ _ _ h with ⟨hc, _, _⟩ | ⟨_, h'⟩
        · exact absurd hc hid
        · exact ⟨_, h'⟩
    obtain ⟨_, a1⟩ := conv _ _ h
    obtain ⟨_, a2⟩ := conv _ _ h'
    exact hi.dist _ _ _ _ _ a1 a2
  · intro i g x h
    rcases hTinv _ _ _ h with ⟨rfl, rfl, _⟩ | ⟨hne, h'⟩
    · simp only [upd_same]
      exact ⟨(hi.dom _ _ _ hl.t).1, Nat.le_refl _⟩
    · have := hi.dom _ _ _ h'
      by_cases hid : i = id
      · subst hid
        simp only [upd_same]
        refine ⟨this.1, ?_⟩
        rcases hg with rfl | rfl <;> omega
      · simp only [upd_ne _ _ hid]
        exact this
  · rcases hTinv _ _ _ hx with ⟨_, _, he⟩ | ⟨_, h'⟩
    · simp only [Prod.mk.injEq] at he
      exact ⟨id, _, _, he.1 ▸ hl.t⟩
    · exact ⟨_, _, _, h'⟩

/-- A live block whose contents move into a new block: under the next number of appending. -/
theorem inv_move (hi : Inv G w m) {id b tot : Nat} {ap : Bool} {cur : Array Value} {e : TypeId} {fr : Nat × Nat} (hl : LiveAt G w m id b tot ap cur e fr) {cur1 : Array Value} {e1 : TypeId} {cs1 : List AV} {w1 : World} {ty1 : Option (TypeId × Bool)}
    (hh : w1.heap = w.heap.push (.cells cur1 e1 (0, 0))) (ho : w1.os = w.os) (ht : w1.tape = w.tape) (hout : w1.output = w.output)
    (hlen : cs1.length ≤ cur1.size) (hone : ∀ c ∈ cs1, c.one = true) (hrep : ∀ (j : Nat) v c, cur1[j]? = some v → cs1[j]? = some c → Rep G v c) (hty : ∀ t x, ty1 = some (t, x) → e1 = t ∧ x = false) :
    Inv (G.put id ((m.sto id).gen + 1) (w.heap.size, cur1.size, true)) w1 ⟨upd m.sto id ⟨cs1, (m.sto id).gen + 1, (m.sto id).froz, ty1⟩, m.nid⟩ ∧ Ext G w (G.put id ((m.sto id).gen + 1) (w.heap.size, cur1.size, true)) w1 := by
  have old : ∀ b, b < w.heap.size → w1.heap[b]? = w.heap[b]? := fun b hb => by rw [hh, Array.getElem?_push, if_neg (by omega)]
  have new : w1.heap[w.heap.size]? = some (.cells cur1 e1 (0, 0)) := by rw [hh]; simp
  have hsz : w1.heap.size = w.heap.size + 1 := by rw [hh]; simp
  have hnone : G.T id ((m.sto id).gen + 1) = none := by
    cases h : G.T id ((m.sto id).gen + 1) with
    | none => rfl
    | some x => have := (hi.dom _ _ _ h).2; omega
  have hT : ∀ i h y, G.T i h = some y → (G.put id ((m.sto id).gen + 1) (w.heap.size, cur1.size, true)).T i h = some y := fun i h y hy => put_T hnone i h y hy
  have mono : ∀ {v x}, Rep G v x → Rep (G.put id ((m.sto id).gen + 1) (w.heap.size, cur1.size, true)) v x := fun h => h.mono (fun _ => List.prefix_refl _) hT
  have hTinv : ∀ i h y, (G.put id ((m.sto id).gen + 1) (w.heap.size, cur1.size, true)).T i h = some y → (i = id ∧ h = (m.sto id).gen + 1 ∧ y = (w.heap.size, cur1.size, true)) ∨ (¬ (i = id ∧ h = (m.sto id).gen + 1) ∧ G.T i h = some y) := by
    intro i h y hy
    simp only [Gh.put] at hy
    split at hy
    · rename_i hc
      simp only [Option.some.injEq] at hy
      exact .inl ⟨hc.1, hc.2, hy.symm⟩
    · rename_i hc
      exact .inr ⟨hc, hy⟩
  refine ⟨⟨?_, ?_, ?_, ?_⟩, ⟨fun _ => List.prefix_refl _, hT, ho, ht, hout, by omega, fun b hb _ => ⟨old b hb, rfl⟩, fun i g k x hx hk => ?_⟩⟩
  · intro b j v hv
    have h := hi.okM b j v hv
    have hlt := World.block_lt_of_cell? w _ h
    rw [← h]
    exact World.cell?_of_block (w := w) (old b hlt)
  · intro i k tot' ap' h
    by_cases hid : i = id
    · subst hid
      simp only [upd_same] at h
      have he : (k, tot', ap') = (w.heap.size, cur1.size, true) := by
        rcases hTinv _ _ _ h with ⟨_, _, he⟩ | ⟨hne, _⟩
        · exact he
        · exact absurd ⟨rfl, rfl⟩ hne
      simp only [Prod.mk.injEq] at he
      obtain ⟨rfl, rfl, rfl⟩ := he
      refine ⟨cur1, e1, (0, 0), by simpa [upd_same] using h, new, rfl, .inl rfl, ?_, ?_, ?_, ?_, ?_, fun t x ht => by
        simp only [upd_same] at ht
        obtain ⟨k1, k2⟩ := hty t x ht
        exact ⟨k1, fun hx => by rw [k2] at hx; cases hx⟩⟩
      · simpa [upd_same] using hlen
      · intro j v c hv hc
        simp only [upd_same] at hc
        exact mono (hrep j v c hv hc)
      · intro c hc
        simp only [upd_same] at hc
        exact hone c hc
      · show (G.M _).length ≤ _
        rw [noM hi (Nat.le_refl _)]
        simp
      · intro _
        exact noM hi (Nat.le_refl _)
    · simp only [upd_ne _ _ hid] at h
      rcases hTinv _ _ _ h with ⟨hc, _, _⟩ | ⟨_, h'⟩
      · exact absurd hc hid
      · obtain ⟨cur', e', fr', hl'⟩ := hi.live _ _ _ _ h'
        refine ⟨cur', e', fr', by simpa [upd_ne _ _ hid] using h, (old k hl'.lt).trans hl'.heap, hl'.size, hl'.fr, ?_, ?_, ?_, ?_, ?_, fun t x ht => by simp only [upd_ne _ _ hid] at ht ⊢; exact hl'.typ t x ht⟩
        · simpa [upd_ne _ _ hid] using hl'.len
        · intro j v c hv hc
          simp only [upd_ne _ _ hid] at hc
          exact mono (hl'.rep j v c hv hc)
        · intro c hc
          simp only [upd_ne _ _ hid] at hc
          exact hl'.one c hc
        · simpa [upd_ne _ _ hid, Gh.put] using hl'.kept
        · intro hfz
          simp only [upd_ne _ _ hid] at hfz
          exact hl'.soft hfz
  · intro i i' k x y h h'
    have conv : ∀ i x, (G.put id ((m.sto id).gen + 1) (w.heap.size, cur1.size, true)).T i ((upd m.sto id ⟨cs1, (m.sto id).gen + 1, (m.sto id).froz, ty1⟩) i).gen = some (k, x) → (i = id ∧ k = w.heap.size) ∨ (i ≠ id ∧ ∃ x', G.T i (m.sto i).gen = some (k, x')) := by
      intro i x h
      by_cases hid : i = id
      · subst hid
        simp only [upd_same] at h
        rcases hTinv _ _ _ h with ⟨_, _, he⟩ | ⟨hne, _⟩
        · simp only [Prod.mk.injEq] at he
          exact .inl ⟨rfl, he.1⟩
        · exact absurd ⟨rfl, rfl⟩ hne
      · simp only [upd_ne _ _ hid] at h
        rcases hTinv _ _ _ h with ⟨hc, _, _⟩ | ⟨_, h'⟩
        · exact absurd hc hid
        · exact .inr ⟨hid, _, h'⟩
    rcases conv _ _ h with ⟨rfl, rfl⟩ | ⟨hne, _, a1⟩
    · rcases conv _ _ h' with ⟨rfl, _⟩ | ⟨_, _, a2⟩
      · rfl
      · obtain ⟨_, _, _, hl'⟩ := hi.live _ _ _ _ a2
        have := hl'.lt
        omega
    · rcases conv _ _ h' with ⟨rfl, rfl⟩ | ⟨_, _, a2⟩
      · obtain ⟨_, _, _, hl'⟩ := hi.live _ _ _ _ a1
        have := hl'.lt
        omega
      · exact hi.dist _ _ _ _ _ a1 a2
  · intro i g x h
    rcases hTinv _ _ _ h with ⟨rfl, rfl, _⟩ | ⟨hne, h'⟩
    · simp only [upd_same]
      exact ⟨(hi.dom _ _ _ hl.t).1, Nat.le_refl _⟩
    · have := hi.dom _ _ _ h'
      by_cases hid : i = id
      · subst hid
        simp only [upd_same]
        exact ⟨this.1, by omega⟩
      · simp only [upd_ne _ _ hid]
        exact this
  · rcases hTinv _ _ _ hx with ⟨_, _, he⟩ | ⟨_, h'⟩
    · simp only [Prod.mk.injEq] at he
      omega
    · exact ⟨_, _, _, h'⟩

/-- A live block that is not looked at again, whatever becomes of it, but for what is to stay. -/
theorem inv_dead (hi : Inv G w m) {id b tot : Nat} {ap : Bool} {cur : Array Value} {e : TypeId} {fr fr1 : Nat × Nat} (hl : LiveAt G w m id b tot ap cur e fr) {w1 : World} {cs1 : List AV} {z1 : Bool} {ty1 : Option (TypeId × Bool)}
    (hh : w1.heap[b]? = some (.cells cur e fr1)) (hother : ∀ k, k ≠ b → w1.heap[k]? = w.heap[k]?) (hsize : w1.heap.size = w.heap.size) (ho : w1.os = w.os) (ht : w1.tape = w.tape) (hout : w1.output = w.output) :
    Inv G w1 ⟨upd m.sto id ⟨cs1, (m.sto id).gen + 1, z1, ty1⟩, m.nid⟩ ∧ Ext G w G w1 := by
  have hnone : ∀ x, G.T id ((m.sto id).gen + 1) ≠ some x := fun x h => by have := (hi.dom _ _ _ h).2; omega
  refine ⟨⟨?_, ?_, ?_, ?_⟩, ⟨fun _ => List.prefix_refl _, fun _ _ _ h => h, ho, ht, hout, by omega, fun k hk hn => ⟨hother k (fun ek => hn id _ _ (ek ▸ hl.t)), rfl⟩, fun i g k x hx hk => ⟨_, _, _, hx⟩⟩⟩
  · intro k j v hv
    have h := hi.okM k j v hv
    by_cases hk : k = b
    · subst hk
      simp only [World.cell?, hl.heap, hh, Option.isSome_none, Bool.false_eq_true, if_false] at h ⊢
      exact h
    · rw [← h]
      exact World.cell?_of_block (w := w) (hother k hk)
  · intro i k tot' ap' h
    by_cases hid : i = id
    · subst hid
      simp only [upd_same] at h
      exact absurd h (hnone _)
    · simp only [upd_ne _ _ hid] at h
      obtain ⟨cur', e', fr', hl'⟩ := hi.live _ _ _ _ h
      have hkb : k ≠ b := fun ek => hid (hi.dist _ _ _ _ _ h (ek ▸ hl.t))
      refine ⟨cur', e', fr', by simpa [upd_ne _ _ hid] using h, (hother k hkb).trans hl'.heap, hl'.size, hl'.fr, ?_, ?_, ?_, ?_, ?_, ?_⟩
      · simpa [upd_ne _ _ hid] using hl'.len
      · intro j v c hv hc
        simp only [upd_ne _ _ hid] at hc
        exact hl'.rep j v c hv hc
      · intro c hc
        simp only [upd_ne _ _ hid] at hc
        exact hl'.one c hc
      · simpa [upd_ne _ _ hid] using hl'.kept
      · intro hfz
        simp only [upd_ne _ _ hid] at hfz
        exact hl'.soft hfz
      · intro t x hx
        simp only [upd_ne _ _ hid] at hx ⊢
        exact hl'.typ t x hx
  · intro i i' k x y h h'
    have conv : ∀ i x, G.T i ((upd m.sto id ⟨cs1, (m.sto id).gen + 1, z1, ty1⟩) i).gen = some (k, x) → G.T i (m.sto i).gen = some (k, x) := by
      intro i x h
      by_cases hid : i = id
      · subst hid
        simp only [upd_same] at h
        exact absurd h (hnone _)
      · simpa only [upd_ne _ _ hid] using h
    exact hi.dist _ _ _ _ _ (conv _ _ h) (conv _ _ h')
  · intro i g x h
    have := hi.dom _ _ _ h
    by_cases hid : i = id
    · subst hid
      simp only [upd_same]
      exact ⟨this.1, by omega⟩
    · simp only [upd_ne _ _ hid]
      exact this

/-- The world after draws alone. -/
theorem inv_drew (hi : Inv G w m) : Inv G w.drew m := ⟨hi.okM, fun id b tot ap h => let ⟨cur, e, fr, hl⟩ := hi.live id b tot ap h; ⟨cur, e, fr, hl.t, hl.heap, hl.size, hl.fr, hl.len, hl.rep, hl.one, hl.kept, hl.soft, hl.typ⟩, hi.dist, hi.dom⟩

end Go.Ev
