/- Part of the proof of a statement about the given program: EvEff4. No condition of its own. -/
import Derived.Test.YtfkjjmhbljlbkaaDoorEvEff3
import Derived.Lib.UnsafeStr
namespace Go.Ev
set_option linter.unusedVariables false
set_option linter.unusedSimpArgs false
variable {C : Ctx} {G : Gh} {w : World} {m : Mem}

theorem foldl_push : ∀ (ns : List Int) (a : ByteArray), ns.foldl (fun (r : ByteArray) n => r.push (UInt8.ofNat n.toNat)) a = ⟨a.data ++ (ns.map fun n => UInt8.ofNat n.toNat).toArray⟩
  | [], a => by simp
  | n :: ns, a => by
    rw [List.foldl_cons, foldl_push ns]
    simp only [List.map_cons, ByteArray.push]
    congr 1
    apply Array.ext'
    simp

/-- A row of bytes as a text. -/
theorem run_toStr {b off n cap : Nat} {cs : List AV} {l : List UInt8} {vs : List Value} (hl : vs.length = n) (hc : cs.length = n) (hcell : ∀ (j : Nat) v, vs[j]? = some v → w.cell? ⟨b, off + j, none⟩ = some v)
    (hr : ∀ (j : Nat) v c, vs[j]? = some v → cs[j]? = some c → Rep G v c) (h : bytesStr cs = some l) : (Conv.bytesToString (.slice (some ⟨b, off, none⟩) n cap)).run C.P w = .ok (.string ⟨l.toArray⟩) w := by
  obtain ⟨ns, rfl, rfl⟩ := bytes_rep cs l vs h (by omega) hr
  have hld := run_loadCells_list (P := C.P) w ⟨b, off, none⟩ (ns.map fun n => Value.int .u8 n) (fun j v hv => by rw [add_addr]; exact hcell j v hv)
  rw [hl] at hld
  rw [run_bytesToString w ⟨b, off, none⟩ n cap ns hld, foldl_push]
  simp

theorem run_conv {src dst : TypeId} {s : St} (hi : Inv G w s.toMem) {fb : Nat} {x : AV} {u : Value} (hu : Rep G u x) {a : Act} (h : convA C src dst s fb x = some a) :
    (∃ v, (convert src dst u).run C.P w = .ok v w ∧ Rep G v a.val ∧ a.sw = [] ∧ a.nb = 0) ∨
      ∃ e b, C.P.underlying src = some .string ∧ C.P.underlying dst = some (.slice e) ∧ C.P.underlying e = some (.int .u8) ∧ u = .string b ∧ a = { val := .arr fb 0 0 b.size 1 false, sw := [(fb, ⟨strBytes b, 0, false, none⟩)], nb := 1 } := by
  unfold convA at h
  split at h
  · rename_i k1 k2 k3 n hs hd
    simp only [Option.some.injEq] at h
    subst h
    obtain rfl := rep_int hu
    exact .inl ⟨_, by simp only [convert, Sem.run_bind, run_underlying hs, run_underlying hd, Result.andThen_ok, Conv.intToInt, Sem.run_pure], .int _ _ _, rfl, rfl⟩
  · rename_i b hs hd
    simp only [Option.some.injEq] at h
    subst h
    obtain rfl := rep_str hu
    exact .inl ⟨.string b, by simp only [convert, Sem.run_bind, run_underlying hs, run_underlying hd, Result.andThen_ok, Sem.run_pure], .str _ _, rfl, rfl⟩
  · rename_i e b hs hd
    split at h
    · rename_i he
      simp only [Option.some.injEq] at h
      subst h
      obtain rfl := rep_str hu
      exact .inr ⟨e, b, hs, hd, he, rfl, rfl⟩
    · cases h
  · rename_i x e hs hd
    have key : ∀ v l cap, C.P.underlying e = some (.int .u8) → (convert src dst (.slice v l cap)).run C.P w = (Conv.bytesToString (.slice v l cap)).run C.P w := by
      intro v l cap he
      simp only [convert, Sem.run_bind, run_underlying hs, run_underlying hd, run_underlying he, Result.andThen_ok]
    split at h
    · rename_i xs he
      simp only [Option.map_eq_some_iff] at h
      obtain ⟨l, hl, rfl⟩ := h
      cases hu with
      | slice0 =>
        simp only [bytesStr, Option.some.injEq] at hl
        subst hl
        exact .inl ⟨_, by rw [key _ _ _ he]; rfl, .str _ _, rfl, rfl⟩
      | sliceE =>
        simp only [bytesStr, Option.some.injEq] at hl
        subst hl
        exact .inl ⟨_, by rw [key _ _ _ he]; rfl, .str _ _, rfl, rfl⟩
      | slice _ b off n cap _ _ vs hn hc hs' hl' hM h1 hr =>
        subst hn
        have hfl : flat xs = xs := by
          have : ∀ y ∈ xs, y.cells = [y] := by
            have gen : ∀ (xs : List AV) (l : List UInt8), bytesStr xs = some l → ∀ y ∈ xs, y.cells = [y] := by
              intro xs
              induction xs with
              | nil => intro l _ y hy; cases hy
              | cons c cs ih =>
                intro l hb y hy
                unfold bytesStr at hb
                split at hb
                · rename_i heq; cases heq
                · rename_i n r heq
                  simp only [List.cons.injEq] at heq
                  obtain ⟨rfl, rfl⟩ := heq
                  simp only [Option.map_eq_some_iff] at hb
                  obtain ⟨l', hl', _⟩ := hb
                  rcases List.mem_cons.1 hy with rfl | hy
                  · rfl
                  · exact ih l' hl' y hy
                · cases hb
            exact gen xs l hl
          have gen2 : ∀ (xs : List AV), (∀ y ∈ xs, y.cells = [y]) → flat xs = xs := by
            intro xs
            induction xs with
            | nil => intro _; rfl
            | cons c cs ih =>
              intro h
              have := ih (fun y hy => h y (List.mem_cons_of_mem _ hy))
              simp only [flat, List.map_cons, List.flatten_cons, h c (List.mem_cons_self ..)] at this ⊢
              rw [this]
              rfl
          exact gen2 xs this
        have := run_toStr (C := C) (w := w) (G := G) (b := b) (off := off) (n := xs.length) (cap := cap) (cs := xs) (l := l) (vs := vs) (by rw [hl', hfl]) rfl (fun j v hv => hi.okM _ _ _ (hM j v hv)) (fun j v c hv hcc => (hr j v c hv (by rw [hfl]; exact hcc)).of_bare) hl
        exact .inl ⟨_, by rw [key _ _ _ he]; exact this, .str _ _, rfl, rfl⟩
    · rename_i sz he
      simp only [Option.some.injEq] at h
      subst h
      cases hu
      exact .inl ⟨_, by rw [key _ _ _ he]; rfl, .str _ _, rfl, rfl⟩
    · rename_i id g off n app he
      split at h
      · rename_i hg
        obtain ⟨rfl, hnl⟩ := hg
        simp only [Option.map_eq_some_iff] at h
        obtain ⟨l, hl, rfl⟩ := h
        cases hu with
        | arr _ _ _ _ _ _ b cap tot _ ap hT hc ha =>
          obtain ⟨cur, e1, fr, hlv⟩ := live_of hi hT
          obtain ⟨h1, h2, h3⟩ := live_row hlv off
          have := run_toStr (C := C) (w := w) (G := G) (b := b) (off := off) (n := n) (cap := cap) (cs := ((s.sto id).cells.drop off).take n) (l := l) (vs := (cur.toList.drop off).take n) (by rw [List.length_take]; omega) (by rw [List.length_take]; omega) (fun j v hv => by
              rw [List.getElem?_take] at hv
              split at hv
              · exact h2 j v hv
              · cases hv) (fun j v c hv hcc => by
              rw [List.getElem?_take] at hv hcc
              split at hv
              · rw [if_pos (by assumption)] at hcc
                exact h3 j v c hv hcc
              · cases hv) hl
          exact .inl ⟨_, by rw [key _ _ _ he]; exact this, .str _ _, rfl, rfl⟩
      · cases h
    · cases h
  · cases h


/-! ### unsafe.String -/
theorem run_loadInts {P : Program} : ∀ (l : List Int) (a : Addr) (acc : ByteArray), (∀ (j : Nat) x, l[j]? = some x → w.cell? (a.add j) = some (.int .u8 x)) →
    (loadBytes a acc l.length).run P w = .ok ⟨acc.data ++ (l.map fun n => UInt8.ofNat n.toNat).toArray⟩ w
  | [], a, acc, _ => by simp [loadBytes]
  | x :: l, a, acc, h => by
    have h0 : w.cell? a = some (.int .u8 x) := by
      have := h 0 x rfl
      simpa [Addr.add] using this
    have ih := run_loadInts (P := P) l (a.add 1) (acc.push (UInt8.ofNat x.toNat)) (fun j y hy => by
      have := h (j + 1) y (by simpa using hy)
      have e : (a.add 1).add j = a.add (j + 1) := by
        unfold Addr.add
        by_cases hj : j = 0
        · subst hj; simp
        · simp [hj]; omega
      rw [e]; exact this)
    have hx : x.toNat.toUInt8 = UInt8.ofNat x.toNat := rfl
    simp only [List.length_cons, loadBytes, Sem.run_bind, run_load, h0, Result.andThen, hx]
    rw [ih]
    congr 1
    apply ByteArray.ext
    simp [ByteArray.push]

theorem run_unsafeInts {P : Program} (pt it ty e : TypeId) (hp : P.underlying pt = some (.pointer e)) (hc : P.cellsOf e = 1) (g cells : Nat) (hsh : w.shape? g = some (e, cells)) (l : List Int) (h0 : l ≠ []) (hn : l.length ≤ cells) (h63 : l.length ≤ 9223372036854775807)
    (hcell : ∀ (j : Nat) x, l[j]? = some x → w.cell? ((⟨g, 0, none⟩ : Addr).add j) = some (.int .u8 x)) :
    (Builtin.unsafeString_ #[pt, it] ty #[.pointer (some ⟨g, 0, none⟩), .int .i64 l.length]).run P w = .ok (.string ⟨(l.map fun n => UInt8.ofNat n.toNat).toArray⟩) (w.freeze ⟨g, 0, none⟩ l.length) := by
  have hl : l.length ≠ 0 := by simpa using h0
  have hlb := run_loadInts (P := P) (w := w) l ⟨g, 0, none⟩ .empty hcell
  have hlies := Lib.liesAt_bytes (P := P) hc (cells / P.cellsOf e) l.length (by rw [hc]; simpa using hn)
  have h63' : ¬ (9223372036854775807 : Int) < (l.length : Int) := by omega
  have hdef : Builtin.unsafeString_ #[pt, it] ty #[.pointer (some ⟨g, 0, none⟩), .int .i64 l.length] =
      (do
        let n ← asInt (.int .i64 l.length)
        if n < 0 then runtimePanic (.error "unsafe.String: len out of range")
        if n > IntKind.i64.max then unsupported (.unsafePointer "String: a length above the largest int")
        if n = 0 then pure (.string .empty)
        else if ← variablesAt ⟨g, 0, none⟩ (← elemOf pt) n.toNat then do
          let s ← loadBytes ⟨g, 0, none⟩ .empty n.toNat
          freeze ⟨g, 0, none⟩ n.toNat
          pure (.string s)
        else unsupported (.unsafePointer "String: not so many bytes at ptr")) := rfl
  rw [hdef]
  have hmax : IntKind.i64.max = 9223372036854775807 := rfl
  have hneg : ¬ (l.length : Int) < 0 := by omega
  simp [asInt, asIntOf, hmax, h63', hneg, hl, variablesAt, hsh, elemOf, run_underlying hp, hlies, hlb]

theorem run_text {s : St} (hi : Inv G w s.toMem) {pt it ty : TypeId} {p n : AV} {u v : Value} (hu : Rep G u p) (hv : Rep G v n) {a : Act} (h : textA C pt s p n = some a) :
    (∃ r, (Builtin.unsafeString_ #[pt, it] ty #[u, v]).run C.P w = .ok r w ∧ Rep G r a.val ∧ a.sw = [] ∧ a.nb = 0) ∨
      ∃ r w1, (Builtin.unsafeString_ #[pt, it] ty #[u, v]).run C.P w = .ok r w1 ∧ Rep G r a.val ∧ Inv G w1 ⟨updL s.sto a.sw, s.nid⟩ ∧ Ext G w G w1 ∧ a.nb = 0 := by
  unfold textA at h
  split at h
  · rename_i k
    split at h
    · rename_i hk
      subst hk
      simp only [Option.some.injEq] at h
      subst h
      cases hu
      obtain rfl := rep_int hv
      exact .inl ⟨_, Lib.run_unsafeString_none w pt it ty none, .str _ _, rfl, rfl⟩
    · cases h
  · rename_i id g k
    split at h
    · rename_i e he
      split at h
      · rename_i hc
        obtain ⟨hk0, hkm, hg, hkl, hsz, hty⟩ := hc
        simp only [Option.map_eq_some_iff] at h
        obtain ⟨l, hl, rfl⟩ := h
        obtain rfl := rep_int hv
        subst hg
        cases hu with
        | ptr _ _ _ _ b y hT =>
          obtain ⟨tot, ap⟩ := y
          obtain ⟨cur, e1, fr, hlv⟩ := hi.live _ _ _ _ hT
          obtain ⟨t1, x1, ht1⟩ : ∃ t x, (s.sto id).ty = some (t, x) := by
            cases h1 : (s.sto id).ty with
            | none => rw [h1] at hty; simp at hty
            | some q => exact ⟨q.1, q.2, rfl⟩
          have he1 : e1 = e := by
            have h2 := (hlv.typ t1 x1 ht1).1
            rw [ht1] at hty
            simp at hty
            rw [h2, hty]
          subst he1
          have hlen := hlv.len
          have hsize := hlv.size
          obtain ⟨ns, hvs, rfl⟩ := bytes_rep ((s.sto id).cells.take k.toNat) l (cur.toList.take k.toNat) hl (by simp only [List.length_take, Array.length_toList]; omega) (fun j v c hv hcc => by
            rw [List.getElem?_take] at hv hcc
            split at hv
            · rw [if_pos (by assumption)] at hcc
              exact hlv.rep j v c (by simpa using hv) hcc
            · cases hv)
          have hnl : ns.length = k.toNat := by
            have := congrArg List.length hvs
            simp only [List.length_take, Array.length_toList, List.length_map] at this
            omega
          have hk : k = (ns.length : Int) := by omega
          have hcells : C.P.cellsOf e1 = 1 := hsz
          have hkm' : k ≤ 1099511627776 := hkm
          have hrun := run_unsafeInts (P := C.P) (w := w) pt it ty e1 he hcells b cur.size (by simp [World.shape?, hlv.heap]) ns (by intro h0; subst h0; simp at hnl; omega) (by omega) (by omega) (fun j x hx => by
            rw [add_addr, Nat.zero_add, cell_live hlv.heap]
            have hj : j < ns.length := (List.getElem?_eq_some_iff.1 hx).1
            have h3 : (cur.toList.take k.toNat)[j]? = some (.int .u8 x) := by rw [hvs, List.getElem?_map, hx]; rfl
            rw [List.getElem?_take, if_pos (by omega)] at h3
            simpa using h3)
          have hfz : ∃ fr1, (w.freeze ⟨b, 0, none⟩ ns.length).heap[b]? = some (.cells cur e1 fr1) ∧ (∀ k, k ≠ b → (w.freeze ⟨b, 0, none⟩ ns.length).heap[k]? = w.heap[k]?) ∧ (w.freeze ⟨b, 0, none⟩ ns.length).heap.size = w.heap.size ∧ (w.freeze ⟨b, 0, none⟩ ns.length).os = w.os ∧ (w.freeze ⟨b, 0, none⟩ ns.length).tape = w.tape ∧ (w.freeze ⟨b, 0, none⟩ ns.length).output = w.output := by
            unfold World.freeze
            split
            · exact ⟨fr, hlv.heap, fun _ _ => rfl, rfl, rfl, rfl, rfl⟩
            · refine ⟨(if fr.1 == fr.2 then (0, 0 + ns.length) else (min fr.1 0, max fr.2 (0 + ns.length))), ?_, fun k hk => ?_, by simp, rfl, rfl, rfl⟩
              · simp only [Array.getElem?_modify, if_true, hlv.heap, Option.map_some]
              · simp only [Array.getElem?_modify]
                rw [if_neg (Ne.symm hk)]
          obtain ⟨fr1, f1, f2, f3, f4, f5, f6⟩ := hfz
          obtain ⟨i1, i2⟩ := inv_dead hi hlv (cs1 := []) (z1 := true) (ty1 := none) f1 f2 f3 f4 f5 f6
          subst hk
          exact .inr ⟨_, _, hrun, .str _ _, i1, i2, rfl⟩
      · cases h
    · cases h
  · cases h

end Go.Ev
