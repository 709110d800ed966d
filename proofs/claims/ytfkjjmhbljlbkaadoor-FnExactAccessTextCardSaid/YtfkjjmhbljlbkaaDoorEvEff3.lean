/- Part of the proof of a statement about the given program: EvEff3. No condition of its own. -/
import Derived.Test.YtfkjjmhbljlbkaaDoorEvEff2
namespace Go.Ev
set_option linter.unusedVariables false
set_option linter.unusedSimpArgs false
variable {C : Ctx} {G : Gh} {w : World} {m : Mem}

section
variable {P : Program}

theorem run_zeros {t2 : TypeId} (h : noIntT P t2 = true) : ∃ d, P.underlying t2 = some d ∧ (match d with | .int _ => true | _ => false) = false := by
  unfold noIntT at h
  cases hd : P.underlying t2 with
  | none => rw [hd] at h; simp at h
  | some d => rw [hd] at h; exact ⟨d, rfl, by cases d <;> first | rfl | (simp at h)⟩

set_option maxHeartbeats 8000000 in
theorem app_nil0 {t t2 ty e : TypeId} {i : TypeInfo} (ht : P.underlying t = some (.slice e)) (hi : P.info? e = some i) (h2 : noIntT P t2 = true) {x : Value}
    (hlen : ∀ w', (Builtin.lenOf x).run P w' = .ok 0 w') (hnew : (Builtin.firstCells i.size 0 x).run P w = .ok #[] w) : (Builtin.append_ #[t, t2] ty #[.slice none 0 0, x]).run P w = .ok (.slice none 0 0) w := by
  obtain ⟨d, hd, hz⟩ := run_zeros h2
  cases d <;> first | (cases hz; done) | simp [Builtin.append_, run_underlying ht, run_underlying hd, sizeOf, typeInfo, hi, hlen, hnew]

set_option maxHeartbeats 8000000 in
theorem app_grow {t t2 ty e : TypeId} {i : TypeInfo} {z : Value} (ht : P.underlying t = some (.slice e)) (hi : P.info? e = some i) (hz0 : i.zero = some z) (h2 : noIntT P t2 = true) {x : Value} {base : Option Addr} {sLen sCap m : Nat} {olds news : Array Value}
    (hlen : ∀ w', (Builtin.lenOf x).run P w' = .ok m w') (hnew : (Builtin.firstCells i.size m x).run P w.drew = .ok news w.drew) (hold : (Builtin.firstCells i.size sLen (.slice base sLen sCap)).run P w.drew = .ok olds w.drew)
    (hg : sCap < sLen + m) (h63 : ((sLen + m : Nat) : Int) ≤ 9223372036854775807) (hfit : Builtin.nextslicecap (sLen + m) sCap * i.bytes ≤ 281474976710656) :
    (Builtin.append_ #[t, t2] ty #[.slice base sLen sCap, x]).run P w =
      .ok (.slice (some ⟨w.heap.size, 0, none⟩) (sLen + m) (grownCap w (sLen + m) sCap e))
        (w.drew.alloc (.cells (olds ++ news ++ Builtin.zeroCells z.cells (grownCap w (sLen + m) sCap e - (sLen + m))) e)) := by
  obtain ⟨d, hd, hz⟩ := run_zeros h2
  have hn : ¬ (sLen + m ≤ sCap) := by omega
  have h63' : ¬ (9223372036854775807 < ((sLen : Int) + (m : Int))) := by omega
  have h48' : ¬ (281474976710656 < Builtin.nextslicecap (sLen + m) sCap * i.bytes) := by omega
  cases d <;> first | (cases hz; done) | simp [Builtin.append_, run_underlying ht, run_underlying hd, sizeOf, typeInfo, zeroValue, hi, hz0, hlen, hn, h63', h48', Question.forced, hnew, hold, newRow, grownCap]

set_option maxHeartbeats 8000000 in
theorem app_room {t t2 ty e : TypeId} {i : TypeInfo} (ht : P.underlying t = some (.slice e)) (hi : P.info? e = some i) (h2 : noIntT P t2 = true) {x : Value} {b sLen sCap m : Nat} {news : Array Value} {w1 : World}
    (hlen : ∀ w', (Builtin.lenOf x).run P w' = .ok m w') (hnew : (Builtin.firstCells i.size m x).run P w = .ok news w) (hroom : sLen + m ≤ sCap)
    (hst : (storeCells ⟨b, sLen * i.size, none⟩ news.toList).run P w = .ok () w1) :
    (Builtin.append_ #[t, t2] ty #[.slice (some ⟨b, 0, none⟩) sLen sCap, x]).run P w = .ok (.slice (some ⟨b, 0, none⟩) (sLen + m) sCap) w1 := by
  obtain ⟨d, hd, hz⟩ := run_zeros h2
  cases d <;> first | (cases hz; done) | simp [Builtin.append_, run_underlying ht, run_underlying hd, sizeOf, typeInfo, hi, hlen, hroom, hnew, add_addr, hst]
end

/-- What is appended, in memory. -/
structure News (P : Program) (G : Gh) (w : World) (size m : Nat) (x : Value) (ys : List AV) : Prop where
  len : ∀ w', (Builtin.lenOf x).run P w' = .ok m w'
  num : ys.length = m * size
  one : ∀ c ∈ ys, c.one = true
  cells : ∃ news : Array Value, RowRep G news ys ∧ ∀ w', (∀ a, w'.cell? a = w.cell? a) → (Builtin.firstCells size m x).run P w' = .ok news w'

theorem firstCells_bytes (P : Program) (s : ByteArray) (w' : World) : (Builtin.firstCells 1 s.size (.string s)).run P w' = .ok (s.data.map fun b : UInt8 => Value.int .u8 (b.toNat : Int)) w' := by
  simp only [Builtin.firstCells, Sem.run_pure]
  have : s.extract 0 s.size = s := by simp
  rw [this]

theorem news_spec (hi : Inv G w m) {s : St} (hs : s.toMem = m) {sz k : Nat} (hsz : 0 < sz) {y : AV} {ys : List AV} {sr : List Nat} (h : newsA s sz y = some (ys, k, sr)) {x : Value} (hx : Rep G x y) : News C.P G w sz k x ys := by
  subst hs
  unfold newsA at h
  split at h
  · rename_i z xs
    split at h
    · rename_i hz
      subst hz
      simp only [Option.some.injEq, Prod.mk.injEq] at h
      obtain ⟨rfl, rfl, rfl⟩ := h
      cases hx with
      | slice0 => exact ⟨fun w' => rfl, by simp, by simp, #[], ⟨rfl, fun j v c hv => by simp at hv⟩, fun w' _ => rfl⟩
      | sliceE => exact ⟨fun w' => rfl, by simp, by simp, #[], ⟨rfl, fun j v c hv => by simp at hv⟩, fun w' _ => by simp [Builtin.firstCells, loadCells]; try rfl⟩
      | slice _ b off n cap _ _ vs hn hc hs hl hM h1 hr =>
        subst hn
        have hfl := flat_length z xs hs
        refine ⟨fun w' => rfl, hfl, h1, vs.toArray, ⟨by simp [hl], fun j v c hv hcc => (hr j v c (by simpa using hv) hcc).of_bare⟩, fun w' hw => ?_⟩
        exact run_firstCells_some (P := C.P) w' z xs.length ⟨b, off, none⟩ xs.length cap vs (by rw [hl]; exact hfl) (fun j v hv => by
          rw [add_addr, hw]
          exact hi.okM _ _ _ (hM j v hv))
    · cases h
  · simp only [Option.some.injEq, Prod.mk.injEq] at h
    obtain ⟨rfl, rfl, rfl⟩ := h
    cases hx
    exact ⟨fun w' => rfl, by simp, by simp, #[], ⟨rfl, fun j v c hv => by simp at hv⟩, fun w' _ => rfl⟩
  · rename_i id g off n z app
    split at h
    · rename_i hz
      obtain ⟨rfl, rfl, hnl⟩ := hz
      simp only [Option.some.injEq, Prod.mk.injEq] at h
      obtain ⟨rfl, rfl, rfl⟩ := h
      cases hx with
      | arr _ _ _ _ _ _ b cap tot _ ap hT hc ha =>
        obtain ⟨cur, e, fr, hl⟩ := live_of hi hT
        obtain ⟨h1, h2, h3⟩ := live_row hl off
        have hlen' : (((s.sto id).cells.drop off).take (n * z)).length = n * z := by rw [List.length_take]; omega
        have hlen2 : ((cur.toList.drop off).take (n * z)).length = n * z := by rw [List.length_take]; omega
        refine ⟨fun w' => rfl, hlen', fun c hc => hl.one c (List.mem_of_mem_drop (List.mem_of_mem_take hc)), ((cur.toList.drop off).take (n * z)).toArray, ⟨by simp only [List.size_toArray]; omega, fun j v c hv hcc => ?_⟩, fun w' hw => ?_⟩
        · simp only [List.getElem?_toArray, List.getElem?_take] at hv hcc
          split at hv
          · rw [if_pos (by assumption)] at hcc
            exact h3 j v c hv hcc
          · cases hv
        · exact run_firstCells_some (P := C.P) w' z n ⟨b, off, none⟩ n cap _ hlen2 (fun j v hv => by
            rw [add_addr, hw]
            rw [List.getElem?_take] at hv
            split at hv
            · exact h2 j v hv
            · cases hv)
    · cases h
  · rename_i b
    split at h
    · rename_i hz
      subst hz
      simp only [Option.some.injEq, Prod.mk.injEq] at h
      obtain ⟨rfl, rfl, rfl⟩ := h
      obtain rfl := rep_str hx
      have hbs : b.data.size = b.size := rfl
      refine ⟨fun w' => rfl, by simp [strBytes, hbs], fun c hc => by
        simp only [strBytes, List.mem_map] at hc
        obtain ⟨_, _, rfl⟩ := hc
        rfl, b.data.map fun b : UInt8 => Value.int .u8 (b.toNat : Int), ⟨by simp [strBytes], fun j v c hv hcc => ?_⟩, fun w' _ => firstCells_bytes _ _ _⟩
      simp only [strBytes, List.getElem?_map, Option.map_eq_some_iff, Array.getElem?_map, Array.getElem?_toList] at hv hcc
      obtain ⟨p, hp, rfl⟩ := hv
      obtain ⟨q, hq, rfl⟩ := hcc
      rw [hp] at hq
      cases hq
      exact .int _ _ _
    · cases h
  · cases h

theorem grewT_some {e t : TypeId} {x : Bool} {o : Option (TypeId × Bool)} (h : grewT e o = some (t, x)) : e = t ∧ x = false ∧ ∃ y, o = some (t, y) := by
  unfold grewT at h
  split at h
  · split at h
    · rename_i t' y he
      subst he
      simp only [Option.some.injEq, Prod.mk.injEq] at h
      obtain ⟨rfl, rfl⟩ := h
      exact ⟨rfl, rfl, y, rfl⟩
    · cases h
  · cases h

theorem zeroCells_size (z : Array Value) (n : Nat) : (Builtin.zeroCells z n).size = n * z.size := by simp [Builtin.zeroCells]

theorem eff_append (hz : ZeroOk C.P) {s : St} (hi : Inv G w s.toMem) {fb nid' : Nat} (hf : ∀ g, G.T fb g = none) (h1 : fb < nid') (h2 : s.nid ≤ nid') {A : _root_.Go.Act} {o : Oper} {t t2 : TypeId} {xs xy : Operand}
    (ho : o.op = .call { callee := .builtin .append, args := #[xs, xy], argTypes := #[t, t2] }) (hno : noIntT C.P t2 = true) {x y : AV} (hx : Rep G (A.eval xs) x) (hy : Rep G (A.eval xy) y) {a : Act} (ha : appendA C t s fb x y = some a) :
    ∃ nid2, (nid2 = s.nid ∨ nid2 = nid') ∧ (a.nb = 0 → nid2 = s.nid) ∧ Eff C fb G w A o a.val ⟨updL s.sto a.sw, nid2⟩ := by
  have exec : ∀ r, (Builtin.append_ #[t, t2] o.type #[A.eval xs, A.eval xy]).run C.P w = r → (execOp A.eval o).run C.P w = r.andThen fun v w' => .ok (.value v) w' := by
    intro r hr
    unfold execOp
    simp only [ho, resolve, invoke, builtin, Sem.run_bind, Sem.run_pure, Result.andThen_ok, List.map_toArray, List.map_cons, List.map_nil, hr]
  unfold appendA at ha
  simp only [Option.bind_eq_some_iff] at ha
  obtain ⟨e, he, ha⟩ := ha
  have hut := elem_under he
  split at ha
  · rename_i hcond
    obtain ⟨h0, hb, hzl⟩ := hcond
    simp only [Option.bind_eq_some_iff, Prod.exists] at ha
    obtain ⟨ys, k, sr, hn, ha⟩ := ha
    obtain ⟨i, hii⟩ := info_of_sz h0
    have hsi : i.size = szT C.P e := by simp [szT, hii]
    have hbi : i.bytes ≤ 128 := by simpa [bytesT, hii] using hb
    simp only [Option.map_eq_some_iff] at hzl
    obtain ⟨zl, hzc, hzlen⟩ := hzl
    obtain ⟨zv, hzb, hzrow⟩ := hz G e zl hzc
    have hz0 : i.zero = some zv := by simpa [hii] using hzb
    have hzs : zv.cells.size = szT C.P e := hzrow.size.trans hzlen
    have N := news_spec (C := C) hi rfl h0 hn hy
    rw [← hsi] at N
    obtain ⟨news, hnr, hnew⟩ := N.cells
    have fit : ∀ q cap : Nat, q ≤ most → cap < q → Builtin.nextslicecap q cap * i.bytes ≤ 281474976710656 := fun q cap hq hc => growslice_fits hc (by
      have hm : q ≤ 1099511627776 := hq
      calc q * i.bytes ≤ 1099511627776 * 128 := Nat.mul_le_mul hm hbi
        _ = 140737488355328 := by decide)
    have small : ∀ q : Nat, q ≤ most → (q : Int) ≤ 9223372036854775807 := fun q hq => by have hm : q ≤ 1099511627776 := hq; omega
    split at ha
    · rename_i z
      split at ha
      · rename_i hzz
        subst hzz
        generalize hxv : A.eval xs = vx at hx exec
        cases hx
        split at ha
        · rename_i hk
          subst hk
          simp only [Option.some.injEq] at ha
          subst ha
          have hr := app_nil0 (w := w) (ty := o.type) hut hii hno N.len (by
            have := hnew w (fun _ => rfl)
            have he : news = #[] := by
              have := hnr.size
              rw [N.num] at this
              simpa using this
            rw [he] at this
            exact this)
          refine ⟨s.nid, .inl rfl, fun _ => rfl, .slice none 0 0, w, G, ?_, .nils _ _, hi, Ext.refl _ _, Fresh.refl _ _⟩
          rw [exec _ hr]
          exact .value _ _
        · rename_i hk
          split at ha
          · rename_i hm
            simp only [Option.some.injEq] at ha
            subst ha
            have hr := app_grow (w := w) (ty := o.type) (base := none) (sLen := 0) (sCap := 0) (olds := #[]) hut hii hz0 hno N.len (hnew w.drew (fun _ => rfl)) rfl (by omega) (by simpa using small k hm) (by simpa using fit k 0 hm (by omega))
            simp only [Nat.zero_add] at hr
            have hge := grownCap_ge w k 0 e
            have hns := hnr.size
            have hnum := N.num
            generalize hcur : (#[] ++ news ++ Builtin.zeroCells zv.cells (grownCap w k 0 e - k)) = cur at hr
            have hcs : cur.size = grownCap w k 0 e * szT C.P e := by
              rw [← hcur]
              simp only [Array.size_append, zeroCells_size, hzs, hns, hnum, hsi]
              simp only [Array.size_empty, Nat.zero_add]
              rw [← Nat.add_mul]
              congr 1
              omega
            obtain ⟨hi', hee⟩ := inv_new hi hf h1 h2 (w1 := w.drew.alloc (.cells cur e)) (cur := cur) (e := e) (cs := ys) (ap := true) rfl rfl rfl rfl (.inl rfl) (by
                rw [hcs, hnum, hsi]
                exact Nat.mul_le_mul_right _ hge) N.one (fun j v c hv hc => by
                have hj : j < news.size := by rw [hns]; exact (List.getElem?_eq_some_iff.1 hc).1
                have : cur[j]? = news[j]? := by
                  rw [← hcur, Array.getElem?_append_left (by simpa using hj)]
                  simp
                exact hnr.rep j v c (by rw [← this]; exact hv) hc) (ty := some (e, false)) (fun t x ht => by cases ht; exact ⟨rfl, fun h => by cases h⟩)
            refine ⟨nid', .inr rfl, fun h => by simp at h, .slice (some ⟨w.heap.size, 0, none⟩) k (grownCap w k 0 e), _, _, ?_, ?_, hi', hee, Fresh.put_new _ _ _ _ hf⟩
            · rw [exec _ hr]
              exact .value _ _
            · exact .arr _ fb 0 0 k _ _ _ cur.size true true (by simp [Gh.put]) hge (fun _ => ⟨rfl, hcs.symm, rfl⟩)
          · cases ha
      · cases ha
    · rename_i id g n z
      split at ha
      · rename_i hcc
        obtain ⟨rfl, rfl, hnl, hm⟩ := hcc
        simp only [Option.some.injEq] at ha
        subst ha
        generalize hxv : A.eval xs = vx at hx exec
        cases hx with
        | arr _ _ _ _ _ _ b cap tot _ ap hT hc hap =>
          obtain ⟨_, hct, hapt⟩ := hap rfl
          obtain ⟨cur, e1, fr, hl⟩ := live_of hi hT
          simp only at hl
          subst hapt
          have hsize := hl.size
          have hfr : fr = (0, 0) := by rcases hl.fr with h | ⟨h, _⟩; exact h; cases h
          have hlen := hl.len
          have hns := hnr.size
          have hnum := N.num
          have hnone : ∀ v ∈ news.toList, v.oneCell' = true := fun v hv => by
            obtain ⟨j, hj, rfl⟩ := List.mem_iff_getElem.1 hv
            have hj' : j < ys.length := by rw [← hns]; simpa using hj
            exact (hnr.rep j _ _ (by simp) (List.getElem?_eq_getElem hj')).one (N.one _ (List.getElem_mem hj'))
          by_cases hroom : n + k ≤ cap
          · have hfit : n * szT C.P e + news.toList.length ≤ cur.size := by
              simp only [Array.length_toList, hns, hnum, hsi]
              rw [hsize, ← hct, ← Nat.add_mul]
              exact Nat.mul_le_mul_right _ hroom
            obtain ⟨w1, cur1, r1, r2, r3, r4, r5, r6, r7, r8, r9⟩ := run_store_row C.P b e1 fr news.toList (n * szT C.P e) cur w hl.heap (.inl hfr) hfit hnone (n * szT C.P e) 0 rfl
            have hr := app_room (w := w) (ty := o.type) (b := b) (sLen := n) (sCap := cap) hut hii hno N.len (hnew w (fun _ => rfl)) hroom (w1 := w1) (by rw [hsi]; exact r1)
            have hkept := hl.kept
            obtain ⟨hi', hee⟩ := inv_turn (G := G) hi hl (cs1 := (s.sto id).cells ++ ys) (g1 := (s.sto id).gen + 1) (.inr rfl) r2 r3 r4 r5 r6 r7 r8 (by
                rw [List.length_append, hnum, ← hnl, hsi, ← Nat.add_mul, ← hct]
                exact Nat.mul_le_mul_right _ hroom) (fun c hc => by
                rcases List.mem_append.1 hc with hc | hc
                · exact hl.one c hc
                · exact N.one c hc) (fun j v c hv hc => by
                rw [r9 j] at hv
                by_cases hj : j < (s.sto id).cells.length
                · rw [List.getElem?_append_left hj] at hc
                  rw [if_neg (by omega)] at hv
                  exact hl.rep _ _ _ hv hc
                · rw [List.getElem?_append_right (by omega)] at hc
                  have hj2 := (List.getElem?_eq_some_iff.1 hc).1
                  rw [if_pos ⟨by omega, by simp only [Array.length_toList]; omega⟩] at hv
                  rw [← hnl] at hc
                  exact hnr.rep _ _ _ (by simpa using hv) hc) (fun j hj => by
                rw [r9 j, if_neg (by omega)]) (by rw [List.length_append]; omega) (ty1 := grewT e (s.sto id).ty) (fun t x ht => by
                obtain ⟨rfl, rfl, y, hy⟩ := grewT_some ht
                exact ⟨y, hy, fun h => by cases h⟩)
            refine ⟨s.nid, .inl rfl, fun _ => rfl, .slice (some ⟨b, 0, none⟩) (n + k) cap, w1, _, ?_, ?_, hi', hee, Fresh.put_old _ hl.t _ _ (.inr (fun g0 y hy => Nat.lt_succ_of_le (hi.dom _ _ _ hy).2))⟩
            · rw [exec _ hr]
              exact .value _ _
            · exact .arr _ id _ 0 (n + k) _ b cap tot true true (by simp [Gh.put]) hroom (fun _ => ⟨rfl, hct, rfl⟩)
          · have hold : (Builtin.firstCells i.size n (.slice (some ⟨b, 0, none⟩) n cap)).run C.P w.drew = .ok (cur.toList.take (n * szT C.P e)).toArray w.drew := by
              have hll : (cur.toList.take (n * szT C.P e)).length = n * i.size := by
                rw [List.length_take, Array.length_toList, hsi]
                have : n * szT C.P e ≤ cur.size := by omega
                omega
              exact run_firstCells_some (P := C.P) w.drew i.size n ⟨b, 0, none⟩ n cap _ hll (fun j v hv => by
                rw [add_addr, Nat.zero_add]
                rw [List.getElem?_take] at hv
                split at hv
                · show w.cell? _ = _
                  rw [cell_live hl.heap]
                  simpa using hv
                · cases hv)
            have hr := app_grow (w := w) (ty := o.type) (sLen := n) (sCap := cap) hut hii hz0 hno N.len (hnew w.drew (fun _ => rfl)) hold (by omega) (small _ hm) (fit _ _ hm (by omega))
            have hge := grownCap_ge w (n + k) cap e
            generalize hcur : ((cur.toList.take (n * szT C.P e)).toArray ++ news ++ Builtin.zeroCells zv.cells (grownCap w (n + k) cap e - (n + k))) = cur1 at hr
            have holdl : (cur.toList.take (n * szT C.P e)).length = n * szT C.P e := by
              rw [List.length_take, Array.length_toList]
              have : n * szT C.P e ≤ cur.size := by omega
              omega
            have hcs : cur1.size = grownCap w (n + k) cap e * szT C.P e := by
              rw [← hcur]
              simp only [Array.size_append, zeroCells_size, hzs, hns, hnum, hsi, List.size_toArray, holdl]
              rw [← Nat.add_mul, ← Nat.add_mul]
              congr 1
              omega
            obtain ⟨hi', hee⟩ := inv_move hi hl (w1 := w.drew.alloc (.cells cur1 e)) (cur1 := cur1) (e1 := e) (cs1 := (s.sto id).cells ++ ys) rfl rfl rfl rfl (by
                rw [List.length_append, hnum, ← hnl, hsi, ← Nat.add_mul, hcs]
                exact Nat.mul_le_mul_right _ hge) (fun c hc => by
                rcases List.mem_append.1 hc with hc | hc
                · exact hl.one c hc
                · exact N.one c hc) (fun j v c hv hc => by
                by_cases hj : j < (s.sto id).cells.length
                · rw [List.getElem?_append_left hj] at hc
                  have : cur1[j]? = cur[j]? := by
                    rw [← hcur, Array.getElem?_append_left (by simp only [Array.size_append, List.size_toArray, holdl]; omega), Array.getElem?_append_left (by simp only [List.size_toArray, holdl]; omega)]
                    rw [List.getElem?_toArray, List.getElem?_take, if_pos (by omega)]
                    simp
                  rw [this] at hv
                  exact hl.rep _ _ _ hv hc
                · rw [List.getElem?_append_right (by omega)] at hc
                  have hj2 := (List.getElem?_eq_some_iff.1 hc).1
                  have : cur1[j]? = news[j - n * szT C.P e]? := by
                    rw [← hcur, Array.getElem?_append_left (by simp only [Array.size_append, List.size_toArray, holdl]; omega), Array.getElem?_append_right (by simp only [List.size_toArray, holdl]; omega)]
                    simp only [List.size_toArray, holdl]
                  rw [this] at hv
                  rw [← hnl] at hc
                  exact hnr.rep _ _ _ hv hc) (ty1 := grewT e (s.sto id).ty) (fun t x ht => by
                obtain ⟨rfl, rfl, y, hy⟩ := grewT_some ht
                exact ⟨rfl, rfl⟩)
            refine ⟨s.nid, .inl rfl, fun _ => rfl, .slice (some ⟨w.heap.size, 0, none⟩) (n + k) (grownCap w (n + k) cap e), _, _, ?_, ?_, hi', hee, Fresh.put_old _ hl.t _ _ (.inr (fun g0 y hy => Nat.lt_succ_of_le (hi.dom _ _ _ hy).2))⟩
            · rw [exec _ hr]
              exact .value _ _
            · exact .arr _ id _ 0 (n + k) _ _ _ cur1.size true true (by simp [Gh.put]) hge (fun _ => ⟨rfl, hcs.symm, rfl⟩)
      · cases ha
    · cases ha
  · cases ha

end Go.Ev
