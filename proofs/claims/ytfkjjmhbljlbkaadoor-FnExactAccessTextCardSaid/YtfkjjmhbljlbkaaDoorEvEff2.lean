/- Part of the proof of a statement about the given program: EvEff2. No condition of its own. -/
import Derived.Test.YtfkjjmhbljlbkaaDoorEvEff
namespace Go.Ev
set_option linter.unusedVariables false
set_option linter.unusedSimpArgs false
variable {C : Ctx} {G : Gh} {w : World} {m : Mem}

theorem cell_live {b : Nat} {cur : Array Value} {e : TypeId} {fr : Nat × Nat} (h : w.heap[b]? = some (.cells cur e fr)) (j : Nat) : w.cell? ⟨b, j, none⟩ = cur[j]? := by
  simp only [World.cell?, h, Option.isSome_none, Bool.false_eq_true, if_false]

theorem frozen_live {b : Nat} {cur : Array Value} {e : TypeId} {fr : Nat × Nat} (h : w.heap[b]? = some (.cells cur e fr)) (hfr : fr = (0, 0) ∨ fr = (cur.size, cur.size + 1)) (j : Nat) (hj : j < cur.size) : w.frozen? ⟨b, j, none⟩ = false := by
  simp only [World.frozen?, h]
  rcases hfr with rfl | rfl <;> simp <;> omega

/-- Storing cells into a row: the heap behind it. -/
theorem run_store_row (P : Program) (b e' : Nat) (fr : Nat × Nat) : ∀ (vs : List Value) (o : Nat) (cur : Array Value) (w : World), w.heap[b]? = some (.cells cur e' fr) → (fr = (0, 0) ∨ fr = (cur.size, cur.size + 1)) → o + vs.length ≤ cur.size → (∀ v ∈ vs, v.oneCell' = true) →
    ∀ (b0 i : Nat), b0 + i = o → ∃ w1 cur1, (storeCells ⟨b, b0, none⟩ vs i).run P w = .ok () w1 ∧ w1.heap[b]? = some (.cells cur1 e' fr) ∧ (∀ k, k ≠ b → w1.heap[k]? = w.heap[k]?) ∧ w1.heap.size = w.heap.size ∧ w1.os = w.os ∧ w1.tape = w.tape ∧ w1.output = w.output ∧ cur1.size = cur.size ∧
      (∀ j : Nat, cur1[j]? = if o ≤ j ∧ j < o + vs.length then vs[j - o]? else cur[j]?)
  | [], o, cur, w, hb, hfr, hl, h1, b0, i, hbi => ⟨w, cur, rfl, hb, fun _ _ => rfl, rfl, rfl, rfl, rfl, rfl, fun j => by simp; omega⟩
  | v :: vs, o, cur, w, hb, hfr, hl, h1, b0, i, hbi => by
    have hlt : b < w.heap.size := (Array.getElem?_eq_some_iff.1 hb).1
    have hv : w.heap[b] = .cells cur e' fr := (Array.getElem?_eq_some_iff.1 hb).2
    have hoo : o < cur.size := by simp at hl; omega
    have hcell : w.cell? ⟨b, o, none⟩ = some cur[o] := by rw [cell_live hb]; exact Array.getElem?_eq_getElem hoo
    have hst : (store ((⟨b, b0, none⟩ : Addr).add i) v).run P w = .ok () (w.setCell ⟨b, o, none⟩ v) := by
      rw [add_addr, hbi, run_store P w _ v _ (h1 v (by simp)), hcell]
      simp [frozen_live hb hfr o hoo]
    have hb1 : (w.setCell ⟨b, o, none⟩ v).heap[b]? = some (.cells (cur.setIfInBounds o v) e' fr) := by
      simp only [World.setCell, Array.getElem?_modify, if_true, hb, Option.map_some, Option.isSome_none, Bool.false_eq_true, if_false]
    obtain ⟨w1, cur1, r1, r2, r3, r4, r5, r6, r7, r8, r9⟩ := run_store_row P b e' fr vs (o + 1) (cur.setIfInBounds o v) (w.setCell ⟨b, o, none⟩ v) hb1 (by simpa using hfr) (by simp at hl ⊢; omega) (fun x hx => h1 x (by simp [hx])) b0 (i + 1) (by omega)
    refine ⟨w1, cur1, by simp only [storeCells, Sem.run_bind, hst, Result.andThen_ok, r1], r2, fun k hk => (r3 k hk).trans ?_, by simpa using r4, r5, r6, r7, by simpa using r8, fun j => ?_⟩
    · simp only [World.setCell, Array.getElem?_modify]
      rw [if_neg (Ne.symm hk)]
    · rw [r9 j]
      by_cases hj : j = o
      · subst hj
        rw [if_neg (by omega), if_pos ⟨Nat.le_refl _, by simp⟩, Array.getElem?_setIfInBounds_self, if_pos hoo]
        simp
      · rw [Array.getElem?_setIfInBounds_ne (Ne.symm hj)]
        by_cases hc : o + 1 ≤ j ∧ j < o + 1 + vs.length
        · rw [if_pos hc, if_pos ⟨by omega, by simp; omega⟩, show j - o = (j - (o + 1)) + 1 by omega, List.getElem?_cons_succ]
        · rw [if_neg hc, if_neg (by simp; omega)]

theorem eff_store (fb : Nat) (hi : Inv G w m) {A : _root_.Go.Act} {o : Oper} {t : TypeId} {xa xv : Operand} (ho : o.op = .store t xa xv) {id off : Nat} {a : AV}
    (ha : Rep G (A.eval xa) (.ptr id (m.sto id).gen off)) (hv : Rep G (A.eval xv) a) (hfz : (m.sto id).froz = false) (hlen : a.cells.length = szT C.P t) (hin : off + a.cells.length ≤ (m.sto id).cells.length) (hone : a.cells.all AV.one = true) (hinfo : ∃ i, C.P.info? t = some i) :
    Eff C fb G w A o .void ⟨upd m.sto id { m.sto id with cells := spliceA (m.sto id).cells off a.cells }, m.nid⟩ := by
  generalize hx : A.eval xa = x at ha
  cases ha with
  | ptr _ _ _ _ b y hT =>
    obtain ⟨tot, ap⟩ := y
    obtain ⟨cur, e, fr, hl⟩ := hi.live _ _ _ _ hT
    obtain ⟨i, hii⟩ := hinfo
    obtain ⟨d1, d2, d3⟩ := hv.cells hone
    have hlen' := hl.len
    have hsize := hl.size
    obtain ⟨w1, cur1, r1, r2, r3, r4, r5, r6, r7, r8, r9⟩ := run_store_row C.P b e fr (A.eval xv).cells.toList off cur w hl.heap (by rcases hl.fr with h | ⟨_, h⟩ <;> simp [h, hsize]) (by simp; omega)
      (fun v hvm => by
        obtain ⟨j, hj, rfl⟩ := List.mem_iff_getElem.1 hvm
        exact d3 j _ (by simp at hj ⊢)) off 0 rfl
    have hsoft := hl.soft hfz
    obtain ⟨hi', he⟩ := inv_turn (G := G) hi hl (cs1 := spliceA (m.sto id).cells off a.cells) (g1 := (m.sto id).gen) (.inl rfl) r2 r3 r4 r5 r6 r7 r8 (by rw [splice_length _ _ _ hin]; exact hlen') (fun c hc => by
        unfold spliceA at hc
        simp only [List.mem_append] at hc
        rcases hc with (hc | hc) | hc
        · exact hl.one c (List.mem_of_mem_take hc)
        · exact List.all_eq_true.1 hone c hc
        · exact hl.one c (List.mem_of_mem_drop hc)) (fun j v c hjv hjc => by
        rw [r9 j] at hjv
        rw [splice_get _ _ _ _ hin] at hjc
        by_cases hj : off ≤ j ∧ j < off + a.cells.length
        · rw [if_pos hj] at hjc
          rw [if_pos ⟨hj.1, by simp; omega⟩] at hjv
          exact d2 _ _ _ (by simpa using hjv) hjc
        · rw [if_neg hj] at hjc
          rw [if_neg (by simp; omega)] at hjv
          exact hl.rep _ _ _ hjv hjc) (fun j hj => by rw [hsoft] at hj; simp at hj) (by rw [hsoft]; simp) (ty1 := (m.sto id).ty) (fun t x ht => ⟨x, ht, fun hx => ⟨hx, splice_length _ _ _ hin⟩⟩)
    refine ⟨Go.undef, w1, _, ?_, .void _, hi', he, Fresh.put_old _ hl.t _ _ (.inl hl.t)⟩
    have hrun : (execOp A.eval o).run C.P w = .ok .skip w1 := by
      unfold execOp
      simp only [ho, hx]
      have hne : ¬ ((A.eval xv).cells.size ≠ szT C.P t) := by omega
      simp only [Instr.storeAt, Instr.sureAddr, storeVar, Sem.run_bind, Sem.run_pure, Result.andThen_ok, run_sizeOf hii, Sem.run_ite]
      rw [if_neg hne]
      simp [r1]
    rw [hrun]
    exact .skip _

theorem eff_makeSlice (hz : ZeroOk C.P) (hi : Inv G w m) {fb nid' : Nat} (hf : ∀ g, G.T fb g = none) (h1 : fb < nid') (h2 : m.nid ≤ nid') {A : _root_.Go.Act} {o : Oper} {t e : TypeId} {l c : Operand} (ho : o.op = .makeSlice t l c) (he : elemT C.P t = some e) {n : Int}
    (hlv : A.eval l = .int .i64 n) (hcv : A.eval c = .int .i64 n) (hn0 : 0 ≤ n) (hn : n ≤ most) (hb : bytesT C.P e ≤ 128) {z : List AV} (hzc : zeroC C.P 6 e = some z) (hzl : z.length = szT C.P e) (h0 : 0 < z.length) :
    Eff C fb G w A o (.arr fb 0 0 n.toNat z.length true) ⟨upd m.sto fb ⟨(List.replicate n.toNat z).flatten, 0, false, none⟩, nid'⟩ := by
  obtain ⟨i, hii⟩ := info_of_sz (P := C.P) (t := e) (by omega)
  have hut := elem_under he
  obtain ⟨zv, hzr, hrow⟩ := run_zero (w := w) hz hzc G
  have hbi : i.bytes ≤ 128 := by simpa [bytesT, hii] using hb
  have hw64 : IntKind.i64.wrap n = n := by
    have hm : n ≤ 1099511627776 := hn
    unfold IntKind.wrap IntKind.bits IntKind.signed
    simp
    omega
  have hprod : (i.bytes : Int) * n ≤ 128 * 1099511627776 := by
    have hm : n ≤ 1099511627776 := hn
    exact Int.mul_le_mul (by omega) hm hn0 (by omega)
  have key : Eff C fb G w A o (.arr fb 0 0 n.toNat z.length true) ⟨upd m.sto fb ⟨(List.replicate n.toNat z).flatten, 0, false, none⟩, nid'⟩ := by
    refine eff_arr (C := C) hi hf h1 h2 (e := e) (cur := (Array.range (n.toNat * szT C.P e)).map ((if n.toNat * szT C.P e = 0 then #[] else zv.cells)[· % (if n.toNat * szT C.P e = 0 then #[] else zv.cells).size]!)) ?_ ?_ (fun c hc => by
        obtain ⟨l', hl', hcl⟩ := List.mem_flatten.1 hc
        rw [List.eq_of_mem_replicate hl'] at hcl
        exact zeroC_one _ _ _ _ hzc c hcl) (by rw [rep_len])
    · unfold execOp
      simp only [ho, hlv, hcv]
      have hlt : ¬ (decide (n < 0) = true) := by simp; omega
      have htl : ¬ ((i.bytes : Int) * n > 281474976710656) := by omega
      simp only [Instr.makeSlice, Sem.run_bind, run_underlying hut, Result.andThen_ok, asInt, asIntOf, Sem.run_pure, typeInfo, run_program, hii, hw64]
      have h48 : ((2 : Int) ^ 48) = 281474976710656 := by decide
      simp only [h48, Int.lt_irrefl, decide_false, Bool.or_false, gt_iff_lt]
      have e1 : decide (n < 0) = false := by simp; omega
      have e2 : decide (281474976710656 < (i.bytes : Int) * n) = false := by simp; omega
      simp only [e1, e2, Bool.or_false, Bool.false_eq_true, if_false, Sem.run_bind, run_askRoom, Result.andThen_ok, run_sizeOf hii]
      by_cases hnz : n.toNat * szT C.P e = 0
      · simp [hnz, newRow]
      · simp [hnz, hzr, newRow]
    · by_cases hnz : n.toNat * szT C.P e = 0
      · have : n.toNat = 0 := by
          rcases Nat.mul_eq_zero.1 hnz with h | h <;> omega
        rw [this]
        exact ⟨by simp, fun j v c hv => by simp at hv⟩
      · rw [if_neg hnz]
        exact zeros_rep hrow h0 _ _ (by rw [hzl])
  exact key

/-- Bytes out of a text: a block of the call's own, of which nothing is known but its begin. -/
theorem eff_toBytes (hi : Inv G w m) {fb nid' : Nat} (hf : ∀ g, G.T fb g = none) (h1 : fb < nid') (h2 : m.nid ≤ nid') {A : _root_.Go.Act} {o : Oper} {src dst e : TypeId} {x : Operand} (ho : o.op = .convert src dst x)
    (hs : C.P.underlying src = some .string) (hd : C.P.underlying dst = some (.slice e)) (he : C.P.underlying e = some (.int .u8)) {b : ByteArray} (hx : A.eval x = .string b) :
    Eff C fb G w A o (.arr fb 0 0 b.size 1 false) ⟨upd m.sto fb ⟨strBytes b, 0, false, none⟩, nid'⟩ := by
  let cap := (Question.appendCap b.size 0 e).cut (w.tape w.drawn (.appendCap b.size 0 e))
  have hcap : b.size ≤ cap := grownCap_ge w b.size 0 e
  let cur : Array Value := (b.data.map fun x : UInt8 => Value.int .u8 (x.toNat : Int)) ++ Array.replicate (cap - b.size) (Value.int .u8 0)
  have hbs : b.data.size = b.size := rfl
  have hcs : cur.size = cap := by
    show ((b.data.map fun x : UInt8 => Value.int .u8 (x.toNat : Int)) ++ Array.replicate (cap - b.size) (Value.int .u8 0)).size = cap
    simp only [Array.size_append, Array.size_map, Array.size_replicate, hbs]
    omega
  let w1 : World := { w.drew with heap := w.heap.push (.cells cur e (cur.size, cur.size + 1)) }
  have hsb : (strBytes b).length = b.size := by simp [strBytes, hbs]
  obtain ⟨hi', hee⟩ := inv_new hi hf h1 h2 (cur := cur) (e := e) (fr := (cur.size, cur.size + 1)) (cs := strBytes b) (ap := false) (w1 := w1) rfl rfl rfl rfl (.inr ⟨rfl, rfl⟩) (by omega) (fun c hc => by
      simp only [strBytes, List.mem_map] at hc
      obtain ⟨_, _, rfl⟩ := hc
      rfl) (fun j v c hv hc => by
      simp only [strBytes, List.getElem?_map, Option.map_eq_some_iff] at hc
      obtain ⟨y, hy, rfl⟩ := hc
      have hj : j < b.data.size := by
        have := (List.getElem?_eq_some_iff.1 hy).1
        simpa using this
      have hvv : v = .int .u8 y.toNat := by
        have : cur[j]? = (b.data.map fun x : UInt8 => Value.int .u8 (x.toNat : Int))[j]? := Array.getElem?_append_left (by simpa using hj)
        rw [this] at hv
        simp only [Array.getElem?_map, Option.map_eq_some_iff] at hv
        obtain ⟨y', hy', rfl⟩ := hv
        simp only [Array.getElem?_toList] at hy
        rw [hy] at hy'
        cases hy'
        rfl
      subst hvv
      exact .int _ _ _) (ty := none) (fun _ _ ht => by cases ht)
  refine ⟨.slice (some ⟨w.heap.size, 0, none⟩) b.size cap, w1, _, ?_, .arr _ fb 0 0 b.size 1 _ cap cur.size false false (by simp [Gh.put]) hcap (by simp), hi', hee, Fresh.put_new _ _ _ _ hf⟩
  have hrun : (execOp A.eval o).run C.P w = .ok (.value (.slice (some ⟨w.heap.size, 0, none⟩) b.size cap)) w1 := by
    unfold execOp
    simp only [ho, hx]
    have hsh : (World.shape? { w.drew with heap := w.heap.push (.cells cur e) } w.heap.size) = some (e, cur.size) := by
      simp [World.shape?]
    have hfz : World.freeze { w.drew with heap := w.heap.push (.cells cur e) } ⟨w.heap.size, cur.size, none⟩ 1 = w1 := by
      simp only [World.freeze, w1]
      simp
      apply Array.ext
      · simp
      · intro i h1 h2
        simp only [Array.getElem_modify]
        by_cases hi : w.heap.size = i
        · subst hi
          simp
        · rw [if_neg hi]
          simp only [Array.size_modify, Array.size_push] at h1
          rw [Array.getElem_push_lt (by omega), Array.getElem_push_lt (by omega)]
    simp only [convert, Sem.run_bind, run_underlying hs, run_underlying hd, run_underlying he, Result.andThen_ok, Conv.stringToBytes, run_choose, Question.forced, Bool.false_eq_true, if_false, newRow, run_newObj, markStringish, run_shape, Sem.run_pure]
    have hsh2 : World.shape? ({ heap := w.heap.push (Obj.cells (Array.map (fun b : UInt8 => Value.int IntKind.u8 (b.toNat : Int)) b.data ++ Array.replicate ((Question.appendCap b.size 0 e).cut (w.tape w.drawn (Question.appendCap b.size 0 e)) - b.size) (Value.int IntKind.u8 0)) e), tape := w.tape, drawn := w.drawn + 1, os := w.os, output := w.output } : World) w.heap.size = some (e, cur.size) := hsh
    have hfz2 : World.freeze ({ heap := w.heap.push (Obj.cells (Array.map (fun b : UInt8 => Value.int IntKind.u8 (b.toNat : Int)) b.data ++ Array.replicate ((Question.appendCap b.size 0 e).cut (w.tape w.drawn (Question.appendCap b.size 0 e)) - b.size) (Value.int IntKind.u8 0)) e), tape := w.tape, drawn := w.drawn + 1, os := w.os, output := w.output } : World) ⟨w.heap.size, cur.size, none⟩ 1 = w1 := hfz
    rw [hsh2]
    simp only [run_freeze, Result.andThen_ok, hfz2]
    rfl
  rw [hrun]
  exact .value _ _

end Go.Ev
