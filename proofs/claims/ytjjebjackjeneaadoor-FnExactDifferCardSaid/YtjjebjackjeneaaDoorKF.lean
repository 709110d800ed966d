/- Part of the proof of a statement about the given program: KF K2F K3F K4F. No condition of its own. -/
import Derived.Shelf.Strings.Builder1
import Derived.Test.YtjjebjackjeneaaDoorEvTyF
import Derived.Test.YtjjebjackjeneaaDoorEvProg
import Derived.Shelf.Strings.Builder2
import Derived.Lib.AppendZeros
section
set_option linter.unusedVariables false
namespace Go.Proofs
open Go.Shelf Go.RowKit
theorem Tryd.Bld_size : (Tryd.prog.info? 87).map (·.size) = some 2 := by kernel_rfl
theorem Tryd.Bld_lies : liesAt Tryd.prog Tryd.prog.depth 87 (2 / Tryd.prog.cellsOf 87) 0 87 1 = true := by kernel_rfl
theorem Tryd.Bld_byte : (Tryd.prog.info? 5).map (fun i => (i.zero, i.size, i.bytes)) = some (some (.int .u8 0), 1, 1) := by kernel_rfl

set_option maxHeartbeats 1000000 in
set_option maxRecDepth 100000 in
theorem Tryd.Bld_check_used (b : Nat) (w : World) (h0 : w.cell? ⟨b, 0, none⟩ = some (.pointer (some ⟨b, 0, none⟩))) :
    Calls Tryd.prog 86 #[.pointer (some ⟨b, 0, none⟩)] w fun e w' => e = .returned (.tuple #[]) ∧ w' = w := by
  obtain ⟨j, hj, _⟩ := Option.map_eq_some_iff.1 Tryd.Bld_size
  go_enter Tryd.func86, Tryd.ntmps86
  go_wp2
  rw [Lib.run_neq_ptr_same w _ Tryd.underlying85 hj]
  go_wp2
  go_end0
  exact ⟨rfl, rfl⟩

set_option maxHeartbeats 1000000 in
set_option maxRecDepth 100000 in
theorem Tryd.Bld_check_fresh (b : Nat) (w : World) (h0 : w.cell? ⟨b, 0, none⟩ = some (.pointer none)) (hsh : w.shape? b = some (87, 2)) (hfz : w.frozen? ⟨b, 0, none⟩ = false) :
    Calls Tryd.prog 86 #[.pointer (some ⟨b, 0, none⟩)] w fun e w' => e = .returned (.tuple #[]) ∧ w' = w.setCell ⟨b, 0, none⟩ (.pointer (some ⟨b, 0, none⟩)) := by
  obtain ⟨j, hj, hjs⟩ := Option.map_eq_some_iff.1 Tryd.Bld_size
  go_enter Tryd.func86, Tryd.ntmps86
  go_wp2
  rw [Lib.run_to_unsafe w ⟨b, 0, none⟩ Tryd.underlying85 Tryd.underlying106 hj (by rw [hjs]; decide) hsh (Nat.zero_lt_succ 1)]
  simp only [Result.andThen]
  rw [Oper.upon_value]
  go_wp2
  rw [run_callFunc_extern Tryd.func94 (by kernel_rfl) (by kernel_rfl) (by kernel_rfl) (e := Extern.AbiNoEscape.same) (by kernel_rfl)]
  rw [Lib.run_noEscape]
  simp only [Result.andThen]
  rw [Oper.upon_value]
  go_wp2
  rw [Lib.run_from_unsafe w ⟨b, 0, none⟩ Tryd.underlying106 Tryd.underlying85 hj hsh Tryd.Bld_lies]
  simp only [Result.andThen]
  rw [Oper.upon_value]
  go_wp2
  go_end0
  exact ⟨rfl, rfl⟩

end Go.Proofs
namespace Go.Ev.Tryd
open Go.Proofs Go.Ev
/-- Builder.copyCheck in its caller's memory. -/
def checkI (args : List AV) (m : Mem) : Option (AV × Mem) :=
  match args with
  | [.ptr id g 0] => if g = (m.sto id).gen ∧ (m.sto id).froz = false ∧ (m.sto id).ty = some (87, true) then
      (match (m.sto id).cells with
      | [.nilp, x] => some (.tup [], ⟨upd m.sto id { m.sto id with cells := [.ptr id g 0, x] }, m.nid⟩)
      | [.ptr i g' 0, _] => if i = id ∧ g' = g then some (.tup [], m) else none
      | _ => none) else none
  | _ => none

theorem check_share {C : Ctx} (hP : C.P = Tryd.prog) (hok : ProgOk C.P) {args : List AV} {m : Mem} {r : AV} {m' : Mem} (h : checkI args m = some (r, m')) : ShareOk C 86 args m r m' := by
  obtain ⟨P, gl, sh, tb, sn, pI⟩ := C
  simp only at hP
  subst hP
  refine ⟨fun vs w => enter_ok hok Tryd.func86 rfl vs w, fun G w vs hi hc hsz hr => ?_⟩
  unfold checkI at h
  split at h
  · rename_i id g
    split at h
    · rename_i hc
      obtain ⟨hg, hfz, hty⟩ := hc
      subst hg
      obtain ⟨v, rfl⟩ : ∃ v, vs = #[v] := by
        obtain ⟨l⟩ := vs
        cases l with
        | nil => simp at hsz
        | cons v l =>
          cases l with
          | cons _ _ => simp at hsz
          | nil => exact ⟨v, rfl⟩
      have h0 := hr 0 v _ rfl rfl
      cases h0 with
      | ptr _ _ _ _ b y hT =>
        obtain ⟨tot, ap⟩ := y
        obtain ⟨cur, e, fr, hl⟩ := hi.live _ _ _ _ hT
        obtain ⟨he, ht⟩ := hl.typ _ _ hty
        subst he
        have ht := ht rfl
        have hsize := hl.size
        have two : (m.sto id).cells.length = 2 := by
          split at h
          · rename_i x hx; rw [hx]; rfl
          · rename_i i g' x hx; rw [hx]; rfl
          · cases h
        have hcur : cur.size = 2 := by omega
        have c0 : w.cell? ⟨b, 0, none⟩ = some cur[0] := by rw [cell_live hl.heap]; exact Array.getElem?_eq_getElem _
        split at h
        · rename_i x hx
          simp only [Option.some.injEq, Prod.mk.injEq] at h
          obtain ⟨rfl, rfl⟩ := h
          have hr0 := hl.rep 0 cur[0] .nilp (Array.getElem?_eq_getElem _) (by rw [hx]; rfl)
          have e0 : cur[0] = .pointer none := by
            generalize cur[0] = u at hr0
            cases hr0
            rfl
          have hsoft := hl.soft hfz
          refine (Tryd.Bld_check_fresh b w (by rw [c0, e0]) (by simp [World.shape?, hl.heap, hcur]) (frozen_live hl.heap (by rcases hl.fr with h | ⟨_, h⟩ <;> simp [h, hsize]) 0 (by omega))).mono ?_
          rintro e' w' ⟨rfl, rfl⟩
          have hlt := hl.lt
          obtain ⟨i1, i2⟩ := inv_turn (G := G) hi hl (cs1 := [.ptr id (m.sto id).gen 0, x]) (g1 := (m.sto id).gen) (ty1 := (m.sto id).ty) (w1 := w.setCell ⟨b, 0, none⟩ (.pointer (some ⟨b, 0, none⟩))) (cur1 := cur.setIfInBounds 0 (.pointer (some ⟨b, 0, none⟩))) (.inl rfl)
            (by simp only [World.setCell, Array.getElem?_modify, if_true, hl.heap, Option.map_some, Option.isSome_none, Bool.false_eq_true, if_false])
            (fun k hk => by simp only [World.setCell, Array.getElem?_modify]; rw [if_neg (Ne.symm hk)])
            (by simp [World.setCell]) rfl rfl rfl (by simp) (by simp; omega)
            (fun c hcc => by
              simp only [List.mem_cons, List.mem_nil_iff, or_false] at hcc
              rcases hcc with rfl | rfl
              · rfl
              · exact hl.one _ (by rw [hx]; simp))
            (fun j v c hv hcc => by
              match j with
              | 0 =>
                have hv' : v = .pointer (some ⟨b, 0, none⟩) := by
                  rw [Array.getElem?_setIfInBounds_self, if_pos (by omega)] at hv
                  exact (Option.some.inj hv).symm
                simp only [List.getElem?_cons_zero, Option.some.injEq] at hcc
                subst hv' hcc
                exact .ptr _ _ _ _ _ _ hT
              | 1 =>
                rw [Array.getElem?_setIfInBounds_ne (by decide)] at hv
                exact hl.rep 1 v c hv (by rw [hx]; simpa using hcc)
              | j + 2 => simp at hcc)
            (fun j hj => by rw [hsoft] at hj; simp at hj) (by rw [hsoft]; simp) (fun t y hy => ⟨y, hy, fun hyt => ⟨hyt, by rw [hx]; rfl⟩⟩)
          have hnew : NewIn m.nid G (G.put id (m.sto id).gen (b, tot, ap)) := by
            refine ⟨fun i hi' hn g => ?_, fun i g x hgx => ?_⟩
            · simp only [Gh.put]
              rw [if_neg]
              · exact hn g
              · rintro ⟨rfl, rfl⟩
                rw [hn] at hT
                cases hT
            · left
              simp only [Gh.put] at hgx
              split at hgx
              · rename_i hc2
                obtain ⟨rfl, rfl⟩ := hc2
                rw [hT]
                exact hgx
              · exact hgx
          exact ⟨_, _, rfl, .tup _ _ _ rfl (fun j v c hv => by simp at hv), i1, i2, hnew, Nat.le_refl _⟩
        · rename_i i g' x hx
          split at h
          · rename_i hc2
            obtain ⟨rfl, rfl⟩ := hc2
            simp only [Option.some.injEq, Prod.mk.injEq] at h
            obtain ⟨rfl, rfl⟩ := h
            have hr0 := hl.rep 0 cur[0] _ (Array.getElem?_eq_getElem _) (by rw [hx]; rfl)
            have e0 : cur[0] = .pointer (some ⟨b, 0, none⟩) := by
              generalize cur[0] = u at hr0
              cases hr0 with
              | ptr _ _ _ _ b2 y2 hT2 =>
                rw [hT] at hT2
                cases hT2
                rfl
            refine (Tryd.Bld_check_used b w (by rw [c0, e0])).mono ?_
            rintro e' w' ⟨rfl, rfl⟩
            exact ⟨_, G, rfl, .tup _ _ _ rfl (fun j v c hv => by simp at hv), hi, Ext.refl _ _, NewIn.refl _ _, Nat.le_refl _⟩
          · cases h
        · cases h
    · cases h
  · cases h
end Go.Ev.Tryd
end
section
set_option linter.unusedVariables false
namespace Go.Ev.Tryd
theorem push_modify {α : Type} (a : Array α) (b : Nat) (hb : b < a.size) (F : α → α) (o : α) : (a.modify b F).push o = (a.push o).modify b F := by
  apply Array.ext (by simp)
  intro i h1 h2
  simp only [Array.getElem_push, Array.getElem_modify, Array.size_modify]
  by_cases hi : i < a.size
  · simp [hi]
  · have : ¬ b = i := by omega
    simp [hi, this]
theorem set_alloc (w : World) (b : Nat) (hb : b < w.heap.size) (o : Obj) (v : Value) : ((w.setCell ⟨b, 1, none⟩ v).alloc o).drew.drew.drew = ((w.drewN 3).alloc o).setCell ⟨b, 1, none⟩ v := by
  have h := push_modify w.heap b hb (fun
      | .cells c elem frozen => .cells (if (none : Option Nat).isSome then c else c.setIfInBounds 1 v) elem frozen
      | o => o) o
  simp only [World.setCell, World.alloc, World.drew, World.drewN]
  rw [World.mk.injEq]
  exact ⟨h, rfl, rfl, rfl, rfl⟩
end Go.Ev.Tryd
namespace Go.Proofs
open Go.Shelf Go.RowKit
set_option maxHeartbeats 2000000 in
set_option maxRecDepth 1000000 in
theorem Tryd.Bld_grow (b n : Nat) (p : Value) (w : World) (fr : Nat × Nat) (hfr : fr = (0, 0) ∨ fr = (2, 3)) (hbk : w.heap[b]? = some (.cells #[p, .slice none 0 0] 87 fr)) (hn : n ≤ 281474976710656) :
    Calls Tryd.prog 88 #[.pointer (some ⟨b, 0, none⟩), .int .i64 n] w fun e w' => e = .returned (.tuple #[]) ∧ ∃ (cs : Array Value) (k : Nat), n ≤ cs.size ∧ w' = ((w.drewN k).alloc (.cells cs 5)).setCell ⟨b, 1, none⟩ (.slice (some ⟨w.heap.size, 0, none⟩) 0 cs.size) := by
  obtain ⟨cs, hrun, hle, hmax⟩ := Lib.run_makeNoZero (P := Tryd.prog) w.drew #[3] 71 5 Tryd.underlying71 n hn
  have hw : IntKind.i64.wrap (n : Int) = n := by
    rw [IntKind.wrap_i64]
    omega
  have hcall : (callFunc 97 #[.int .i64 (IntKind.i64.wrap (n : Int))]).run Tryd.prog w.drew = .ok (.value (.slice (some ⟨w.drew.heap.size, 0, none⟩) n cs.size)) (w.drew.drew.drew.alloc (.cells cs 5)) := by
    rw [hw, run_callFunc_extern Tryd.func97 (by kernel_rfl) (by kernel_rfl) (by kernel_rfl) (e := Extern.BytealgMakeNoZero.makeNoZero #[3] #[71]) (by kernel_rfl), hrun]
    rfl
  have hlt : b < w.heap.size := by
    rcases Nat.lt_or_ge b w.heap.size with h' | h'
    · exact h'
    · simp [Array.getElem?_eq_none h'] at hbk
  have c1 : w.drew.cell? ⟨b, 1, none⟩ = some (.slice none 0 0) := by
    have : w.drew.heap[b]? = _ := hbk
    rw [Go.Ev.cell_live this]; rfl
  have c2 : (w.alloc (.cells cs 5)).cell? ⟨b, 1, none⟩ = some (.slice none 0 0) := by
    have : (w.alloc (.cells cs 5)).heap[b]? = _ := (Lib.alloc_old w _ b hlt).trans hbk
    rw [Go.Ev.cell_live this]; rfl
  have f2 : (w.alloc (.cells cs 5)).frozen? ⟨b, 1, none⟩ = false := Go.Ev.frozen_live ((Lib.alloc_old w _ b hlt).trans hbk) hfr 1 (by simp)
  have hcopy : ∀ W : World, (Builtin.copy_ #[71, 71] 3 #[.slice (some ⟨w.heap.size, 0, none⟩) 0 cs.size, .slice none 0 0]).run Tryd.prog W = .ok (goInt 0) W :=
    fun W => run_copy_none W 71 71 3 5 _ _ 0 cs.size 0 0 Tryd.underlying71 (by kernel_rfl) rfl
  clear hw
  have mixed : Tryd.prog.follows .mixedOrders = true := by kernel_rfl
  go_enter Tryd.func88, Tryd.ntmps88
  go_wp2
  go_region_o
  all_goals (go_wp2; go_end0; exact ⟨rfl, cs, 3, hle, Go.Ev.Tryd.set_alloc w b hlt _ _⟩)
end Go.Proofs
namespace Go.Ev.Tryd
open Go.Proofs Go.Ev
/-- Builder.grow at a builder without a buffer, in its caller's memory. -/
def growI (args : List AV) (m : Mem) : Option (AV × Mem) :=
  match args with
  | [.ptr id g 0, .int .i64 n] => if g = (m.sto id).gen ∧ (m.sto id).froz = false ∧ (m.sto id).ty = some (87, true) ∧ 0 ≤ n ∧ n ≤ 281474976710656 then
      (match (m.sto id).cells with
      | [x, .nils 1] => some (.tup [], ⟨upd (upd m.sto m.nid ⟨[], 0, false, some (5, false)⟩) id { m.sto id with cells := [x, .arr m.nid 0 0 0 1 true] }, m.nid + 1⟩)
      | _ => none) else none
  | _ => none

theorem grow_share {C : Ctx} (hP : C.P = Tryd.prog) (hok : ProgOk C.P) {args : List AV} {m : Mem} {r : AV} {m' : Mem} (h : growI args m = some (r, m')) : ShareOk C 88 args m r m' := by
  obtain ⟨P, gl, sh, tb, sn, pI⟩ := C
  simp only at hP
  subst hP
  refine ⟨fun vs w => enter_ok hok Tryd.func88 rfl vs w, fun G w vs hi hc hsz hr => ?_⟩
  unfold growI at h
  split at h
  · rename_i id g n
    split at h
    · rename_i hc
      obtain ⟨hg, hfz, hty, hn0, hn⟩ := hc
      subst hg
      obtain ⟨v, v2, rfl⟩ : ∃ v v2, vs = #[v, v2] := by
        obtain ⟨l⟩ := vs
        match l, hsz with
        | [a, b], _ => exact ⟨a, b, rfl⟩
      have h0 := hr 0 v _ rfl rfl
      obtain rfl := rep_int (hr 1 v2 _ rfl rfl)
      cases h0 with
      | ptr _ _ _ _ b y hT =>
        obtain ⟨tot, ap⟩ := y
        obtain ⟨cur, e, fr, hl⟩ := hi.live _ _ _ _ hT
        obtain ⟨he, ht⟩ := hl.typ _ _ hty
        subst he
        have ht := ht rfl
        have hsize := hl.size
        split at h
        · rename_i x hx
          simp only [Option.some.injEq, Prod.mk.injEq] at h
          obtain ⟨rfl, rfl⟩ := h
          have two : (m.sto id).cells.length = 2 := by rw [hx]; rfl
          have hcur : cur.size = 2 := by omega
          have hr1 := hl.rep 1 cur[1] (.nils 1) (Array.getElem?_eq_getElem _) (by rw [hx]; rfl)
          have e1 : cur[1] = .slice none 0 0 := by
            generalize cur[1] = u at hr1
            cases hr1
            rfl
          have hcs : cur = #[cur[0], .slice none 0 0] := by
            apply Array.ext (by simpa using hcur)
            intro i h1 h2
            match i with
            | 0 => rfl
            | 1 => exact e1
          have hne : id ≠ m.nid := by
            have := (hi.dom _ _ _ hT).1
            omega
          have hfresh : ∀ g, G.T m.nid g = none := by
            intro g
            cases hq : G.T m.nid g with
            | none => rfl
            | some x => exact absurd (hi.dom _ _ _ hq).1 (by omega)
          have hnn : n = ((n.toNat : Nat) : Int) := by omega
          have hsoft := hl.soft hfz
          have hrun := Tryd.Bld_grow b n.toNat cur[0] w fr (by rcases hl.fr with h | ⟨_, h⟩ <;> simp [h, ← hsize, hcur]) (by rw [← hcs]; exact hl.heap) (by omega)
          rw [← hnn] at hrun
          refine hrun.mono ?_
          rintro e' w' ⟨rfl, cs, k, hk, rfl⟩
          have hlt := hl.lt
          obtain ⟨i1, i2⟩ := inv_new hi (fb := m.nid) (nid' := m.nid + 1) hfresh (by omega) (by omega) (w1 := (w.drewN k).alloc (.cells cs 5)) (cur := cs) (e := 5) (cs := []) (ap := true) (ty := some (5, false)) rfl rfl rfl rfl (.inl rfl) (by simp) (fun c hc => by cases hc) (fun j v c hv hc => by simp at hc) (fun t x hx => by
            simp only [Option.some.injEq, Prod.mk.injEq] at hx
            exact ⟨hx.1, fun h => by rw [← hx.2] at h; cases h⟩)
          have hold : ((w.drewN k).alloc (.cells cs 5)).heap[b]? = some (.cells cur 87 fr) := by
            rw [Lib.alloc_old (w.drewN k) _ b hlt]
            exact hl.heap
          have hsto : upd m.sto m.nid ⟨[], 0, false, some (5, false)⟩ id = m.sto id := upd_ne _ _ hne
          have hT1 : (G.put m.nid 0 (w.heap.size, cs.size, true)).T id (m.sto id).gen = some (b, tot, ap) := by
            simp only [Gh.put]
            rw [if_neg (fun hc => hne hc.1)]
            exact hT
          obtain ⟨cur2, e2, fr2, hl2⟩ := i1.live id b tot ap (by simp only [hsto]; exact hT1)
          have hh2 := hl2.heap
          rw [hold] at hh2
          simp only [Option.some.injEq, Obj.cells.injEq] at hh2
          obtain ⟨rfl, rfl, rfl⟩ := hh2
          have hx2 : (upd m.sto m.nid ⟨[], 0, false, some (5, false)⟩ id).cells = [x, .nils 1] := by rw [hsto]; exact hx
          have hsoft2 := hl2.soft (by simp only [hsto]; exact hfz)
          obtain ⟨j1, j2⟩ := inv_turn i1 hl2 (cs1 := [x, .arr m.nid 0 0 0 1 true]) (g1 := (m.sto id).gen) (ty1 := (m.sto id).ty) (w1 := ((w.drewN k).alloc (.cells cs 5)).setCell ⟨b, 1, none⟩ (.slice (some ⟨w.heap.size, 0, none⟩) 0 cs.size)) (cur1 := cur.setIfInBounds 1 (.slice (some ⟨w.heap.size, 0, none⟩) 0 cs.size)) (.inl (by simp only [hsto]))
            (by simp only [World.setCell, Array.getElem?_modify, if_true, hold, Option.map_some, Option.isSome_none, Bool.false_eq_true, if_false])
            (fun k hk => by simp only [World.setCell, Array.getElem?_modify]; rw [if_neg (Ne.symm hk)])
            (by simp [World.setCell]) rfl rfl rfl (by simp) (by simp; omega)
            (fun c hcc => by
              simp only [List.mem_cons, List.mem_nil_iff, or_false] at hcc
              rcases hcc with rfl | rfl
              · exact hl.one _ (by rw [hx]; simp)
              · rfl)
            (fun j v c hv hcc => by
              match j with
              | 0 =>
                rw [Array.getElem?_setIfInBounds_ne (by decide)] at hv
                exact hl2.rep 0 v c hv (by rw [hx2]; simpa using hcc)
              | 1 =>
                have hv' : v = .slice (some ⟨w.heap.size, 0, none⟩) 0 cs.size := by
                  rw [Array.getElem?_setIfInBounds_self, if_pos (by omega)] at hv
                  exact (Option.some.inj hv).symm
                simp only [List.getElem?_cons_succ, List.getElem?_cons_zero, Option.some.injEq] at hcc
                subst hv' hcc
                exact .arr _ m.nid 0 0 0 1 w.heap.size cs.size cs.size true true (by simp [Gh.put]) (by omega) (fun _ => ⟨rfl, by omega, rfl⟩)
              | j + 2 => simp at hcc)
            (fun j hj => by rw [hsoft2] at hj; simp at hj) (by rw [hsoft2]; simp) (fun t y hy => ⟨y, by simp only [hsto]; exact hy, fun hyt => ⟨hyt, by rw [hx2]; rfl⟩⟩)
          simp only [hsto] at j1
          refine ⟨_, _, rfl, .tup _ _ _ rfl (fun j v c hv => by simp at hv), j1, i2.trans j2, ?_, by simp⟩
          refine ⟨fun i hi' hn g => ?_, fun i g x hgx => ?_⟩
          · simp only [Gh.put]
            rw [if_neg, if_neg]
            · exact hn g
            · rintro ⟨rfl, _⟩; omega
            · rintro ⟨rfl, rfl⟩
              rw [hn] at hT
              cases hT
          · simp only [Gh.put] at hgx
            split at hgx
            · rename_i hc2
              obtain ⟨rfl, rfl⟩ := hc2
              left
              rw [hT]
              exact hgx
            · split at hgx
              · rename_i hc3
                obtain ⟨rfl, rfl⟩ := hc3
                right
                intro g0 y0 h0
                rw [hfresh] at h0
                cases h0
              · exact .inl hgx
        · cases h
    · cases h
  · cases h
end Go.Ev.Tryd
end
section
set_option linter.unusedVariables false
namespace Go.Ev.Tryd
theorem nil_eql {P : Program} {t : TypeId} {e : TypeId} (h : P.underlying t = some (.slice e)) (w : World) : (binOp .eql t (.slice none 0 0) (.slice none 0 0)).run P w = .ok (.bool true) w := by
  obtain ⟨dd, hdd⟩ : ∃ dd, Op.maxDepth = dd + 1 := ⟨9999, rfl⟩
  show ((do pure (.bool (← Op.equal t (.slice none 0 0) (.slice none 0 0))) : Sem Value)).run P w = _
  rw [Op.equal, hdd]
  simp [Op.equalIn, run_underlying h]
theorem some_eql {P : Program} {t : TypeId} {e : TypeId} (h : P.underlying t = some (.slice e)) (a : Addr) (cap : Nat) (w : World) : (binOp .eql t (.slice (some a) 0 cap) (.slice none 0 0)).run P w = .ok (.bool false) w := by
  obtain ⟨dd, hdd⟩ : ∃ dd, Op.maxDepth = dd + 1 := ⟨9999, rfl⟩
  show ((do pure (.bool (← Op.equal t (.slice (some a) 0 cap) (.slice none 0 0))) : Sem Value)).run P w = _
  rw [Op.equal, hdd]
  simp [Op.equalIn, run_underlying h]
end Go.Ev.Tryd
namespace Go.Proofs
open Go.Shelf Go.RowKit
set_option maxHeartbeats 1000000 in
set_option maxRecDepth 100000 in
theorem Tryd.Clone_nil (w : World) :
    Calls Tryd.prog 55 #[.slice none 0 0] w fun e w' => e = .returned (.slice none 0 0) ∧ w' = w := by
  go_enter Tryd.func55, Tryd.ntmps55
  go_wp2
  rw [Go.Ev.Tryd.nil_eql Tryd.underlying23]
  simp only [Result.andThen]
  rw [Oper.upon_value]
  go_wp2
  go_ret
  exact ⟨rfl, rfl⟩
set_option maxHeartbeats 1000000 in
set_option maxRecDepth 100000 in
theorem Tryd.Clone_empty (a : Addr) (cap : Nat) (w : World) :
    Calls Tryd.prog 55 #[.slice (some a) 0 cap] w fun e w' => ∃ b, e = .returned (.slice (some b) 0 0) ∧ w' = w.alloc (.cells #[] 9) := by
  go_enter Tryd.func55, Tryd.ntmps55
  go_wp2
  rw [Go.Ev.Tryd.some_eql Tryd.underlying23]
  simp only [Result.andThen]
  rw [Oper.upon_value]
  go_wp2
  go_ret
  exact ⟨_, rfl, rfl⟩
end Go.Proofs
end
section
set_option linter.unusedVariables false
namespace Go.Proofs
open Go.Shelf Go.RowKit
theorem Tryd.Str_info : (Tryd.prog.info? 9).map (fun i => (i.zero, i.size, i.bytes)) = some (some (.string ByteArray.empty), 1, 16) := by kernel_rfl
set_option maxHeartbeats 4000000 in
set_option maxRecDepth 1000000 in
theorem Tryd.Grow_nil (n : Nat) (h0 : 0 < n) (hn : n ≤ 4294967296) (w : World) :
    Calls Tryd.prog 83 #[.slice none 0 0, .int .i64 n] w fun e w' => ∃ cs : Array Value, n ≤ cs.size ∧ e = .returned (.slice (some ⟨w.heap.size, 0, none⟩) 0 cs.size) ∧ w' = w.drew.alloc (.cells cs 9) := by
  obtain ⟨i, hi, hii⟩ := Option.map_eq_some_iff.1 Tryd.Str_info
  simp only [Prod.mk.injEq] at hii
  obtain ⟨hz, hs, hb⟩ := hii
  have hrz := fun ty => Lib.run_append_nil_zeros w 23 3 ty 9 i _ .i64 .i64 Tryd.underlying23 Tryd.underlying3 hi hz n h0 (by omega) (by omega) (by rw [hb]; omega)
  have hG := grownCap_ge w n 0 9
  have hG2 := grownCap_le_maxLen w n 0 9 (by unfold maxLen; omega)
  generalize hcs : Builtin.zeroCells (Value.string ByteArray.empty).cells n ++ Builtin.zeroCells (Value.string ByteArray.empty).cells (grownCap w n 0 9 - n) = cs at hrz
  have hsz : cs.size = grownCap w n 0 9 := by
    rw [← hcs]
    simp [Builtin.zeroCells, Value.cells]
    try omega
  rw [← hsz] at hrz hG hG2
  have h1 : ¬ ((n : Int) < 0) := by omega
  have h2 : wrap64 0 = 0 := by unfold wrap64; omega
  have h3 : wrap64 ((n : Int) - 0) = (n : Int) := by unfold wrap64; omega
  have h4 : (n : Int) > 0 := by omega
  clear hcs hsz
  go_enter Tryd.func83, Tryd.ntmps83
  go_wp2_with (at_builtin; refine Lib.wpList_append_run _ rfl _ _ _ _ rfl _ _ rfl rfl _ _ (hrz _) ?_)
  all_goals (go_ret; exact ⟨cs, hG, rfl, rfl⟩)
end Go.Proofs
namespace Go.Ev.Tryd
open Go.Proofs Go.Ev
/-- slices.Grow of nothing, in its caller's memory. -/
def growS (args : List AV) (m : Mem) : Option (AV × Mem) :=
  match args with
  | [.nils 1, .int .i64 n] => if 0 < n ∧ n ≤ 4294967296 then some (.arr m.nid 0 0 0 1 true, ⟨upd m.sto m.nid ⟨[], 0, false, some (9, false)⟩, m.nid + 1⟩) else none
  | _ => none
theorem growS_share {C : Ctx} (hP : C.P = Tryd.prog) (hok : ProgOk C.P) {args : List AV} {m : Mem} {r : AV} {m' : Mem} (h : growS args m = some (r, m')) : ShareOk C 83 args m r m' := by
  obtain ⟨P, gl, sh, tb, sn, pI⟩ := C
  simp only at hP
  subst hP
  refine ⟨fun vs w => enter_ok hok Tryd.func83 rfl vs w, fun G w vs hi hc hsz hr => ?_⟩
  unfold growS at h
  split at h
  · rename_i n
    split at h
    · rename_i hc
      obtain ⟨hn0, hn⟩ := hc
      simp only [Option.some.injEq, Prod.mk.injEq] at h
      obtain ⟨rfl, rfl⟩ := h
      obtain ⟨v, v2, rfl⟩ : ∃ v v2, vs = #[v, v2] := by
        obtain ⟨l⟩ := vs
        match l, hsz with
        | [a, b], _ => exact ⟨a, b, rfl⟩
      have h0 := hr 0 v _ rfl rfl
      obtain rfl := rep_int (hr 1 v2 _ rfl rfl)
      obtain rfl : v = .slice none 0 0 := by
        cases h0
        rfl
      have hfresh : ∀ g, G.T m.nid g = none := by
        intro g
        cases hq : G.T m.nid g with
        | none => rfl
        | some x => exact absurd (hi.dom _ _ _ hq).1 (by omega)
      have hnn : n = ((n.toNat : Nat) : Int) := by omega
      have hrun := Tryd.Grow_nil n.toNat (by omega) (by omega) w
      rw [← hnn] at hrun
      refine hrun.mono ?_
      rintro e' w' ⟨cs, hk, rfl, rfl⟩
      obtain ⟨i1, i2⟩ := inv_new hi (fb := m.nid) (nid' := m.nid + 1) hfresh (by omega) (by omega) (w1 := w.drew.alloc (.cells cs 9)) (cur := cs) (e := 9) (cs := []) (ap := true) (ty := some (9, false)) rfl rfl rfl rfl (.inl rfl) (by simp) (fun c hc => by cases hc) (fun j v c hv hc => by simp at hc) (fun t x hx => by
        simp only [Option.some.injEq, Prod.mk.injEq] at hx
        exact ⟨hx.1, fun h => by rw [← hx.2] at h; cases h⟩)
      refine ⟨_, _, rfl, .arr _ m.nid 0 0 0 1 w.heap.size cs.size cs.size true true (by simp [Gh.put]) (by omega) (fun _ => ⟨rfl, by omega, rfl⟩), i1, i2, ?_, by simp⟩
      refine ⟨fun i hi' hn g => ?_, fun i g x hgx => ?_⟩
      · simp only [Gh.put]
        rw [if_neg]
        · exact hn g
        · rintro ⟨rfl, _⟩
          omega
      · simp only [Gh.put] at hgx
        split at hgx
        · rename_i hc3
          obtain ⟨rfl, rfl⟩ := hc3
          right
          intro g0 y0 h0
          rw [hfresh] at h0
          cases h0
        · exact .inl hgx
    · cases h
  · cases h
end Go.Ev.Tryd
end
