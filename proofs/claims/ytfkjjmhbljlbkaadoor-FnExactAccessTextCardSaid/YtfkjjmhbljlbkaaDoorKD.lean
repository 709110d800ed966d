/- Part of the proof of a statement about the given program: KD. No condition of its own. -/
import Derived.Shelf.Strings.Builder1
import Derived.Test.YtfkjjmhbljlbkaaDoorEvTyD
import Derived.Test.YtfkjjmhbljlbkaaDoorEvProg
set_option linter.unusedVariables false
namespace Go.Proofs
open Go.Shelf Go.RowKit
theorem Tryd.Bld_size : (Tryd.prog.info? 96).map (·.size) = some 2 := by kernel_rfl
theorem Tryd.Bld_lies : liesAt Tryd.prog Tryd.prog.depth 96 (2 / Tryd.prog.cellsOf 96) 0 96 1 = true := by kernel_rfl
theorem Tryd.Bld_byte : (Tryd.prog.info? 5).map (fun i => (i.zero, i.size, i.bytes)) = some (some (.int .u8 0), 1, 1) := by kernel_rfl

set_option maxHeartbeats 1000000 in
set_option maxRecDepth 100000 in
theorem Tryd.Bld_check_used (b : Nat) (w : World) (h0 : w.cell? ⟨b, 0, none⟩ = some (.pointer (some ⟨b, 0, none⟩))) :
    Calls Tryd.prog 128 #[.pointer (some ⟨b, 0, none⟩)] w fun e w' => e = .returned (.tuple #[]) ∧ w' = w := by
  obtain ⟨j, hj, _⟩ := Option.map_eq_some_iff.1 Tryd.Bld_size
  go_enter Tryd.func128, Tryd.ntmps128
  go_wp2
  rw [Lib.run_neq_ptr_same w _ Tryd.underlying94 hj]
  go_wp2
  go_end0
  exact ⟨rfl, rfl⟩

set_option maxHeartbeats 1000000 in
set_option maxRecDepth 100000 in
theorem Tryd.Bld_check_fresh (b : Nat) (w : World) (h0 : w.cell? ⟨b, 0, none⟩ = some (.pointer none)) (hsh : w.shape? b = some (96, 2)) (hfz : w.frozen? ⟨b, 0, none⟩ = false) :
    Calls Tryd.prog 128 #[.pointer (some ⟨b, 0, none⟩)] w fun e w' => e = .returned (.tuple #[]) ∧ w' = w.setCell ⟨b, 0, none⟩ (.pointer (some ⟨b, 0, none⟩)) := by
  obtain ⟨j, hj, hjs⟩ := Option.map_eq_some_iff.1 Tryd.Bld_size
  go_enter Tryd.func128, Tryd.ntmps128
  go_wp2
  rw [Lib.run_to_unsafe w ⟨b, 0, none⟩ Tryd.underlying94 Tryd.underlying167 hj (by rw [hjs]; decide) hsh (Nat.zero_lt_succ 1)]
  simp only [Result.andThen]
  rw [Oper.upon_value]
  go_wp2
  rw [run_callFunc_extern Tryd.func160 (by kernel_rfl) (by kernel_rfl) (by kernel_rfl) (e := Extern.AbiNoEscape.same) (by kernel_rfl)]
  rw [Lib.run_noEscape]
  simp only [Result.andThen]
  rw [Oper.upon_value]
  go_wp2
  rw [Lib.run_from_unsafe w ⟨b, 0, none⟩ Tryd.underlying167 Tryd.underlying94 hj hsh Tryd.Bld_lies]
  simp only [Result.andThen]
  rw [Oper.upon_value]
  go_wp2
  go_end0
  exact ⟨rfl, rfl⟩

end Go.Proofs
namespace Go.Ev.Tryd
open Go.Proofs Go.Ev
/-- Builder.copyCheck in its caller's memory. -/
def checkI (args : List AV) (m : Mem) : Option (AV × Mem) :=
  match args with
  | [.ptr id g 0] => if g = (m.sto id).gen ∧ (m.sto id).froz = false ∧ (m.sto id).ty = some (96, true) then
      (match (m.sto id).cells with
      | [.nilp, x] => some (.tup [], ⟨upd m.sto id { m.sto id with cells := [.ptr id g 0, x] }, m.nid⟩)
      | [.ptr i g' 0, _] => if i = id ∧ g' = g then some (.tup [], m) else none
      | _ => none) else none
  | _ => none

theorem check_share {C : Ctx} (hP : C.P = Tryd.prog) (hok : ProgOk C.P) {args : List AV} {m : Mem} {r : AV} {m' : Mem} (h : checkI args m = some (r, m')) : ShareOk C 128 args m r m' := by
  obtain ⟨P, gl, sh, tb, sn, pI⟩ := C
  simp only at hP
  subst hP
  refine ⟨fun vs w => enter_ok hok Tryd.func128 rfl vs w, fun G w vs hi hc hsz hr => ?_⟩
  unfold checkI at h
  split at h
  · rename_i id g
    split at h
    · rename_i hc
      obtain ⟨hg, hfz, hty⟩ := hc
      subst hg
      obtain ⟨v, rfl⟩ : ∃ v, vs = #[v] := by
        obtain ⟨l⟩ := vs
        cases l with
        | nil => simp at hsz
        | cons v l =>
          cases l with
          | cons _ _ => simp at hsz
          | nil => exact ⟨v, rfl⟩
      have h0 := hr 0 v _ rfl rfl
      cases h0 with
      | ptr _ _ _ _ b y hT =>
        obtain ⟨tot, ap⟩ := y
        obtain ⟨cur, e, fr, hl⟩ := hi.live _ _ _ _ hT
        obtain ⟨he, ht⟩ := hl.typ _ _ hty
        subst he
        have ht := ht rfl
        have hsize := hl.size
        have two : (m.sto id).cells.length = 2 := by
          split at h
          · rename_i x hx; rw [hx]; rfl
          · rename_i i g' x hx; rw [hx]; rfl
          · cases h
        have hcur : cur.size = 2 := by omega
        have c0 : w.cell? ⟨b, 0, none⟩ = some cur[0] := by rw [cell_live hl.heap]; exact Array.getElem?_eq_getElem _
        split at h
        · rename_i x hx
          simp only [Option.some.injEq, Prod.mk.injEq] at h
          obtain ⟨rfl, rfl⟩ := h
          have hr0 := hl.rep 0 cur[0] .nilp (Array.getElem?_eq_getElem _) (by rw [hx]; rfl)
          have e0 : cur[0] = .pointer none := by
            generalize cur[0] = u at hr0
            cases hr0
            rfl
          have hsoft := hl.soft hfz
          refine (Tryd.Bld_check_fresh b w (by rw [c0, e0]) (by simp [World.shape?, hl.heap, hcur]) (frozen_live hl.heap (by rcases hl.fr with h | ⟨_, h⟩ <;> simp [h, hsize]) 0 (by omega))).mono ?_
          rintro e' w' ⟨rfl, rfl⟩
          have hlt := hl.lt
          obtain ⟨i1, i2⟩ := inv_turn (G := G) hi hl (cs1 := [.ptr id (m.sto id).gen 0, x]) (g1 := (m.sto id).gen) (ty1 := (m.sto id).ty) (w1 := w.setCell ⟨b, 0, none⟩ (.pointer (some ⟨b, 0, none⟩))) (cur1 := cur.setIfInBounds 0 (.pointer (some ⟨b, 0, none⟩))) (.inl rfl)
            (by simp only [World.setCell, Array.getElem?_modify, if_true, hl.heap, Option.map_some, Option.isSome_none, Bool.false_eq_true, if_false])
            (fun k hk => by simp only [World.setCell, Array.getElem?_modify]; rw [if_neg (Ne.symm hk)])
            (by simp [World.setCell]) rfl rfl rfl (by simp) (by simp; omega)
            (fun c hcc => by
              simp only [List.mem_cons, List.mem_nil_iff, or_false] at hcc
              rcases hcc with rfl | rfl
              · rfl
              · exact hl.one _ (by rw [hx]; simp))
            (fun j v c hv hcc => by
              match j with
              | 0 =>
                have hv' : v = .pointer (some ⟨b, 0, none⟩) := by
                  rw [Array.getElem?_setIfInBounds_self, if_pos (by omega)] at hv
                  exact (Option.some.inj hv).symm
                simp only [List.getElem?_cons_zero, Option.some.injEq] at hcc
                subst hv' hcc
                exact .ptr _ _ _ _ _ _ hT
              | 1 =>
                rw [Array.getElem?_setIfInBounds_ne (by decide)] at hv
                exact hl.rep 1 v c hv (by rw [hx]; simpa using hcc)
              | j + 2 => simp at hcc)
            (fun j hj => by rw [hsoft] at hj; simp at hj) (by rw [hsoft]; simp) (fun t y hy => ⟨y, hy, fun hyt => ⟨hyt, by rw [hx]; rfl⟩⟩)
          have hnew : NewIn m.nid G (G.put id (m.sto id).gen (b, tot, ap)) := by
            refine ⟨fun i hi' hn g => ?_, fun i g x hgx => ?_⟩
            · simp only [Gh.put]
              rw [if_neg]
              · exact hn g
              · rintro ⟨rfl, rfl⟩
                rw [hn] at hT
                cases hT
            · left
              simp only [Gh.put] at hgx
              split at hgx
              · rename_i hc2
                obtain ⟨rfl, rfl⟩ := hc2
                rw [hT]
                exact hgx
              · exact hgx
          exact ⟨_, _, rfl, .tup _ _ _ rfl (fun j v c hv => by simp at hv), i1, i2, hnew, Nat.le_refl _⟩
        · rename_i i g' x hx
          split at h
          · rename_i hc2
            obtain ⟨rfl, rfl⟩ := hc2
            simp only [Option.some.injEq, Prod.mk.injEq] at h
            obtain ⟨rfl, rfl⟩ := h
            have hr0 := hl.rep 0 cur[0] _ (Array.getElem?_eq_getElem _) (by rw [hx]; rfl)
            have e0 : cur[0] = .pointer (some ⟨b, 0, none⟩) := by
              generalize cur[0] = u at hr0
              cases hr0 with
              | ptr _ _ _ _ b2 y2 hT2 =>
                rw [hT] at hT2
                cases hT2
                rfl
            refine (Tryd.Bld_check_used b w (by rw [c0, e0])).mono ?_
            rintro e' w' ⟨rfl, rfl⟩
            exact ⟨_, G, rfl, .tup _ _ _ rfl (fun j v c hv => by simp at hv), hi, Ext.refl _ _, NewIn.refl _ _, Nat.le_refl _⟩
          · cases h
        · cases h
    · cases h
  · cases h
end Go.Ev.Tryd
