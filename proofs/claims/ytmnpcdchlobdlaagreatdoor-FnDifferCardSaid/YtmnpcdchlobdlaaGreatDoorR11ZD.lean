/- Part of the proof of a statement about the given program: R11ZD. No condition of its own. -/
import Derived.Test.YtmnpcdchlobdlaaGreatDoorR8ZD
namespace Go.Ev.Tryz
open Go.Proofs
set_option maxRecDepth 10000
set_option linter.unusedSimpArgs false
set_option linter.unusedVariables false
attribute [local congr] comes_congr bB_congr gK_congr gdK_congr

/-- Structs of a schema in memory: name, what holds the fields, the fields. -/
abbrev StL := List (ByteArray × AV × List Dcl)
def stC (L : StL) : List AV := (L.map fun x => [AV.str x.1, x.2.1]).flatten
def stP (L : StL) : List (ByteArray × List Dcl) := L.map fun x => (x.1, x.2.2)
def StsR (u : Bool) (M : Mem) (lo : Nat) (sv : AV) (L : StL) : Prop :=
  ∃ s g, lo ≤ s ∧ s < M.nid ∧ sv = .arr s g 0 L.length 2 true ∧ CellsA u M s g (stC L) ∧ ∀ x ∈ L, DecAt u M lo x.2.1 x.2.2
theorem stC_len (L : StL) : (stC L).length = L.length * 2 := by
  induction L with
  | nil => rfl
  | cons x L ih =>
    simp only [stC, List.map_cons, List.flatten_cons, List.length_append, List.length_cons, List.length_nil] at ih ⊢
    omega
theorem snap_stC {M : Mem} {lo : Nat} {u : Bool} (q : Nat) : ∀ (L : StL), (∀ x ∈ L, DecAt u M lo x.2.1 x.2.2) → (stC L).mapM (snapD M (q + 2)) = some ((stP L).map fun s => [AV.str s.1, .slice 6 (s.2.map Dcl.av)]).flatten
  | [], _ => rfl
  | x :: L, h => by
    have e1 := snap_dec (h x (by simp)) q
    have e2 := snap_stC q L fun y hy => h y (by simp [hy])
    have e3 : snapD M (q + 2) (.str x.1) = some (.str x.1) := rfl
    show ([AV.str x.1, x.2.1] ++ stC L).mapM (snapD M (q + 2)) = _
    refine mapM_app _ _ _ _ _ ?_ e2
    simp only [List.mapM_cons, List.mapM_nil, e1, e3]
    rfl
theorem elems_st : ∀ (L : List (ByteArray × List Dcl)), elems 2 L.length (L.map fun s => [AV.str s.1, .slice 6 (s.2.map Dcl.av)]).flatten = L.map strA
  | [] => rfl
  | x :: L => by
    have := elems_st L
    simp [elems, strA, this]
theorem snap_sts {M : Mem} {lo : Nat} {u : Bool} {sv : AV} {L : StL} (h : StsR u M lo sv L) (q : Nat) : snapD M (q + 3) sv = some (.slice 2 ((stP L).map strA)) := by
  obtain ⟨s, g, _, _, rfl, ⟨h1, h2, _⟩, h3⟩ := h
  have hl := stC_len L
  simp only [snapD, h1, h2, List.drop_zero, true_and]
  rw [if_pos (by omega), List.take_of_length_le (by omega), snap_stC q L h3]
  have := elems_st (stP L)
  rw [show (stP L).length = L.length from List.length_map _] at this
  rw [Option.map_some, this]
theorem sts_of {u : Bool} {M : Mem} {lo : Nat} {sv : AV} {part : Option (List Dcl)} {main : List Dcl} (h : StAt u M lo sv part main) : ∃ L : StL, StsR u M lo sv L ∧ stP L = plainS part main ∧ L.Pairwise fun x y => x.2.1 ≠ y.2.1 := by
  unfold StAt at h
  cases part with
  | none =>
    obtain ⟨s, g, dv, h1, h2, rfl, h4, h5⟩ := h
    exact ⟨[(nMain, dv, main)], ⟨s, g, h1, h2, rfl, h4, by simpa using h5⟩, rfl, by simp⟩
  | some p =>
    obtain ⟨s, g, d1, d2, h1, h2, rfl, h4, h5, h6, h7⟩ := h
    exact ⟨[(nPart, d1, p), (nMain, d2, main)], ⟨s, g, h1, h2, rfl, h4, by
      intro x hx
      simp only [List.mem_cons, List.mem_nil_iff, or_false] at hx
      rcases hx with rfl | rfl
      · exact h5
      · exact h6⟩, rfl, by simpa using h7⟩
/-- Enums of a schema in memory. -/
abbrev EnL := List (ByteArray × AV × List ByteArray)
def enC (L : EnL) : List AV := (L.map fun x => [AV.str x.1, x.2.1]).flatten
def enP (L : EnL) : List (ByteArray × List ByteArray) := L.map fun x => (x.1, x.2.2)
def WdAt (M : Mem) (lo : Nat) (v : AV) (l : List ByteArray) : Prop := ∃ d g, lo ≤ d ∧ d < M.nid ∧ v = .arr d g 0 l.length 1 true ∧ CellsAt M d g (l.map AV.str)
def EnsR (M : Mem) (lo : Nat) (ev : AV) (L : EnL) : Prop :=
  (L = [] ∧ ev = .nils 2) ∨ ∃ s g, 1 ≤ L.length ∧ lo ≤ s ∧ s < M.nid ∧ ev = .arr s g 0 L.length 2 true ∧ CellsAt M s g (enC L) ∧ ∀ x ∈ L, WdAt M lo x.2.1 x.2.2
theorem enC_len (L : EnL) : (enC L).length = L.length * 2 := by
  induction L with
  | nil => rfl
  | cons x L ih =>
    simp only [enC, List.map_cons, List.flatten_cons, List.length_append, List.length_cons, List.length_nil] at ih ⊢
    omega
theorem snap_wd {M : Mem} {lo : Nat} {v : AV} {l : List ByteArray} (h : WdAt M lo v l) (q : Nat) : snapD M (q + 2) v = some (strsA l) := by
  obtain ⟨d, g, _, _, rfl, h3⟩ := h
  exact snap_strR (.inr (.inr ⟨d, g, true, rfl, h3, rfl⟩)) q
theorem snap_enC {M : Mem} {lo : Nat} (q : Nat) : ∀ (L : EnL), (∀ x ∈ L, WdAt M lo x.2.1 x.2.2) → (enC L).mapM (snapD M (q + 2)) = some ((enP L).map fun s => [AV.str s.1, strsA s.2]).flatten
  | [], _ => rfl
  | x :: L, h => by
    have e1 := snap_wd (h x (by simp)) q
    have e2 := snap_enC q L fun y hy => h y (by simp [hy])
    have e3 : snapD M (q + 2) (.str x.1) = some (.str x.1) := rfl
    show ([AV.str x.1, x.2.1] ++ enC L).mapM (snapD M (q + 2)) = _
    refine mapM_app _ _ _ _ _ ?_ e2
    simp only [List.mapM_cons, List.mapM_nil, e1, e3]
    rfl
theorem elems_en : ∀ (L : List (ByteArray × List ByteArray)), elems 2 L.length (L.map fun s => [AV.str s.1, strsA s.2]).flatten = L.map enA
  | [] => rfl
  | x :: L => by
    have := elems_en L
    simp [elems, enA, this]
theorem snap_ens {M : Mem} {lo : Nat} {ev : AV} {L : EnL} (h : EnsR M lo ev L) (q : Nat) : snapD M (q + 3) ev = some (.slice 2 ((enP L).map enA)) := by
  rcases h with ⟨rfl, rfl⟩ | ⟨s, g, _, _, _, rfl, ⟨h1, h2⟩, h3⟩
  · rfl
  · have hl := enC_len L
    simp only [snapD, h1, h2, List.drop_zero, true_and]
    rw [if_pos (by omega), List.take_of_length_le (by omega), snap_enC q L h3]
    have := elems_en (enP L)
    rw [show (enP L).length = L.length from List.length_map _] at this
    rw [Option.map_some, this]
theorem ens_of {u : Bool} {M : Mem} {lo : Nat} {ev : AV} {tone : Bool} (h : EnAt u M lo ev tone) : ∃ L : EnL, EnsR M lo ev L ∧ enP L = plainE tone := by
  unfold EnAt at h
  split at h
  · rename_i ht
    obtain ⟨e, g, w, wg, h1, h2, h3, h4, rfl, h5, h6⟩ := h
    exact ⟨[(nTone, .arr w wg 0 3 1 true, words3)], .inr ⟨e, g, by simp, h1, h2, rfl, ⟨h5.1, h5.2.1⟩, by
      intro x hx
      rw [List.mem_singleton.1 hx]
      exact ⟨w, wg, h3, h4, rfl, h6.1, h6.2.1⟩⟩, by rw [ht]; rfl⟩
  · rename_i ht
    exact ⟨[], .inl ⟨rfl, h⟩, by rw [show tone = false from by simpa using ht]; rfl⟩
theorem WdAt.same {M M' : Mem} {lo : Nat} {v : AV} {l : List ByteArray} (h : WdAt M lo v l) (hn : M.nid ≤ M'.nid) (e : ∀ j, lo ≤ j → j < M.nid → Same (M'.sto j) (M.sto j)) : WdAt M' lo v l := by
  obtain ⟨d, g, h1, h2, h3, h4⟩ := h
  exact ⟨d, g, h1, by omega, h3, h4.same (e d h1 h2)⟩
theorem EnsR.same {M M' : Mem} {lo : Nat} {v : AV} {L : EnL} (h : EnsR M lo v L) (hn : M.nid ≤ M'.nid) (e : ∀ j, lo ≤ j → j < M.nid → Same (M'.sto j) (M.sto j)) : EnsR M' lo v L := by
  rcases h with h | ⟨s, g, h0, h1, h2, h3, h4, h5⟩
  · exact .inl h
  · exact .inr ⟨s, g, h0, h1, by omega, h3, h4.same (e s h1 h2), fun x hx => (h5 x hx).same hn e⟩
theorem DecAt.keepU {u : Bool} {M M' : Mem} {lo : Nat} {v : AV} {l : List Dcl} (h : DecAt u M lo v l) (hn : M.nid ≤ M'.nid) (e : ∀ j, lo ≤ j → j < M.nid → M'.sto j = M.sto j) : DecAt u M' lo v l := by
  obtain ⟨d, g, h1, h2, h3, h4⟩ := h
  exact ⟨d, g, h1, by omega, h3, h4.keep (e d h1 h2)⟩
theorem StsR.keep {u : Bool} {M M' : Mem} {lo : Nat} {v : AV} {L : StL} (h : StsR u M lo v L) (hn : M.nid ≤ M'.nid) (e : ∀ j, lo ≤ j → j < M.nid → M'.sto j = M.sto j) : StsR u M' lo v L := by
  obtain ⟨s, g, h1, h2, h3, h4, h5⟩ := h
  exact ⟨s, g, h1, by omega, h3, h4.keep (e s h1 h2), fun x hx => (h5 x hx).keepU hn e⟩
theorem StsR.keepF {u : Bool} {M : Mem} {lo : Nat} {v : AV} {L : StL} (h : StsR u M lo v L) : StsR false M lo v L := by
  obtain ⟨s, g, h1, h2, h3, h4, h5⟩ := h
  refine ⟨s, g, h1, h2, h3, h4.same ⟨rfl, rfl⟩, fun x hx => ?_⟩
  obtain ⟨d, q, a1, a2, a3, a4⟩ := h5 x hx
  exact ⟨d, q, a1, a2, a3, a4.same ⟨rfl, rfl⟩⟩
def Sec (M : Mem) (j : Nat) : Prop := (∃ a b c e f, (M.sto j).cells[1]? = some (.arr a b c e 6 f)) ∨ ∃ k z, (M.sto j).cells[1]? = some (.int k z)
theorem dec_keep {u : Bool} {M M' : Mem} {lo : Nat} {v : AV} {l : List Dcl} (h : DecAt u M lo v l) (hl : 1 ≤ l.length) (hn : M.nid ≤ M'.nid) (e : ∀ j, lo ≤ j → j < M.nid → (∃ k z, (M.sto j).cells[1]? = some (.int k z)) → Same (M'.sto j) (M.sto j)) : DecAt false M' lo v l := by
  obtain ⟨d, g, h1, h2, h3, h4⟩ := h
  refine ⟨d, g, h1, by omega, h3, h4.same (e d h1 h2 ?_)⟩
  cases l with
  | nil => simp at hl
  | cons y ys => exact ⟨.i64, y.ord, by rw [h4.1]; rfl⟩
theorem sts_keep {u : Bool} {M M' : Mem} {lo : Nat} {v : AV} {L : StL} (h : StsR u M lo v L) (hL : 1 ≤ L.length) (hl : ∀ x ∈ L, 1 ≤ x.2.2.length) (hn : M.nid ≤ M'.nid) (e : ∀ j, lo ≤ j → j < M.nid → Sec M j → Same (M'.sto j) (M.sto j)) : StsR false M' lo v L := by
  obtain ⟨s, g, h1, h2, h3, h4, h5⟩ := h
  refine ⟨s, g, h1, by omega, h3, h4.same (e s h1 h2 (.inl ?_)), fun x hx => dec_keep (h5 x hx) (hl x hx) hn fun j a b c => e j a b (.inr c)⟩
  cases L with
  | nil => simp at hL
  | cons y ys =>
    obtain ⟨d, q, _, _, a3, _⟩ := h5 y (by simp)
    refine ⟨d, q, 0, y.2.2.length, true, ?_⟩
    rw [h4.1]
    show some y.2.1 = _
    rw [a3]
def Fst (M : Mem) (j : Nat) : Prop := (∃ x, (M.sto j).cells[0]? = some (.str x)) ∧ ∀ a b c e f, (M.sto j).cells[1]? ≠ some (.arr a b c e 6 f)
theorem ens_keep {M M' : Mem} {lo : Nat} {v : AV} {L : EnL} (h : EnsR M lo v L) (hl : ∀ x ∈ L, 1 ≤ x.2.2.length) (hn : M.nid ≤ M'.nid) (e : ∀ j, lo ≤ j → j < M.nid → Fst M j → Same (M'.sto j) (M.sto j)) : EnsR M' lo v L := by
  rcases h with h | ⟨s, g, h0, h1, h2, h3, h4, h5⟩
  · exact .inl h
  · refine .inr ⟨s, g, h0, h1, by omega, h3, h4.same (e s h1 h2 ?_), fun x hx => ?_⟩
    · have := h0
      cases L with
      | nil => simp at this
      | cons y ys =>
        obtain ⟨w, wg, _, _, a3, _⟩ := h5 y (by simp)
        refine ⟨⟨y.1, by rw [h4.1]; rfl⟩, fun a b c e f => ?_⟩
        rw [h4.1]
        show some y.2.1 ≠ _
        rw [a3]
        simp
    · obtain ⟨w, wg, w1, w2, w3, w4⟩ := h5 x hx
      refine ⟨w, wg, w1, by omega, w3, w4.same (e w w1 w2 ?_)⟩
      have := hl x hx
      rw [Fst, w4.1]
      match x.2.2, this with
      | y :: [], _ => exact ⟨⟨y, rfl⟩, by simp⟩
      | y :: z :: r, _ => exact ⟨⟨y, rfl⟩, by simp⟩
theorem stC_app (a b : StL) : stC (a ++ b) = stC a ++ stC b := by simp [stC]
theorem enC_app (a b : EnL) : enC (a ++ b) = enC a ++ enC b := by simp [enC]
/-- A field, and a schema, of no more than a machine can bear. -/
def DclS (d : Dcl) : Prop := d.name.size ≤ 30 ∧ d.base.size ≤ 30 ∧ smallI d.els ∧ smallI d.ord
def SaneS (ss : List (ByteArray × List Dcl)) (es : List (ByteArray × List ByteArray)) : Prop :=
  (1 ≤ ss.length ∧ ss.length ≤ 10 ∧ ∀ s ∈ ss, s.1.size ≤ 30 ∧ 1 ≤ s.2.length ∧ s.2.length ≤ 10 ∧ ∀ d ∈ s.2, DclS d) ∧ es.length ≤ 10 ∧ ∀ e ∈ es, e.1.size ≤ 30 ∧ e.2.length ≤ 10 ∧ ∀ w ∈ e.2, w.size ≤ 30
theorem basesM_size {tone : Bool} {part : Option (List Dcl)} {b : ByteArray} (h : b ∈ basesM tone part) : b.size ≤ 30 := by
  have h1 : ∀ b ∈ basesB ++ [nTone] ++ [nPart, nPart], b.size ≤ 30 := by decide
  apply h1
  unfold basesM basesT at h
  cases tone <;> cases part <;> simp at h ⊢ <;> first
    | exact h
    | exact .inl h
    | (rcases h with h | h <;> simp [h])
theorem goodL_sane {tone : Bool} {part : Option (List Dcl)} {l : List Dcl} (h : GoodL (basesM tone part) l) : 1 ≤ l.length ∧ l.length ≤ 10 ∧ ∀ d ∈ l, DclS d :=
  ⟨h.1, by have := h.2.1; omega, fun d hd => ⟨(h.2.2.1 d hd).1, basesM_size (h.2.2.1 d hd).2.1, (h.2.2.1 d hd).2.2.1, (h.2.2.1 d hd).2.2.2⟩⟩
theorem plain_sane {tone : Bool} {part : Option (List Dcl)} {main : List Dcl} (hp : ∀ p, part = some p → GoodL (basesT tone) p) (hm : GoodL (basesM tone part) main) : SaneS (plainS part main) (plainE tone) := by
  have hT : ∀ p, part = some p → GoodL (basesM tone none) p := fun p h => by have := hp p h; simpa [basesM] using this
  refine ⟨⟨?_, ?_, ?_⟩, ?_, ?_⟩
  · cases part <;> simp [plainS]
  · cases part <;> simp [plainS]
  · intro s hs
    cases part with
    | none =>
      simp [plainS] at hs
      subst hs
      exact ⟨(by decide : nMain.size ≤ 30), goodL_sane hm⟩
    | some p =>
      simp [plainS] at hs
      rcases hs with rfl | rfl
      · exact ⟨(by decide : nPart.size ≤ 30), goodL_sane (hT p rfl)⟩
      · exact ⟨(by decide : nMain.size ≤ 30), goodL_sane hm⟩
  · cases tone <;> simp [plainE]
  · intro e he
    cases tone
    · simp [plainE] at he
    · simp [plainE] at he
      subst he
      exact ⟨by decide, by decide, by decide⟩
theorem frz_out' {f : Nat → Blk} {ids : List Nat} {j : Nat} (h : j ∉ ids) : frz f ids j = f j := frz_out h
/-- The fields of a struct, by their place. -/
theorem stC_at : ∀ (L : StL) (k : Nat) (h : k < L.length), ((stC L).drop (k * 2)).take 2 = [.str L[k].1, L[k].2.1] ∧ k * 2 + 2 ≤ (stC L).length
  | [], k, h => by cases h
  | x :: L, 0, h => by
    refine ⟨by simp [stC], ?_⟩
    rw [stC_len]
    simp
    omega
  | x :: L, k + 1, h => by
    obtain ⟨h1, h2⟩ := stC_at L k (by simpa using h)
    have e : stC (x :: L) = [.str x.1, x.2.1] ++ stC L := rfl
    refine ⟨?_, ?_⟩
    · rw [e, Nat.succ_mul, List.drop_append]
      simp only [List.length_cons, List.length_nil, Nat.zero_add, Nat.reduceAdd, Nat.add_sub_cancel]
      rw [List.drop_of_length_le (by simp)]
      simpa using h1
    · rw [e, List.length_append, List.length_cons, List.length_cons, List.length_nil]
      omega
/-- One struct's fields in other words. -/
theorem sts_set {M M' : Mem} {lo : Nat} {sv : AV} {L : StL} (h : StsR true M lo sv L) (hn : M.nid ≤ M'.nid) {k : Nat} (hk : k < L.length) (hpw : L.Pairwise fun x y => x.2.1 ≠ y.2.1) {d g : Nat} (hd : L[k].2.1 = .arr d g 0 L[k].2.2.length 6 true) {l' : List Dcl} (hl : l'.length = L[k].2.2.length)
    (hc : CellsAt M' d g (dclC l')) (e : ∀ j, lo ≤ j → j < M.nid → j ≠ d → M'.sto j = M.sto j) : StsR false M' lo sv (L.set k (L[k].1, L[k].2.1, l')) := by
  obtain ⟨s, q, h1, h2, h3, h4, h5⟩ := h
  have hdk := h5 L[k] (List.getElem_mem hk)
  obtain ⟨d2, g2, a1, a2, a3, a4⟩ := hdk
  rw [hd] at a3
  simp only [AV.arr.injEq, and_true, true_and] at a3
  obtain ⟨rfl, rfl⟩ := a3
  have hns : s ≠ d := by
    rintro rfl
    have e1 := h4.1
    rw [a4.1] at e1
    obtain ⟨t1, t2⟩ := stC_at L k hk
    cases hl2 : L[k].2.2 with
    | nil =>
      rw [hl2] at e1
      have := stC_len L
      rw [← e1] at this
      simp [dclC] at this
      omega
    | cons y ys =>
      rw [hl2] at e1
      have t3 : (stC L)[1]? = some (.int .i64 y.ord) := by rw [← e1]; rfl
      cases L with
      | nil => cases hk
      | cons z zs =>
        have t4 : (stC (z :: zs))[1]? = some z.2.1 := rfl
        rw [t4] at t3
        obtain ⟨_, _, _, _, t5, _⟩ := h5 z (by simp)
        rw [t5] at t3
        simp at t3
  have hst : stC (L.set k (L[k].1, L[k].2.1, l')) = stC L := by
    unfold stC
    congr 1
    rw [List.map_set]
    apply List.ext_getElem
    · simp
    · intro i h1 h2
      rw [List.getElem_set]
      split
      · rename_i hi; subst hi; simp
      · rfl
  refine ⟨s, q, h1, by omega, by rw [h3, List.length_set], ?_, fun x hx => ?_⟩
  · rw [hst]
    exact h4.same (by rw [e s h1 h2 hns]; exact ⟨rfl, rfl⟩)
  · obtain ⟨i, hi, rfl⟩ := List.mem_iff_getElem.1 hx
    rw [List.length_set] at hi
    rw [List.getElem_set]
    split
    · rename_i hik
      exact ⟨d, g, a1, by omega, by rw [hd]; simp [hl], hc.1, hc.2, fun h => by cases h⟩
    · rename_i hik
      obtain ⟨d3, g3, b1, b2, b3, b4⟩ := h5 L[i] (List.getElem_mem hi)
      have hne : d3 ≠ d := by
        rintro rfl
        have hne2 : L[i].2.1 ≠ L[k].2.1 := by
          rw [List.pairwise_iff_getElem] at hpw
          rcases Nat.lt_or_gt_of_ne (fun e => hik e.symm) with h | h
          · exact hpw i k hi hk h
          · exact (hpw k i hk hi h).symm
        apply hne2
        rw [b3, hd]
        have c1 := b4.1.symm.trans a4.1
        have c2 : g3 = g := b4.2.1.symm.trans a4.2.1
        have c3 := congrArg List.length c1
        rw [dclC_len, dclC_len] at c3
        rw [c2, show L[i].2.2.length = L[k].2.2.length by omega]
      exact ⟨d3, g3, b1, by omega, b3, b4.same (by rw [e d3 b1 b2 hne]; exact ⟨rfl, rfl⟩)⟩
end Go.Ev.Tryz
