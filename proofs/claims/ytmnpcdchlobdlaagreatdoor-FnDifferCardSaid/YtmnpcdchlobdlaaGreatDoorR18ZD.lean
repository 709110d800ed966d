/- Part of the proof of a statement about the given program: R18ZD R19ZD. No condition of its own. -/
import Derived.Test.YtmnpcdchlobdlaaGreatDoorR16ZD
section
namespace Go.Ev.Tryz
open Go.Proofs
set_option maxRecDepth 10000
set_option linter.unusedSimpArgs false
set_option linter.unusedVariables false

/-- l13Tree at a drawn schema in memory and its main struct: it gets plain values. -/
theorem TreeM_wp (m : Mem) {sv ev dv : AV} {tone : Bool} {part : Option (List Dcl)} {main : List Dcl} (hp : ∀ p, part = some p → GoodL (basesT tone) p) (hm : GoodL (basesM tone part) main)
    (e1 : snapD m 2097152 (.agg [sv, ev]) = some (.agg [.slice 2 ((plainS part main).map strA), .slice 2 ((plainE tone).map enA)]))
    (e2 : snapD m 2097152 (.agg [.str nMain, dv]) = some (.agg [.str nMain, .slice 6 (main.map Dcl.av)]))
    (id : Nat) (bs : List Int) (P : Nat) (ids : List Nat) (hids : reachD m 2097152 (.agg [sv, ev]) ++ reachD m 2097152 (.agg [.str nMain, dv]) = ids) (hid : id ∉ ids) (h : RdAt m id bs P) (hb : Bytes bs) (hP : P ≤ 700000000000) (Q : AV × Mem → Prop)
    (hQ : ∀ lv nv L N m', OutL m' m.nid L N lv nv → OkL 3 5 L N → RdAt m' id bs (P + 2500) → Fr (frozM m ids) m' id → Q (.agg [.int .i64 4, .int .i64 0, .str ⟨#[]⟩, lv, nv], m')) :
    Comes (fnI CC PR 14 [.ptr id 0 0, .agg [sv, ev], .agg [.str nMain, dv], .int .i64 4] m) Q := by
  have hen : entryI CC 14 [.ptr id 0 0, .agg [sv, ev], .agg [.str nMain, dv], .int .i64 4] m = some ([.ptr id 0 0, .agg [.slice 2 ((plainS part main).map strA), .slice 2 ((plainE tone).map enA)], .agg [.str nMain, .slice 6 (main.map Dcl.av)], .int .i64 4], frozM m ids) := by
    unfold entryI
    rw [if_pos (show CC.snapA.contains 14 = true from rfl)]
    have e5 : snapD m 2097152 (.int .i64 4) = some (.int .i64 4) := rfl
    have e6 : reachD m 2097152 (.int .i64 4) = [] := rfl
    simp only [List.mapM_cons, List.mapM_nil, AV.loud, if_true, Bool.false_eq_true, if_false, e1, e2, e5, e6, List.map_cons, List.map_nil, List.flatten_cons, List.flatten_nil, List.nil_append, List.append_nil, hids]
    rfl
  obtain ⟨g1, g2, g3, g4⟩ := hm
  refine fnI_snap Tryz.func14 rfl (Nat.le_of_ble_eq_true rfl) (Nat.le_of_ble_eq_true rfl) rfl rfl hen (entry_plain ?_) ?_
  · intro a ha
    simp only [List.mem_cons, List.mem_nil_iff, or_false] at ha
    rcases ha with rfl | rfl | rfl | rfl
    · exact .inl rfl
    · exact .inr ⟨rfl, rfl⟩
    · exact .inr ⟨rfl, rfl⟩
    · exact .inr ⟨rfl, rfl⟩
  exact Tree_wp (plainS part main) (plainE tone) (by cases part <;> simp [plainS]) (by cases tone <;> simp [plainE]) (basesM tone part) 120 3 900000000000 (by omega) (by omega) (by omega) (Datum1_wp tone part main hp) nMain main g2 g3 g4 4 _ id bs _ (h.froz hid) hb (by omega) _ fun lv nv Ld N m' hO hOk k1 k2 => hQ lv nv Ld N m' hO hOk (k1.mono (by omega)) k2
end Go.Ev.Tryz
end
section
namespace Go.Ev.Tryz
open Go.Proofs
set_option maxRecDepth 10000
set_option linter.unusedSimpArgs false
set_option linter.unusedVariables false

/-- What a caller needs of a drawn schema in memory to take its last struct. -/
theorem sch_last {M : Mem} {lo : Nat} {sv ev : AV} {tone : Bool} {part : Option (List Dcl)} {main : List Dcl} (hS : SchAt false M lo (.agg [sv, ev]) tone part main) :
    ∃ s g n d gd cs, sv = .arr s g 0 n 2 true ∧ 1 ≤ n ∧ n ≤ 2 ∧ lo ≤ s ∧ s < M.nid ∧ (M.sto d).cells = dclC main ∧ (M.sto d).gen = gd ∧ (M.sto s).cells = cs ∧ (M.sto s).gen = g ∧ (cs.drop ((n - 1) * 2)).take 2 = [.str nMain, .arr d gd 0 main.length 6 true] ∧ (n - 1) * 2 + 2 ≤ cs.length ∧ lo ≤ d ∧ d < M.nid ∧
      (∀ p, part = some p → GoodL (basesT tone) p) ∧ GoodL (basesM tone part) main ∧
      snapD M 2097152 (.agg [sv, ev]) = some (.agg [.slice 2 ((plainS part main).map strA), .slice 2 ((plainE tone).map enA)]) ∧
      snapD M 2097152 (.agg [.str nMain, .arr d gd 0 main.length 6 true]) = some (.agg [.str nMain, .slice 6 (main.map Dcl.av)]) ∧
      ∀ x ∈ reachD M 2097152 (.agg [sv, ev]) ++ reachD M 2097152 (.agg [.str nMain, .arr d gd 0 main.length 6 true]), lo ≤ x ∧ x < M.nid := by
  obtain ⟨B, hBr, hB⟩ := sch_shut hS 2097148
  obtain ⟨⟨r1, r2⟩, r3⟩ := hB M fun b _ => ⟨rfl, rfl⟩
  obtain ⟨sv', ev', he, hSt, hEn, hp, hm⟩ := hS
  simp only [AV.agg.injEq, List.cons.injEq, and_true] at he
  obtain ⟨rfl, rfl⟩ := he
  obtain ⟨L, hL, hLP, hLw⟩ := sts_of hSt
  have k1 := snap_st hSt 2097147
  have k2 := snap_en hEn 2097147
  obtain ⟨s, g, s1, s2, rfl, ⟨s4, s5, s6⟩, s7⟩ := hL
  have hLp : 1 ≤ L.length ∧ L.length ≤ 2 := by
    have h1 : (stP L).length = L.length := List.length_map _
    rw [hLP] at h1
    cases part <;> simp [plainS] at h1 <;> omega
  obtain ⟨y1, y2⟩ := stC_at L (L.length - 1) (by omega)
  have hdec := s7 L[L.length - 1] (List.getElem_mem (by omega))
  obtain ⟨d, gd, d1, d2, d3, d4, d5, d6⟩ := hdec
  have hLast : L[L.length - 1].1 = nMain ∧ L[L.length - 1].2.2 = main := by
    have h1 : (stP L)[L.length - 1]? = some (nMain, main) := by
      rw [hLP]
      have h1 : (stP L).length = L.length := List.length_map _
      rw [hLP] at h1
      rw [← h1]
      cases part <;> simp [plainS]
    have h2 : (stP L)[L.length - 1]? = some (L[L.length - 1].1, L[L.length - 1].2.2) := by
      unfold stP
      rw [List.getElem?_map, List.getElem?_eq_getElem (by omega)]
      rfl
    rw [h2] at h1
    simpa using h1
  rw [d3, hLast.1, hLast.2] at y1
  rw [hLast.2] at d4
  have dst : ∀ c ∈ (M.sto d).cells, still c = true := by rw [d4]; exact still_dclC main
  have dr2 : reachD M 2097152 (.agg [.str nMain, .arr d gd 0 main.length 6 true]) = [d] := by
    simp only [reachD, List.map_cons, List.map_nil, List.flatten_cons, List.flatten_nil]
    rw [reachesD_still dst]
    rfl
  refine ⟨s, g, L.length, d, gd, stC L, rfl, hLp.1, hLp.2, s1, s2, d4, d5, s4, s5, y1, y2, d1, d2, hp, hm, ?_, ?_, ?_⟩
  · rw [snapD]
    simp only [List.mapM_cons, List.mapM_nil, k1, k2]
    rfl
  · have k3 := snap_dec (u := false) (M := M) (lo := lo) (v := .arr d gd 0 main.length 6 true) (l := main) ⟨d, gd, d1, d2, rfl, d4, d5, fun h => by cases h⟩ 2097149
    rw [snapD]
    simp only [List.mapM_cons, List.mapM_nil, k3]
    rfl
  · intro x hx
    rcases List.mem_append.1 hx with hx | hx
    · rw [r2] at hx
      exact hBr x hx
    · rw [dr2] at hx
      rw [List.mem_singleton.1 hx]
      exact ⟨d1, d2⟩
end Go.Ev.Tryz
end
