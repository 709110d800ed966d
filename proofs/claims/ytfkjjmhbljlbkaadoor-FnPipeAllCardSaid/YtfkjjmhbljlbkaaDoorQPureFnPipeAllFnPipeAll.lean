/- Frames one behind the other are told as just these, and nothing waits: the plain law. No condition of its own. -/
import Derived.Test.YtfkjjmhbljlbkaaDoorQPutFnPipeAll
namespace Go.Proofs.YtfkjjmhbljlbkaaDoor.Q
open Go.RowKit Go.Proofs.YtfkjjmhbljlbkaaDoor.P Go.Proofs.YtfkjjmhbljlbkaaDoorW.PrintWords Go.Proofs.YtfkjjmhbljlbkaaDoorW.PrintLast Go.Proofs.YtfkjjmhbljlbkaaDoorW.PrintMore
set_option linter.unusedVariables false
set_option linter.unusedSimpArgs false

theorem texts_loop (l : List ByteArray) (hl : l.length ≤ 1000000000) (d : Nat) : ∀ (k i : Nat), i + d = l.length → d < k → laws_qnTexts.l0 k l l (i : Int) = some true := by
  induction d with
  | zero =>
    intro k i hi hk
    obtain ⟨k, rfl⟩ : ∃ m, k = m + 1 := ⟨k - 1, by omega⟩
    rw [laws_qnTexts.l0, if_neg (by omega)]
  | succ d ih =>
    intro k i hi hk
    obtain ⟨k, rfl⟩ : ∃ m, k = m + 1 := ⟨k - 1, by omega⟩
    have := ih k (i + 1) (by omega) (by omega)
    rw [show ((i + 1 : Nat) : Int) = (i : Int) + 1 by omega] at this
    rw [laws_qnTexts.l0, if_pos (by omega), if_pos (by omega), if_pos (by omega), if_pos rfl, w64 (x := (i : Int) + 1) (by omega) (by omega), this]
theorem texts (l : List ByteArray) (hl : l.length ≤ 1000000000) (k : Nat) (hk : l.length < k) : laws_qnTexts.f k l l = some true := by
  unfold laws_qnTexts.f
  rw [if_pos rfl]
  exact texts_loop l hl l.length k 0 (by omega) hk
theorem frG_empty : frG ⟨#[]⟩ = ([], 0) := rfl
theorem feed_empty : feed ⟨#[]⟩ = (⟨#[]⟩, false, []) := feed_wait _ (by rw [frG_empty])
theorem feed_put (a : List ByteArray) (h : okF a = true) (u : ByteArray) (hz : (putG a).size ≠ 0) : feed (putG a ++ u) = ((feed u).1, (feed u).2.1, a :: (feed u).2.2) := by
  have e := frG_put a h u
  have hs : (putG a ++ u).size = (putG a).size + u.size := ByteArray.size_append
  have h8 : 8 ≤ (frG (putG a ++ u)).2 := by
    have e2 : (frG (putG a ++ u)).2 = ((putG a).size : Int) := by rw [e]
    rcases frG_cases (putG a ++ u) with h | ⟨h, _⟩ | ⟨h, _⟩
    · have h3 : (frG (putG a ++ u)).2 = -1 := by rw [h]
      omega
    · have h3 : (frG (putG a ++ u)).2 = 0 := by rw [h]
      omega
    · exact h
  rw [feed_some _ h8 (by rw [e]; show ((putG a).size : Int) ≤ _; omega), e]
  show ((feed ((putG a ++ u).extract ((putG a).size : Int).toNat (putG a ++ u).size)).1, (feed ((putG a ++ u).extract ((putG a).size : Int).toNat (putG a ++ u).size)).2.1, a :: (feed ((putG a ++ u).extract ((putG a).size : Int).toNat (putG a ++ u).size)).2.2) = _
  rw [Int.toNat_natCast, drop_app _ _ _ (Nat.le_refl _), size_zero (s := (putG a).extract (putG a).size (putG a).size) (by rw [ByteArray.size_extract]; omega), nil_app]

theorem FnPipeAll : laws_FnPipeAll.Pure := by
  intro l0 l1 _ _ hw _ _ hw1
  refine ⟨100000, ?_⟩
  obtain ⟨a, e0, ha, ha2⟩ := drawPut l0 hw 99999 (by omega)
  obtain ⟨b, e1, hb, hb2⟩ := drawPut l1 hw1 99999 (by omega)
  have za := putG_size a
  have zb := putG_size b
  have Z : ∀ x, laws_FnPipeAll.j0 100000 l0 l1 x = some true := by
    intro x
    rw [show (100000 : Nat) = 99999 + 1 from rfl, laws_FnPipeAll.j0]
    by_cases hx : x = true
    · rw [if_pos hx]
    rw [if_neg hx, e0, e1, Option.bind_some, Option.bind_some, impl_put a (by omega) (by omega) _ (by omega), impl_put b (by omega) (by omega) _ (by omega), spec_put a (by omega) (by omega) _ (by omega), Option.bind_some, Option.bind_some, Option.bind_some, if_pos rfl]
    have J : ∀ y, (y = false → (putG a).size ≠ 0 ∧ (putG b).size ≠ 0) → laws_FnPipeAll.j1 99999 a b (putG a) (putG b) y = some true := by
      intro y hy
      rw [show (99999 : Nat) = 99998 + 1 from rfl, laws_FnPipeAll.j1]
      by_cases hyt : y = true
      · rw [if_pos hyt, spec_put a (by omega) (by omega) _ (by omega), Option.bind_some]
        simp
      · obtain ⟨na, nb⟩ := hy (by simpa using hyt)
        have ka := putG_no na
        have kb := putG_no nb
        have hz : (putG a ++ putG b).size ≤ 3280 := by rw [ByteArray.size_append]; omega
        have z0 : (⟨#[]⟩ : ByteArray).size = 0 := rfl
        have f1 : feedP ⟨#[]⟩ false (putG a ++ putG b) = (⟨#[]⟩, false, [a, b]) := by
          unfold feedP
          rw [if_neg (by rw [show okP ⟨#[]⟩ false = true from rfl]; simp; omega), if_neg (by decide), nil_app, feed_put a ka _ na]
          have := feed_put b kb ⟨#[]⟩ nb
          rw [app_nil, feed_empty] at this
          rw [this]
        have f2 : feedP ⟨#[]⟩ true (putG a) = (⟨#[]⟩, true, []) := by
          unfold feedP
          rw [if_neg (by rw [show okP ⟨#[]⟩ true = true from rfl]; simp; omega), if_pos rfl]
        rw [if_neg hyt, if_pos (by omega), impl_feedP ⟨#[]⟩ false _ (by omega) (by omega) _ (by omega), Option.bind_some, f1, impl_feedP ⟨#[]⟩ true _ (by omega) (by omega) _ (by omega), Option.bind_some, f2]
        dsimp only
        rw [if_pos (by rw [(toList_nil _).2 z0]; rfl), if_pos (by rfl), if_pos (by simp), show rd_L2 [a, b] 0 = a from rfl, texts a (by omega) _ (by omega), Option.bind_some, if_pos rfl, if_pos (by simp), show rd_L2 [a, b] 1 = b from rfl, texts b (by omega) _ (by omega), Option.bind_some, if_pos rfl, if_pos rfl]
        rfl
    split
    · exact J true (fun h => by cases h)
    · rename_i hn
      refine J _ (fun h => ⟨fun h0 => hn ((toList_nil _).2 h0), fun h0 => ?_⟩)
      rw [(toList_nil _).2 h0] at h
      simp at h
  unfold laws_FnPipeAll.f
  split
  · exact Z _
  · exact Z _
end Go.Proofs.YtfkjjmhbljlbkaaDoor.Q
