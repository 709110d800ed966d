/- Frames that come byte by byte are told as at once: the plain law. No condition of its own. -/
import Derived.Test.YtfkjjmhbljlbkaaDoorQDrawPipeFnPipeBytes
namespace Go.Proofs.YtfkjjmhbljlbkaaDoor.Q
open Go.RowKit Go.Proofs.YtfkjjmhbljlbkaaDoor.P Go.Proofs.YtfkjjmhbljlbkaaDoorW.PrintWords Go.Proofs.YtfkjjmhbljlbkaaDoorW.PrintLast Go.Proofs.YtfkjjmhbljlbkaaDoorW.PrintMore
set_option linter.unusedVariables false
set_option linter.unusedSimpArgs false

theorem texts_loop (l : List ByteArray) (hl : l.length ≤ 1000000000) (d : Nat) : ∀ (k i : Nat), i + d = l.length → d < k → laws_qnTexts.l0 k l l (i : Int) = some true := by
  induction d with
  | zero =>
    intro k i hi hk
    obtain ⟨k, rfl⟩ : ∃ m, k = m + 1 := ⟨k - 1, by omega⟩
    rw [laws_qnTexts.l0, if_neg (by omega)]
  | succ d ih =>
    intro k i hi hk
    obtain ⟨k, rfl⟩ : ∃ m, k = m + 1 := ⟨k - 1, by omega⟩
    have := ih k (i + 1) (by omega) (by omega)
    rw [show ((i + 1 : Nat) : Int) = (i : Int) + 1 by omega] at this
    rw [laws_qnTexts.l0, if_pos (by omega), if_pos (by omega), if_pos (by omega), if_pos rfl, w64 (x := (i : Int) + 1) (by omega) (by omega), this]
theorem texts (l : List ByteArray) (hl : l.length ≤ 1000000000) (k : Nat) (hk : l.length < k) : laws_qnTexts.f k l l = some true := by
  unfold laws_qnTexts.f
  rw [if_pos rfl]
  exact texts_loop l hl l.length k 0 (by omega) hk
theorem cuts_len (s : ByteArray) (zs : List Int) : ∀ a, (cuts s a zs).length = zs.length := by
  induction zs with
  | nil => intro a; rfl
  | cons z zs ih => intro a; rw [cuts, List.length_cons, List.length_cons, ih]
theorem frG_len (t : ByteArray) : (frG t).1.length ≤ 6 := by
  unfold frG frT
  have hr := by4_range t 0
  by_cases h4 : (t.size : Int) < 4
  · rw [if_pos h4]; exact Nat.zero_le _
  · rw [if_neg h4]
    by_cases h6 : by4 t 0 + 1 > 6
    · rw [if_pos h6]; exact Nat.zero_le _
    · rw [if_neg h6]
      split
      · exact Nat.zero_le _
      · split
        · exact Nat.zero_le _
        · split
          · exact Nat.zero_le _
          · split
            · exact Nat.zero_le _
            · rw [cuts_len, szs_len]; omega
theorem feed_lens (n : Nat) : ∀ t : ByteArray, t.size = n → ∀ f ∈ (feed t).2.2, f.length ≤ 6 := by
  induction n using Nat.strongRecOn with
  | _ n ih =>
    intro t ht f hf
    rcases frG_cases t with h | ⟨h, hs⟩ | ⟨h, h1⟩
    · rw [feed_bad t (by rw [h])] at hf; cases hf
    · rw [feed_wait t (by rw [h])] at hf; cases hf
    · have hd := drop_size t (frG t).2 h h1
      rw [feed_some t h h1] at hf
      rcases List.mem_cons.1 hf with rfl | hf
      · exact frG_len t
      · exact ih _ (by omega) (t.extract (frG t).2.toNat t.size) rfl f hf

theorem rdL (l : List (List ByteArray)) (i : Nat) (h : i < l.length) : rd_L2 l (i : Int) = l[i] := by
  unfold rd_L2; rw [Int.toNat_natCast, List.getD_eq_getElem?_getD, List.getElem?_eq_getElem h, Option.getD_some]

/-- A pipe that is ok, as a state: what is left, broken or not. -/
def go (l : ByteArray) (b : Bool) (t : ByteArray) : ByteArray × Bool × List (List ByteArray) := if b = true then (l, b, []) else feed (l ++ t)
theorem feedP_go (l : ByteArray) (b : Bool) (t : ByteArray) (h : okP l b = true) (ht : t.size ≤ 4000) : feedP l b t = go l b t := by
  unfold feedP go
  rw [if_neg (by rw [h]; simp; omega)]
theorem go_ok (l : ByteArray) (b : Bool) (t : ByteArray) (h : okP l b = true) : okP (go l b t).1 (go l b t).2.1 = true := by
  unfold go
  split
  · exact h
  · exact feed_ok (l ++ t)
theorem go_true (l t : ByteArray) : go l true t = (l, true, []) := rfl
theorem go_false (l t : ByteArray) : go l false t = feed (l ++ t) := rfl
theorem go_two (l : ByteArray) (b : Bool) (t u : ByteArray) (h : okP l b = true) : go l b (t ++ u) = ((go (go l b t).1 (go l b t).2.1 u).1, (go (go l b t).1 (go l b t).2.1 u).2.1, (go l b t).2.2 ++ (go (go l b t).1 (go l b t).2.1 u).2.2) := by
  cases b
  · rw [go_false, go_false, ← app_assoc, feed_two']
    cases hx : (feed (l ++ t)).2.1
    · rw [if_neg (by decide), go_false]
    · rw [if_pos rfl, go_true, List.append_nil]
      exact Prod.ext rfl (Prod.ext hx rfl)
  · rw [go_true, go_true]; rfl
theorem go_nil (l : ByteArray) (b : Bool) (h : okP l b = true) : go l b ⟨#[]⟩ = (l, b, []) := by
  unfold go
  by_cases hb : b = true
  · simp [hb]
  · simp only [hb, if_false]
    rw [app_nil]
    unfold okP at h
    rw [if_neg hb, decide_eq_true_eq] at h
    rw [feed_wait l h.1]
    simp [hb]
theorem ok_size (l : ByteArray) (b : Bool) (h : okP l b = true) : l.size ≤ 1800 := by
  unfold okP at h
  by_cases hb : b = true
  · rw [if_pos hb, decide_eq_true_eq] at h; omega
  · rw [if_neg hb, decide_eq_true_eq] at h; exact h.2
theorem go_len (l : ByteArray) (b : Bool) (t : ByteArray) : (go l b t).2.2.length ≤ l.size + t.size ∧ ∀ f ∈ (go l b t).2.2, f.length ≤ 6 := by
  unfold go
  split
  · exact ⟨Nat.zero_le _, fun f hf => by cases hf⟩
  · have := (feed_left (l ++ t).size (l ++ t) rfl).2.2.2
    rw [ByteArray.size_append] at this
    exact ⟨this, feed_lens _ (l ++ t) rfl⟩

section
variable (T : ByteArray) (F : List (List ByteArray)) (X : ByteArray) (B : Bool)
/-- The inner loop: so many frames are told, from the n-th on. -/
theorem inner_loop (hF : F.length ≤ 100000) (h6 : ∀ f ∈ F, f.length ≤ 6) (i : Int) (x : ByteArray) (br : Bool) (some_ : List (List ByteArray)) (hs : some_.length ≤ 100000) (d : Nat) : ∀ (k n j : Nat), j + d = some_.length → d + 100 ≤ k → (∀ q, q < d → F[n + q]? = some_[j + q]?) → n + d ≤ F.length →
    laws_FnPipeBytes.l1 k T F (n : Int) i some_ (j : Int) X B x br = laws_FnPipeBytes.l0 (k - d - 1) T F ((n + d : Nat) : Int) (wrap64 (i + 1)) X B x br := by
  induction d with
  | zero =>
    intro k n j hj hk _ _
    obtain ⟨k, rfl⟩ : ∃ m, k = m + 1 := ⟨k - 1, by omega⟩
    rw [laws_FnPipeBytes.l1, if_neg (by omega)]
    rfl
  | succ d ih =>
    intro k n j hj hk hq hn
    obtain ⟨k, rfl⟩ : ∃ m, k = m + 1 := ⟨k - 1, by omega⟩
    have h0 := hq 0 (by omega)
    rw [Nat.add_zero, Nat.add_zero, List.getElem?_eq_getElem (show n < F.length by omega), List.getElem?_eq_getElem (show j < some_.length by omega)] at h0
    have h0 := Option.some.inj h0
    rw [laws_FnPipeBytes.l1, if_pos (by omega), if_neg (by omega), if_pos (by omega), if_pos (by omega), if_pos (by omega), rdL some_ j (by omega), rdL F n (by omega), ← h0, texts F[n] (by have := h6 F[n] (List.getElem_mem _); omega) k (by have := h6 F[n] (List.getElem_mem _); omega), Option.bind_some, if_pos rfl, w64 (x := (n : Int) + 1) (by omega) (by omega), w64 (x := (j : Int) + 1) (by omega) (by omega)]
    have := ih k (n + 1) (j + 1) (by omega) (by omega) (fun q hq' => by
      have := hq (q + 1) (by omega)
      rw [show n + (q + 1) = n + 1 + q by omega, show j + (q + 1) = j + 1 + q by omega] at this
      exact this) (by omega)
    rw [show ((n + 1 : Nat) : Int) = (n : Int) + 1 by omega, show ((j + 1 : Nat) : Int) = (j : Int) + 1 by omega, show n + 1 + d = n + (d + 1) by omega] at this
    rw [this, show k + 1 - (d + 1) - 1 = k - d - 1 by omega]
/-- The outer loop: byte by byte. -/
theorem outer_loop (hT : T.size ≤ 300) (hF : F.length ≤ 100000) (h6 : ∀ f ∈ F, f.length ≤ 6) (d : Nat) : ∀ (k i n : Nat) (x : ByteArray) (br : Bool), i + d = T.size → 1000000 + 10000 * d ≤ k → okP x br = true → F.drop n = (go x br (T.extract i T.size)).2.2 → n ≤ F.length → X = (go x br (T.extract i T.size)).1 → B = (go x br (T.extract i T.size)).2.1 →
    laws_FnPipeBytes.l0 k T F (n : Int) (i : Int) X B x br = some true := by
  induction d with
  | zero =>
    intro k i n x br hi hk hok hd hn hX hB
    obtain ⟨k, rfl⟩ : ∃ m, k = m + 1 := ⟨k - 1, by omega⟩
    have hz : T.extract i T.size = ⟨#[]⟩ := size_zero (by rw [ByteArray.size_extract]; omega)
    rw [hz, go_nil x br hok] at hd hX hB
    have hn2 : n = F.length := by
      have := congrArg List.length hd
      rw [List.length_drop] at this
      simp at this; omega
    rw [laws_FnPipeBytes.l0, if_neg (by omega), if_pos (by omega)]
    unfold laws_qnPipe.f
    rw [Option.bind_some, hX, hB]
    simp
  | succ d ih =>
    intro k i n x br hi hk hok hd hn hX hB
    obtain ⟨k, rfl⟩ : ∃ m, k = m + 1 := ⟨k - 1, by omega⟩
    have hc : T.extract i T.size = T.extract i (i + 1) ++ T.extract (i + 1) T.size := by
      apply ext_ba
      rw [data_append, data_extract, data_extract, data_extract, List.take_of_length_le (l := T.data.toList) (i := T.size) (by rw [size_data]; omega)]
      rw [List.drop_take, show i + 1 - i = 1 by omega, show T.data.toList.drop (i + 1) = (T.data.toList.drop i).drop 1 by rw [List.drop_drop], List.take_append_drop]
    have hsz : (T.extract i (i + 1)).size = 1 := by rw [ByteArray.size_extract]; omega
    have hxs := ok_size x br hok
    rw [hc, go_two x br _ _ hok] at hd hX hB
    have hl := go_len x br (T.extract i (i + 1))
    rw [laws_FnPipeBytes.l0, if_pos (by omega), if_pos (by omega), w64 (x := (i : Int) + 1) (by omega) (by omega), if_pos (by omega), if_pos (by omega), Int.toNat_natCast, show ((i : Int) + 1).toNat = i + 1 by omega,
      impl_feedP x br _ (by omega) (by omega) k (by omega), Option.bind_some, feedP_go x br _ hok (by omega)]
    have hlen : n + (go x br (T.extract i (i + 1))).2.2.length ≤ F.length := by
      have := congrArg List.length hd
      rw [List.length_drop] at this
      simp at this; omega
    have key := inner_loop T F X B hF h6 (i : Int) (go x br (T.extract i (i + 1))).1 (go x br (T.extract i (i + 1))).2.1 (go x br (T.extract i (i + 1))).2.2 (by omega) (go x br (T.extract i (i + 1))).2.2.length k n 0 (by omega) (by omega) (fun q hq => by
      rw [Nat.zero_add]
      have := congrArg (fun l => l[q]?) hd
      simp only [List.getElem?_drop] at this
      rw [this, List.getElem?_append_left hq]) hlen
    rw [show ((0 : Nat) : Int) = 0 from rfl] at key
    rw [key, w64 (x := (i : Int) + 1) (by omega) (by omega), show (i : Int) + 1 = ((i + 1 : Nat) : Int) by omega]
    refine ih _ (i + 1) _ _ _ (by omega) (by omega) (go_ok x br _ hok) ?_ hlen hX hB
    rw [← List.drop_drop, hd]
    simp
end

theorem FnPipeBytes : laws_FnPipeBytes.Pure := by
  intro l0 _ _ hw
  refine ⟨10000000, ?_⟩
  obtain ⟨l, br, t, e, hl, ht⟩ := drawFeed l0 hw 10000000 (by omega)
  have hf := feedP_size l br t
  unfold laws_FnPipeBytes.f
  by_cases hlen : (l0.length : Int) > 1048576
  · rw [if_pos hlen]
  rw [if_neg hlen, e, Option.bind_some]
  dsimp only
  rw [impl_feedP l br t (by omega) (by omega) _ (by omega), spec_feedP l br t (by omega) (by omega) _ (by omega), Option.bind_some, Option.bind_some]
  unfold laws_qnPipe.f
  rw [Option.bind_some]
  simp only [beq_self_eq_true, Bool.and_self, if_true]
  rw [spec_ok l br (by omega) _ (by omega), Option.bind_some]
  have J : ∀ x, (x = false → okP l br = true ∧ t.size ≤ 300) → laws_FnPipeBytes.j0 10000000 t (feedP l br t).2.2 (feedP l br t).2.2 x l br (feedP l br t).1 (feedP l br t).2.1 (feedP l br t).1 (feedP l br t).2.1 = some true := by
    intro x hx
    rw [show (10000000 : Nat) = 9999999 + 1 from rfl, laws_FnPipeBytes.j0]
    cases x
    · obtain ⟨hok, h3⟩ := hx rfl
      simp only [Bool.false_eq_true, if_false]
      rw [feedP_go l br t hok (by omega)]
      have hgl := go_len l br t
      have := outer_loop t (go l br t).2.2 (go l br t).1 (go l br t).2.1 h3 (by omega) hgl.2 t.size 9999999 0 0 l br (by omega) (by omega) hok (by rw [ext_zero]; rfl) (by omega) (by rw [ext_zero]) (by rw [ext_zero])
      exact this
    · simp only [if_true]
      unfold laws_qnPipe.f
      simp
  cases hok : okP l br
  · rw [if_neg (by decide)]
    exact J true (fun h => by cases h)
  · rw [if_pos rfl]
    by_cases h3 : (t.size : Int) > 300
    · rw [decide_eq_true h3]; exact J true (fun h => by cases h)
    · rw [decide_eq_false h3]; exact J false (fun _ => ⟨hok, by omega⟩)
end Go.Proofs.YtfkjjmhbljlbkaaDoor.Q
