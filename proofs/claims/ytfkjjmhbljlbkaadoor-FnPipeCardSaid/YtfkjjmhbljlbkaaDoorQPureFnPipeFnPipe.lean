/- Texts that are told twice, and a pipe as a state. -/
import Derived.Test.YtfkjjmhbljlbkaaDoorQDrawPipeFnPipe
namespace Go.Proofs.YtfkjjmhbljlbkaaDoor.Q
open Go.RowKit Go.Proofs.YtfkjjmhbljlbkaaDoor.P Go.Proofs.YtfkjjmhbljlbkaaDoorW.PrintWords Go.Proofs.YtfkjjmhbljlbkaaDoorW.PrintLast Go.Proofs.YtfkjjmhbljlbkaaDoorW.PrintMore
set_option linter.unusedVariables false
set_option linter.unusedSimpArgs false

theorem texts_loop (l : List ByteArray) (hl : l.length ≤ 1000000000) (d : Nat) : ∀ (k i : Nat), i + d = l.length → d < k → laws_qnTexts.l0 k l l (i : Int) = some true := by
  induction d with
  | zero =>
    intro k i hi hk
    obtain ⟨k, rfl⟩ : ∃ m, k = m + 1 := ⟨k - 1, by omega⟩
    rw [laws_qnTexts.l0, if_neg (by omega)]
  | succ d ih =>
    intro k i hi hk
    obtain ⟨k, rfl⟩ : ∃ m, k = m + 1 := ⟨k - 1, by omega⟩
    have := ih k (i + 1) (by omega) (by omega)
    rw [show ((i + 1 : Nat) : Int) = (i : Int) + 1 by omega] at this
    rw [laws_qnTexts.l0, if_pos (by omega), if_pos (by omega), if_pos (by omega), if_pos rfl, w64 (x := (i : Int) + 1) (by omega) (by omega), this]
theorem texts (l : List ByteArray) (hl : l.length ≤ 1000000000) (k : Nat) (hk : l.length < k) : laws_qnTexts.f k l l = some true := by
  unfold laws_qnTexts.f
  rw [if_pos rfl]
  exact texts_loop l hl l.length k 0 (by omega) hk
theorem cuts_len (s : ByteArray) (zs : List Int) : ∀ a, (cuts s a zs).length = zs.length := by
  induction zs with
  | nil => intro a; rfl
  | cons z zs ih => intro a; rw [cuts, List.length_cons, List.length_cons, ih]
theorem frG_len (t : ByteArray) : (frG t).1.length ≤ 6 := by
  unfold frG frT
  have hr := by4_range t 0
  by_cases h4 : (t.size : Int) < 4
  · rw [if_pos h4]; exact Nat.zero_le _
  · rw [if_neg h4]
    by_cases h6 : by4 t 0 + 1 > 6
    · rw [if_pos h6]; exact Nat.zero_le _
    · rw [if_neg h6]
      split
      · exact Nat.zero_le _
      · split
        · exact Nat.zero_le _
        · split
          · exact Nat.zero_le _
          · split
            · exact Nat.zero_le _
            · rw [cuts_len, szs_len]; omega
theorem feed_lens (n : Nat) : ∀ t : ByteArray, t.size = n → ∀ f ∈ (feed t).2.2, f.length ≤ 6 := by
  induction n using Nat.strongRecOn with
  | _ n ih =>
    intro t ht f hf
    rcases frG_cases t with h | ⟨h, hs⟩ | ⟨h, h1⟩
    · rw [feed_bad t (by rw [h])] at hf; cases hf
    · rw [feed_wait t (by rw [h])] at hf; cases hf
    · have hd := drop_size t (frG t).2 h h1
      rw [feed_some t h h1] at hf
      rcases List.mem_cons.1 hf with rfl | hf
      · exact frG_len t
      · exact ih _ (by omega) (t.extract (frG t).2.toNat t.size) rfl f hf

theorem rdL (l : List (List ByteArray)) (i : Nat) (h : i < l.length) : rd_L2 l (i : Int) = l[i] := by
  unfold rd_L2; rw [Int.toNat_natCast, List.getD_eq_getElem?_getD, List.getElem?_eq_getElem h, Option.getD_some]

/-- A pipe that is ok, as a state: what is left, broken or not. -/
def go (l : ByteArray) (b : Bool) (t : ByteArray) : ByteArray × Bool × List (List ByteArray) := if b = true then (l, b, []) else feed (l ++ t)
theorem feedP_go (l : ByteArray) (b : Bool) (t : ByteArray) (h : okP l b = true) (ht : t.size ≤ 4000) : feedP l b t = go l b t := by
  unfold feedP go
  rw [if_neg (by rw [h]; simp; omega)]
theorem go_ok (l : ByteArray) (b : Bool) (t : ByteArray) (h : okP l b = true) : okP (go l b t).1 (go l b t).2.1 = true := by
  unfold go
  split
  · exact h
  · exact feed_ok (l ++ t)
theorem go_true (l t : ByteArray) : go l true t = (l, true, []) := rfl
theorem go_false (l t : ByteArray) : go l false t = feed (l ++ t) := rfl
theorem go_two (l : ByteArray) (b : Bool) (t u : ByteArray) (h : okP l b = true) : go l b (t ++ u) = ((go (go l b t).1 (go l b t).2.1 u).1, (go (go l b t).1 (go l b t).2.1 u).2.1, (go l b t).2.2 ++ (go (go l b t).1 (go l b t).2.1 u).2.2) := by
  cases b
  · rw [go_false, go_false, ← app_assoc, feed_two']
    cases hx : (feed (l ++ t)).2.1
    · rw [if_neg (by decide), go_false]
    · rw [if_pos rfl, go_true, List.append_nil]
      exact Prod.ext rfl (Prod.ext hx rfl)
  · rw [go_true, go_true]; rfl
theorem go_nil (l : ByteArray) (b : Bool) (h : okP l b = true) : go l b ⟨#[]⟩ = (l, b, []) := by
  unfold go
  by_cases hb : b = true
  · simp [hb]
  · simp only [hb, if_false]
    rw [app_nil]
    unfold okP at h
    rw [if_neg hb, decide_eq_true_eq] at h
    rw [feed_wait l h.1]
    simp [hb]
theorem ok_size (l : ByteArray) (b : Bool) (h : okP l b = true) : l.size ≤ 1800 := by
  unfold okP at h
  by_cases hb : b = true
  · rw [if_pos hb, decide_eq_true_eq] at h; omega
  · rw [if_neg hb, decide_eq_true_eq] at h; exact h.2
theorem go_len (l : ByteArray) (b : Bool) (t : ByteArray) : (go l b t).2.2.length ≤ l.size + t.size ∧ ∀ f ∈ (go l b t).2.2, f.length ≤ 6 := by
  unfold go
  split
  · exact ⟨Nat.zero_le _, fun f hf => by cases hf⟩
  · have := (feed_left (l ++ t).size (l ++ t) rfl).2.2.2
    rw [ByteArray.size_append] at this
    exact ⟨this, feed_lens _ (l ++ t) rfl⟩

/-! ### what is told is a frame -/
theorem cuts_ok (s : ByteArray) (zs : List Int) : ∀ a : Int, 0 ≤ a → (∀ z ∈ zs, 0 ≤ z ∧ z ≤ 4294967295) → a + 8 * zs.sum ≤ s.size → (cuts s a zs).all (fun x => decide (x.size % 8 = 0)) = true ∧ wds (cuts s a zs) = zs.sum := by
  induction zs with
  | nil => intro a _ _ _; exact ⟨rfl, rfl⟩
  | cons z zs ih =>
    intro a ha hz hb
    have h1 := hz z (by simp)
    have h2 := sum_nonneg (l := zs) (fun y hy => hz y (by simp [hy]))
    rw [List.sum_cons] at hb
    obtain ⟨i1, i2⟩ := ih (a + 8 * z) (by omega) (fun y hy => hz y (by simp [hy])) (by omega)
    have hs : (s.extract a.toNat (a + 8 * z).toNat).size = (a + 8 * z).toNat - a.toNat := ext_size (by omega)
    rw [cuts, List.all_cons, i1, wds_cons, i2, List.sum_cons, Bool.and_true, decide_eq_true_eq]
    omega
theorem frG_ok (t : ByteArray) (h : 8 ≤ (frG t).2) : okF (frG t).1 = true := by
  unfold frG frT at h ⊢
  have hr := by4_range t 0
  by_cases h4 : (t.size : Int) < 4
  · rw [if_pos h4] at h; exact absurd h (by decide)
  · rw [if_neg h4] at h ⊢
    by_cases h6 : by4 t 0 + 1 > 6
    · rw [if_pos h6] at h; exact absurd h (by decide)
    · rw [if_neg h6] at h ⊢
      obtain ⟨m, hm⟩ : ∃ m : Nat, by4 t 0 + 1 = m := ⟨(by4 t 0 + 1).toNat, by omega⟩
      rw [hm, Int.toNat_natCast] at h ⊢
      have hv := hd_vals m (by omega)
      by_cases hh : (t.size : Int) < hd m
      · rw [if_pos hh] at h; exact absurd h (by decide)
      · rw [if_neg hh] at h ⊢
        by_cases h2 : (szs t m).sum > 200
        · rw [if_pos h2] at h; exact absurd h (by decide)
        · rw [if_neg h2] at h ⊢
          by_cases hz : allZ (t.extract (4 * (m + 1)) (hd m).toNat) = false
          · rw [if_pos hz] at h; exact absurd h (by decide)
          · rw [if_neg hz] at h ⊢
            by_cases hl : (t.size : Int) < hd m + 8 * (szs t m).sum
            · rw [if_pos hl] at h; exact absurd h (by decide)
            · rw [if_neg hl]
              obtain ⟨c1, c2⟩ := cuts_ok t (szs t m) (hd m) hv.1 (szs_range t m) (by omega)
              unfold okF
              show ((cuts t (hd m) (szs t m)).all _ && (decide (1 ≤ (cuts t (hd m) (szs t m)).length ∧ (cuts t (hd m) (szs t m)).length ≤ 6) && decide (wds (cuts t (hd m) (szs t m)) ≤ 200))) = true
              rw [c1, c2, cuts_len, szs_len, decide_eq_true (show 1 ≤ m ∧ m ≤ 6 by omega), decide_eq_true (show (szs t m).sum ≤ 200 by omega)]
              rfl
theorem feed_okF (n : Nat) : ∀ t : ByteArray, t.size = n → ∀ f ∈ (feed t).2.2, okF f = true := by
  induction n using Nat.strongRecOn with
  | _ n ih =>
    intro t ht f hf
    rcases frG_cases t with h | ⟨h, hs⟩ | ⟨h, h1⟩
    · rw [feed_bad t (by rw [h])] at hf; cases hf
    · rw [feed_wait t (by rw [h])] at hf; cases hf
    · have hd := drop_size t (frG t).2 h h1
      rw [feed_some t h h1] at hf
      rcases List.mem_cons.1 hf with rfl | hf
      · exact frG_ok t h
      · exact ih _ (by omega) (t.extract (frG t).2.toNat t.size) rfl f hf
theorem okF_lens {l : List ByteArray} (h : okF l = true) : l.length ≤ 6 ∧ wds l ≤ 200 := by
  unfold okF at h
  simp only [Bool.and_eq_true, decide_eq_true_eq] at h
  exact ⟨h.2.1.2, h.2.2⟩
theorem impl_okl (l : List ByteArray) (hl : l.length ≤ 1000000) (hw : wds l ≤ 1000000000000) (d : Nat) : ∀ (k i : Nat) (a : Int), i + d = l.length → d < k → 0 ≤ a → a + wds (l.drop i) ≤ 1000000000000 →
    impl_FrameOk.l0 k l a l (l.length : Int) (i : Int) = some ((l.drop i).all (fun x => decide (x.size % 8 = 0)) && (decide (1 ≤ l.length ∧ l.length ≤ 6) && decide (a + wds (l.drop i) ≤ 200))) := by
  induction d with
  | zero =>
    intro k i a hi hk ha hb
    obtain ⟨k, rfl⟩ : ∃ m, k = m + 1 := ⟨k - 1, by omega⟩
    rw [impl_FrameOk.l0, if_neg (by omega), List.drop_of_length_le (by omega)]
    unfold impl_in.f
    by_cases h1 : (l.length : Int) ≥ 1
    · rw [if_pos h1]
      by_cases h2 : (l.length : Int) ≤ 6
      · simp [h2, wds]; omega
      · simp [h2]; omega
    · rw [if_neg h1]; simp; omega
  | succ d ih =>
    intro k i a hi hk ha hb
    obtain ⟨k, rfl⟩ : ∃ m, k = m + 1 := ⟨k - 1, by omega⟩
    have hlt : i < l.length := by omega
    have hn := wds_nonneg (l.drop (i + 1))
    rw [List.drop_eq_getElem_cons hlt, wds_cons] at hb
    rw [impl_FrameOk.l0, if_pos (by omega), if_pos (by omega), if_pos (by omega), rdOf_get l i hlt, List.drop_eq_getElem_cons hlt, wds_cons]
    by_cases h8 : ((l[i].size : Int) % 8) = 0
    · rw [if_pos h8, w64 (x := (l[i].size : Int) / 8) (by omega) (by omega), w64 (by omega) (by omega), w64 (x := (i : Int) + 1) (by omega) (by omega)]
      have := ih k (i + 1) (a + (l[i].size : Int) / 8) (by omega) (by omega) (by omega) (by omega)
      rw [show ((i + 1 : Nat) : Int) = (i : Int) + 1 by omega] at this
      rw [this, List.all_cons, decide_eq_true (show l[i].size % 8 = 0 by omega), Bool.true_and, Int.add_assoc]
    · rw [if_neg h8, List.all_cons, decide_eq_false (show ¬ l[i].size % 8 = 0 by omega)]; simp
theorem impl_okF (l : List ByteArray) (hl : l.length ≤ 1000000) (hw : wds l ≤ 1000000000000) (k : Nat) (hk : l.length < k) : impl_FrameOk.f k l = some (okF l) := by
  unfold impl_FrameOk.f okF
  have := impl_okl l hl hw l.length k 0 0 (by omega) hk (by omega) (by rw [List.drop_zero]; omega)
  rw [List.drop_zero, Int.zero_add] at this
  exact this
theorem go_okF (l : ByteArray) (b : Bool) (t : ByteArray) : ∀ f ∈ (go l b t).2.2, okF f = true := by
  unfold go
  split
  · exact fun f hf => by cases hf
  · exact feed_okF _ (l ++ t) rfl

theorem frames_loop (F : List (List ByteArray)) (hF : F.length ≤ 100000) (h6 : ∀ f ∈ F, okF f = true) (x : ByteArray) (br : Bool) (hok : okP x br = true) (hx : x.size ≤ 1000000) (d : Nat) : ∀ (k i : Nat), i + d = F.length → d + 100 ≤ k → laws_FnPipe.l0 k F F F (i : Int) x br x br = some true := by
  induction d with
  | zero =>
    intro k i hi hk
    obtain ⟨k, rfl⟩ : ∃ m, k = m + 1 := ⟨k - 1, by omega⟩
    rw [laws_FnPipe.l0, if_neg (by omega), impl_ok x br (by omega) k (by omega), hok, Option.bind_some, if_pos rfl]
    unfold laws_qnPipe.f
    simp
  | succ d ih =>
    intro k i hi hk
    obtain ⟨k, rfl⟩ : ∃ m, k = m + 1 := ⟨k - 1, by omega⟩
    have hf := h6 F[i] (List.getElem_mem _)
    have hl := okF_lens hf
    have := ih k (i + 1) (by omega) (by omega)
    rw [show ((i + 1 : Nat) : Int) = (i : Int) + 1 by omega] at this
    rw [laws_FnPipe.l0, if_pos (by omega), if_pos (by omega), if_pos (by omega), rdL F i (by omega), texts F[i] (by omega) k (by omega), Option.bind_some, if_pos rfl, if_pos (by omega), Option.bind_some, if_pos rfl, impl_okF F[i] (by omega) (by omega) k (by omega), hf, Option.bind_some, if_pos rfl, w64 (x := (i : Int) + 1) (by omega) (by omega), this]

theorem FnPipe : laws_FnPipe.Pure := by
  intro l0 l1 _ _ hw _ _ _
  refine ⟨10000000, ?_⟩
  obtain ⟨l, br, t, e, hl, ht⟩ := drawFeed l0 hw 9999999 (by omega)
  have hf := feedP_size l br t
  have Q : ∀ b, laws_FnPipe.j0 10000000 l0 l1 b = some true := by
    intro b
    rw [show (10000000 : Nat) = 9999999 + 1 from rfl, laws_FnPipe.j0]
    by_cases hb : b = true
    · rw [if_pos hb]
    rw [if_neg hb, e, Option.bind_some]
    dsimp only
    rw [impl_feedP l br t (by omega) (by omega) _ (by omega), spec_feedP l br t (by omega) (by omega) _ (by omega), Option.bind_some, Option.bind_some]
    unfold laws_qnPipe.f
    rw [Option.bind_some]
    simp only [beq_self_eq_true, Bool.and_self, if_true]
    rw [impl_ok l br (by omega) _ (by omega), spec_ok l br (by omega) _ (by omega)]
    simp only [Option.bind_some, bne_self_eq_false, Bool.false_eq_true, if_false]
    have J : ∀ x, (x = false → okP l br = true ∧ t.size ≤ 4000) → laws_FnPipe.j1 9999999 l1 t (feedP l br t).2.2 (feedP l br t).2.2 x l br (feedP l br t).1 (feedP l br t).2.1 (feedP l br t).1 (feedP l br t).2.1 = some true := by
      intro x hx
      rw [show (9999999 : Nat) = 9999998 + 1 from rfl, laws_FnPipe.j1]
      cases x
      · obtain ⟨hok, h3⟩ := hx rfl
        rw [if_neg (by decide), feedP_go l br t hok (by omega)]
        obtain ⟨c, hc⟩ : ∃ c : Nat, (l1.length : Int) % ((t.size : Int) + 1) = c := ⟨((l1.length : Int) % ((t.size : Int) + 1)).toNat, by have := Int.emod_nonneg (l1.length : Int) (show (t.size : Int) + 1 ≠ 0 by omega); omega⟩
        have hc1 : c ≤ t.size := by have := Int.emod_lt_of_pos (l1.length : Int) (show (0 : Int) < (t.size : Int) + 1 by omega); omega
        have z1 : (t.extract 0 c).size = c := by rw [ext_size hc1]; omega
        have z2 : (t.extract c t.size).size = t.size - c := by rw [ext_size (Nat.le_refl _)]
        have hxs := ok_size l br hok
        have hok1 := go_ok l br (t.extract 0 c) hok
        have hxs1 := ok_size _ _ hok1
        have hl1 := go_len l br (t.extract 0 c)
        have hl2 := go_len (go l br (t.extract 0 c)).1 (go l br (t.extract 0 c)).2.1 (t.extract c t.size)
        have htw := go_two l br (t.extract 0 c) (t.extract c t.size) hok
        rw [split_at t c hc1] at htw
        have hokF := go_okF l br t
        have hokE := go_ok l br t hok
        have hxe := ok_size _ _ hokE
        rw [w64 (x := (t.size : Int) + 1) (by omega) (by omega), if_neg (by omega), hc, if_pos (by omega), if_pos (by omega), Int.toNat_natCast,
          impl_feedP l br _ (by omega) (by omega) _ (by omega), Option.bind_some, feedP_go l br _ hok (by omega),
          impl_feedP _ _ _ (by omega) (by omega) _ (by omega), Option.bind_some, feedP_go _ _ _ hok1 (by omega), Option.bind_some,
          if_pos (by simp; omega), Option.bind_some, if_pos (by simp; omega), Option.bind_some, List.nil_append]
        have e1 : (go l br t).2.2 = (go l br (t.extract 0 c)).2.2 ++ (go (go l br (t.extract 0 c)).1 (go l br (t.extract 0 c)).2.1 (t.extract c t.size)).2.2 := by rw [htw]
        have e2 : (go l br t).1 = (go (go l br (t.extract 0 c)).1 (go l br (t.extract 0 c)).2.1 (t.extract c t.size)).1 := by rw [htw]
        have e3 : (go l br t).2.1 = (go (go l br (t.extract 0 c)).1 (go l br (t.extract 0 c)).2.1 (t.extract c t.size)).2.1 := by rw [htw]
        rw [← e1, ← e2, ← e3, if_pos rfl]
        have hgl := go_len l br t
        exact frames_loop (go l br t).2.2 (by omega) hokF (go l br t).1 (go l br t).2.1 hokE (by omega) (go l br t).2.2.length 9999998 0 (by omega) (by omega)
      · rw [if_pos rfl, impl_ok l br (by omega) _ (by omega), spec_ok l br (by omega) _ (by omega)]
        unfold laws_qnPipe.f
        simp
    cases hok : okP l br
    · simp only [Bool.false_eq_true, if_false]
      exact J true (fun h => by cases h)
    · simp only [if_true]
      by_cases h3 : (t.size : Int) > 4000
      · rw [decide_eq_true h3]; exact J true (fun h => by cases h)
      · rw [decide_eq_false h3]; exact J false (fun _ => ⟨hok, by omega⟩)
  unfold laws_FnPipe.f
  split
  · exact Q _
  · exact Q _
end Go.Proofs.YtfkjjmhbljlbkaaDoor.Q
