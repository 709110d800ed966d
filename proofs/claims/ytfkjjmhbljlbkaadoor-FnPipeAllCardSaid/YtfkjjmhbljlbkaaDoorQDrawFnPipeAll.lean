/- What is drawn for a pipe is there, and not long: the plain law. -/
import Derived.Test.YtfkjjmhbljlbkaaDoorQPipeFnPipeAll
namespace Go.Proofs.YtfkjjmhbljlbkaaDoor.Q
open Go.RowKit Go.Proofs.YtfkjjmhbljlbkaaDoor.P Go.Proofs.YtfkjjmhbljlbkaaDoorW.PrintWords Go.Proofs.YtfkjjmhbljlbkaaDoorW.PrintLast Go.Proofs.YtfkjjmhbljlbkaaDoorW.PrintMore
set_option linter.unusedVariables false
set_option linter.unusedSimpArgs false

/-- A code that is read, at a place. -/
def Rd (b : List Int) (p : Int) (c : Int) : Prop := (∀ x ∈ b, 0 ≤ x ∧ x ≤ 255) ∧ b.length ≤ 2000 ∧ 0 ≤ p ∧ p + c ≤ 1000000000
theorem Rd.at {b : List Int} {p c p' c' : Int} (h : Rd b p c) (h0 : p ≤ p') (h1 : p' + c' ≤ p + c) : Rd b p' c' := ⟨h.1, h.2.1, by have := h.2.2; omega, by have := h.2.2; omega⟩
theorem rd_byte {b : List Int} (h : ∀ x ∈ b, 0 ≤ x ∧ x ≤ 255) (i : Int) : 0 ≤ rd b i ∧ rd b i ≤ 255 := by
  unfold rd
  rw [List.getD_eq_getElem?_getD]
  cases e : b[i.toNat]? with
  | none => simp
  | some x => exact h x (List.mem_of_getElem? e)
theorem pick {b : List Int} {p c : Int} (h : Rd b p c) (hc : 1 ≤ c) (n : Int) (k : Nat) (hk : 1 ≤ k) : ∃ v, spec_l1Rd_pick.f k b p n = some (v, p + 1) ∧ 0 ≤ v ∧ (1 ≤ n → v < n) ∧ (n < 1 → v = 0) := by
  obtain ⟨hb, hl, hp, hp1⟩ := h
  obtain ⟨k, rfl⟩ : ∃ m, k = m + 1 := ⟨k - 1, by omega⟩
  unfold spec_l1Rd_pick.f
  rw [w64 (x := p + 1) (by omega) (by omega)]
  by_cases hn : n < 1
  · rw [if_pos hn, spec_l1Rd_pick.j0, if_pos rfl]
    exact ⟨0, rfl, by omega, fun h => by omega, fun _ => rfl⟩
  · rw [if_neg hn, spec_l1Rd_pick.j0]
    by_cases hz : (b.length : Int) = 0
    · rw [hz, if_pos rfl]
      exact ⟨0, rfl, by omega, fun h => by omega, fun _ => rfl⟩
    · rw [if_neg (by simpa using hz), w64 (x := p + 1 - 1) (by omega) (by omega), show p + 1 - 1 = p by omega]
      have hr := rd_byte hb
      by_cases hlt : p < (b.length : Int)
      · rw [if_pos hlt, if_pos hp, if_neg (by omega), w64 (by have := hr p; omega) (by have := hr p; omega), tmod_pos (hr p).1]
        refine ⟨_, rfl, Int.emod_nonneg _ (by omega), fun _ => Int.emod_lt_of_pos _ (by omega), fun h => by omega⟩
      · rw [if_neg hlt, if_neg hz]
        have m1 := Int.emod_nonneg p (show (b.length : Int) ≠ 0 by omega)
        have m2 := Int.emod_lt_of_pos p (show (0 : Int) < b.length by omega)
        rw [w64 (x := p * 7) (by omega) (by omega), w64 (x := p * 7 + 3) (by omega) (by omega), tmod_pos (a := p) hp, tmod_pos (a := p * 7 + 3) (by omega), tdiv_pos (a := p) hp]
        have m3 := Int.emod_nonneg (p * 7 + 3) (show (b.length : Int) ≠ 0 by omega)
        have m4 := Int.emod_lt_of_pos (p * 7 + 3) (show (0 : Int) < b.length by omega)
        have r1 := hr (p % (b.length : Int))
        have r2 := hr ((p * 7 + 3) % (b.length : Int))
        generalize rd b (p % (b.length : Int)) = y1 at r1 ⊢
        generalize rd b ((p * 7 + 3) % (b.length : Int)) = y2 at r2 ⊢
        have d1 : 0 ≤ p / (b.length : Int) := Int.ediv_nonneg hp (by omega)
        have d2 : p / (b.length : Int) ≤ p := Int.ediv_le_self _ hp
        generalize p / (b.length : Int) = q at d1 d2 ⊢
        rw [if_pos m1, if_pos m2, if_pos m3, if_pos m4, if_neg (by omega), w64 (x := y1) (by omega) (by omega), w64 (x := y2) (by omega) (by omega), w64 (x := y1 * 131) (by omega) (by omega), w64 (x := y2 * 1117) (by omega) (by omega), w64 (x := y1 * 131 + y2 * 1117) (by omega) (by omega),
          w64 (x := p * 29) (by omega) (by omega), w64 (x := q) (by omega) (by omega), w64 (x := y1 * 131 + y2 * 1117 + p * 29) (by omega) (by omega), w64 (x := q * 53) (by omega) (by omega), w64 (x := y1 * 131 + y2 * 1117 + p * 29 + q * 53) (by omega) (by omega)]
        have g0 : 0 ≤ y1 * 131 + y2 * 1117 + p * 29 + q * 53 := by omega
        have g1 : y1 * 131 + y2 * 1117 + p * 29 + q * 53 ≤ 200000000000 := by omega
        generalize y1 * 131 + y2 * 1117 + p * 29 + q * 53 = x at g0 g1 ⊢
        rw [tdiv_pos (a := x) g0, w64 (x := x / 64) (by omega) (by omega)]
        have hx := xor_nonneg (x := x) (y := x / 64) g0 (by omega) (by omega) (by omega)
        rw [tmod_pos hx]
        refine ⟨_, rfl, Int.emod_nonneg _ (by omega), fun _ => Int.emod_lt_of_pos _ (by omega), fun h => by omega⟩

theorem of_ {b : List Int} {p c : Int} (h : Rd b p c) (hc : 1 ≤ c) (l : List ByteArray) (hl : 1 ≤ l.length) (k : Nat) (hk : 1 ≤ k) : ∃ x ∈ l, spec_l1Rd_of.f k b p l = some (x, p + 1) := by
  obtain ⟨v, e, h0, h1, _⟩ := pick h hc (l.length : Int) k hk
  have hv := h1 (by omega)
  unfold spec_l1Rd_of.f
  rw [e, Option.bind_some]
  dsimp only
  rw [if_pos h0, if_pos hv]
  refine ⟨rdOf ByteArray.empty l v, ?_, rfl⟩
  unfold rdOf
  rw [List.getD_eq_getElem?_getD, List.getElem?_eq_getElem (show v.toNat < l.length by omega), Option.getD_some]
  exact List.getElem_mem _

theorem many_loop (n : Nat) : ∀ (k : Nat) (s out : ByteArray), n < k → out.size + 2 * (n * s.size) ≤ 4611686018427387904 → n ≤ 1000000 → ∃ t, spec_l1Many.l0 k s (n : Int) out = some t ∧ t.size = out.size + n * s.size := by
  induction n using Nat.strongRecOn with
  | _ n ih =>
    intro k s out hk hb hn
    obtain ⟨k, rfl⟩ : ∃ m, k = m + 1 := ⟨k - 1, by omega⟩
    rcases Nat.eq_zero_or_pos n with h0 | h0
    · subst h0
      rw [spec_l1Many.l0, if_neg (by decide)]
      exact ⟨out, rfl, by omega⟩
    · have hs1 : s.size ≤ n * s.size := Nat.le_mul_of_pos_left _ h0
      have hz : (s ++ s).size = 2 * s.size := by rw [ByteArray.size_append]; omega
      have hh : (n / 2) * (2 * s.size) = (n / 2 * 2) * s.size := by rw [Nat.mul_assoc]
      have hle : (n / 2 * 2) * s.size ≤ n * s.size := Nat.mul_le_mul_right _ (by omega)
      rw [spec_l1Many.l0, if_pos (by omega), tmod_pos (by omega), tdiv_pos (by omega), w64 (x := (n : Int) / 2) (by omega) (by omega), show (n : Int) / 2 = ((n / 2 : Nat) : Int) by omega]
      by_cases h1 : (n : Int) % 2 = 1
      · rw [if_pos h1, if_pos (by omega), if_pos (by omega)]
        obtain ⟨t, e, ht⟩ := ih (n / 2) (by omega) k (s ++ s) (out ++ s) (by omega) (by rw [hz, ByteArray.size_append, hh]; have : (n / 2 * 2) * s.size + s.size = n * s.size := by rw [← Nat.succ_mul]; congr 1; omega
                                                                                        omega) (by omega)
        refine ⟨t, e, ?_⟩
        rw [ht, hz, ByteArray.size_append, hh, Nat.add_assoc, Nat.add_comm s.size, ← Nat.succ_mul]
        congr 2; omega
      · rw [if_neg h1, if_pos (by omega)]
        obtain ⟨t, e, ht⟩ := ih (n / 2) (by omega) k (s ++ s) out (by omega) (by rw [hz, hh]; omega) (by omega)
        refine ⟨t, e, ?_⟩
        rw [ht, hz, hh]
        congr 2; omega
theorem many (s : ByteArray) (n : Nat) (k : Nat) (hk : n < k) (hb : n * s.size ≤ 1000000000000) (hn : n ≤ 1000000) : ∃ t, spec_l1Many.f k s (n : Int) = some t ∧ t.size = n * s.size := by
  unfold spec_l1Many.f
  have z0 : (⟨#[]⟩ : ByteArray).size = 0 := rfl
  obtain ⟨t, e, ht⟩ := many_loop n k s ⟨#[]⟩ hk (by rw [z0]; omega) hn
  exact ⟨t, e, by rw [ht, z0]; omega⟩

theorem bytes_loop (d : Nat) : ∀ (k : Nat) (n sz i : Int) (l : List Int), sz - i = d → d < k → 0 ≤ i → sz ≤ 1000000 → (l.length : Int) = i → ∃ t, spec_l1Bytes.l0 k n sz l i = some t ∧ (t.size : Int) = sz := by
  induction d with
  | zero =>
    intro k n sz i l hd hk hi hs hl
    obtain ⟨k, rfl⟩ : ∃ m, k = m + 1 := ⟨k - 1, by omega⟩
    rw [spec_l1Bytes.l0, if_neg (by omega)]
    exact ⟨_, rfl, by rw [size_strOfNums]; omega⟩
  | succ d ih =>
    intro k n sz i l hd hk hi hs hl
    obtain ⟨k, rfl⟩ : ∃ m, k = m + 1 := ⟨k - 1, by omega⟩
    rw [spec_l1Bytes.l0, if_pos (by omega), if_pos (by omega), w64 (x := i + 1) (by omega) (by omega)]
    exact ih k _ sz (i + 1) _ (by omega) (by omega) (by omega) hs (by rw [List.length_append]; simp; omega)
theorem bytes_ (n : Int) (sz : Nat) (k : Nat) (hk : sz < k) (hs : sz ≤ 1000000) : ∃ t, spec_l1Bytes.f k n (sz : Int) = some t ∧ t.size = sz := by
  unfold spec_l1Bytes.f
  obtain ⟨t, e, ht⟩ := bytes_loop sz k n sz 0 [] (by omega) hk (by omega) (by omega) (by simp)
  exact ⟨t, e, by omega⟩

theorem word_ {b : List Int} {p c : Int} (h : Rd b p c) (hc : 3 ≤ c) (k : Nat) (hk : 20 ≤ k) : ∃ x, spec_l13Word.f k b p = some (x, p + 3) ∧ x.size = 8 := by
  obtain ⟨t1, e1, s1⟩ := many ⟨#[0]⟩ 8 k (by omega) (by simp [ByteArray.size]) (by omega)
  obtain ⟨t3, e3, s3⟩ := many ⟨#[0]⟩ 7 k (by omega) (by simp [ByteArray.size]) (by omega)
  obtain ⟨t4, e4, s4⟩ := many ⟨#[255]⟩ 8 k (by omega) (by simp [ByteArray.size]) (by omega)
  have z1 : t1.size = 8 := by rw [s1]; rfl
  have z3 : t3.size = 7 := by rw [s3]; rfl
  have z4 : t4.size = 8 := by rw [s4]; rfl
  obtain ⟨v1, g1, _⟩ := pick h (by omega) 256 k (by omega)
  obtain ⟨v2, g2, _⟩ := pick (h.at (p' := p + 1) (c' := c - 1) (by omega) (by omega)) (by omega) 256 k (by omega)
  obtain ⟨t5, e5, z5⟩ := bytes_ (wrap64 ((wrap64 (v1 * 256)) + v2)) 8 k (by omega) (by omega)
  unfold spec_l13Word.f
  rw [show (8 : Int) = ((8 : Nat) : Int) from rfl, show (7 : Int) = ((7 : Nat) : Int) from rfl, e1, Option.bind_some, Option.bind_some, e3, Option.bind_some, if_pos (by omega), e4, Option.bind_some, g1, Option.bind_some, g2, Option.bind_some, e5, Option.bind_some]
  obtain ⟨x, hx, e⟩ := of_ (h.at (p' := p + 1 + 1) (c' := c - 2) (by omega) (by omega)) (by omega) [t1, t1, (⟨#[1]⟩ : ByteArray) ++ t3, t4, (⟨#[97, 98, 99, 100, 101, 102, 103, 104]⟩ : ByteArray), (⟨#[0, 0, 97, 0, 0, 0, 98, 0]⟩ : ByteArray), (⟨#[97, 98, 99, 0, 101, 102, 103, 104]⟩ : ByteArray), t5] (by simp) k (by omega)
  rw [e]
  refine ⟨x, ?_, ?_⟩
  · simp; omega
  · simp only [List.mem_cons, List.mem_nil_iff, or_false] at hx
    rcases hx with rfl | rfl | rfl | rfl | rfl | rfl | rfl | rfl
    · exact z1
    · exact z1
    · rw [ByteArray.size_append, z3]; rfl
    · exact z4
    · rfl
    · rfl
    · rfl
    · exact z5
theorem words_loop (n : Nat) : ∀ (k : Nat) (b : List Int) (p c : Int) (out : ByteArray), Rd b p c → 3 * (n : Int) ≤ c → n + 20 < k → out.size + 8 * n ≤ 10000000 → ∃ t, spec_l13Words.l0 k out (n : Int) b p = some (t, p + 3 * n) ∧ t.size = out.size + 8 * n := by
  induction n with
  | zero =>
    intro k b p c out h hc hk ho
    obtain ⟨k, rfl⟩ : ∃ m, k = m + 1 := ⟨k - 1, by omega⟩
    rw [spec_l13Words.l0, if_neg (by decide)]
    exact ⟨out, by simp, by omega⟩
  | succ n ih =>
    intro k b p c out h hc hk ho
    obtain ⟨k, rfl⟩ : ∃ m, k = m + 1 := ⟨k - 1, by omega⟩
    obtain ⟨x, e, hx⟩ := word_ h (by omega) k (by omega)
    have hz : (out ++ x).size = out.size + 8 := by rw [ByteArray.size_append, hx]
    obtain ⟨t, e2, ht⟩ := ih k b (p + 3) (c - 3) (out ++ x) (h.at (by omega) (by omega)) (by omega) (by omega) (by omega)
    rw [spec_l13Words.l0, if_pos (by omega), e, Option.bind_some]
    dsimp only
    rw [if_pos (by omega), w64 (x := ((n + 1 : Nat) : Int) - 1) (by omega) (by omega), show ((n + 1 : Nat) : Int) - 1 = (n : Int) by omega, e2]
    exact ⟨t, by congr 2; omega, by omega⟩
theorem words_ {b : List Int} {p c : Int} (h : Rd b p c) (most : Nat) (hm : most ≤ 1000) (hc : 3 * (most : Int) + 1 ≤ c) (k : Nat) (hk : most + 20 < k) : ∃ t p', spec_l13Words.f k b p (most : Int) = some (t, p') ∧ p ≤ p' ∧ p' ≤ p + 3 * most + 1 ∧ t.size ≤ 8 * most ∧ t.size % 8 = 0 := by
  obtain ⟨v, e, h0, h1, _⟩ := pick h (by omega) ((most : Int) + 1) k (by omega)
  have hv := h1 (by omega)
  obtain ⟨n, rfl⟩ := Int.eq_ofNat_of_zero_le h0
  have z0 : (⟨#[]⟩ : ByteArray).size = 0 := rfl
  obtain ⟨t, e2, ht⟩ := words_loop n k b (p + 1) (c - 1) ⟨#[]⟩ (h.at (by omega) (by omega)) (by omega) (by omega) (by rw [z0]; omega)
  unfold spec_l13Words.f
  rw [w64 (x := (most : Int) + 1) (by omega) (by omega), e, Option.bind_some]
  dsimp only
  rw [e2]
  exact ⟨t, _, rfl, by omega, by omega, by omega, by omega⟩

/-- Segments: so many at most, of whole words, so long at most. -/
def Segs (l : List ByteArray) (n m : Nat) : Prop := l.length ≤ n ∧ ∀ x ∈ l, x.size ≤ m ∧ x.size % 8 = 0
theorem segs_loop (n : Nat) : ∀ (k : Nat) (b : List Int) (p c : Int) (l : List ByteArray) (j : Nat), Rd b p c → 10 * (n : Int) ≤ c → n + 40 < k → Segs l j 32 → j + n ≤ 1000 → ∃ t p', spec_l13Segs.l0 k l (n : Int) b p = some (t, p') ∧ p ≤ p' ∧ p' ≤ p + 10 * n ∧ Segs t (j + n) 32 := by
  induction n with
  | zero =>
    intro k b p c l j h hc hk hl hj
    obtain ⟨k, rfl⟩ : ∃ m, k = m + 1 := ⟨k - 1, by omega⟩
    rw [spec_l13Segs.l0, if_neg (by decide)]
    exact ⟨l, p, rfl, by omega, by omega, hl⟩
  | succ n ih =>
    intro k b p c l j h hc hk hl hj
    obtain ⟨k, rfl⟩ : ∃ m, k = m + 1 := ⟨k - 1, by omega⟩
    obtain ⟨x, p1, e, h1, h2, h3, h4⟩ := words_ h 3 (by omega) (by omega) k (by omega)
    have hl2 : Segs (l ++ [x]) (j + 1) 32 := ⟨by rw [List.length_append]; have := hl.1; simp; omega, fun y hy => by
      rw [List.mem_append] at hy
      rcases hy with hy | hy
      · exact hl.2 y hy
      · simp at hy; subst hy; exact ⟨by omega, h4⟩⟩
    obtain ⟨t, p2, e2, g1, g2, g3⟩ := ih k b p1 (c - 10) (l ++ [x]) (j + 1) (h.at (by omega) (by omega)) (by omega) (by omega) hl2 (by omega)
    rw [spec_l13Segs.l0, if_pos (by omega), show (3 : Int) = ((3 : Nat) : Int) from rfl, e, Option.bind_some]
    dsimp only
    rw [if_pos (by have := hl.1; omega), w64 (x := ((n + 1 : Nat) : Int) - 1) (by omega) (by omega), show ((n + 1 : Nat) : Int) - 1 = (n : Int) by omega, e2]
    exact ⟨t, p2, rfl, by omega, by omega, by rw [show j + (n + 1) = j + 1 + n by omega]; exact g3⟩
theorem segs_ {b : List Int} {p c : Int} (h : Rd b p c) (hc : 60 ≤ c) (k : Nat) (hk : 60 < k) : ∃ t p', spec_l13Segs.f k b p = some (t, p') ∧ p ≤ p' ∧ p' ≤ p + 60 ∧ Segs t 4 32 := by
  obtain ⟨x, p1, e, h1, h2, h3, h4⟩ := words_ h 4 (by omega) (by omega) k (by omega)
  obtain ⟨v, e1, g0, g1, _⟩ := pick (h.at (p' := p1) (c' := c - 13) (by omega) (by omega)) (by omega) 4 k (by omega)
  have hv := g1 (by omega)
  obtain ⟨n, rfl⟩ := Int.eq_ofNat_of_zero_le g0
  have hl : Segs [x] 1 32 := ⟨by simp, fun y hy => by simp at hy; subst hy; exact ⟨by omega, h4⟩⟩
  obtain ⟨t, p2, e2, f1, f2, f3⟩ := segs_loop n k b (p1 + 1) (c - 14) [x] 1 (h.at (by omega) (by omega)) (by omega) (by omega) hl (by omega)
  unfold spec_l13Segs.f
  rw [show (4 : Int) = ((4 : Nat) : Int) from rfl, e, Option.bind_some]
  dsimp only
  rw [show (((4 : Nat) : Int)) = 4 from rfl, e1, Option.bind_some]
  dsimp only
  rw [e2]
  exact ⟨t, p2, rfl, by omega, by omega, ⟨by have := f3.1; omega, f3.2⟩⟩

/-! ### frames that are put -/
def wds (l : List ByteArray) : Int := (l.map fun x => (x.size : Int) / 8).sum
def okF (l : List ByteArray) : Bool := l.all (fun x => decide (x.size % 8 = 0)) && (decide (1 ≤ l.length ∧ l.length ≤ 6) && decide (wds l ≤ 200))
theorem wds_nonneg (l : List ByteArray) : 0 ≤ wds l := by
  induction l with
  | nil => simp [wds]
  | cons x l ih => simp only [wds, List.map_cons, List.sum_cons] at ih ⊢; omega
theorem wds_cons (x : ByteArray) (l : List ByteArray) : wds (x :: l) = (x.size : Int) / 8 + wds l := by simp [wds]
theorem rdOf_get (l : List ByteArray) (i : Nat) (h : i < l.length) : rdOf ByteArray.empty l (i : Int) = l[i] := by
  unfold rdOf; rw [Int.toNat_natCast, List.getD_eq_getElem?_getD, List.getElem?_eq_getElem h, Option.getD_some]
theorem spec_okl (l : List ByteArray) (hl : l.length ≤ 1000000) (hw : wds l ≤ 1000000000000) (d : Nat) : ∀ (k i : Nat) (a : Int), i + d = l.length → d < k → 0 ≤ a → a + wds (l.drop i) ≤ 1000000000000 →
    spec_FrameOk.l0 k l a (i : Int) = some ((l.drop i).all (fun x => decide (x.size % 8 = 0)) && (decide (1 ≤ l.length ∧ l.length ≤ 6) && decide (a + wds (l.drop i) ≤ 200))) := by
  induction d with
  | zero =>
    intro k i a hi hk ha hb
    obtain ⟨k, rfl⟩ : ∃ m, k = m + 1 := ⟨k - 1, by omega⟩
    rw [spec_FrameOk.l0, if_neg (by omega), List.drop_of_length_le (by omega)]
    unfold spec_l1In.f
    by_cases h1 : (l.length : Int) ≥ 1
    · rw [if_pos h1]
      by_cases h2 : (l.length : Int) ≤ 6
      · simp [h2, wds]; omega
      · simp [h2]; omega
    · rw [if_neg h1]; simp; omega
  | succ d ih =>
    intro k i a hi hk ha hb
    obtain ⟨k, rfl⟩ : ∃ m, k = m + 1 := ⟨k - 1, by omega⟩
    have hlt : i < l.length := by omega
    have hn := wds_nonneg (l.drop (i + 1))
    rw [List.drop_eq_getElem_cons hlt, wds_cons] at hb
    rw [spec_FrameOk.l0, if_pos (by omega), if_pos (by omega), rdOf_get l i hlt, List.drop_eq_getElem_cons hlt, wds_cons]
    by_cases h8 : ((l[i].size : Int) % 8) = 0
    · rw [if_pos h8, w64 (x := (l[i].size : Int) / 8) (by omega) (by omega), w64 (by omega) (by omega), w64 (x := (i : Int) + 1) (by omega) (by omega)]
      have := ih k (i + 1) (a + (l[i].size : Int) / 8) (by omega) (by omega) (by omega) (by omega)
      rw [show ((i + 1 : Nat) : Int) = (i : Int) + 1 by omega] at this
      rw [this, List.all_cons, decide_eq_true (show l[i].size % 8 = 0 by omega), Bool.true_and, Int.add_assoc]
    · rw [if_neg h8, List.all_cons, decide_eq_false (show ¬ l[i].size % 8 = 0 by omega)]; simp
theorem spec_okF (l : List ByteArray) (hl : l.length ≤ 1000000) (hw : wds l ≤ 1000000000000) (k : Nat) (hk : l.length < k) : spec_FrameOk.f k l = some (okF l) := by
  unfold spec_FrameOk.f okF
  have := spec_okl l hl hw l.length k 0 0 (by omega) hk (by omega) (by rw [List.drop_zero]; omega)
  rw [List.drop_zero, Int.zero_add] at this
  exact this

def le4 (n : Int) : ByteArray := strOfNums [n % 256, n / 256 % 256, n / 256 / 256 % 256, n / 256 / 256 / 256 % 256]
theorem le4_size (n : Int) : (le4 n).size = 4 := by unfold le4; rw [size_strOfNums]; rfl
theorem bytes4 (n : Int) (k : Nat) (hk : 5 ≤ k) : spec_l1Bytes.f k n 4 = some (le4 n) := by
  obtain ⟨k, rfl⟩ : ∃ m, k = m + 5 := ⟨k - 5, by omega⟩
  unfold spec_l1Bytes.f
  rw [spec_l1Bytes.l0, if_pos (by decide), if_pos (by simp), w64 (x := (0 : Int) + 1) (by omega) (by omega), spec_l1Bytes.l0, if_pos (by decide), if_pos (by simp), w64 (x := (0 : Int) + 1 + 1) (by omega) (by omega), spec_l1Bytes.l0, if_pos (by decide), if_pos (by simp), w64 (x := (0 : Int) + 1 + 1 + 1) (by omega) (by omega),
    spec_l1Bytes.l0, if_pos (by decide), if_pos (by simp), w64 (x := (0 : Int) + 1 + 1 + 1 + 1) (by omega) (by omega), spec_l1Bytes.l0, if_neg (by decide)]
  rfl
def heads (l : List ByteArray) (a : ByteArray) : ByteArray := l.foldl (fun a x => a ++ le4 ((x.size : Int) / 8)) a
def cat (l : List ByteArray) (a : ByteArray) : ByteArray := l.foldl (fun a x => a ++ x) a
def fill (a : ByteArray) : ByteArray := if (a.size : Int) % 8 = 0 then a else a ++ le4 0
def putG (l : List ByteArray) : ByteArray := if okF l = true then cat l (fill (heads l (le4 ((l.length : Int) - 1)))) else ⟨#[]⟩
theorem heads_size (l : List ByteArray) : ∀ a, (heads l a).size = a.size + 4 * l.length := by
  induction l with
  | nil => intro a; simp [heads]
  | cons x l ih => intro a; rw [heads, List.foldl_cons]; rw [show List.foldl (fun a x => a ++ le4 ((x.size : Int) / 8)) (a ++ le4 ((x.size : Int) / 8)) l = heads l (a ++ le4 ((x.size : Int) / 8)) from rfl, ih, ByteArray.size_append, le4_size, List.length_cons]; omega
theorem cat_size (l : List ByteArray) (h : l.all (fun x => decide (x.size % 8 = 0)) = true) : ∀ a, ((cat l a).size : Int) = a.size + 8 * wds l := by
  induction l with
  | nil => intro a; simp [cat, wds]
  | cons x l ih =>
    intro a
    rw [List.all_cons, Bool.and_eq_true, decide_eq_true_eq] at h
    rw [cat, List.foldl_cons, show List.foldl (fun a x => a ++ x) (a ++ x) l = cat l (a ++ x) from rfl, ih h.2, ByteArray.size_append, wds_cons]; omega
theorem fill_size (a : ByteArray) : (fill a).size ≤ a.size + 4 := by
  unfold fill
  split
  · omega
  · rw [ByteArray.size_append, le4_size]; omega
theorem putG_size (l : List ByteArray) : (putG l).size ≤ 1640 := by
  unfold putG
  by_cases h : okF l = true
  · rw [if_pos h]
    unfold okF at h
    simp only [Bool.and_eq_true, decide_eq_true_eq] at h
    have h1 := cat_size l h.1 (fill (heads l (le4 ((l.length : Int) - 1))))
    have h2 := fill_size (heads l (le4 ((l.length : Int) - 1)))
    have h3 := heads_size l (le4 ((l.length : Int) - 1))
    rw [le4_size] at h3
    omega
  · rw [if_neg h]; exact Nat.zero_le _
theorem put_heads (l : List ByteArray) (hl : l.length ≤ 6) (hw : wds l ≤ 200) (d : Nat) : ∀ (k i : Nat) (a : ByteArray), i + d = l.length → d + 20 ≤ k → a.size ≤ 4 + 4 * i →
    spec_FramePut.l0 k l a (i : Int) = spec_FramePut.j1 (k - d - 1) l (fill (heads (l.drop i) a)) := by
  induction d with
  | zero =>
    intro k i a hi hk ha
    obtain ⟨k, rfl⟩ : ∃ m, k = m + 1 := ⟨k - 1, by omega⟩
    rw [spec_FramePut.l0, if_neg (by omega), List.drop_of_length_le (by omega), bytes4 0 k (by omega)]
    unfold fill heads
    rw [List.foldl_nil]
    by_cases h : (a.size : Int) % 8 = 0
    · rw [if_pos h, if_pos h]; rfl
    · rw [if_neg h, if_neg h, Option.bind_some, if_pos (by rw [le4_size]; omega)]; rfl
  | succ d ih =>
    intro k i a hi hk ha
    obtain ⟨k, rfl⟩ : ∃ m, k = m + 1 := ⟨k - 1, by omega⟩
    have hlt : i < l.length := by omega
    have hx : 0 ≤ (l[i].size : Int) / 8 ∧ (l[i].size : Int) / 8 ≤ 200 := by
      have h1 : wds l = wds (l.take i) + wds (l.drop i) := by unfold wds; rw [← List.sum_append, ← List.map_append, List.take_append_drop]
      have h2 := wds_nonneg (l.take i)
      have h3 := wds_nonneg (l.drop (i + 1))
      rw [List.drop_eq_getElem_cons hlt, wds_cons] at h1
      omega
    rw [spec_FramePut.l0, if_pos (by omega), if_pos (by omega), rdOf_get l i hlt, w64 (x := (l[i].size : Int) / 8) (by omega) (by omega), bytes4 _ k (by omega), Option.bind_some, if_pos (by rw [le4_size]; omega), w64 (x := (i : Int) + 1) (by omega) (by omega)]
    have := ih k (i + 1) (a ++ le4 ((l[i].size : Int) / 8)) (by omega) (by omega) (by rw [ByteArray.size_append, le4_size]; omega)
    rw [show ((i + 1 : Nat) : Int) = (i : Int) + 1 by omega] at this
    rw [this, List.drop_eq_getElem_cons hlt, show k + 1 - (d + 1) - 1 = k - d - 1 by omega]
    rfl
theorem put_cat (l : List ByteArray) (hl : l.length ≤ 6) (hw : ∀ x ∈ l, x.size ≤ 2000000) (d : Nat) : ∀ (k i : Nat) (a : ByteArray), i + d = l.length → d < k → a.size ≤ 100000000 + 2000000 * i →
    spec_FramePut.l1 k l a (i : Int) = some (cat (l.drop i) a) := by
  induction d with
  | zero =>
    intro k i a hi hk ha
    obtain ⟨k, rfl⟩ : ∃ m, k = m + 1 := ⟨k - 1, by omega⟩
    rw [spec_FramePut.l1, if_neg (by omega), List.drop_of_length_le (by omega)]; rfl
  | succ d ih =>
    intro k i a hi hk ha
    obtain ⟨k, rfl⟩ : ∃ m, k = m + 1 := ⟨k - 1, by omega⟩
    have hlt : i < l.length := by omega
    have hx := hw l[i] (List.getElem_mem hlt)
    rw [spec_FramePut.l1, if_pos (by omega), if_pos (by omega), rdOf_get l i hlt, if_pos (by omega), w64 (x := (i : Int) + 1) (by omega) (by omega)]
    have := ih k (i + 1) (a ++ l[i]) (by omega) (by omega) (by rw [ByteArray.size_append]; omega)
    rw [show ((i + 1 : Nat) : Int) = (i : Int) + 1 by omega] at this
    rw [this, List.drop_eq_getElem_cons hlt]; rfl
theorem wds_mem {l : List ByteArray} {x : ByteArray} (h : x ∈ l) : (x.size : Int) / 8 ≤ wds l := by
  induction l with
  | nil => cases h
  | cons y l ih =>
    have h2 := wds_nonneg l
    rw [wds_cons]
    rcases List.mem_cons.1 h with rfl | h
    · omega
    · have := ih h; omega
theorem spec_put (l : List ByteArray) (hl : l.length ≤ 1000000) (hw : wds l ≤ 1000000000000) (k : Nat) (hk : l.length + 40 < k) : spec_FramePut.f k l = some (putG l) := by
  unfold spec_FramePut.f putG
  rw [spec_okF l hl hw k (by omega), Option.bind_some]
  cases h : okF l
  · rfl
  · rw [if_pos rfl, if_pos rfl]
    unfold okF at h
    simp only [Bool.and_eq_true, decide_eq_true_eq] at h
    have hm : ∀ x ∈ l, x.size ≤ 2000000 := fun x hx => by have := wds_mem hx; omega
    have hz := fill_size (heads l (le4 ((l.length : Int) - 1)))
    have h3 := heads_size l (le4 ((l.length : Int) - 1))
    rw [le4_size] at h3
    rw [w64 (x := (l.length : Int) - 1) (by omega) (by omega), bytes4 _ k (by omega), Option.bind_some]
    have := put_heads l (by omega) (by omega) l.length k 0 (le4 ((l.length : Int) - 1)) (by omega) (by omega) (by rw [le4_size]; omega)
    rw [List.drop_zero] at this
    rw [show ((0 : Nat) : Int) = 0 from rfl] at this
    rw [this]
    obtain ⟨j, hj⟩ : ∃ j, k - l.length - 1 = j + 1 := ⟨k - l.length - 2, by omega⟩
    rw [hj, spec_FramePut.j1]
    have := put_cat l (by omega) hm l.length j 0 (fill (heads l (le4 ((l.length : Int) - 1)))) (by omega) (by omega) (by omega)
    rw [List.drop_zero] at this
    exact this
theorem Segs.wds {l : List ByteArray} {n m : Nat} (h : Segs l n m) : l.length ≤ n ∧ Q.wds l ≤ (n : Int) * m := by
  refine ⟨h.1, ?_⟩
  have key : ∀ l : List ByteArray, (∀ x ∈ l, x.size ≤ m) → Q.wds l ≤ (l.length : Int) * m := by
    intro l
    induction l with
    | nil => intro _; simp [Q.wds]
    | cons x l ih =>
      intro hx
      have h1 := hx x (by simp)
      have h2 := ih (fun y hy => hx y (by simp [hy]))
      rw [wds_cons, List.length_cons, Int.natCast_add, Int.add_mul]
      omega
  have h1 := key l (fun x hx => (h.2 x hx).1)
  have h2 : (l.length : Int) * m ≤ (n : Int) * m := Int.mul_le_mul_of_nonneg_right (by have := h.1; omega) (by omega)
  omega
end Go.Proofs.YtfkjjmhbljlbkaaDoor.Q
