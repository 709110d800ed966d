/- A frame that is put is got, whatever stands behind it. -/
import Derived.Test.YtfkjjmhbljlbkaaDoorQAnyFnPipeAll
namespace Go.Proofs.YtfkjjmhbljlbkaaDoor.Q
open Go.RowKit Go.Proofs.YtfkjjmhbljlbkaaDoor.P Go.Proofs.YtfkjjmhbljlbkaaDoorW.PrintWords Go.Proofs.YtfkjjmhbljlbkaaDoorW.PrintLast Go.Proofs.YtfkjjmhbljlbkaaDoorW.PrintMore
set_option linter.unusedVariables false
set_option linter.unusedSimpArgs false

/-! ### bytes of a sum -/
theorem bt_mid (p x q : ByteArray) (i : Int) (h0 : 0 ≤ i) (h : i < x.size) : bt (p ++ (x ++ q)) (p.size + i) = bt x i := by
  have e : ((p.size : Int) + i).toNat = p.data.toList.length + i.toNat := by rw [size_data]; omega
  rw [bt_data, bt_data, data_append, data_append, e, List.getD_eq_getElem?_getD, List.getD_eq_getElem?_getD, List.getElem?_append_right (by omega), Nat.add_sub_cancel_left, List.getElem?_append_left (by rw [size_data]; omega)]
theorem ext_mid (p x q : ByteArray) (i j : Nat) (hi : i = p.size) (hj : j = p.size + x.size) : (p ++ (x ++ q)).extract i j = x := by
  subst hi hj
  apply ext_ba
  rw [data_extract, data_append, data_append, List.take_append, size_data, Nat.add_sub_cancel_left, List.take_of_length_le (l := p.data.toList) (by rw [size_data]; omega), List.drop_append_of_le_length (by rw [size_data]; exact Nat.le_refl _), List.drop_of_length_le (by rw [size_data]; exact Nat.le_refl _), List.nil_append, List.take_append_of_le_length (by rw [size_data]; exact Nat.le_refl _), List.take_of_length_le (by rw [size_data]; exact Nat.le_refl _)]
theorem le4_bt (n : Int) (h0 : 0 ≤ n) (h1 : n ≤ 4294967295) : bt (le4 n) 0 = n % 256 ∧ bt (le4 n) 1 = n / 256 % 256 ∧ bt (le4 n) 2 = n / 256 / 256 % 256 ∧ bt (le4 n) 3 = n / 256 / 256 / 256 % 256 := by
  have key : ∀ a b c d : Int, 0 ≤ a → a < 256 → 0 ≤ b → b < 256 → 0 ≤ c → c < 256 → 0 ≤ d → d < 256 → bt (strOfNums [a, b, c, d]) 0 = a ∧ bt (strOfNums [a, b, c, d]) 1 = b ∧ bt (strOfNums [a, b, c, d]) 2 = c ∧ bt (strOfNums [a, b, c, d]) 3 = d := by
    intro a b c d a0 a1 b0 b1 c0 c1 d0 d1
    refine ⟨?_, ?_, ?_, ?_⟩ <;> (rw [bt_data]; simp [strOfNums]; omega)
  unfold le4
  exact key _ _ _ _ (by omega) (by omega) (by omega) (by omega) (by omega) (by omega) (by omega) (by omega)
theorem by4_mid (p q : ByteArray) (n : Int) (h0 : 0 ≤ n) (h1 : n ≤ 4294967295) (a : Int) (ha : a = p.size) : by4 (p ++ (le4 n ++ q)) a = n := by
  subst ha
  obtain ⟨b0, b1, b2, b3⟩ := le4_bt n h0 h1
  have hz : (le4 n).size = 4 := le4_size n
  have e := bt_mid p (le4 n) q 0 (by omega) (by omega)
  rw [Int.add_zero] at e
  unfold by4
  rw [bt_mid p (le4 n) q 3 (by omega) (by omega), bt_mid p (le4 n) q 2 (by omega) (by omega), bt_mid p (le4 n) q 1 (by omega) (by omega), e, b0, b1, b2, b3]
  omega

/-! ### the program's putting -/
theorem bytes4i (n : Int) (h0 : 0 ≤ n) (h1 : n ≤ 1000000000000) (k : Nat) (hk : 5 ≤ k) : impl_bytesOf.f k n 4 = some (le4 n) := by
  obtain ⟨k, rfl⟩ : ∃ m, k = m + 5 := ⟨k - 5, by omega⟩
  have s : ∀ i j : Int, wrap64 (8 * j) = i → 0 ≤ i → i ≤ 24 → shr .u64 (IntKind.u64.wrap n) (wrap64 (8 * j)) = n / 2 ^ i.toNat := by
    intro i j e hi hi1
    rw [e]
    unfold shr
    rw [wu64 h0 (by omega), show min i.toNat IntKind.u64.bits = i.toNat from Nat.min_eq_left (by show i.toNat ≤ 64; omega)]
  unfold impl_bytesOf.f
  rw [if_pos (by decide), if_pos (by decide), Option.bind_some]
  rw [show List.replicate (4 : Int).toNat (0 : Int) = [0, 0, 0, 0] from rfl, show ((([0, 0, 0, 0] : List Int).length : Nat) : Int) = 4 from rfl]
  have e0 : wrap64 (8 * 0) = 0 := (w64 (by omega) (by omega)).trans (by decide)
  have e1 : wrap64 (8 * 1) = 8 := (w64 (by omega) (by omega)).trans (by decide)
  have e2 : wrap64 (8 * 2) = 16 := (w64 (by omega) (by omega)).trans (by decide)
  have e3 : wrap64 (8 * 3) = 24 := (w64 (by omega) (by omega)).trans (by decide)
  have i0 : wrap64 (0 + 1) = 1 := (w64 (by omega) (by omega)).trans (by decide)
  have i1 : wrap64 (1 + 1) = 2 := (w64 (by omega) (by omega)).trans (by decide)
  have i2 : wrap64 (2 + 1) = 3 := (w64 (by omega) (by omega)).trans (by decide)
  have i3 : wrap64 (3 + 1) = 4 := (w64 (by omega) (by omega)).trans (by decide)
  rw [impl_bytesOf.l0, if_pos (by decide), if_pos (by rw [e0]; decide), if_pos (by decide), if_pos (by decide), s 0 0 e0 (by decide) (by decide), i0,
    impl_bytesOf.l0, if_pos (by decide), if_pos (by rw [e1]; decide), if_pos (by decide), if_pos (by simp), s 8 1 e1 (by decide) (by decide), i1,
    impl_bytesOf.l0, if_pos (by decide), if_pos (by rw [e2]; decide), if_pos (by decide), if_pos (by simp), s 16 2 e2 (by decide) (by decide), i2,
    impl_bytesOf.l0, if_pos (by decide), if_pos (by rw [e3]; decide), if_pos (by decide), if_pos (by simp), s 24 3 e3 (by decide) (by decide), i3,
    impl_bytesOf.l0, if_neg (by decide)]
  unfold le4
  congr 2
  show [n / 2 ^ 0 % 256, n / 2 ^ 8 % 256, n / 2 ^ 16 % 256, n / 2 ^ 24 % 256] = _
  rw [show n / 2 ^ 0 = n from by omega, show n / 2 ^ 8 = n / 256 from by omega, show n / 2 ^ 16 = n / 256 / 256 from by omega, show n / 2 ^ 24 = n / 256 / 256 / 256 from by omega]
theorem impl_okl (l : List ByteArray) (hl : l.length ≤ 1000000) (hw : wds l ≤ 1000000000000) (d : Nat) : ∀ (k i : Nat) (a : Int), i + d = l.length → d < k → 0 ≤ a → a + wds (l.drop i) ≤ 1000000000000 →
    impl_FrameOk.l0 k l a l (l.length : Int) (i : Int) = some ((l.drop i).all (fun x => decide (x.size % 8 = 0)) && (decide (1 ≤ l.length ∧ l.length ≤ 6) && decide (a + wds (l.drop i) ≤ 200))) := by
  induction d with
  | zero =>
    intro k i a hi hk ha hb
    obtain ⟨k, rfl⟩ : ∃ m, k = m + 1 := ⟨k - 1, by omega⟩
    rw [impl_FrameOk.l0, if_neg (by omega), List.drop_of_length_le (by omega)]
    unfold impl_in.f
    by_cases h1 : (l.length : Int) ≥ 1
    · rw [if_pos h1]
      by_cases h2 : (l.length : Int) ≤ 6
      · simp [h2, wds]; omega
      · simp [h2]; omega
    · rw [if_neg h1]; simp; omega
  | succ d ih =>
    intro k i a hi hk ha hb
    obtain ⟨k, rfl⟩ : ∃ m, k = m + 1 := ⟨k - 1, by omega⟩
    have hlt : i < l.length := by omega
    have hn := wds_nonneg (l.drop (i + 1))
    rw [List.drop_eq_getElem_cons hlt, wds_cons] at hb
    rw [impl_FrameOk.l0, if_pos (by omega), if_pos (by omega), if_pos (by omega), rdOf_get l i hlt, List.drop_eq_getElem_cons hlt, wds_cons]
    by_cases h8 : ((l[i].size : Int) % 8) = 0
    · rw [if_pos h8, w64 (x := (l[i].size : Int) / 8) (by omega) (by omega), w64 (by omega) (by omega), w64 (x := (i : Int) + 1) (by omega) (by omega)]
      have := ih k (i + 1) (a + (l[i].size : Int) / 8) (by omega) (by omega) (by omega) (by omega)
      rw [show ((i + 1 : Nat) : Int) = (i : Int) + 1 by omega] at this
      rw [this, List.all_cons, decide_eq_true (show l[i].size % 8 = 0 by omega), Bool.true_and, Int.add_assoc]
    · rw [if_neg h8, List.all_cons, decide_eq_false (show ¬ l[i].size % 8 = 0 by omega)]; simp
theorem impl_okF (l : List ByteArray) (hl : l.length ≤ 1000000) (hw : wds l ≤ 1000000000000) (k : Nat) (hk : l.length < k) : impl_FrameOk.f k l = some (okF l) := by
  unfold impl_FrameOk.f okF
  have := impl_okl l hl hw l.length k 0 0 (by omega) hk (by omega) (by rw [List.drop_zero]; omega)
  rw [List.drop_zero, Int.zero_add] at this
  exact this
theorem iput_heads (l : List ByteArray) (hl : l.length ≤ 6) (hw : wds l ≤ 200) (d : Nat) : ∀ (k i : Nat) (a : ByteArray), i + d = l.length → d + 20 ≤ k → a.size ≤ 4 + 4 * i →
    impl_FramePut.l0 k l a (i : Int) = impl_FramePut.j1 (k - d - 1) l (fill (heads (l.drop i) a)) := by
  induction d with
  | zero =>
    intro k i a hi hk ha
    obtain ⟨k, rfl⟩ : ∃ m, k = m + 1 := ⟨k - 1, by omega⟩
    rw [impl_FramePut.l0, if_neg (by omega), List.drop_of_length_le (by omega), bytes4i 0 (by omega) (by omega) k (by omega)]
    unfold fill heads
    rw [List.foldl_nil]
    by_cases h : (a.size : Int) % 8 = 0
    · rw [if_pos h, if_pos h]; rfl
    · rw [if_neg h, if_neg h, Option.bind_some, if_pos (by rw [le4_size]; omega)]; rfl
  | succ d ih =>
    intro k i a hi hk ha
    obtain ⟨k, rfl⟩ : ∃ m, k = m + 1 := ⟨k - 1, by omega⟩
    have hlt : i < l.length := by omega
    have hx : 0 ≤ (l[i].size : Int) / 8 ∧ (l[i].size : Int) / 8 ≤ 200 := by
      have h1 := wds_mem (List.getElem_mem hlt)
      omega
    rw [impl_FramePut.l0, if_pos (by omega), if_pos (by omega), rdOf_get l i hlt, w64 (x := (l[i].size : Int) / 8) (by omega) (by omega), bytes4i _ hx.1 (by omega) k (by omega), Option.bind_some, if_pos (by rw [le4_size]; omega), w64 (x := (i : Int) + 1) (by omega) (by omega)]
    have := ih k (i + 1) (a ++ le4 ((l[i].size : Int) / 8)) (by omega) (by omega) (by rw [ByteArray.size_append, le4_size]; omega)
    rw [show ((i + 1 : Nat) : Int) = (i : Int) + 1 by omega] at this
    rw [this, List.drop_eq_getElem_cons hlt, show k + 1 - (d + 1) - 1 = k - d - 1 by omega]
    rfl
theorem iput_cat (l : List ByteArray) (hl : l.length ≤ 6) (hw : ∀ x ∈ l, x.size ≤ 2000000) (d : Nat) : ∀ (k i : Nat) (a : ByteArray), i + d = l.length → d < k → a.size ≤ 100000000 + 2000000 * i →
    impl_FramePut.l1 k l a (i : Int) = some (cat (l.drop i) a) := by
  induction d with
  | zero =>
    intro k i a hi hk ha
    obtain ⟨k, rfl⟩ : ∃ m, k = m + 1 := ⟨k - 1, by omega⟩
    rw [impl_FramePut.l1, if_neg (by omega), List.drop_of_length_le (by omega)]; rfl
  | succ d ih =>
    intro k i a hi hk ha
    obtain ⟨k, rfl⟩ : ∃ m, k = m + 1 := ⟨k - 1, by omega⟩
    have hlt : i < l.length := by omega
    have hx := hw l[i] (List.getElem_mem hlt)
    rw [impl_FramePut.l1, if_pos (by omega), if_pos (by omega), rdOf_get l i hlt, if_pos (by omega), w64 (x := (i : Int) + 1) (by omega) (by omega)]
    have := ih k (i + 1) (a ++ l[i]) (by omega) (by omega) (by rw [ByteArray.size_append]; omega)
    rw [show ((i + 1 : Nat) : Int) = (i : Int) + 1 by omega] at this
    rw [this, List.drop_eq_getElem_cons hlt]; rfl
theorem impl_put (l : List ByteArray) (hl : l.length ≤ 1000000) (hw : wds l ≤ 1000000000000) (k : Nat) (hk : l.length + 40 < k) : impl_FramePut.f k l = some (putG l) := by
  unfold impl_FramePut.f putG
  rw [impl_okF l hl hw k (by omega), Option.bind_some]
  cases h : okF l
  · rfl
  · rw [if_pos rfl, if_pos rfl]
    unfold okF at h
    simp only [Bool.and_eq_true, decide_eq_true_eq] at h
    have hm : ∀ x ∈ l, x.size ≤ 2000000 := fun x hx => by have := wds_mem hx; omega
    have hz := fill_size (heads l (le4 ((l.length : Int) - 1)))
    have h3 := heads_size l (le4 ((l.length : Int) - 1))
    rw [le4_size] at h3
    rw [w64 (x := (l.length : Int) - 1) (by omega) (by omega), bytes4i _ (by omega) (by omega) k (by omega), Option.bind_some, if_pos (by rw [le4_size]; omega)]
    have := iput_heads l (by omega) (by omega) l.length k 0 (le4 ((l.length : Int) - 1)) (by omega) (by omega) (by rw [le4_size]; omega)
    rw [List.drop_zero] at this
    rw [show ((0 : Nat) : Int) = 0 from rfl] at this
    rw [this]
    obtain ⟨j, hj⟩ : ∃ j, k - l.length - 1 = j + 1 := ⟨k - l.length - 2, by omega⟩
    rw [hj, impl_FramePut.j1]
    have := iput_cat l (by omega) hm l.length j 0 (fill (heads l (le4 ((l.length : Int) - 1)))) (by omega) (by omega) (by omega)
    rw [List.drop_zero] at this
    exact this

/-! ### and getting it back -/
theorem heads_app (l : List ByteArray) : ∀ a, heads l a = a ++ heads l ⟨#[]⟩ := by
  induction l with
  | nil => intro a; exact (app_nil a).symm
  | cons x l ih =>
    intro a
    show heads l (a ++ le4 ((x.size : Int) / 8)) = a ++ heads l (⟨#[]⟩ ++ le4 ((x.size : Int) / 8))
    rw [ih (a ++ _), ih (⟨#[]⟩ ++ _), nil_app, app_assoc]
theorem cat_app (l : List ByteArray) : ∀ a, cat l a = a ++ cat l ⟨#[]⟩ := by
  induction l with
  | nil => intro a; exact (app_nil a).symm
  | cons x l ih =>
    intro a
    show cat l (a ++ x) = a ++ cat l (⟨#[]⟩ ++ x)
    rw [ih (a ++ _), ih (⟨#[]⟩ ++ _), nil_app, app_assoc]
theorem heads_cons (x : ByteArray) (l : List ByteArray) : heads (x :: l) ⟨#[]⟩ = le4 ((x.size : Int) / 8) ++ heads l ⟨#[]⟩ := by
  show heads l (⟨#[]⟩ ++ le4 ((x.size : Int) / 8)) = _
  rw [nil_app, heads_app]
theorem cat_cons (x : ByteArray) (l : List ByteArray) : cat (x :: l) ⟨#[]⟩ = x ++ cat l ⟨#[]⟩ := by
  show cat l (⟨#[]⟩ ++ x) = _
  rw [nil_app, cat_app]
theorem heads_two (l m : List ByteArray) : heads (l ++ m) ⟨#[]⟩ = heads l ⟨#[]⟩ ++ heads m ⟨#[]⟩ := by
  unfold heads
  rw [List.foldl_append]
  exact heads_app m _
theorem cuts_cat (l : List ByteArray) (h : l.all (fun x => decide (x.size % 8 = 0)) = true) : ∀ (p u : ByteArray) (a : Int), a = p.size → cuts (p ++ (cat l ⟨#[]⟩ ++ u)) a (l.map fun x => (x.size : Int) / 8) = l := by
  induction l with
  | nil => intro p u a _; rfl
  | cons x l ih =>
    intro p u a ha
    rw [List.all_cons, Bool.and_eq_true, decide_eq_true_eq] at h
    rw [List.map_cons, cuts, cat_cons, app_assoc, ext_mid p x (cat l ⟨#[]⟩ ++ u) _ _ (by omega) (by omega)]
    congr 1
    rw [← app_assoc]
    exact ih h.2 (p ++ x) u _ (by rw [ByteArray.size_append]; omega)
theorem szs_put (l : List ByteArray) (hw : wds l ≤ 200) (n0 : Int) (q : ByteArray) (n : Nat) : n ≤ l.length → szs (le4 n0 ++ (heads l ⟨#[]⟩ ++ q)) n = (l.take n).map fun x => (x.size : Int) / 8 := by
  induction n with
  | zero => intro _; rfl
  | succ n ih =>
    intro h
    have hlt : n < l.length := by omega
    have hx := wds_mem (List.getElem_mem hlt)
    rw [szs, ih (by omega), List.take_succ_eq_append_getElem hlt, List.map_append]
    congr 1
    have e : heads l ⟨#[]⟩ = heads (l.take n) ⟨#[]⟩ ++ (le4 ((l[n].size : Int) / 8) ++ heads (l.drop (n + 1)) ⟨#[]⟩) := by
      rw [← heads_cons, ← List.drop_eq_getElem_cons hlt, ← heads_two, List.take_append_drop]
    have hz := heads_size (l.take n) ⟨#[]⟩
    rw [List.length_take, show (⟨#[]⟩ : ByteArray).size = 0 from rfl] at hz
    have e2 : le4 n0 ++ (heads l ⟨#[]⟩ ++ q) = (le4 n0 ++ heads (l.take n) ⟨#[]⟩) ++ (le4 ((l[n].size : Int) / 8) ++ (heads (l.drop (n + 1)) ⟨#[]⟩ ++ q)) := by
      rw [e]; simp only [app_assoc]
    rw [e2, by4_mid _ _ _ (by omega) (by omega) _ (by rw [ByteArray.size_append, le4_size]; omega)]
    rfl
theorem allZ_le : allZ (le4 0) = true := by decide
theorem allZ_nil : allZ ⟨#[]⟩ = true := rfl
theorem frG_put (l : List ByteArray) (h : okF l = true) (u : ByteArray) : frG (putG l ++ u) = (l, ((putG l).size : Int)) := by
  have hok := h
  unfold okF at h
  simp only [Bool.and_eq_true, decide_eq_true_eq] at h
  obtain ⟨ha, ⟨hl1, hl6⟩, hw⟩ := h
  have hsz := heads_size l (le4 ((l.length : Int) - 1))
  rw [le4_size] at hsz
  have hv := hd_vals l.length hl6
  -- the head with its filling
  obtain ⟨P, hP, hPz, hPa⟩ : ∃ P, fill (heads l (le4 ((l.length : Int) - 1))) = le4 ((l.length : Int) - 1) ++ (heads l ⟨#[]⟩ ++ P) ∧ ((4 * (l.length + 1) + P.size : Nat) : Int) = hd l.length ∧ allZ P = true := by
    unfold fill
    by_cases h8 : ((heads l (le4 ((l.length : Int) - 1))).size : Int) % 8 = 0
    · rw [if_pos h8]
      refine ⟨⟨#[]⟩, by rw [app_nil, heads_app], ?_, allZ_nil⟩
      rw [show (⟨#[]⟩ : ByteArray).size = 0 from rfl]
      unfold hd; omega
    · rw [if_neg h8]
      refine ⟨le4 0, by rw [heads_app l (le4 _), app_assoc], ?_, allZ_le⟩
      rw [le4_size]
      unfold hd; omega
  have hcs := cat_size l ha ⟨#[]⟩
  rw [show (⟨#[]⟩ : ByteArray).size = 0 from rfl] at hcs
  have hput : putG l = (le4 ((l.length : Int) - 1) ++ (heads l ⟨#[]⟩ ++ P)) ++ cat l ⟨#[]⟩ := by
    unfold putG
    rw [if_pos hok, hP, cat_app]
  have hh0 := heads_size l ⟨#[]⟩
  rw [show (⟨#[]⟩ : ByteArray).size = 0 from rfl] at hh0
  have hps : ((putG l).size : Int) = hd l.length + 8 * wds l := by
    rw [hput, ByteArray.size_append, ByteArray.size_append, ByteArray.size_append, le4_size]; omega
  have hwn := wds_nonneg l
  have hts : ((putG l ++ u).size : Int) = (putG l).size + u.size := by rw [ByteArray.size_append]; omega
  have e1 : putG l ++ u = le4 ((l.length : Int) - 1) ++ (heads l ⟨#[]⟩ ++ (P ++ (cat l ⟨#[]⟩ ++ u))) := by rw [hput]; simp only [app_assoc]
  have b0 : by4 (putG l ++ u) 0 = (l.length : Int) - 1 := by
    have := by4_mid ⟨#[]⟩ (heads l ⟨#[]⟩ ++ (P ++ (cat l ⟨#[]⟩ ++ u))) ((l.length : Int) - 1) (by omega) (by omega) 0 rfl
    rw [nil_app, ← e1] at this
    exact this
  have hsm : szs (putG l ++ u) l.length = l.map fun x => (x.size : Int) / 8 := by
    rw [e1, szs_put l hw _ _ l.length (Nat.le_refl _), List.take_length]
  have hsum : (szs (putG l ++ u) l.length).sum = wds l := by rw [hsm]; rfl
  have hpad : (putG l ++ u).extract (4 * (l.length + 1)) (hd l.length).toNat = P := by
    have e2 : putG l ++ u = (le4 ((l.length : Int) - 1) ++ heads l ⟨#[]⟩) ++ (P ++ (cat l ⟨#[]⟩ ++ u)) := by rw [e1]; simp only [app_assoc]
    rw [e2]
    exact ext_mid _ P _ _ _ (by rw [ByteArray.size_append, le4_size]; omega) (by rw [ByteArray.size_append, le4_size]; omega)
  have hcut : cuts (putG l ++ u) (hd l.length) (szs (putG l ++ u) l.length) = l := by
    have e3 : putG l ++ u = (le4 ((l.length : Int) - 1) ++ (heads l ⟨#[]⟩ ++ P)) ++ (cat l ⟨#[]⟩ ++ u) := by rw [e1]; simp only [app_assoc]
    rw [hsm, e3]
    exact cuts_cat l ha _ u _ (by rw [ByteArray.size_append, ByteArray.size_append, le4_size]; omega)
  unfold frG frT
  rw [if_neg (by omega), b0, if_neg (by omega), show ((l.length : Int) - 1 + 1).toNat = l.length by omega, if_neg (by omega), hsum, if_neg (by omega), hpad, hPa, if_neg (by decide), if_neg (by omega), hcut, hps]
theorem putG_no {l : List ByteArray} (h : (putG l).size ≠ 0) : okF l = true := by
  unfold putG at h
  by_cases hk : okF l = true
  · exact hk
  · rw [if_neg hk] at h; exact absurd rfl h
end Go.Proofs.YtfkjjmhbljlbkaaDoor.Q
