/- Plain lemmas on numbers, bytes and rounds; no program in sight. -/
import Derived.Test.YtfkjjmhbljlbkaaDoorVFnPipeAll0
import Derived.Laws.BitsLemmas
import Derived.Lib.Strings
namespace Go.Proofs.YtfkjjmhbljlbkaaDoor.Q
open Go.RowKit Go.Proofs.YtfkjjmhbljlbkaaDoorW.PrintWords Go.Proofs.YtfkjjmhbljlbkaaDoorW.PrintLast Go.Proofs.YtfkjjmhbljlbkaaDoorW.PrintMore
set_option linter.unusedVariables false
set_option linter.unusedSimpArgs false

/-! ### numbers -/
theorem w64 {x : Int} (h0 : -9223372036854775808 ≤ x) (h1 : x ≤ 9223372036854775807) : wrap64 x = x := by unfold wrap64; omega
theorem wu64 {x : Int} (h0 : 0 ≤ x) (h1 : x ≤ 18446744073709551615) : IntKind.u64.wrap x = x := by
  simp only [IntKind.wrap, IntKind.bits, IntKind.signed]; simp; omega
theorem wraps_u64 (n : Int) (h₀ : 0 ≤ n) (h₁ : n < 2 ^ 64) : IntKind.u64.wrap n = n := wu64 h₀ (by omega)
theorem wraps_i64 (n : Int) (h₀ : 0 ≤ n) (h₁ : n < 2 ^ 63) : IntKind.i64.wrap n = n := by rw [IntKind.wrap_i64]; omega
theorem or_u64 {x y : Int} (hx : 0 ≤ x) (hm : x % 256 = 0) (hx1 : x ≤ 18446744073709551615) (hy : 0 ≤ y) (hy1 : y ≤ 255) : Go.bits .or .u64 x y = x + y :=
  bits_join .u64 64 (by decide) wraps_u64 8 x y hx (by simpa using hm) (by omega) hy (by omega) (by omega)
theorem or_i64 {x y : Int} (hx : 0 ≤ x) (hm : x % 256 = 0) (hx1 : x ≤ 9223372036854775807) (hy : 0 ≤ y) (hy1 : y ≤ 255) : Go.bits .or .i64 x y = x + y :=
  bits_join .i64 63 (by decide) wraps_i64 8 x y hx (by simpa using hm) (by omega) hy (by omega) (by omega)
theorem xor_nat (a b : Nat) (ha : a < 2 ^ 63) (hb : b < 2 ^ 63) : Go.bits .xor .i64 (a : Int) (b : Int) = ((a ^^^ b : Nat) : Int) := by
  have hp : (2 : Nat) ^ 63 ≤ 2 ^ IntKind.i64.bits := by decide
  have ha' : a % 2 ^ IntKind.i64.bits = a := Nat.mod_eq_of_lt (Nat.lt_of_lt_of_le ha hp)
  have hb' : b % 2 ^ IntKind.i64.bits = b := Nat.mod_eq_of_lt (Nat.lt_of_lt_of_le hb hp)
  have hx := Nat.xor_lt_two_pow ha hb
  simp only [Go.bits, BitVec.ofInt_natCast, BitVec.toNat_xor, BitVec.toNat_ofNat, ha', hb']
  exact wraps_i64 _ (Int.natCast_nonneg _) (by exact_mod_cast hx)
theorem xor_nonneg {x y : Int} (hx : 0 ≤ x) (hx1 : x < 2 ^ 63) (hy : 0 ≤ y) (hy1 : y < 2 ^ 63) : 0 ≤ Go.bits .xor .i64 x y := by
  obtain ⟨a, rfl⟩ := Int.eq_ofNat_of_zero_le hx
  obtain ⟨b, rfl⟩ := Int.eq_ofNat_of_zero_le hy
  rw [xor_nat a b (by omega) (by omega)]
  omega
theorem tmod_pos {a b : Int} (h : 0 ≤ a) : Int.tmod a b = a % b := Int.tmod_eq_emod_of_nonneg h
theorem tdiv_pos {a b : Int} (h : 0 ≤ a) : Int.tdiv a b = a / b := Int.tdiv_eq_ediv_of_nonneg h

/-! ### bytes -/
theorem ext_ba {a b : ByteArray} (h : a.data.toList = b.data.toList) : a = b := by
  cases a; cases b; congr 1; exact Array.toList_inj.1 h
theorem size_data (s : ByteArray) : s.data.toList.length = s.size := data_length s
theorem toList_nil (s : ByteArray) : s.toList = [] ↔ s.size = 0 := by
  rw [ByteArray.toList_eq, ← size_data, List.length_eq_zero_iff]
theorem bt_data (s : ByteArray) (i : Int) : bt s i = ((s.data.toList.getD i.toNat 0).toNat : Int) := by
  unfold bt
  split
  · rename_i h
    have h' : i.toNat < s.data.toList.length := by rw [size_data]; exact h
    rw [List.getD_eq_getElem?_getD, List.getElem?_eq_getElem h', Option.getD_some]; rfl
  · rename_i h
    have h' : s.data.toList.length ≤ i.toNat := by rw [size_data]; omega
    rw [List.getD_eq_getElem?_getD, List.getElem?_eq_none h']; rfl
theorem data_append (a b : ByteArray) : (a ++ b).data.toList = a.data.toList ++ b.data.toList := by simp
theorem data_extract (a : ByteArray) (i j : Nat) : (a.extract i j).data.toList = (a.data.toList.take j).drop i := by
  simp [ByteArray.data_extract, Array.toList_extract, List.extract_eq_take_drop, List.drop_take]
theorem bt_app_l (a b : ByteArray) (i : Int) (h0 : 0 ≤ i) (h : i < a.size) : bt (a ++ b) i = bt a i := by
  rw [bt_data, bt_data, data_append, List.getD_eq_getElem?_getD, List.getD_eq_getElem?_getD, List.getElem?_append_left (by rw [size_data]; omega)]
theorem bt_out (a : ByteArray) (i : Int) (h : (a.size : Int) ≤ i) : bt a i = 0 := by unfold bt; rw [dif_neg (by omega)]
theorem ext_app_l (a b : ByteArray) (i j : Nat) (h : j ≤ a.size) : (a ++ b).extract i j = a.extract i j := by
  apply ext_ba
  rw [data_extract, data_extract, data_append, List.take_append_of_le_length (by rw [size_data]; exact h)]
theorem ext_size {a : ByteArray} {i j : Nat} (h : j ≤ a.size) : (a.extract i j).size = j - i := by
  rw [ByteArray.size_extract]; omega
theorem drop_app (a b : ByteArray) (i : Nat) (h : i ≤ a.size) : (a ++ b).extract i (a ++ b).size = a.extract i a.size ++ b := by
  apply ext_ba
  rw [data_extract, data_append, data_append, data_extract, ByteArray.size_append, List.take_of_length_le (by rw [List.length_append, size_data, size_data]; omega), List.take_of_length_le (by rw [size_data]; omega),
    List.drop_append_of_le_length (by rw [size_data]; exact h)]
theorem split_at (a : ByteArray) (i : Nat) (h : i ≤ a.size) : a.extract 0 i ++ a.extract i a.size = a := by
  apply ext_ba
  rw [data_append, data_extract, data_extract, List.drop_zero, List.take_of_length_le (l := a.data.toList) (i := a.size) (by rw [size_data]; omega), List.take_append_drop]
theorem app_assoc (a b c : ByteArray) : a ++ b ++ c = a ++ (b ++ c) := by
  apply ext_ba; simp
theorem app_nil (a : ByteArray) : a ++ (⟨#[]⟩ : ByteArray) = a := by apply ext_ba; simp
theorem nil_app (a : ByteArray) : (⟨#[]⟩ : ByteArray) ++ a = a := by apply ext_ba; simp
theorem size_zero {s : ByteArray} (h : s.size = 0) : s = ⟨#[]⟩ := by
  apply ext_ba; apply List.eq_nil_of_length_eq_zero; rw [size_data]; exact h
theorem ext_zero (a : ByteArray) : a.extract 0 a.size = a := by
  apply ext_ba; rw [data_extract, List.drop_zero, List.take_of_length_le (by rw [size_data]; omega)]
theorem toList_data (s : ByteArray) : s.toList = s.data.toList := ByteArray.toList_eq s
theorem beq_toList (a b : ByteArray) : (a.toList == b.toList) = decide (a = b) := by
  rw [toList_data, toList_data]
  by_cases h : a = b
  · subst h; simp
  · rw [decide_eq_false h, beq_eq_false_iff_ne]; exact fun e => h (ext_ba e)
theorem size_strOfNums (xs : List Int) : (strOfNums xs).size = xs.length := by unfold strOfNums; simp [ByteArray.size]

/-! ### rounds -/
theorem Ev.now' {α : Type} {g : Nat → Option α} {r : α} (h : ∀ k, g k = some r) : Ev g r := ⟨0, fun k _ => h k⟩
theorem Ev.fun {α : Type} {g : Nat → Option α} {r q : α} (h : Ev g r) (h' : Ev g q) : r = q := by
  obtain ⟨K, h⟩ := h
  obtain ⟨K', h'⟩ := h'
  have := (h (max K K') (by omega)).symm.trans (h' (max K K') (by omega))
  simpa using this
end Go.Proofs.YtfkjjmhbljlbkaaDoor.Q
