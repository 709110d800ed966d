/- Part of the proof of a statement about the given program: Y33I. No condition of its own. -/
import Derived.Test.YthlmbapkgblnkaaDoorY32I
namespace Go.Ev.Tryd
open Go.Proofs
set_option maxRecDepth 10000
set_option linter.unusedSimpArgs false
set_option linter.unusedVariables false
attribute [local congr] comes_congr bB_congr gK_congr gdK_congr

theorem bytesStr_app : ∀ (a b : List AV) (x y : List UInt8), bytesStr a = some x → bytesStr b = some y → bytesStr (a ++ b) = some (x ++ y)
  | [], b, x, y, h1, h2 => by simp only [bytesStr, Option.some.injEq] at h1; subst h1; exact h2
  | c :: a, b, x, y, h1, h2 => by
    cases c with
    | int k n =>
      cases k with
      | u8 =>
        simp only [bytesStr, Option.map_eq_some_iff] at h1
        obtain ⟨z, hz, rfl⟩ := h1
        simp only [List.cons_append, bytesStr, bytesStr_app a b z y hz h2, Option.map_some]
      | _ => simp [bytesStr] at h1
    | _ => simp [bytesStr] at h1
theorem bytesStr_map (l : List UInt8) : bytesStr (l.map fun b => AV.int .u8 b.toNat) = some l := by
  induction l with
  | nil => rfl
  | cons b l ih => simp [bytesStr, ih]
theorem size_len (d : ByteArray) : d.size = d.data.toList.length := by
  show d.data.size = _
  rw [Array.length_toList]
theorem sto_one (d : ByteArray) (p : Nat) (h : p < d.size) (X : Int) : bytesStr (List.take p (strBytes d) ++ [AV.int .u8 X] ++ List.drop (p + 1) (strBytes d)) = some (sto d p ⟨#[UInt8.ofNat X.toNat]⟩).data.toList := by
  have e : (sto d p ⟨#[UInt8.ofNat X.toNat]⟩).data.toList = d.data.toList.take p ++ [UInt8.ofNat X.toNat] ++ d.data.toList.drop (p + 1) := by
    unfold sto
    have hz : (⟨#[UInt8.ofNat X.toNat]⟩ : ByteArray).size = 1 := rfl
    rw [hz, ByteArray.data_append, ByteArray.data_append, Array.toList_append, Array.toList_append, ByteArray.data_extract, ByteArray.data_extract, Array.toList_extract, Array.toList_extract]
    rw [List.extract_eq_take_drop, List.extract_eq_take_drop, List.drop_zero, Nat.sub_zero]
    rw [List.take_of_length_le (i := d.size - (p + 1)) (by rw [List.length_drop, size_len]; exact Nat.le_refl _)]
  rw [e]
  unfold strBytes
  rw [← List.map_take, ← List.map_drop]
  exact bytesStr_app _ _ _ _ (bytesStr_app _ _ _ _ (bytesStr_map _) rfl) (bytesStr_map _)
def anI (a b : Int) : Int := IntKind.wrap .u8 ((BitVec.ofInt 8 a &&& ~~~BitVec.ofInt 8 b).toNat : Int)
def orI (a b : Int) : Int := IntKind.wrap .u8 ((BitVec.ofInt 8 a ||| BitVec.ofInt 8 b).toNat : Int)
@[go_sem high] theorem binX_andn {C : Ctx} {t : TypeId} {y : Operand} {a b : Int} : binX C t y .andNot (.int .u8 a) (.int .u8 b) = some (.int .u8 (anI a b)) := rfl
@[go_sem high] theorem binX_or8 {C : Ctx} {t : TypeId} {y : Operand} {a b : Int} : binX C t y .or (.int .u8 a) (.int .u8 b) = some (.int .u8 (orI a b)) := rfl
/-- The byte with a bit put. -/
def pbI (c : Nat) (b : Nat) (v : Int) : Int := orI (anI (c : Int) (IntKind.wrap .u8 (1 * 2 ^ b))) (IntKind.wrap .u8 (v * 2 ^ b))
/-- The data with a bit put. -/
def stoB (d : ByteArray) (k : Nat) (v : Int) : ByteArray := sto d (k / 8) ⟨#[UInt8.ofNat (pbI (sget d (k / 8)).toNat (k % 8) v).toNat]⟩
theorem bytes_at {t : ByteArray} {i : Nat} (h : i < t.size) : ((strBytes t).drop i).head? = some (.int .u8 (sget t i).toNat) := by
  have h2 : i < t.data.size := h
  simp only [strBytes, sget, Array.getD, List.head?_drop]
  simp
  exact ⟨t.data[i], by simp [h2], by rw [dif_pos h]⟩
theorem shl_in (v : Int) (b : Nat) (hv : v = 0 ∨ v = 1) (hb : b < 8) : IntKind.wrap .i64 (v * 2 ^ b) = v * 2 ^ b := by
  have : b = 0 ∨ b = 1 ∨ b = 2 ∨ b = 3 ∨ b = 4 ∨ b = 5 ∨ b = 6 ∨ b = 7 := by omega
  rcases hv with rfl | rfl <;> rcases this with rfl | rfl | rfl | rfl | rfl | rfl | rfl | rfl <;> decide
set_option maxHeartbeats 1000000 in
theorem withBit_eq (d : ByteArray) (k : Nat) (v : Int) (hv : v = 0 ∨ v = 1) (hd : d.size ≤ 1600) (hk : k / 8 < d.size) : fnA CC PR 42 [.str d, .int .i64 (k : Int), .int .i64 v] = some (.str (stoB d k v)) := by
  have m1 : ((k : Int).tdiv 8) = ((k / 8 : Nat) : Int) := rfl
  have m2 : ((k : Int).tmod 8) = ((k % 8 : Nat) : Int) := rfl
  have m3 : IntKind.wrap .i64 ((k / 8 : Nat) : Int) = ((k / 8 : Nat) : Int) := wrap_id (by omega) (by omega)
  have m4 : (((k % 8 : Nat) : Int) < 0) = False := eq_false (by omega)
  have m5 : min (k % 8) 8 = k % 8 := Nat.min_eq_left (by omega)
  have wv : IntKind.wrap .u8 v = v := by rcases hv with rfl | rfl <;> decide
  have hl1 := s_at hk
  unfold stoB
  have hst := fun X => stored_eq d (k / 8) ⟨#[UInt8.ofNat (Int.toNat X)]⟩ (by show k / 8 + 1 ≤ d.size; omega) hd
  unfold pbI
  generalize k / 8 = k8 at *
  apply comes_eq.1
  refine fnA_wp (rs := [.tmp 6]) Tryd.func42 rfl rfl (Nat.le_of_ble_eq_true rfl) rfl ?_
  simp +decide only [go_sem, Nat.reduceAdd, Nat.reduceMul, Nat.reduceSub, Nat.reduceLT, Nat.reduceLeDiff, Nat.reduceEqDiff, Nat.add_assoc, Int.reduceAdd, Int.reduceSub, Int.reduceMul, Int.reduceLT, Int.reduceLE, Int.reduceEq, Int.reduceNeg, strOp_add]
  refine (d_plan (ord := [0, 1, 2, 3, 4, 5, 6, 7, 8, 9, 10, 11, 12, 13, 14]) (prs := []) (by kernel_rfl)).2 ?_
  simp +decide (disch := first | decide | omega) only [go_sem, Nat.reduceAdd, Nat.reduceMul, Nat.reduceSub, Nat.reduceLT, Nat.reduceLeDiff, Nat.reduceEqDiff, Nat.add_assoc, Int.reduceAdd, Int.reduceSub, Int.reduceMul, Int.reduceLT, Int.reduceLE, Int.reduceEq, Int.reduceNeg, strOp_add, m1, m2, m3, m4, m5, wv, hk, hl1, hst]
set_option maxHeartbeats 1000000 in
theorem l1BitPut_eq (d : ByteArray) (k : Nat) (v : Int) (hv : v = 0 ∨ v = 1) (hd : d.size ≤ 1600) (hk : k / 8 < d.size) : fnA CC PR 59 [.str d, .int .i64 (k : Int), .int .i64 v] = some (.str (stoB d k v)) := by
  have m1 : ((k : Int).tdiv 8) = ((k / 8 : Nat) : Int) := rfl
  have m2 : ((k : Int).tmod 8) = ((k % 8 : Nat) : Int) := rfl
  have m3 : IntKind.wrap .i64 ((k / 8 : Nat) : Int) = ((k / 8 : Nat) : Int) := wrap_id (by omega) (by omega)
  have m4 : (((k % 8 : Nat) : Int) < 0) = False := eq_false (by omega)
  have m5 : min (k % 8) 8 = k % 8 := Nat.min_eq_left (by omega)
  have m6 : min (k % 8) 64 = k % 8 := Nat.min_eq_left (by omega)
  have m7 := shl_in v (k % 8) hv (by omega)
  have ll : (k / 8 + 1 ≤ (strBytes d).length) = True := eq_true (by rw [strBytes, List.length_map, ← size_len]; omega)
  have hba := bytes_at hk
  have hso := sto_one d (k / 8) hk
  have hle : ∀ X : Int, (List.take (k / 8) (strBytes d) ++ [AV.int .u8 X] ++ List.drop (k / 8 + 1) (strBytes d)).length = d.size := fun X => by
    have : (strBytes d).length = d.size := by rw [strBytes, List.length_map, ← size_len]
    simp only [List.length_append, List.length_take, List.length_drop, this, List.length_cons, List.length_nil]
    omega
  have htk : ∀ X : Int, List.take d.size (List.take (k / 8) (strBytes d) ++ [AV.int .u8 X] ++ List.drop (k / 8 + 1) (strBytes d)) = List.take (k / 8) (strBytes d) ++ [AV.int .u8 X] ++ List.drop (k / 8 + 1) (strBytes d) := fun X => List.take_of_length_le (by rw [hle]; exact Nat.le_refl _)
  unfold stoB
  unfold pbI
  generalize k / 8 = k8 at *
  apply comes_eq.1
  refine fnA_wp (rs := [.tmp 6]) Tryd.func59 rfl rfl (Nat.le_of_ble_eq_true rfl) rfl ?_
  simp +decide only [go_sem, Nat.reduceAdd, Nat.reduceMul, Nat.reduceSub, Nat.reduceLT, Nat.reduceLeDiff, Nat.reduceEqDiff, Nat.add_assoc, Int.reduceAdd, Int.reduceSub, Int.reduceMul, Int.reduceLT, Int.reduceLE, Int.reduceEq, Int.reduceNeg, strOp_add]
  refine (d_plan (ord := [0, 1, 2, 3, 4, 5, 6, 7, 8, 9, 10, 11, 12, 13, 14, 15, 16, 17, 18, 19]) (prs := [(7, 16)]) (by kernel_rfl)).2 ?_
  simp +decide (disch := first | decide | omega) only [go_sem, Nat.reduceAdd, Nat.reduceMul, Nat.reduceSub, Nat.reduceLT, Nat.reduceLeDiff, Nat.reduceEqDiff, Nat.add_assoc, Int.reduceAdd, Int.reduceSub, Int.reduceMul, Int.reduceLT, Int.reduceLE, Int.reduceEq, Int.reduceNeg, strOp_add, m1, m2, m3, m4, m5, m6, m7, hk, hba, ll, hso, hle, htk, bytes_back, Nat.le_refl]
  try rfl
end Go.Ev.Tryd
