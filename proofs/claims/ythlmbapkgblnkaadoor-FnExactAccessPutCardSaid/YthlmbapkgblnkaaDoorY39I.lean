/- Part of the proof of a statement about the given program: Y39I. No condition of its own. -/
import Derived.Test.YthlmbapkgblnkaaDoorY38I
import Derived.Test.YthlmbapkgblnkaaDoorY28I
import Derived.Test.YthlmbapkgblnkaaDoorY30I
namespace Go.Ev.Tryd
open Go.Proofs
set_option maxRecDepth 10000
set_option linter.unusedSimpArgs false
set_option linter.unusedVariables false
attribute [local congr] comes_congr bB_congr gK_congr gdK_congr

theorem closedP {M : Mem} {n : Nod} {cs us : List AV} {v : Int} {B ids : List Nat} (ha : ∀ c ∈ us, still c = true) (hO : ONod M n cs B) (hids : ids = B) : closedB M ids [.agg us, .agg cs, .int .i64 v] = true := by
  have h := closedA ha hO hids
  have h2 : leadsB M ids 2097152 (.int .i64 v) = true := leads_still rfl M ids _
  simp only [closedB, List.all_cons, List.all_nil, Bool.and_true, Bool.and_eq_true] at h ⊢
  exact ⟨⟨h.1.1, h.1.2, h2⟩, h.2⟩
theorem ndep_setD (n : Nod) (d : ByteArray) : ndep (n.setD d) = ndep n := by
  obtain ⟨k, e, p, s, c, i⟩ := n
  unfold Nod.setD
  rw [ndep_mk, ndep_mk]
  rfl
theorem cnt_setD (n : Nod) (d : ByteArray) : cnt (n.setD d) = cnt n := by
  obtain ⟨k, e, p, s, c, i⟩ := n
  unfold Nod.setD
  rw [cnt_mk, cnt_mk]
  rfl
theorem sane_setD {n : Nod} (h : n.Sane) {d : ByteArray} (hd : d.size ≤ 1048576) : (n.setD d).Sane := by
  obtain ⟨k, e, p, s, c, i⟩ := n
  cases h with
  | mk _ _ _ _ _ _ hk hs hc hd' hp hi h1 h2 => exact .mk _ _ _ _ _ _ hk hs hc hd hp hi h1 h2
theorem sto_le (d : ByteArray) (p : Nat) (w : ByteArray) : (sto d p w).size ≤ 2 * d.size + w.size := by
  unfold sto
  simp only [ByteArray.size_append, ByteArray.size_extract]
  omega
theorem putT_le (x5 x6 : Int) (d : ByteArray) : (putT x5 x6 d).size ≤ 2 * d.size + 2 := by
  unfold putT
  split
  · omega
  · have := sto_le d x5.toNat (bytesV x6 2)
    rw [bytesV_size] at this
    exact this
theorem putD_le (x1 x2 x3 x4 x5 x6 v : Int) (d : ByteArray) (h3 : x3 ≤ 8) : (putD x1 x2 x3 x4 x5 x6 v d).size ≤ 4 * d.size + 12 := by
  have h0 := putT_le x5 x6 d
  unfold putD
  split
  · have h1 := sto_le (putT x5 x6 d) (x2.toNat / 8) ⟨#[UInt8.ofNat (pbI (sget (putT x5 x6 d) (x2.toNat / 8)).toNat (x2.toNat % 8) (xorI v x4)).toNat]⟩
    have h2 : (⟨#[UInt8.ofNat (pbI (sget (putT x5 x6 d) (x2.toNat / 8)).toNat (x2.toNat % 8) (xorI v x4)).toNat]⟩ : ByteArray).size = 1 := rfl
    unfold stoB
    omega
  · have h1 := sto_le (putT x5 x6 d) x2.toNat (bytesV (xorI v x4) x3.toNat)
    rw [bytesV_size] at h1
    omega
theorem putR_fine (x0 : ByteArray) (x1 x2 x3 x4 x5 x6 : Int) (n : Nod) (v : Int) (hd : n.Sane) (hz : szN n ≤ 1048576) : Fine (putR x0 x1 x2 x3 x4 x5 x6 n v).2 := by
  unfold putR
  split
  · exact zeroN_fine
  rename_i ha
  split
  · exact zeroN_fine
  rename_i hk
  split
  · exact zeroN_fine
  rename_i h1
  split
  · exact fine_of hd hz
  obtain ⟨f1, f2, f3⟩ := fine_of hd hz
  simp only [Bool.not_eq_false] at ha hk
  obtain ⟨-, b2, b3⟩ := nodeOk_says hk
  obtain ⟨z1, z2⟩ := b3 (by omega)
  have h3 : x3 ≤ 8 := by
    obtain ⟨-, m2⟩ := accOk_more ha
    rcases m2 with ⟨-, h, -⟩ | ⟨-, h, -⟩ | ⟨-, h⟩
    · omega
    · rcases isSize_iff.1 h with h | h | h | h <;> omega
    · omega
  have hp := putD_le x1 x2 x3 x4 x5 x6 v n.data h3
  exact ⟨sane_setD f1 (by omega), by rw [ndep_setD]; exact f2, by rw [cnt_setD]; exact f3⟩
set_option maxHeartbeats 1000000 in
/-- impl.AccessPut, in a drawn region. -/
theorem AccessPut_far {M : Mem} (x0 : ByteArray) (x1 x2 x3 x4 x5 x6 v : Int) (n : Nod) (hd : n.Sane) (hz : szN n ≤ 1048576) (hdep : ndep n ≤ 2000000) (w : Nod) (ok : Bool) (hr : putR x0 x1 x2 x3 x4 x5 x6 n v = (ok, w)) {a0 a1 pv a3 a4 iv : AV} {B ids : List Nat} {K : Do → Prop} (hO : ONod M n [a0, a1, pv, a3, a4, iv] B) (hB : ∀ b ∈ B, b < M.nid) (hids : ids = B)
    (hK : ∀ pv iv m' B' J, pv.one = true → iv.one = true → M.nid ≤ m'.nid → J = (joinM ids M.nid M m').sto → (∀ j, j < M.nid → J j = M.sto j) → ONod ⟨J, m'.nid⟩ w [.int .i64 w.kind, .str w.data, pv, .int .i64 w.size, .int .i64 w.count, iv] B' → Own M.nid m'.nid B' → K (.call ids M.nid (.tup [.agg [.int .i64 w.kind, .str w.data, pv, .int .i64 w.size, .int .i64 w.count, iv], .bool ok]) m')) :
    closedB M ids [accA x0 x1 x2 x3 x4 x5 x6, .agg [a0, a1, pv, a3, a4, iv], .int .i64 v] = true ∧ Comes (fnI CC PR 17 [accA x0 x1 x2 x3 x4 x5 x6, .agg [a0, a1, pv, a3, a4, iv], .int .i64 v] (mask ids M)) (farK ids M K) := by
  refine far_mem (nin_lt hids hB) (closedP (still_acc x0 x1 x2 x3 x4 x5 x6) hO hids) (fun u m' => ∃ pv iv B', u = .tup [.agg [.int .i64 w.kind, .str w.data, pv, .int .i64 w.size, .int .i64 w.count, iv], .bool ok] ∧ ONod m' w [.int .i64 w.kind, .str w.data, pv, .int .i64 w.size, .int .i64 w.count, iv] B' ∧ Own M.nid m'.nid B' ∧ pv.one = true ∧ iv.one = true) (fun Q hQ => ?_) fun u m' J hp hn hJ j1 j2 => ?_
  · refine AccessPutM_wp x0 x1 x2 x3 x4 x5 x6 v n hd hz hdep _ _ _ _ _ _ B _ (hO.keep _ fun b hb => mask_in (by rw [hids]; exact hb)) hB Q fun k d pv s c iv m' B' p1 p2 p3 p4 p5 p6 => ?_
    rw [hr] at p1 ⊢
    obtain ⟨rfl, rfl, rfl, rfl⟩ := p1.std
    exact hQ _ m' ⟨pv, iv, B', rfl, p1, p2, p5, p6⟩ p3 p4
  · obtain ⟨pv, iv, B', rfl, p1, p2, p5, p6⟩ := hp
    exact hK pv iv m' B' J p5 p6 hn hJ j1 (p1.keep _ fun b hb => j2 b (.inl (p2.2 b hb).1)) p2
end Go.Ev.Tryd
