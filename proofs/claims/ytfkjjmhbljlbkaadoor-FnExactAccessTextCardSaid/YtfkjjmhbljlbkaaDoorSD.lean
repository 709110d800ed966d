/- Part of the proof of a statement about the given program: SD. No condition of its own. -/
import Derived.Test.YtfkjjmhbljlbkaaDoorBD
import Derived.Test.YtfkjjmhbljlbkaaDoorEvRow
import Derived.Lib.LaidTab
import Derived.LaidSub
namespace Go.Ev.Tryd
open Go.Proofs Go.Ev
theorem prog_ok : ProgOk CC.P := progB_ok (by kernel_rfl)
theorem prim_ok (f : FuncId) (args : List AV) (r : AV) (h : PR f args = some r) : PureOk CC f args r := by
  unfold PR at h
  split at h
  · split at h
    · rename_i hn
      simp only [Option.some.injEq] at h
      subst h
      exact itoa_pure rfl prog_ok (G0 := 1) (by kernel_rfl) (List.mem_singleton.2 rfl) _ hn.1 hn.2
    · cases h
  · cases h
theorem pI_ok (f : FuncId) (args : List AV) (m : Mem) (r : AV) (m' : Mem) (h : CC.pI f args m = some (r, m')) : ShareOk CC f args m r m' := by
  have h' : PI f args m = some (r, m') := h
  unfold PI at h'
  split at h'
  · exact check_share rfl prog_ok h'
  · exact grow_share rfl prog_ok h'
  · cases h'
theorem tab_heap {w : World} {name : String} {k : IntKind} {zs : List Int} {g : Nat} (hg : Tryd.prog.globalNamed name = some g) (h : Lib.TabIs Tryd.prog w name k zs) : ∃ t fr, w.heap[g]? = some (.cells (zs.map fun z => Value.int k z).toArray t fr) := by
  unfold Lib.TabIs World.var? at h
  rw [hg] at h
  simp only [Option.bind_some] at h
  split at h
  · rename_i c t fr hh
    simp only [Option.some.injEq] at h
    subst h
    exact ⟨t, fr, hh⟩
  · cases h
theorem ctx_ok {w : World} (h : Lib.TabIs Tryd.prog w "internal/strconv.uint64pow10" .u64 Lib.pow10Tab) : CtxOk CC (Gh.ofWorld w) w := by
  refine ⟨fun g cs hg => by simp at hg, fun p hp => ?_⟩
  obtain rfl := List.mem_singleton.1 hp
  exact ⟨tab_heap (by kernel_rfl) h, fun id gen x hx => by simp [Gh.ofWorld] at hx⟩
end Go.Ev.Tryd
