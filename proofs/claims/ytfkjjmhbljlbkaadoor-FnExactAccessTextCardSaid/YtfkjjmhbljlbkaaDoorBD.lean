/- Part of the proof of a statement about the given program: BD. No condition of its own. -/
import Derived.Test.YtfkjjmhbljlbkaaDoorEvTyD
import Derived.Test.YtfkjjmhbljlbkaaDoorK2D
import Derived.Test.YtfkjjmhbljlbkaaDoorShE
import Derived.Test.YtfkjjmhbljlbkaaDoorEvPrim
namespace Go.Ev.Tryd
open Go.Proofs
def pow10Cells : Array Value := (Lib.pow10Tab.map fun z => Value.int .u64 z).toArray
/-- A number in figures. -/
def dec (n : Int) : ByteArray := ⟨(Lib.itoa n).toArray⟩
def PR : FuncId → List AV → Option AV
  | 61, [.int .i64 n] => if -9223372036854775808 ≤ n ∧ n ≤ 9223372036854775807 then some (.str (dec n)) else none
  | _, _ => none
def PI : FuncId → List AV → Mem → Option (AV × Mem)
  | 128, l, m => checkI l m
  | 159, l, m => growI l m
  | _, _, _ => none
noncomputable abbrev CC : Ctx := { P := Tryd.prog, glob := fun _ => none, share := [], tabs := [(1, pow10Cells)], snaps := [], pI := PI }
theorem itoa_eq (n : Int) (h0 : -9223372036854775808 ≤ n) (h1 : n ≤ 9223372036854775807) : fnA CC PR 61 [.int .i64 n] = some (.str (dec n)) :=
  fnA_prim CC PR (by simp [PR, h0, h1])
theorem itoa_pure {C : Ctx} (hP : C.P = Tryd.prog) (hok : ProgOk C.P) {G0 : Nat} (hg : Tryd.prog.globalNamed "internal/strconv.uint64pow10" = some G0) (ht : (G0, pow10Cells) ∈ C.tabs) (n : Int) (h0 : -9223372036854775808 ≤ n) (h1 : n ≤ 9223372036854775807) : PureOk C 61 [.int .i64 n] (.str (dec n)) := by
  obtain ⟨P, gl, sh, tb, sn, pI⟩ := C
  simp only at hP
  subst hP
  refine pure_grow (fun vs w => enter_ok hok Tryd.func61 rfl vs w) (fun G w vs hT hi hc hsz hr => ?_)
  obtain ⟨⟨t, fr, hh⟩, _⟩ := hc.tabs _ ht
  have htab : Lib.TabIs Tryd.prog w "internal/strconv.uint64pow10" .u64 Lib.pow10Tab := by
    show World.var? _ _ _ = _
    unfold World.var?
    rw [hg]
    simp only [Option.bind_some, hh]
    rfl
  have hv : vs = #[.int .i64 n] := by
    obtain ⟨l⟩ := vs
    cases l with
    | nil => simp at hsz
    | cons v l =>
      cases l with
      | cons _ _ => simp at hsz
      | nil =>
        have := hr 0 v _ rfl rfl
        obtain rfl := rep_int this
        rfl
  subst hv
  refine (Tryd.strconv_Itoa n h0 h1 w htab).mono ?_
  rintro e w' ⟨rfl, k, os, rfl⟩
  exact ⟨_, rfl, fun G => .str _ _, grown⟩
end Go.Ev.Tryd
