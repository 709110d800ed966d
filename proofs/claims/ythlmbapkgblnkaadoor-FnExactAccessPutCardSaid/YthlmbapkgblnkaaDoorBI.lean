/- Part of the proof of a statement about the given program: BI. No condition of its own. -/
import Derived.Test.YthlmbapkgblnkaaDoorEvTyI
import Derived.Test.YthlmbapkgblnkaaDoorEvPrim
import Derived.Lib.LaidTab
namespace Go.Ev.Tryd
open Go.Proofs
/-- The bits of the sizes. -/
def sizeL : List Int := [0, 1, 8, 16, 32, 64, 64]
def PR : FuncId → List AV → Option AV := fun _ _ => none
def PI : FuncId → List AV → Mem → Option (AV × Mem) := fun _ _ _ => none
noncomputable abbrev CC : Ctx := { P := Tryd.prog, glob := fun n => if n = 0 then some [.int .i64 0, .int .i64 1, .int .i64 8, .int .i64 16, .int .i64 32, .int .i64 64, .int .i64 64] else none, share := [9, 25, 13, 32, 14, 10, 17, 30, 56], tabs := [], snaps := [], snapA := [], pI := PI }
@[go_sem] theorem glob_sizes : CC.glob 0 = some [.int .i64 0, .int .i64 1, .int .i64 8, .int .i64 16, .int .i64 32, .int .i64 64, .int .i64 64] := rfl
end Go.Ev.Tryd
