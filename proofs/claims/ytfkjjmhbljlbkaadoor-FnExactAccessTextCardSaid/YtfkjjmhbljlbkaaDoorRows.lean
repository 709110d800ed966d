/-
  NARROWER THAN 'FOR EVERY INPUT', by the rows' own cells (each row's printed sentence says how): FnExactAccessText: laid · FnPipeAll: laid · FnExactAccessGet: loops, laid · FnExactAccessPut: loops, laid · FnPipeBytes: laid · FnPipe: laid · FnExactPathAll: loops, laid · FnExactPathGet: loops, laid · FnExactDiffer: loops, laid.
  DERIVED. THE GIVEN ROWS OF THIS SEAT. 9 by the template 'for every input the law returns true; each argument reads behind the call as it read before'; 0 by the template 'total and deterministic' (their statements: YtfkjjmhbljlbkaaDoorTotals.lean).
  GIVEN WITH THE SEED: the statements are not yours to turn. If you find one false, say at which input.
  Laid BY PROGRAM, IN A SANDBOX (cutbox-rows.mjs): the forced cells as the released guide's own fill.sh prints them over the translation a6ff71825a358a7f… (all of the seat's roots in one cut). By AI agents, Wed Nov 11 2026. No macro, syntax, notation, axiom, sorry.
-/
import Derived.Test.YtfkjjmhbljlbkaaDoorChecked
import GoSem.PinnedTables
import GoSem.Claim
import GoSem.ClaimJoined
import GoSem.ClaimMapViews
import Derived.JoinedTies
import Derived.KernelRfl
namespace Go.Proofs.YtfkjjmhbljlbkaaDoor
/- THE CELL 'sum', in the pinned program and in every row, IS THE sha256 OF THE DUMP (.gsa) THAT YtfkjjmhbljlbkaaDoorProg.lean LOADS. Nothing in Lean hashes anything: it is a label: what it is worth is what the hold of that sum in a sandbox is worth. -/
noncomputable def Tryd.pinned : Pinned := { name := "ytfkjjmhbljlbkaadoor", sum := "a6ff71825a358a7f11d4ba846e28df2ff76f2c3064e05d6bd1ac525c540b684a", checked := Tryd.checked }
namespace Rows
def none {H : Type} : Left H := { results := [], args := [] }

/- WHAT THE LISTED PACKAGE-LEVEL VARIABLES READ AS WHEN THE CALL BEGINS. Each datum BY PROGRAM (the guide's laid-datum.mjs) off the statement by which the dump's own 'gosem.cut.vars' lays the variable. In a bare row this is a premise. The card (YtfkjjmhbljlbkaaDoorCards.lean) ties it to the program's text. -/
def laid_math_bits_deBruijn32tab {H : Type} : DataW H := .agg [.lit (.int .u8 0), .lit (.int .u8 1), .lit (.int .u8 28), .lit (.int .u8 2), .lit (.int .u8 29), .lit (.int .u8 14), .lit (.int .u8 24), .lit (.int .u8 3), .lit (.int .u8 30), .lit (.int .u8 22), .lit (.int .u8 20), .lit (.int .u8 15), .lit (.int .u8 25), .lit (.int .u8 17), .lit (.int .u8 4), .lit (.int .u8 8), .lit (.int .u8 31), .lit (.int .u8 27), .lit (.int .u8 13), .lit (.int .u8 23), .lit (.int .u8 21), .lit (.int .u8 19), .lit (.int .u8 16), .lit (.int .u8 7), .lit (.int .u8 26), .lit (.int .u8 12), .lit (.int .u8 18), .lit (.int .u8 6), .lit (.int .u8 11), .lit (.int .u8 5), .lit (.int .u8 10), .lit (.int .u8 9)]
def laid_math_bits_deBruijn64tab {H : Type} : DataW H := .agg [.lit (.int .u8 0), .lit (.int .u8 1), .lit (.int .u8 56), .lit (.int .u8 2), .lit (.int .u8 57), .lit (.int .u8 49), .lit (.int .u8 28), .lit (.int .u8 3), .lit (.int .u8 61), .lit (.int .u8 58), .lit (.int .u8 42), .lit (.int .u8 50), .lit (.int .u8 38), .lit (.int .u8 29), .lit (.int .u8 17), .lit (.int .u8 4), .lit (.int .u8 62), .lit (.int .u8 47), .lit (.int .u8 59), .lit (.int .u8 36), .lit (.int .u8 45), .lit (.int .u8 43), .lit (.int .u8 51), .lit (.int .u8 22), .lit (.int .u8 53), .lit (.int .u8 39), .lit (.int .u8 33), .lit (.int .u8 30), .lit (.int .u8 24), .lit (.int .u8 18), .lit (.int .u8 12), .lit (.int .u8 5), .lit (.int .u8 63), .lit (.int .u8 55), .lit (.int .u8 48), .lit (.int .u8 27), .lit (.int .u8 60), .lit (.int .u8 41), .lit (.int .u8 37), .lit (.int .u8 16), .lit (.int .u8 46), .lit (.int .u8 35), .lit (.int .u8 44), .lit (.int .u8 21), .lit (.int .u8 52), .lit (.int .u8 32), .lit (.int .u8 23), .lit (.int .u8 11), .lit (.int .u8 54), .lit (.int .u8 26), .lit (.int .u8 40), .lit (.int .u8 15), .lit (.int .u8 34), .lit (.int .u8 20), .lit (.int .u8 31), .lit (.int .u8 10), .lit (.int .u8 25), .lit (.int .u8 14), .lit (.int .u8 19), .lit (.int .u8 9), .lit (.int .u8 13), .lit (.int .u8 8), .lit (.int .u8 7), .lit (.int .u8 6)]
def laid_internal_strconv_uint64pow10 {H : Type} : DataW H := .agg [.lit (.int .u64 1), .lit (.int .u64 10), .lit (.int .u64 100), .lit (.int .u64 1000), .lit (.int .u64 10000), .lit (.int .u64 100000), .lit (.int .u64 1000000), .lit (.int .u64 10000000), .lit (.int .u64 100000000), .lit (.int .u64 1000000000), .lit (.int .u64 10000000000), .lit (.int .u64 100000000000), .lit (.int .u64 1000000000000), .lit (.int .u64 10000000000000), .lit (.int .u64 100000000000000), .lit (.int .u64 1000000000000000), .lit (.int .u64 10000000000000000), .lit (.int .u64 100000000000000000), .lit (.int .u64 1000000000000000000), .lit (.int .u64 10000000000000000000)]
def laid_unicode_utf8_acceptRanges {H : Type} : DataW H := .agg [.agg [.lit (.int .u8 128), .lit (.int .u8 191)], .agg [.lit (.int .u8 160), .lit (.int .u8 191)], .agg [.lit (.int .u8 128), .lit (.int .u8 159)], .agg [.lit (.int .u8 144), .lit (.int .u8 191)], .agg [.lit (.int .u8 128), .lit (.int .u8 143)], .agg [.lit (.int .u8 0), .lit (.int .u8 0)], .agg [.lit (.int .u8 0), .lit (.int .u8 0)], .agg [.lit (.int .u8 0), .lit (.int .u8 0)], .agg [.lit (.int .u8 0), .lit (.int .u8 0)], .agg [.lit (.int .u8 0), .lit (.int .u8 0)], .agg [.lit (.int .u8 0), .lit (.int .u8 0)], .agg [.lit (.int .u8 0), .lit (.int .u8 0)], .agg [.lit (.int .u8 0), .lit (.int .u8 0)], .agg [.lit (.int .u8 0), .lit (.int .u8 0)], .agg [.lit (.int .u8 0), .lit (.int .u8 0)], .agg [.lit (.int .u8 0), .lit (.int .u8 0)]]
/-- One of Go's own tables, pinned by name: the form's constant. -/
def laid_unicode_utf8_first : DataW Unit := Go.Pinned.utf8First
def laid_loop_example_quoin_impl_sizeBits {H : Type} : DataW H := .agg [.lit (.int .i64 0), .lit (.int .i64 1), .lit (.int .i64 8), .lit (.int .i64 16), .lit (.int .i64 32), .lit (.int .i64 64), .lit (.int .i64 64)]

/-- 'laws.FnExactAccessText': WHATEVER THE INPUT: true; the input reads as it did. -/
def fnExactAccessTextSpec : ChangeSpec := { name := "fnExactAccessText", fn := fun _ => fun
  | [d] => { results := [.lit (.bool true)], args := [d] }
  | _ => none }
def fnExactAccessTextRow : OpenClaim := { program := "ytfkjjmhbljlbkaadoor", sum := "a6ff71825a358a7f11d4ba846e28df2ff76f2c3064e05d6bd1ac525c540b684a", func := "loop.example/quoin/laws.FnExactAccessText", spec := "fnExactAccessText", inPlace := ["internal/abi.NoEscape", "internal/bytealg.MakeNoZero"], unfollowed := true, recurses := true, named := ["internal/strconv.uint64pow10", "math/bits.deBruijn32tab", "math/bits.deBruijn64tab"], apart := false, laid := [("math/bits.deBruijn32tab", laid_math_bits_deBruijn32tab), ("math/bits.deBruijn64tab", laid_math_bits_deBruijn64tab), ("internal/strconv.uint64pow10", laid_internal_strconv_uint64pow10)] }
def FnExactAccessTextSaid : Prop := fnExactAccessTextRow.holds Tryd.pinned (OpenSpec.ofChange fnExactAccessTextSpec)

/-- ITS FALSE NEIGHBOUR: 'it returns false'. Refute it at one input. -/
def fnExactAccessTextWrong : ChangeSpec := { name := "fnExactAccessText", fn := fun _ => fun
  | [d] => { results := [.lit (.bool false)], args := [d] }
  | _ => none }
def FnExactAccessTextWrongFalsely : Prop := fnExactAccessTextRow.holds Tryd.pinned (OpenSpec.ofChange fnExactAccessTextWrong)

/-- 'laws.FnPipeAll': WHATEVER THE INPUT: true; the input reads as it did. -/
def fnPipeAllSpec : ChangeSpec := { name := "fnPipeAll", fn := fun _ => fun
  | [d1, d2] => { results := [.lit (.bool true)], args := [d1, d2] }
  | _ => none }
def fnPipeAllRow : OpenClaim := { program := "ytfkjjmhbljlbkaadoor", sum := "a6ff71825a358a7f11d4ba846e28df2ff76f2c3064e05d6bd1ac525c540b684a", func := "loop.example/quoin/laws.FnPipeAll", spec := "fnPipeAll", inPlace := ["internal/abi.NoEscape", "internal/bytealg.IndexByteString", "internal/bytealg.IndexString"], named := ["unicode/utf8.first", "unicode/utf8.acceptRanges", "internal/bytealg.MaxLen"], apart := false, laid := [("unicode/utf8.acceptRanges", laid_unicode_utf8_acceptRanges), ("unicode/utf8.first", laid_unicode_utf8_first)] }
def FnPipeAllSaid : Prop := fnPipeAllRow.holds Tryd.pinned (OpenSpec.ofChange fnPipeAllSpec)

/-- ITS FALSE NEIGHBOUR: 'it returns false'. Refute it at one input. -/
def fnPipeAllWrong : ChangeSpec := { name := "fnPipeAll", fn := fun _ => fun
  | [d1, d2] => { results := [.lit (.bool false)], args := [d1, d2] }
  | _ => none }
def FnPipeAllWrongFalsely : Prop := fnPipeAllRow.holds Tryd.pinned (OpenSpec.ofChange fnPipeAllWrong)

/-- 'laws.FnExactAccessGet': WHATEVER THE INPUT: true; the input reads as it did. -/
def fnExactAccessGetSpec : ChangeSpec := { name := "fnExactAccessGet", vars := ["loop.example/quoin/impl.sizeBits"], fn := fun _ => fun
  | [d1, d2, g1] => { results := [.lit (.bool true)], args := [d1, d2], vars := [g1] }
  | _ => none }
def fnExactAccessGetRow : OpenClaim := { program := "ytfkjjmhbljlbkaadoor", sum := "a6ff71825a358a7f11d4ba846e28df2ff76f2c3064e05d6bd1ac525c540b684a", func := "loop.example/quoin/laws.FnExactAccessGet", spec := "fnExactAccessGet", unfollowed := true, recurses := true, named := ["loop.example/quoin/impl.sizeBits"], loops := true, apart := false, laid := [("loop.example/quoin/impl.sizeBits", laid_loop_example_quoin_impl_sizeBits)] }
def FnExactAccessGetSaid : Prop := fnExactAccessGetRow.holds Tryd.pinned (OpenSpec.ofChange fnExactAccessGetSpec)

/-- ITS FALSE NEIGHBOUR: 'it returns false'. Refute it at one input. -/
def fnExactAccessGetWrong : ChangeSpec := { name := "fnExactAccessGet", vars := ["loop.example/quoin/impl.sizeBits"], fn := fun _ => fun
  | [d1, d2, g1] => { results := [.lit (.bool false)], args := [d1, d2], vars := [g1] }
  | _ => none }
def FnExactAccessGetWrongFalsely : Prop := fnExactAccessGetRow.holds Tryd.pinned (OpenSpec.ofChange fnExactAccessGetWrong)

/-- 'laws.FnExactAccessPut': WHATEVER THE INPUT: true; the input reads as it did. -/
def fnExactAccessPutSpec : ChangeSpec := { name := "fnExactAccessPut", vars := ["loop.example/quoin/impl.sizeBits"], fn := fun _ => fun
  | [d1, d2, d3, g1] => { results := [.lit (.bool true)], args := [d1, d2, d3], vars := [g1] }
  | _ => none }
def fnExactAccessPutRow : OpenClaim := { program := "ytfkjjmhbljlbkaadoor", sum := "a6ff71825a358a7f11d4ba846e28df2ff76f2c3064e05d6bd1ac525c540b684a", func := "loop.example/quoin/laws.FnExactAccessPut", spec := "fnExactAccessPut", unfollowed := true, recurses := true, named := ["loop.example/quoin/impl.sizeBits"], loops := true, apart := false, laid := [("loop.example/quoin/impl.sizeBits", laid_loop_example_quoin_impl_sizeBits)] }
def FnExactAccessPutSaid : Prop := fnExactAccessPutRow.holds Tryd.pinned (OpenSpec.ofChange fnExactAccessPutSpec)

/-- ITS FALSE NEIGHBOUR: 'it returns false'. Refute it at one input. -/
def fnExactAccessPutWrong : ChangeSpec := { name := "fnExactAccessPut", vars := ["loop.example/quoin/impl.sizeBits"], fn := fun _ => fun
  | [d1, d2, d3, g1] => { results := [.lit (.bool false)], args := [d1, d2, d3], vars := [g1] }
  | _ => none }
def FnExactAccessPutWrongFalsely : Prop := fnExactAccessPutRow.holds Tryd.pinned (OpenSpec.ofChange fnExactAccessPutWrong)

/-- 'laws.FnPipeBytes': WHATEVER THE INPUT: true; the input reads as it did. -/
def fnPipeBytesSpec : ChangeSpec := { name := "fnPipeBytes", fn := fun _ => fun
  | [d] => { results := [.lit (.bool true)], args := [d] }
  | _ => none }
def fnPipeBytesRow : OpenClaim := { program := "ytfkjjmhbljlbkaadoor", sum := "a6ff71825a358a7f11d4ba846e28df2ff76f2c3064e05d6bd1ac525c540b684a", func := "loop.example/quoin/laws.FnPipeBytes", spec := "fnPipeBytes", inPlace := ["internal/bytealg.IndexByteString", "internal/bytealg.IndexString"], named := ["unicode/utf8.first", "unicode/utf8.acceptRanges", "internal/bytealg.MaxLen"], apart := false, laid := [("unicode/utf8.acceptRanges", laid_unicode_utf8_acceptRanges), ("unicode/utf8.first", laid_unicode_utf8_first)] }
def FnPipeBytesSaid : Prop := fnPipeBytesRow.holds Tryd.pinned (OpenSpec.ofChange fnPipeBytesSpec)

/-- ITS FALSE NEIGHBOUR: 'it returns false'. Refute it at one input. -/
def fnPipeBytesWrong : ChangeSpec := { name := "fnPipeBytes", fn := fun _ => fun
  | [d] => { results := [.lit (.bool false)], args := [d] }
  | _ => none }
def FnPipeBytesWrongFalsely : Prop := fnPipeBytesRow.holds Tryd.pinned (OpenSpec.ofChange fnPipeBytesWrong)

/-- 'laws.FnPipe': WHATEVER THE INPUT: true; the input reads as it did. -/
def fnPipeSpec : ChangeSpec := { name := "fnPipe", fn := fun _ => fun
  | [d1, d2] => { results := [.lit (.bool true)], args := [d1, d2] }
  | _ => none }
def fnPipeRow : OpenClaim := { program := "ytfkjjmhbljlbkaadoor", sum := "a6ff71825a358a7f11d4ba846e28df2ff76f2c3064e05d6bd1ac525c540b684a", func := "loop.example/quoin/laws.FnPipe", spec := "fnPipe", inPlace := ["internal/bytealg.IndexByteString", "internal/bytealg.IndexString"], named := ["unicode/utf8.first", "unicode/utf8.acceptRanges", "internal/bytealg.MaxLen"], apart := false, laid := [("unicode/utf8.acceptRanges", laid_unicode_utf8_acceptRanges), ("unicode/utf8.first", laid_unicode_utf8_first)] }
def FnPipeSaid : Prop := fnPipeRow.holds Tryd.pinned (OpenSpec.ofChange fnPipeSpec)

/-- ITS FALSE NEIGHBOUR: 'it returns false'. Refute it at one input. -/
def fnPipeWrong : ChangeSpec := { name := "fnPipe", fn := fun _ => fun
  | [d1, d2] => { results := [.lit (.bool false)], args := [d1, d2] }
  | _ => none }
def FnPipeWrongFalsely : Prop := fnPipeRow.holds Tryd.pinned (OpenSpec.ofChange fnPipeWrong)

/-- 'laws.FnExactPathAll': WHATEVER THE INPUT: true; the input reads as it did. -/
def fnExactPathAllSpec : ChangeSpec := { name := "fnExactPathAll", fn := fun _ => fun
  | [d] => { results := [.lit (.bool true)], args := [d] }
  | _ => none }
def fnExactPathAllRow : OpenClaim := { program := "ytfkjjmhbljlbkaadoor", sum := "a6ff71825a358a7f11d4ba846e28df2ff76f2c3064e05d6bd1ac525c540b684a", func := "loop.example/quoin/laws.FnExactPathAll", spec := "fnExactPathAll", inPlace := ["internal/bytealg.IndexByteString", "internal/bytealg.IndexString", "internal/abi.NoEscape", "internal/bytealg.MakeNoZero"], unfollowed := true, recurses := true, named := ["internal/bytealg.MaxLen", "internal/strconv.uint64pow10", "math/bits.deBruijn32tab", "math/bits.deBruijn64tab"], loops := true, apart := false, laid := [("math/bits.deBruijn32tab", laid_math_bits_deBruijn32tab), ("math/bits.deBruijn64tab", laid_math_bits_deBruijn64tab), ("internal/strconv.uint64pow10", laid_internal_strconv_uint64pow10)] }
def FnExactPathAllSaid : Prop := fnExactPathAllRow.holds Tryd.pinned (OpenSpec.ofChange fnExactPathAllSpec)

/-- ITS FALSE NEIGHBOUR: 'it returns false'. Refute it at one input. -/
def fnExactPathAllWrong : ChangeSpec := { name := "fnExactPathAll", fn := fun _ => fun
  | [d] => { results := [.lit (.bool false)], args := [d] }
  | _ => none }
def FnExactPathAllWrongFalsely : Prop := fnExactPathAllRow.holds Tryd.pinned (OpenSpec.ofChange fnExactPathAllWrong)

/-- 'laws.FnExactPathGet': WHATEVER THE INPUT: true; the input reads as it did. -/
def fnExactPathGetSpec : ChangeSpec := { name := "fnExactPathGet", fn := fun _ => fun
  | [d1, d2] => { results := [.lit (.bool true)], args := [d1, d2] }
  | _ => none }
def fnExactPathGetRow : OpenClaim := { program := "ytfkjjmhbljlbkaadoor", sum := "a6ff71825a358a7f11d4ba846e28df2ff76f2c3064e05d6bd1ac525c540b684a", func := "loop.example/quoin/laws.FnExactPathGet", spec := "fnExactPathGet", inPlace := ["internal/bytealg.IndexByteString", "internal/bytealg.IndexString", "internal/abi.NoEscape", "internal/bytealg.MakeNoZero"], unfollowed := true, recurses := true, named := ["internal/bytealg.MaxLen", "internal/strconv.uint64pow10", "math/bits.deBruijn32tab", "math/bits.deBruijn64tab"], loops := true, apart := false, laid := [("math/bits.deBruijn32tab", laid_math_bits_deBruijn32tab), ("math/bits.deBruijn64tab", laid_math_bits_deBruijn64tab), ("internal/strconv.uint64pow10", laid_internal_strconv_uint64pow10)] }
def FnExactPathGetSaid : Prop := fnExactPathGetRow.holds Tryd.pinned (OpenSpec.ofChange fnExactPathGetSpec)

/-- ITS FALSE NEIGHBOUR: 'it returns false'. Refute it at one input. -/
def fnExactPathGetWrong : ChangeSpec := { name := "fnExactPathGet", fn := fun _ => fun
  | [d1, d2] => { results := [.lit (.bool false)], args := [d1, d2] }
  | _ => none }
def FnExactPathGetWrongFalsely : Prop := fnExactPathGetRow.holds Tryd.pinned (OpenSpec.ofChange fnExactPathGetWrong)

/-- 'laws.FnExactDiffer': WHATEVER THE INPUT: true; the input reads as it did. -/
def fnExactDifferSpec : ChangeSpec := { name := "fnExactDiffer", fn := fun _ => fun
  | [d1, d2] => { results := [.lit (.bool true)], args := [d1, d2] }
  | _ => none }
def fnExactDifferRow : OpenClaim := { program := "ytfkjjmhbljlbkaadoor", sum := "a6ff71825a358a7f11d4ba846e28df2ff76f2c3064e05d6bd1ac525c540b684a", func := "loop.example/quoin/laws.FnExactDiffer", spec := "fnExactDiffer", inPlace := ["internal/bytealg.IndexByteString", "internal/bytealg.IndexString", "internal/abi.NoEscape", "internal/bytealg.MakeNoZero"], unfollowed := true, recurses := true, named := ["internal/bytealg.MaxLen", "internal/strconv.uint64pow10", "math/bits.deBruijn32tab", "math/bits.deBruijn64tab"], loops := true, apart := false, laid := [("math/bits.deBruijn32tab", laid_math_bits_deBruijn32tab), ("math/bits.deBruijn64tab", laid_math_bits_deBruijn64tab), ("internal/strconv.uint64pow10", laid_internal_strconv_uint64pow10)] }
def FnExactDifferSaid : Prop := fnExactDifferRow.holds Tryd.pinned (OpenSpec.ofChange fnExactDifferSpec)

/-- ITS FALSE NEIGHBOUR: 'it returns false'. Refute it at one input. -/
def fnExactDifferWrong : ChangeSpec := { name := "fnExactDiffer", fn := fun _ => fun
  | [d1, d2] => { results := [.lit (.bool false)], args := [d1, d2] }
  | _ => none }
def FnExactDifferWrongFalsely : Prop := fnExactDifferRow.holds Tryd.pinned (OpenSpec.ofChange fnExactDifferWrong)

/- THE SECOND FORM. 'bulk': how many values and letters a reading holds, each counted each time it is reached (what is shared counts as often as it is met; a slice's spare places count too). A statement '..UptoSaid' is the law's where the arguments, and the package variables that the reading takes, are together of bulk at most 1048576: NARROWER than '..Said'. Prove '..Said' where nothing that the law and all that it calls make is longer than what came in: it says more and counts as full. Else prove '..UptoSaid'. A law counts once. -/
mutual
def uptoBulk {H : Type} : DataW H → Nat
  | .lit (.string bytes) => bytes.length + 1
  | .lit _ => 1
  | .nil => 1
  | .ptr d => uptoBulk d + 1
  | .slice elems spare => uptoBulkAll elems + uptoBulkAll spare + 1
  | .agg parts => uptoBulkAll parts + 1
  | .iface _ d => uptoBulk d + 1
  | .map entries => uptoBulkEntries entries + 1
  | .held _ => 1
def uptoBulkAll {H : Type} : List (DataW H) → Nat
  | [] => 0
  | d :: r => uptoBulk d + uptoBulkAll r
def uptoBulkEntries {H : Type} : List (Lit × DataW H) → Nat
  | [] => 0
  | x :: r => uptoBulkEntry x + uptoBulkEntries r
def uptoBulkEntry {H : Type} : Lit × DataW H → Nat
  | (.string bytes, d) => bytes.length + uptoBulk d + 1
  | (_, d) => uptoBulk d + 1
 end
def uptoSmall : (H : Type) → List (DataW H) → Bool := fun _ ds => decide (uptoBulkAll ds ≤ 1048576)
def OpenSpec.upto (s : _root_.Go.ChangeSpec) : _root_.Go.OpenSpec := { _root_.Go.OpenSpec.ofChange s with cond := some uptoSmall }

/-- 'laws.FnExactAccessText', WHERE WHAT IT READS IS OF BULK AT MOST 1048576: true; the input reads as it did. -/
def fnExactAccessTextUptoRow : OpenClaim := { program := "ytfkjjmhbljlbkaadoor", sum := "a6ff71825a358a7f11d4ba846e28df2ff76f2c3064e05d6bd1ac525c540b684a", func := "loop.example/quoin/laws.FnExactAccessText", spec := "fnExactAccessText", inPlace := ["internal/abi.NoEscape", "internal/bytealg.MakeNoZero"], unfollowed := true, recurses := true, named := ["internal/strconv.uint64pow10", "math/bits.deBruijn32tab", "math/bits.deBruijn64tab"], apart := false, laid := [("math/bits.deBruijn32tab", laid_math_bits_deBruijn32tab), ("math/bits.deBruijn64tab", laid_math_bits_deBruijn64tab), ("internal/strconv.uint64pow10", laid_internal_strconv_uint64pow10)], narrowed := true }
def FnExactAccessTextUptoSaid : Prop := fnExactAccessTextUptoRow.holds Tryd.pinned (OpenSpec.upto fnExactAccessTextSpec)

/-- 'laws.FnPipeAll', WHERE WHAT IT READS IS OF BULK AT MOST 1048576: true; the input reads as it did. -/
def fnPipeAllUptoRow : OpenClaim := { program := "ytfkjjmhbljlbkaadoor", sum := "a6ff71825a358a7f11d4ba846e28df2ff76f2c3064e05d6bd1ac525c540b684a", func := "loop.example/quoin/laws.FnPipeAll", spec := "fnPipeAll", inPlace := ["internal/abi.NoEscape", "internal/bytealg.IndexByteString", "internal/bytealg.IndexString"], named := ["unicode/utf8.first", "unicode/utf8.acceptRanges", "internal/bytealg.MaxLen"], apart := false, laid := [("unicode/utf8.acceptRanges", laid_unicode_utf8_acceptRanges), ("unicode/utf8.first", laid_unicode_utf8_first)], narrowed := true }
def FnPipeAllUptoSaid : Prop := fnPipeAllUptoRow.holds Tryd.pinned (OpenSpec.upto fnPipeAllSpec)

/-- 'laws.FnExactAccessGet', WHERE WHAT IT READS IS OF BULK AT MOST 1048576: true; the input reads as it did. -/
def fnExactAccessGetUptoRow : OpenClaim := { program := "ytfkjjmhbljlbkaadoor", sum := "a6ff71825a358a7f11d4ba846e28df2ff76f2c3064e05d6bd1ac525c540b684a", func := "loop.example/quoin/laws.FnExactAccessGet", spec := "fnExactAccessGet", unfollowed := true, recurses := true, named := ["loop.example/quoin/impl.sizeBits"], loops := true, apart := false, laid := [("loop.example/quoin/impl.sizeBits", laid_loop_example_quoin_impl_sizeBits)], narrowed := true }
def FnExactAccessGetUptoSaid : Prop := fnExactAccessGetUptoRow.holds Tryd.pinned (OpenSpec.upto fnExactAccessGetSpec)

/-- 'laws.FnExactAccessPut', WHERE WHAT IT READS IS OF BULK AT MOST 1048576: true; the input reads as it did. -/
def fnExactAccessPutUptoRow : OpenClaim := { program := "ytfkjjmhbljlbkaadoor", sum := "a6ff71825a358a7f11d4ba846e28df2ff76f2c3064e05d6bd1ac525c540b684a", func := "loop.example/quoin/laws.FnExactAccessPut", spec := "fnExactAccessPut", unfollowed := true, recurses := true, named := ["loop.example/quoin/impl.sizeBits"], loops := true, apart := false, laid := [("loop.example/quoin/impl.sizeBits", laid_loop_example_quoin_impl_sizeBits)], narrowed := true }
def FnExactAccessPutUptoSaid : Prop := fnExactAccessPutUptoRow.holds Tryd.pinned (OpenSpec.upto fnExactAccessPutSpec)

/-- 'laws.FnPipeBytes', WHERE WHAT IT READS IS OF BULK AT MOST 1048576: true; the input reads as it did. -/
def fnPipeBytesUptoRow : OpenClaim := { program := "ytfkjjmhbljlbkaadoor", sum := "a6ff71825a358a7f11d4ba846e28df2ff76f2c3064e05d6bd1ac525c540b684a", func := "loop.example/quoin/laws.FnPipeBytes", spec := "fnPipeBytes", inPlace := ["internal/bytealg.IndexByteString", "internal/bytealg.IndexString"], named := ["unicode/utf8.first", "unicode/utf8.acceptRanges", "internal/bytealg.MaxLen"], apart := false, laid := [("unicode/utf8.acceptRanges", laid_unicode_utf8_acceptRanges), ("unicode/utf8.first", laid_unicode_utf8_first)], narrowed := true }
def FnPipeBytesUptoSaid : Prop := fnPipeBytesUptoRow.holds Tryd.pinned (OpenSpec.upto fnPipeBytesSpec)

/-- 'laws.FnPipe', WHERE WHAT IT READS IS OF BULK AT MOST 1048576: true; the input reads as it did. -/
def fnPipeUptoRow : OpenClaim := { program := "ytfkjjmhbljlbkaadoor", sum := "a6ff71825a358a7f11d4ba846e28df2ff76f2c3064e05d6bd1ac525c540b684a", func := "loop.example/quoin/laws.FnPipe", spec := "fnPipe", inPlace := ["internal/bytealg.IndexByteString", "internal/bytealg.IndexString"], named := ["unicode/utf8.first", "unicode/utf8.acceptRanges", "internal/bytealg.MaxLen"], apart := false, laid := [("unicode/utf8.acceptRanges", laid_unicode_utf8_acceptRanges), ("unicode/utf8.first", laid_unicode_utf8_first)], narrowed := true }
def FnPipeUptoSaid : Prop := fnPipeUptoRow.holds Tryd.pinned (OpenSpec.upto fnPipeSpec)

/-- 'laws.FnExactPathAll', WHERE WHAT IT READS IS OF BULK AT MOST 1048576: true; the input reads as it did. -/
def fnExactPathAllUptoRow : OpenClaim := { program := "ytfkjjmhbljlbkaadoor", sum := "a6ff71825a358a7f11d4ba846e28df2ff76f2c3064e05d6bd1ac525c540b684a", func := "loop.example/quoin/laws.FnExactPathAll", spec := "fnExactPathAll", inPlace := ["internal/bytealg.IndexByteString", "internal/bytealg.IndexString", "internal/abi.NoEscape", "internal/bytealg.MakeNoZero"], unfollowed := true, recurses := true, named := ["internal/bytealg.MaxLen", "internal/strconv.uint64pow10", "math/bits.deBruijn32tab", "math/bits.deBruijn64tab"], loops := true, apart := false, laid := [("math/bits.deBruijn32tab", laid_math_bits_deBruijn32tab), ("math/bits.deBruijn64tab", laid_math_bits_deBruijn64tab), ("internal/strconv.uint64pow10", laid_internal_strconv_uint64pow10)], narrowed := true }
def FnExactPathAllUptoSaid : Prop := fnExactPathAllUptoRow.holds Tryd.pinned (OpenSpec.upto fnExactPathAllSpec)

/-- 'laws.FnExactPathGet', WHERE WHAT IT READS IS OF BULK AT MOST 1048576: true; the input reads as it did. -/
def fnExactPathGetUptoRow : OpenClaim := { program := "ytfkjjmhbljlbkaadoor", sum := "a6ff71825a358a7f11d4ba846e28df2ff76f2c3064e05d6bd1ac525c540b684a", func := "loop.example/quoin/laws.FnExactPathGet", spec := "fnExactPathGet", inPlace := ["internal/bytealg.IndexByteString", "internal/bytealg.IndexString", "internal/abi.NoEscape", "internal/bytealg.MakeNoZero"], unfollowed := true, recurses := true, named := ["internal/bytealg.MaxLen", "internal/strconv.uint64pow10", "math/bits.deBruijn32tab", "math/bits.deBruijn64tab"], loops := true, apart := false, laid := [("math/bits.deBruijn32tab", laid_math_bits_deBruijn32tab), ("math/bits.deBruijn64tab", laid_math_bits_deBruijn64tab), ("internal/strconv.uint64pow10", laid_internal_strconv_uint64pow10)], narrowed := true }
def FnExactPathGetUptoSaid : Prop := fnExactPathGetUptoRow.holds Tryd.pinned (OpenSpec.upto fnExactPathGetSpec)

/-- 'laws.FnExactDiffer', WHERE WHAT IT READS IS OF BULK AT MOST 1048576: true; the input reads as it did. -/
def fnExactDifferUptoRow : OpenClaim := { program := "ytfkjjmhbljlbkaadoor", sum := "a6ff71825a358a7f11d4ba846e28df2ff76f2c3064e05d6bd1ac525c540b684a", func := "loop.example/quoin/laws.FnExactDiffer", spec := "fnExactDiffer", inPlace := ["internal/bytealg.IndexByteString", "internal/bytealg.IndexString", "internal/abi.NoEscape", "internal/bytealg.MakeNoZero"], unfollowed := true, recurses := true, named := ["internal/bytealg.MaxLen", "internal/strconv.uint64pow10", "math/bits.deBruijn32tab", "math/bits.deBruijn64tab"], loops := true, apart := false, laid := [("math/bits.deBruijn32tab", laid_math_bits_deBruijn32tab), ("math/bits.deBruijn64tab", laid_math_bits_deBruijn64tab), ("internal/strconv.uint64pow10", laid_internal_strconv_uint64pow10)], narrowed := true }
def FnExactDifferUptoSaid : Prop := fnExactDifferUptoRow.holds Tryd.pinned (OpenSpec.upto fnExactDifferSpec)

end Rows
end Go.Proofs.YtfkjjmhbljlbkaaDoor
