/- Part of the proof of a statement about the given program: EvTyF. No condition of its own. -/
import Derived.Test.YtjjebjackjeneaaDoorProg
import Derived.Test.YtjjebjackjeneaaDoorEvSym
namespace Go.Ev.Tryd
open Go.Proofs
set_option maxRecDepth 100000
@[go_sem] theorem sz1 : szT Tryd.prog 1 = 1 := by kernel_rfl
@[go_sem] theorem by1 : bytesT Tryd.prog 1 = 8 := by kernel_rfl
@[go_sem] theorem ag1 : isAggT Tryd.prog 1 = some false := by kernel_rfl
@[go_sem] theorem zc1 : zeroC Tryd.prog 6 1 = some [.nilf] := by kernel_rfl
@[go_sem] theorem ni1 : noIntT Tryd.prog 1 = true := by kernel_rfl
@[go_sem] theorem sz2 : szT Tryd.prog 2 = 1 := by kernel_rfl
@[go_sem] theorem by2 : bytesT Tryd.prog 2 = 8 := by kernel_rfl
@[go_sem] theorem ag2 : isAggT Tryd.prog 2 = some false := by kernel_rfl
@[go_sem] theorem zc2 : zeroC Tryd.prog 6 2 = some [.int .i64 (0)] := by kernel_rfl
@[go_sem] theorem ni2 : noIntT Tryd.prog 2 = false := by kernel_rfl
@[go_sem] theorem sz3 : szT Tryd.prog 3 = 1 := by kernel_rfl
@[go_sem] theorem by3 : bytesT Tryd.prog 3 = 8 := by kernel_rfl
@[go_sem] theorem ag3 : isAggT Tryd.prog 3 = some false := by kernel_rfl
@[go_sem] theorem zc3 : zeroC Tryd.prog 6 3 = some [.int .i64 (0)] := by kernel_rfl
@[go_sem] theorem ni3 : noIntT Tryd.prog 3 = false := by kernel_rfl
@[go_sem] theorem sz4 : szT Tryd.prog 4 = 1 := by kernel_rfl
@[go_sem] theorem by4 : bytesT Tryd.prog 4 = 1 := by kernel_rfl
@[go_sem] theorem ag4 : isAggT Tryd.prog 4 = some false := by kernel_rfl
@[go_sem] theorem zc4 : zeroC Tryd.prog 6 4 = some [.bool false] := by kernel_rfl
@[go_sem] theorem ni4 : noIntT Tryd.prog 4 = true := by kernel_rfl
@[go_sem] theorem sz5 : szT Tryd.prog 5 = 1 := by kernel_rfl
@[go_sem] theorem by5 : bytesT Tryd.prog 5 = 1 := by kernel_rfl
@[go_sem] theorem ag5 : isAggT Tryd.prog 5 = some false := by kernel_rfl
@[go_sem] theorem zc5 : zeroC Tryd.prog 6 5 = some [.int .u8 (0)] := by kernel_rfl
@[go_sem] theorem ni5 : noIntT Tryd.prog 5 = false := by kernel_rfl
@[go_sem] theorem sz6 : szT Tryd.prog 6 = 1 := by kernel_rfl
@[go_sem] theorem by6 : bytesT Tryd.prog 6 = 1 := by kernel_rfl
@[go_sem] theorem ag6 : isAggT Tryd.prog 6 = some false := by kernel_rfl
@[go_sem] theorem zc6 : zeroC Tryd.prog 6 6 = some [.int .u8 (0)] := by kernel_rfl
@[go_sem] theorem ni6 : noIntT Tryd.prog 6 = false := by kernel_rfl
@[go_sem] theorem sz7 : szT Tryd.prog 7 = 4 := by kernel_rfl
@[go_sem] theorem by7 : bytesT Tryd.prog 7 = 24 := by kernel_rfl
@[go_sem] theorem ag7 : isAggT Tryd.prog 7 = some true := by kernel_rfl
@[go_sem] theorem zc7 : zeroC Tryd.prog 6 7 = some [.int .i64 (0), .int .i64 (0), .bool false, .int .u8 (0)] := by kernel_rfl
@[go_sem] theorem ni7 : noIntT Tryd.prog 7 = true := by kernel_rfl
@[go_sem] theorem fs7 : (fieldsT Tryd.prog 7).isSome = true := by kernel_rfl
@[go_sem] theorem fl7_0 : fldA Tryd.prog 7 0 = some (0, 2) := by kernel_rfl
@[go_sem] theorem fl7_1 : fldA Tryd.prog 7 1 = some (1, 3) := by kernel_rfl
@[go_sem] theorem fl7_2 : fldA Tryd.prog 7 2 = some (2, 4) := by kernel_rfl
@[go_sem] theorem fl7_3 : fldA Tryd.prog 7 3 = some (3, 6) := by kernel_rfl
@[go_sem] theorem sz8 : szT Tryd.prog 8 = 4 := by kernel_rfl
@[go_sem] theorem by8 : bytesT Tryd.prog 8 = 24 := by kernel_rfl
@[go_sem] theorem ag8 : isAggT Tryd.prog 8 = some true := by kernel_rfl
@[go_sem] theorem zc8 : zeroC Tryd.prog 6 8 = some [.int .i64 (0), .int .i64 (0), .bool false, .int .u8 (0)] := by kernel_rfl
@[go_sem] theorem ni8 : noIntT Tryd.prog 8 = true := by kernel_rfl
@[go_sem] theorem fs8 : (fieldsT Tryd.prog 8).isSome = true := by kernel_rfl
@[go_sem] theorem fl8_0 : fldA Tryd.prog 8 0 = some (0, 2) := by kernel_rfl
@[go_sem] theorem fl8_1 : fldA Tryd.prog 8 1 = some (1, 3) := by kernel_rfl
@[go_sem] theorem fl8_2 : fldA Tryd.prog 8 2 = some (2, 4) := by kernel_rfl
@[go_sem] theorem fl8_3 : fldA Tryd.prog 8 3 = some (3, 6) := by kernel_rfl
@[go_sem] theorem sz9 : szT Tryd.prog 9 = 1 := by kernel_rfl
@[go_sem] theorem by9 : bytesT Tryd.prog 9 = 16 := by kernel_rfl
@[go_sem] theorem ag9 : isAggT Tryd.prog 9 = some false := by kernel_rfl
@[go_sem] theorem zc9 : zeroC Tryd.prog 6 9 = some [.str ⟨#[]⟩] := by kernel_rfl
@[go_sem] theorem ni9 : noIntT Tryd.prog 9 = true := by kernel_rfl
@[go_sem] theorem sz10 : szT Tryd.prog 10 = 1 := by kernel_rfl
@[go_sem] theorem by10 : bytesT Tryd.prog 10 = 16 := by kernel_rfl
@[go_sem] theorem ag10 : isAggT Tryd.prog 10 = some false := by kernel_rfl
@[go_sem] theorem zc10 : zeroC Tryd.prog 6 10 = some [.str ⟨#[]⟩] := by kernel_rfl
@[go_sem] theorem ni10 : noIntT Tryd.prog 10 = true := by kernel_rfl
@[go_sem] theorem sz11 : szT Tryd.prog 11 = 1 := by kernel_rfl
@[go_sem] theorem by11 : bytesT Tryd.prog 11 = 16 := by kernel_rfl
@[go_sem] theorem ag11 : isAggT Tryd.prog 11 = some false := by kernel_rfl
@[go_sem] theorem zc11 : zeroC Tryd.prog 6 11 = some [.str ⟨#[]⟩] := by kernel_rfl
@[go_sem] theorem ni11 : noIntT Tryd.prog 11 = true := by kernel_rfl
@[go_sem] theorem sz12 : szT Tryd.prog 12 = 1 := by kernel_rfl
@[go_sem] theorem by12 : bytesT Tryd.prog 12 = 8 := by kernel_rfl
@[go_sem] theorem ag12 : isAggT Tryd.prog 12 = some false := by kernel_rfl
@[go_sem] theorem zc12 : zeroC Tryd.prog 6 12 = some [.int .u64 (0)] := by kernel_rfl
@[go_sem] theorem ni12 : noIntT Tryd.prog 12 = false := by kernel_rfl
@[go_sem] theorem sz13 : szT Tryd.prog 13 = 2 := by kernel_rfl
@[go_sem] theorem by13 : bytesT Tryd.prog 13 = 24 := by kernel_rfl
@[go_sem] theorem ag13 : isAggT Tryd.prog 13 = some true := by kernel_rfl
@[go_sem] theorem zc13 : zeroC Tryd.prog 6 13 = some [.str ⟨#[]⟩, .int .u64 (0)] := by kernel_rfl
@[go_sem] theorem ni13 : noIntT Tryd.prog 13 = true := by kernel_rfl
@[go_sem] theorem fs13 : (fieldsT Tryd.prog 13).isSome = true := by kernel_rfl
@[go_sem] theorem fl13_0 : fldA Tryd.prog 13 0 = some (0, 9) := by kernel_rfl
@[go_sem] theorem fl13_1 : fldA Tryd.prog 13 1 = some (1, 12) := by kernel_rfl
@[go_sem] theorem sz14 : szT Tryd.prog 14 = 2 := by kernel_rfl
@[go_sem] theorem by14 : bytesT Tryd.prog 14 = 24 := by kernel_rfl
@[go_sem] theorem ag14 : isAggT Tryd.prog 14 = some true := by kernel_rfl
@[go_sem] theorem zc14 : zeroC Tryd.prog 6 14 = some [.str ⟨#[]⟩, .int .u64 (0)] := by kernel_rfl
@[go_sem] theorem ni14 : noIntT Tryd.prog 14 = true := by kernel_rfl
@[go_sem] theorem fs14 : (fieldsT Tryd.prog 14).isSome = true := by kernel_rfl
@[go_sem] theorem fl14_0 : fldA Tryd.prog 14 0 = some (0, 9) := by kernel_rfl
@[go_sem] theorem fl14_1 : fldA Tryd.prog 14 1 = some (1, 12) := by kernel_rfl
@[go_sem] theorem sz15 : szT Tryd.prog 15 = 1 := by kernel_rfl
@[go_sem] theorem by15 : bytesT Tryd.prog 15 = 8 := by kernel_rfl
@[go_sem] theorem ag15 : isAggT Tryd.prog 15 = some false := by kernel_rfl
@[go_sem] theorem zc15 : zeroC Tryd.prog 6 15 = some [.nilp] := by kernel_rfl
@[go_sem] theorem ni15 : noIntT Tryd.prog 15 = true := by kernel_rfl
@[go_sem] theorem sz16 : szT Tryd.prog 16 = 1 := by kernel_rfl
@[go_sem] theorem by16 : bytesT Tryd.prog 16 = 8 := by kernel_rfl
@[go_sem] theorem ag16 : isAggT Tryd.prog 16 = some false := by kernel_rfl
@[go_sem] theorem zc16 : zeroC Tryd.prog 6 16 = some [.nilp] := by kernel_rfl
@[go_sem] theorem ni16 : noIntT Tryd.prog 16 = true := by kernel_rfl
@[go_sem] theorem sz17 : szT Tryd.prog 17 = 1 := by kernel_rfl
@[go_sem] theorem by17 : bytesT Tryd.prog 17 = 8 := by kernel_rfl
@[go_sem] theorem ag17 : isAggT Tryd.prog 17 = some false := by kernel_rfl
@[go_sem] theorem zc17 : zeroC Tryd.prog 6 17 = some [.nilp] := by kernel_rfl
@[go_sem] theorem ni17 : noIntT Tryd.prog 17 = true := by kernel_rfl
@[go_sem] theorem sz18 : szT Tryd.prog 18 = 1 := by kernel_rfl
@[go_sem] theorem by18 : bytesT Tryd.prog 18 = 8 := by kernel_rfl
@[go_sem] theorem ag18 : isAggT Tryd.prog 18 = some true := by kernel_rfl
@[go_sem] theorem zc18 : zeroC Tryd.prog 6 18 = some [.nilp] := by kernel_rfl
@[go_sem] theorem ni18 : noIntT Tryd.prog 18 = true := by kernel_rfl
@[go_sem] theorem fs18 : (fieldsT Tryd.prog 18).isSome = true := by kernel_rfl
@[go_sem] theorem fl18_0 : fldA Tryd.prog 18 0 = some (0, 17) := by kernel_rfl
@[go_sem] theorem sz19 : szT Tryd.prog 19 = 1 := by kernel_rfl
@[go_sem] theorem by19 : bytesT Tryd.prog 19 = 8 := by kernel_rfl
@[go_sem] theorem ag19 : isAggT Tryd.prog 19 = some true := by kernel_rfl
@[go_sem] theorem zc19 : zeroC Tryd.prog 6 19 = some [.nilp] := by kernel_rfl
@[go_sem] theorem ni19 : noIntT Tryd.prog 19 = true := by kernel_rfl
@[go_sem] theorem fs19 : (fieldsT Tryd.prog 19).isSome = true := by kernel_rfl
@[go_sem] theorem fl19_0 : fldA Tryd.prog 19 0 = some (0, 17) := by kernel_rfl
@[go_sem] theorem sz21 : szT Tryd.prog 21 = 1 := by kernel_rfl
@[go_sem] theorem by21 : bytesT Tryd.prog 21 = 4 := by kernel_rfl
@[go_sem] theorem ag21 : isAggT Tryd.prog 21 = some false := by kernel_rfl
@[go_sem] theorem zc21 : zeroC Tryd.prog 6 21 = some [.int .i32 (0)] := by kernel_rfl
@[go_sem] theorem ni21 : noIntT Tryd.prog 21 = false := by kernel_rfl
@[go_sem] theorem sz22 : szT Tryd.prog 22 = 1 := by kernel_rfl
@[go_sem] theorem by22 : bytesT Tryd.prog 22 = 24 := by kernel_rfl
@[go_sem] theorem ag22 : isAggT Tryd.prog 22 = some false := by kernel_rfl
@[go_sem] theorem zc22 : zeroC Tryd.prog 6 22 = some [.nils 5] := by kernel_rfl
@[go_sem] theorem ni22 : noIntT Tryd.prog 22 = true := by kernel_rfl
@[go_sem] theorem el22 : elemT Tryd.prog 22 = some 25 := by kernel_rfl
@[go_sem] theorem sz23 : szT Tryd.prog 23 = 1 := by kernel_rfl
@[go_sem] theorem by23 : bytesT Tryd.prog 23 = 24 := by kernel_rfl
@[go_sem] theorem ag23 : isAggT Tryd.prog 23 = some false := by kernel_rfl
@[go_sem] theorem zc23 : zeroC Tryd.prog 6 23 = some [.nils 1] := by kernel_rfl
@[go_sem] theorem ni23 : noIntT Tryd.prog 23 = true := by kernel_rfl
@[go_sem] theorem el23 : elemT Tryd.prog 23 = some 9 := by kernel_rfl
@[go_sem] theorem sz24 : szT Tryd.prog 24 = 5 := by kernel_rfl
@[go_sem] theorem by24 : bytesT Tryd.prog 24 = 80 := by kernel_rfl
@[go_sem] theorem ag24 : isAggT Tryd.prog 24 = some true := by kernel_rfl
@[go_sem] theorem zc24 : zeroC Tryd.prog 6 24 = some [.int .i64 (0), .int .i64 (0), .str ⟨#[]⟩, .nils 5, .nils 1] := by kernel_rfl
@[go_sem] theorem ni24 : noIntT Tryd.prog 24 = true := by kernel_rfl
@[go_sem] theorem fs24 : (fieldsT Tryd.prog 24).isSome = true := by kernel_rfl
@[go_sem] theorem fl24_0 : fldA Tryd.prog 24 0 = some (0, 3) := by kernel_rfl
@[go_sem] theorem fl24_1 : fldA Tryd.prog 24 1 = some (1, 3) := by kernel_rfl
@[go_sem] theorem fl24_2 : fldA Tryd.prog 24 2 = some (2, 9) := by kernel_rfl
@[go_sem] theorem fl24_3 : fldA Tryd.prog 24 3 = some (3, 22) := by kernel_rfl
@[go_sem] theorem fl24_4 : fldA Tryd.prog 24 4 = some (4, 23) := by kernel_rfl
@[go_sem] theorem sz25 : szT Tryd.prog 25 = 5 := by kernel_rfl
@[go_sem] theorem by25 : bytesT Tryd.prog 25 = 80 := by kernel_rfl
@[go_sem] theorem ag25 : isAggT Tryd.prog 25 = some true := by kernel_rfl
@[go_sem] theorem zc25 : zeroC Tryd.prog 6 25 = some [.int .i64 (0), .int .i64 (0), .str ⟨#[]⟩, .nils 5, .nils 1] := by kernel_rfl
@[go_sem] theorem ni25 : noIntT Tryd.prog 25 = true := by kernel_rfl
@[go_sem] theorem fs25 : (fieldsT Tryd.prog 25).isSome = true := by kernel_rfl
@[go_sem] theorem fl25_0 : fldA Tryd.prog 25 0 = some (0, 3) := by kernel_rfl
@[go_sem] theorem fl25_1 : fldA Tryd.prog 25 1 = some (1, 3) := by kernel_rfl
@[go_sem] theorem fl25_2 : fldA Tryd.prog 25 2 = some (2, 9) := by kernel_rfl
@[go_sem] theorem fl25_3 : fldA Tryd.prog 25 3 = some (3, 22) := by kernel_rfl
@[go_sem] theorem fl25_4 : fldA Tryd.prog 25 4 = some (4, 23) := by kernel_rfl
@[go_sem] theorem sz26 : szT Tryd.prog 26 = 1 := by kernel_rfl
@[go_sem] theorem by26 : bytesT Tryd.prog 26 = 8 := by kernel_rfl
@[go_sem] theorem ag26 : isAggT Tryd.prog 26 = some false := by kernel_rfl
@[go_sem] theorem zc26 : zeroC Tryd.prog 6 26 = some [.nilf] := by kernel_rfl
@[go_sem] theorem ni26 : noIntT Tryd.prog 26 = true := by kernel_rfl
@[go_sem] theorem sz27 : szT Tryd.prog 27 = 1 := by kernel_rfl
@[go_sem] theorem by27 : bytesT Tryd.prog 27 = 24 := by kernel_rfl
@[go_sem] theorem ag27 : isAggT Tryd.prog 27 = some false := by kernel_rfl
@[go_sem] theorem zc27 : zeroC Tryd.prog 6 27 = some [.nils 1] := by kernel_rfl
@[go_sem] theorem ni27 : noIntT Tryd.prog 27 = true := by kernel_rfl
@[go_sem] theorem el27 : elemT Tryd.prog 27 = some 23 := by kernel_rfl
@[go_sem] theorem sz28 : szT Tryd.prog 28 = 1 := by kernel_rfl
@[go_sem] theorem by28 : bytesT Tryd.prog 28 = 8 := by kernel_rfl
@[go_sem] theorem ag28 : isAggT Tryd.prog 28 = some false := by kernel_rfl
@[go_sem] theorem zc28 : zeroC Tryd.prog 6 28 = some [.nilf] := by kernel_rfl
@[go_sem] theorem ni28 : noIntT Tryd.prog 28 = true := by kernel_rfl
@[go_sem] theorem sz29 : szT Tryd.prog 29 = 1 := by kernel_rfl
@[go_sem] theorem by29 : bytesT Tryd.prog 29 = 24 := by kernel_rfl
@[go_sem] theorem ag29 : isAggT Tryd.prog 29 = some false := by kernel_rfl
@[go_sem] theorem zc29 : zeroC Tryd.prog 6 29 = some [.nils 5] := by kernel_rfl
@[go_sem] theorem ni29 : noIntT Tryd.prog 29 = true := by kernel_rfl
@[go_sem] theorem el29 : elemT Tryd.prog 29 = some 31 := by kernel_rfl
@[go_sem] theorem sz30 : szT Tryd.prog 30 = 5 := by kernel_rfl
@[go_sem] theorem by30 : bytesT Tryd.prog 30 = 80 := by kernel_rfl
@[go_sem] theorem ag30 : isAggT Tryd.prog 30 = some true := by kernel_rfl
@[go_sem] theorem zc30 : zeroC Tryd.prog 6 30 = some [.int .i64 (0), .int .i64 (0), .str ⟨#[]⟩, .nils 5, .nils 1] := by kernel_rfl
@[go_sem] theorem ni30 : noIntT Tryd.prog 30 = true := by kernel_rfl
@[go_sem] theorem fs30 : (fieldsT Tryd.prog 30).isSome = true := by kernel_rfl
@[go_sem] theorem fl30_0 : fldA Tryd.prog 30 0 = some (0, 3) := by kernel_rfl
@[go_sem] theorem fl30_1 : fldA Tryd.prog 30 1 = some (1, 3) := by kernel_rfl
@[go_sem] theorem fl30_2 : fldA Tryd.prog 30 2 = some (2, 9) := by kernel_rfl
@[go_sem] theorem fl30_3 : fldA Tryd.prog 30 3 = some (3, 29) := by kernel_rfl
@[go_sem] theorem fl30_4 : fldA Tryd.prog 30 4 = some (4, 23) := by kernel_rfl
@[go_sem] theorem sz31 : szT Tryd.prog 31 = 5 := by kernel_rfl
@[go_sem] theorem by31 : bytesT Tryd.prog 31 = 80 := by kernel_rfl
@[go_sem] theorem ag31 : isAggT Tryd.prog 31 = some true := by kernel_rfl
@[go_sem] theorem zc31 : zeroC Tryd.prog 6 31 = some [.int .i64 (0), .int .i64 (0), .str ⟨#[]⟩, .nils 5, .nils 1] := by kernel_rfl
@[go_sem] theorem ni31 : noIntT Tryd.prog 31 = true := by kernel_rfl
@[go_sem] theorem fs31 : (fieldsT Tryd.prog 31).isSome = true := by kernel_rfl
@[go_sem] theorem fl31_0 : fldA Tryd.prog 31 0 = some (0, 3) := by kernel_rfl
@[go_sem] theorem fl31_1 : fldA Tryd.prog 31 1 = some (1, 3) := by kernel_rfl
@[go_sem] theorem fl31_2 : fldA Tryd.prog 31 2 = some (2, 9) := by kernel_rfl
@[go_sem] theorem fl31_3 : fldA Tryd.prog 31 3 = some (3, 29) := by kernel_rfl
@[go_sem] theorem fl31_4 : fldA Tryd.prog 31 4 = some (4, 23) := by kernel_rfl
@[go_sem] theorem sz32 : szT Tryd.prog 32 = 1 := by kernel_rfl
@[go_sem] theorem by32 : bytesT Tryd.prog 32 = 8 := by kernel_rfl
@[go_sem] theorem ag32 : isAggT Tryd.prog 32 = some false := by kernel_rfl
@[go_sem] theorem zc32 : zeroC Tryd.prog 6 32 = some [.nilf] := by kernel_rfl
@[go_sem] theorem ni32 : noIntT Tryd.prog 32 = true := by kernel_rfl
@[go_sem] theorem sz33 : szT Tryd.prog 33 = 1 := by kernel_rfl
@[go_sem] theorem by33 : bytesT Tryd.prog 33 = 8 := by kernel_rfl
@[go_sem] theorem ag33 : isAggT Tryd.prog 33 = some false := by kernel_rfl
@[go_sem] theorem zc33 : zeroC Tryd.prog 6 33 = some [.nilf] := by kernel_rfl
@[go_sem] theorem ni33 : noIntT Tryd.prog 33 = true := by kernel_rfl
@[go_sem] theorem sz34 : szT Tryd.prog 34 = 1 := by kernel_rfl
@[go_sem] theorem by34 : bytesT Tryd.prog 34 = 8 := by kernel_rfl
@[go_sem] theorem ag34 : isAggT Tryd.prog 34 = some false := by kernel_rfl
@[go_sem] theorem zc34 : zeroC Tryd.prog 6 34 = some [.nilf] := by kernel_rfl
@[go_sem] theorem ni34 : noIntT Tryd.prog 34 = true := by kernel_rfl
@[go_sem] theorem sz35 : szT Tryd.prog 35 = 1 := by kernel_rfl
@[go_sem] theorem by35 : bytesT Tryd.prog 35 = 8 := by kernel_rfl
@[go_sem] theorem ag35 : isAggT Tryd.prog 35 = some false := by kernel_rfl
@[go_sem] theorem zc35 : zeroC Tryd.prog 6 35 = some [.nilf] := by kernel_rfl
@[go_sem] theorem ni35 : noIntT Tryd.prog 35 = true := by kernel_rfl
@[go_sem] theorem sz36 : szT Tryd.prog 36 = 1 := by kernel_rfl
@[go_sem] theorem by36 : bytesT Tryd.prog 36 = 8 := by kernel_rfl
@[go_sem] theorem ag36 : isAggT Tryd.prog 36 = some false := by kernel_rfl
@[go_sem] theorem zc36 : zeroC Tryd.prog 6 36 = some [.nilf] := by kernel_rfl
@[go_sem] theorem ni36 : noIntT Tryd.prog 36 = true := by kernel_rfl
@[go_sem] theorem sz37 : szT Tryd.prog 37 = 1 := by kernel_rfl
@[go_sem] theorem by37 : bytesT Tryd.prog 37 = 8 := by kernel_rfl
@[go_sem] theorem ag37 : isAggT Tryd.prog 37 = some false := by kernel_rfl
@[go_sem] theorem zc37 : zeroC Tryd.prog 6 37 = some [.nilf] := by kernel_rfl
@[go_sem] theorem ni37 : noIntT Tryd.prog 37 = true := by kernel_rfl
@[go_sem] theorem sz38 : szT Tryd.prog 38 = 1 := by kernel_rfl
@[go_sem] theorem by38 : bytesT Tryd.prog 38 = 8 := by kernel_rfl
@[go_sem] theorem ag38 : isAggT Tryd.prog 38 = some false := by kernel_rfl
@[go_sem] theorem zc38 : zeroC Tryd.prog 6 38 = some [.nilf] := by kernel_rfl
@[go_sem] theorem ni38 : noIntT Tryd.prog 38 = true := by kernel_rfl
@[go_sem] theorem sz39 : szT Tryd.prog 39 = 1 := by kernel_rfl
@[go_sem] theorem by39 : bytesT Tryd.prog 39 = 8 := by kernel_rfl
@[go_sem] theorem ag39 : isAggT Tryd.prog 39 = some false := by kernel_rfl
@[go_sem] theorem zc39 : zeroC Tryd.prog 6 39 = some [.nilf] := by kernel_rfl
@[go_sem] theorem ni39 : noIntT Tryd.prog 39 = true := by kernel_rfl
@[go_sem] theorem sz40 : szT Tryd.prog 40 = 1 := by kernel_rfl
@[go_sem] theorem by40 : bytesT Tryd.prog 40 = 8 := by kernel_rfl
@[go_sem] theorem ag40 : isAggT Tryd.prog 40 = some false := by kernel_rfl
@[go_sem] theorem zc40 : zeroC Tryd.prog 6 40 = some [.nilf] := by kernel_rfl
@[go_sem] theorem ni40 : noIntT Tryd.prog 40 = true := by kernel_rfl
@[go_sem] theorem sz42 : szT Tryd.prog 42 = 1 := by kernel_rfl
@[go_sem] theorem by42 : bytesT Tryd.prog 42 = 8 := by kernel_rfl
@[go_sem] theorem ag42 : isAggT Tryd.prog 42 = some false := by kernel_rfl
@[go_sem] theorem zc42 : zeroC Tryd.prog 6 42 = some [.nilf] := by kernel_rfl
@[go_sem] theorem ni42 : noIntT Tryd.prog 42 = true := by kernel_rfl
@[go_sem] theorem sz43 : szT Tryd.prog 43 = 1 := by kernel_rfl
@[go_sem] theorem by43 : bytesT Tryd.prog 43 = 8 := by kernel_rfl
@[go_sem] theorem ag43 : isAggT Tryd.prog 43 = some false := by kernel_rfl
@[go_sem] theorem zc43 : zeroC Tryd.prog 6 43 = some [.nilf] := by kernel_rfl
@[go_sem] theorem ni43 : noIntT Tryd.prog 43 = true := by kernel_rfl
@[go_sem] theorem sz44 : szT Tryd.prog 44 = 1 := by kernel_rfl
@[go_sem] theorem by44 : bytesT Tryd.prog 44 = 8 := by kernel_rfl
@[go_sem] theorem ag44 : isAggT Tryd.prog 44 = some false := by kernel_rfl
@[go_sem] theorem zc44 : zeroC Tryd.prog 6 44 = some [.nilf] := by kernel_rfl
@[go_sem] theorem ni44 : noIntT Tryd.prog 44 = true := by kernel_rfl
@[go_sem] theorem sz45 : szT Tryd.prog 45 = 1 := by kernel_rfl
@[go_sem] theorem by45 : bytesT Tryd.prog 45 = 8 := by kernel_rfl
@[go_sem] theorem ag45 : isAggT Tryd.prog 45 = some false := by kernel_rfl
@[go_sem] theorem zc45 : zeroC Tryd.prog 6 45 = some [.nilf] := by kernel_rfl
@[go_sem] theorem ni45 : noIntT Tryd.prog 45 = true := by kernel_rfl
@[go_sem] theorem sz46 : szT Tryd.prog 46 = 1 := by kernel_rfl
@[go_sem] theorem by46 : bytesT Tryd.prog 46 = 8 := by kernel_rfl
@[go_sem] theorem ag46 : isAggT Tryd.prog 46 = some false := by kernel_rfl
@[go_sem] theorem zc46 : zeroC Tryd.prog 6 46 = some [.nilf] := by kernel_rfl
@[go_sem] theorem ni46 : noIntT Tryd.prog 46 = true := by kernel_rfl
@[go_sem] theorem sz47 : szT Tryd.prog 47 = 1 := by kernel_rfl
@[go_sem] theorem by47 : bytesT Tryd.prog 47 = 8 := by kernel_rfl
@[go_sem] theorem ag47 : isAggT Tryd.prog 47 = some false := by kernel_rfl
@[go_sem] theorem zc47 : zeroC Tryd.prog 6 47 = some [.nilf] := by kernel_rfl
@[go_sem] theorem ni47 : noIntT Tryd.prog 47 = true := by kernel_rfl
@[go_sem] theorem sz48 : szT Tryd.prog 48 = 1 := by kernel_rfl
@[go_sem] theorem by48 : bytesT Tryd.prog 48 = 8 := by kernel_rfl
@[go_sem] theorem ag48 : isAggT Tryd.prog 48 = some false := by kernel_rfl
@[go_sem] theorem zc48 : zeroC Tryd.prog 6 48 = some [.nilf] := by kernel_rfl
@[go_sem] theorem ni48 : noIntT Tryd.prog 48 = true := by kernel_rfl
@[go_sem] theorem sz49 : szT Tryd.prog 49 = 1 := by kernel_rfl
@[go_sem] theorem by49 : bytesT Tryd.prog 49 = 8 := by kernel_rfl
@[go_sem] theorem ag49 : isAggT Tryd.prog 49 = some false := by kernel_rfl
@[go_sem] theorem zc49 : zeroC Tryd.prog 6 49 = some [.nilf] := by kernel_rfl
@[go_sem] theorem ni49 : noIntT Tryd.prog 49 = true := by kernel_rfl
@[go_sem] theorem sz50 : szT Tryd.prog 50 = 1 := by kernel_rfl
@[go_sem] theorem by50 : bytesT Tryd.prog 50 = 8 := by kernel_rfl
@[go_sem] theorem ag50 : isAggT Tryd.prog 50 = some false := by kernel_rfl
@[go_sem] theorem zc50 : zeroC Tryd.prog 6 50 = some [.nilf] := by kernel_rfl
@[go_sem] theorem ni50 : noIntT Tryd.prog 50 = true := by kernel_rfl
@[go_sem] theorem sz51 : szT Tryd.prog 51 = 1 := by kernel_rfl
@[go_sem] theorem by51 : bytesT Tryd.prog 51 = 8 := by kernel_rfl
@[go_sem] theorem ag51 : isAggT Tryd.prog 51 = some false := by kernel_rfl
@[go_sem] theorem zc51 : zeroC Tryd.prog 6 51 = some [.nilf] := by kernel_rfl
@[go_sem] theorem ni51 : noIntT Tryd.prog 51 = true := by kernel_rfl
@[go_sem] theorem sz52 : szT Tryd.prog 52 = 1 := by kernel_rfl
@[go_sem] theorem by52 : bytesT Tryd.prog 52 = 8 := by kernel_rfl
@[go_sem] theorem ag52 : isAggT Tryd.prog 52 = some false := by kernel_rfl
@[go_sem] theorem zc52 : zeroC Tryd.prog 6 52 = some [.nilf] := by kernel_rfl
@[go_sem] theorem ni52 : noIntT Tryd.prog 52 = true := by kernel_rfl
@[go_sem] theorem sz53 : szT Tryd.prog 53 = 1 := by kernel_rfl
@[go_sem] theorem by53 : bytesT Tryd.prog 53 = 8 := by kernel_rfl
@[go_sem] theorem ag53 : isAggT Tryd.prog 53 = some false := by kernel_rfl
@[go_sem] theorem zc53 : zeroC Tryd.prog 6 53 = some [.nilf] := by kernel_rfl
@[go_sem] theorem ni53 : noIntT Tryd.prog 53 = true := by kernel_rfl
@[go_sem] theorem sz54 : szT Tryd.prog 54 = 1 := by kernel_rfl
@[go_sem] theorem by54 : bytesT Tryd.prog 54 = 8 := by kernel_rfl
@[go_sem] theorem ag54 : isAggT Tryd.prog 54 = some false := by kernel_rfl
@[go_sem] theorem zc54 : zeroC Tryd.prog 6 54 = some [.nilf] := by kernel_rfl
@[go_sem] theorem ni54 : noIntT Tryd.prog 54 = true := by kernel_rfl
@[go_sem] theorem sz55 : szT Tryd.prog 55 = 1 := by kernel_rfl
@[go_sem] theorem by55 : bytesT Tryd.prog 55 = 8 := by kernel_rfl
@[go_sem] theorem ag55 : isAggT Tryd.prog 55 = some false := by kernel_rfl
@[go_sem] theorem zc55 : zeroC Tryd.prog 6 55 = some [.nilf] := by kernel_rfl
@[go_sem] theorem ni55 : noIntT Tryd.prog 55 = true := by kernel_rfl
@[go_sem] theorem sz56 : szT Tryd.prog 56 = 1 := by kernel_rfl
@[go_sem] theorem by56 : bytesT Tryd.prog 56 = 8 := by kernel_rfl
@[go_sem] theorem ag56 : isAggT Tryd.prog 56 = some false := by kernel_rfl
@[go_sem] theorem zc56 : zeroC Tryd.prog 6 56 = some [.nilp] := by kernel_rfl
@[go_sem] theorem ni56 : noIntT Tryd.prog 56 = true := by kernel_rfl
@[go_sem] theorem sz57 : szT Tryd.prog 57 = 1 := by kernel_rfl
@[go_sem] theorem by57 : bytesT Tryd.prog 57 = 8 := by kernel_rfl
@[go_sem] theorem ag57 : isAggT Tryd.prog 57 = some false := by kernel_rfl
@[go_sem] theorem zc57 : zeroC Tryd.prog 6 57 = some [.nilf] := by kernel_rfl
@[go_sem] theorem ni57 : noIntT Tryd.prog 57 = true := by kernel_rfl
@[go_sem] theorem sz58 : szT Tryd.prog 58 = 1 := by kernel_rfl
@[go_sem] theorem by58 : bytesT Tryd.prog 58 = 8 := by kernel_rfl
@[go_sem] theorem ag58 : isAggT Tryd.prog 58 = some false := by kernel_rfl
@[go_sem] theorem zc58 : zeroC Tryd.prog 6 58 = some [.nilf] := by kernel_rfl
@[go_sem] theorem ni58 : noIntT Tryd.prog 58 = true := by kernel_rfl
@[go_sem] theorem sz59 : szT Tryd.prog 59 = 1 := by kernel_rfl
@[go_sem] theorem by59 : bytesT Tryd.prog 59 = 8 := by kernel_rfl
@[go_sem] theorem ag59 : isAggT Tryd.prog 59 = some false := by kernel_rfl
@[go_sem] theorem zc59 : zeroC Tryd.prog 6 59 = some [.nilf] := by kernel_rfl
@[go_sem] theorem ni59 : noIntT Tryd.prog 59 = true := by kernel_rfl
@[go_sem] theorem sz60 : szT Tryd.prog 60 = 1 := by kernel_rfl
@[go_sem] theorem by60 : bytesT Tryd.prog 60 = 8 := by kernel_rfl
@[go_sem] theorem ag60 : isAggT Tryd.prog 60 = some false := by kernel_rfl
@[go_sem] theorem zc60 : zeroC Tryd.prog 6 60 = some [.nilf] := by kernel_rfl
@[go_sem] theorem ni60 : noIntT Tryd.prog 60 = true := by kernel_rfl
@[go_sem] theorem sz61 : szT Tryd.prog 61 = 1 := by kernel_rfl
@[go_sem] theorem by61 : bytesT Tryd.prog 61 = 8 := by kernel_rfl
@[go_sem] theorem ag61 : isAggT Tryd.prog 61 = some false := by kernel_rfl
@[go_sem] theorem zc61 : zeroC Tryd.prog 6 61 = some [.nilf] := by kernel_rfl
@[go_sem] theorem ni61 : noIntT Tryd.prog 61 = true := by kernel_rfl
@[go_sem] theorem sz62 : szT Tryd.prog 62 = 1 := by kernel_rfl
@[go_sem] theorem by62 : bytesT Tryd.prog 62 = 8 := by kernel_rfl
@[go_sem] theorem ag62 : isAggT Tryd.prog 62 = some false := by kernel_rfl
@[go_sem] theorem zc62 : zeroC Tryd.prog 6 62 = some [.nilf] := by kernel_rfl
@[go_sem] theorem ni62 : noIntT Tryd.prog 62 = true := by kernel_rfl
@[go_sem] theorem sz63 : szT Tryd.prog 63 = 1 := by kernel_rfl
@[go_sem] theorem by63 : bytesT Tryd.prog 63 = 8 := by kernel_rfl
@[go_sem] theorem ag63 : isAggT Tryd.prog 63 = some false := by kernel_rfl
@[go_sem] theorem zc63 : zeroC Tryd.prog 6 63 = some [.nilf] := by kernel_rfl
@[go_sem] theorem ni63 : noIntT Tryd.prog 63 = true := by kernel_rfl
@[go_sem] theorem sz64 : szT Tryd.prog 64 = 1 := by kernel_rfl
@[go_sem] theorem by64 : bytesT Tryd.prog 64 = 8 := by kernel_rfl
@[go_sem] theorem ag64 : isAggT Tryd.prog 64 = some false := by kernel_rfl
@[go_sem] theorem zc64 : zeroC Tryd.prog 6 64 = some [.nilf] := by kernel_rfl
@[go_sem] theorem ni64 : noIntT Tryd.prog 64 = true := by kernel_rfl
@[go_sem] theorem sz65 : szT Tryd.prog 65 = 1 := by kernel_rfl
@[go_sem] theorem by65 : bytesT Tryd.prog 65 = 8 := by kernel_rfl
@[go_sem] theorem ag65 : isAggT Tryd.prog 65 = some false := by kernel_rfl
@[go_sem] theorem zc65 : zeroC Tryd.prog 6 65 = some [.nilf] := by kernel_rfl
@[go_sem] theorem ni65 : noIntT Tryd.prog 65 = true := by kernel_rfl
@[go_sem] theorem sz66 : szT Tryd.prog 66 = 1 := by kernel_rfl
@[go_sem] theorem by66 : bytesT Tryd.prog 66 = 8 := by kernel_rfl
@[go_sem] theorem ag66 : isAggT Tryd.prog 66 = some false := by kernel_rfl
@[go_sem] theorem zc66 : zeroC Tryd.prog 6 66 = some [.nilf] := by kernel_rfl
@[go_sem] theorem ni66 : noIntT Tryd.prog 66 = true := by kernel_rfl
@[go_sem] theorem sz67 : szT Tryd.prog 67 = 1 := by kernel_rfl
@[go_sem] theorem by67 : bytesT Tryd.prog 67 = 8 := by kernel_rfl
@[go_sem] theorem ag67 : isAggT Tryd.prog 67 = some false := by kernel_rfl
@[go_sem] theorem zc67 : zeroC Tryd.prog 6 67 = some [.nilf] := by kernel_rfl
@[go_sem] theorem ni67 : noIntT Tryd.prog 67 = true := by kernel_rfl
@[go_sem] theorem sz68 : szT Tryd.prog 68 = 1 := by kernel_rfl
@[go_sem] theorem by68 : bytesT Tryd.prog 68 = 8 := by kernel_rfl
@[go_sem] theorem ag68 : isAggT Tryd.prog 68 = some false := by kernel_rfl
@[go_sem] theorem zc68 : zeroC Tryd.prog 6 68 = some [.nilf] := by kernel_rfl
@[go_sem] theorem ni68 : noIntT Tryd.prog 68 = true := by kernel_rfl
@[go_sem] theorem sz69 : szT Tryd.prog 69 = 1 := by kernel_rfl
@[go_sem] theorem by69 : bytesT Tryd.prog 69 = 8 := by kernel_rfl
@[go_sem] theorem ag69 : isAggT Tryd.prog 69 = some false := by kernel_rfl
@[go_sem] theorem zc69 : zeroC Tryd.prog 6 69 = some [.nilf] := by kernel_rfl
@[go_sem] theorem ni69 : noIntT Tryd.prog 69 = true := by kernel_rfl
@[go_sem] theorem sz70 : szT Tryd.prog 70 = 1 := by kernel_rfl
@[go_sem] theorem by70 : bytesT Tryd.prog 70 = 8 := by kernel_rfl
@[go_sem] theorem ag70 : isAggT Tryd.prog 70 = some false := by kernel_rfl
@[go_sem] theorem zc70 : zeroC Tryd.prog 6 70 = some [.nilf] := by kernel_rfl
@[go_sem] theorem ni70 : noIntT Tryd.prog 70 = true := by kernel_rfl
@[go_sem] theorem sz71 : szT Tryd.prog 71 = 1 := by kernel_rfl
@[go_sem] theorem by71 : bytesT Tryd.prog 71 = 24 := by kernel_rfl
@[go_sem] theorem ag71 : isAggT Tryd.prog 71 = some false := by kernel_rfl
@[go_sem] theorem zc71 : zeroC Tryd.prog 6 71 = some [.nils 1] := by kernel_rfl
@[go_sem] theorem ni71 : noIntT Tryd.prog 71 = true := by kernel_rfl
@[go_sem] theorem el71 : elemT Tryd.prog 71 = some 5 := by kernel_rfl
@[go_sem] theorem sz72 : szT Tryd.prog 72 = 1 := by kernel_rfl
@[go_sem] theorem by72 : bytesT Tryd.prog 72 = 24 := by kernel_rfl
@[go_sem] theorem ag72 : isAggT Tryd.prog 72 = some false := by kernel_rfl
@[go_sem] theorem zc72 : zeroC Tryd.prog 6 72 = some [.nils 6] := by kernel_rfl
@[go_sem] theorem ni72 : noIntT Tryd.prog 72 = true := by kernel_rfl
@[go_sem] theorem el72 : elemT Tryd.prog 72 = some 74 := by kernel_rfl
@[go_sem] theorem sz73 : szT Tryd.prog 73 = 6 := by kernel_rfl
@[go_sem] theorem by73 : bytesT Tryd.prog 73 = 88 := by kernel_rfl
@[go_sem] theorem ag73 : isAggT Tryd.prog 73 = some true := by kernel_rfl
@[go_sem] theorem zc73 : zeroC Tryd.prog 6 73 = some [.int .i64 (0), .str ⟨#[]⟩, .nils 6, .int .i64 (0), .int .i64 (0), .nils 6] := by kernel_rfl
@[go_sem] theorem ni73 : noIntT Tryd.prog 73 = true := by kernel_rfl
@[go_sem] theorem fs73 : (fieldsT Tryd.prog 73).isSome = true := by kernel_rfl
@[go_sem] theorem fl73_0 : fldA Tryd.prog 73 0 = some (0, 3) := by kernel_rfl
@[go_sem] theorem fl73_1 : fldA Tryd.prog 73 1 = some (1, 9) := by kernel_rfl
@[go_sem] theorem fl73_2 : fldA Tryd.prog 73 2 = some (2, 72) := by kernel_rfl
@[go_sem] theorem fl73_3 : fldA Tryd.prog 73 3 = some (3, 3) := by kernel_rfl
@[go_sem] theorem fl73_4 : fldA Tryd.prog 73 4 = some (4, 3) := by kernel_rfl
@[go_sem] theorem fl73_5 : fldA Tryd.prog 73 5 = some (5, 72) := by kernel_rfl
@[go_sem] theorem sz74 : szT Tryd.prog 74 = 6 := by kernel_rfl
@[go_sem] theorem by74 : bytesT Tryd.prog 74 = 88 := by kernel_rfl
@[go_sem] theorem ag74 : isAggT Tryd.prog 74 = some true := by kernel_rfl
@[go_sem] theorem zc74 : zeroC Tryd.prog 6 74 = some [.int .i64 (0), .str ⟨#[]⟩, .nils 6, .int .i64 (0), .int .i64 (0), .nils 6] := by kernel_rfl
@[go_sem] theorem ni74 : noIntT Tryd.prog 74 = true := by kernel_rfl
@[go_sem] theorem fs74 : (fieldsT Tryd.prog 74).isSome = true := by kernel_rfl
@[go_sem] theorem fl74_0 : fldA Tryd.prog 74 0 = some (0, 3) := by kernel_rfl
@[go_sem] theorem fl74_1 : fldA Tryd.prog 74 1 = some (1, 9) := by kernel_rfl
@[go_sem] theorem fl74_2 : fldA Tryd.prog 74 2 = some (2, 72) := by kernel_rfl
@[go_sem] theorem fl74_3 : fldA Tryd.prog 74 3 = some (3, 3) := by kernel_rfl
@[go_sem] theorem fl74_4 : fldA Tryd.prog 74 4 = some (4, 3) := by kernel_rfl
@[go_sem] theorem fl74_5 : fldA Tryd.prog 74 5 = some (5, 72) := by kernel_rfl
@[go_sem] theorem sz75 : szT Tryd.prog 75 = 1 := by kernel_rfl
@[go_sem] theorem by75 : bytesT Tryd.prog 75 = 8 := by kernel_rfl
@[go_sem] theorem ag75 : isAggT Tryd.prog 75 = some false := by kernel_rfl
@[go_sem] theorem zc75 : zeroC Tryd.prog 6 75 = some [.nilf] := by kernel_rfl
@[go_sem] theorem ni75 : noIntT Tryd.prog 75 = true := by kernel_rfl
@[go_sem] theorem sz76 : szT Tryd.prog 76 = 1 := by kernel_rfl
@[go_sem] theorem by76 : bytesT Tryd.prog 76 = 8 := by kernel_rfl
@[go_sem] theorem ag76 : isAggT Tryd.prog 76 = some false := by kernel_rfl
@[go_sem] theorem zc76 : zeroC Tryd.prog 6 76 = some [.nilf] := by kernel_rfl
@[go_sem] theorem ni76 : noIntT Tryd.prog 76 = true := by kernel_rfl
@[go_sem] theorem sz77 : szT Tryd.prog 77 = 1 := by kernel_rfl
@[go_sem] theorem by77 : bytesT Tryd.prog 77 = 8 := by kernel_rfl
@[go_sem] theorem ag77 : isAggT Tryd.prog 77 = some false := by kernel_rfl
@[go_sem] theorem zc77 : zeroC Tryd.prog 6 77 = some [.nilf] := by kernel_rfl
@[go_sem] theorem ni77 : noIntT Tryd.prog 77 = true := by kernel_rfl
@[go_sem] theorem sz78 : szT Tryd.prog 78 = 1 := by kernel_rfl
@[go_sem] theorem by78 : bytesT Tryd.prog 78 = 8 := by kernel_rfl
@[go_sem] theorem ag78 : isAggT Tryd.prog 78 = some false := by kernel_rfl
@[go_sem] theorem zc78 : zeroC Tryd.prog 6 78 = some [.nilf] := by kernel_rfl
@[go_sem] theorem ni78 : noIntT Tryd.prog 78 = true := by kernel_rfl
@[go_sem] theorem sz79 : szT Tryd.prog 79 = 1 := by kernel_rfl
@[go_sem] theorem by79 : bytesT Tryd.prog 79 = 8 := by kernel_rfl
@[go_sem] theorem ag79 : isAggT Tryd.prog 79 = some false := by kernel_rfl
@[go_sem] theorem zc79 : zeroC Tryd.prog 6 79 = some [.nilf] := by kernel_rfl
@[go_sem] theorem ni79 : noIntT Tryd.prog 79 = true := by kernel_rfl
@[go_sem] theorem sz80 : szT Tryd.prog 80 = 1 := by kernel_rfl
@[go_sem] theorem by80 : bytesT Tryd.prog 80 = 8 := by kernel_rfl
@[go_sem] theorem ag80 : isAggT Tryd.prog 80 = some false := by kernel_rfl
@[go_sem] theorem zc80 : zeroC Tryd.prog 6 80 = some [.nilf] := by kernel_rfl
@[go_sem] theorem ni80 : noIntT Tryd.prog 80 = true := by kernel_rfl
@[go_sem] theorem sz81 : szT Tryd.prog 81 = 1 := by kernel_rfl
@[go_sem] theorem by81 : bytesT Tryd.prog 81 = 8 := by kernel_rfl
@[go_sem] theorem ag81 : isAggT Tryd.prog 81 = some false := by kernel_rfl
@[go_sem] theorem zc81 : zeroC Tryd.prog 6 81 = some [.nilf] := by kernel_rfl
@[go_sem] theorem ni81 : noIntT Tryd.prog 81 = true := by kernel_rfl
@[go_sem] theorem sz82 : szT Tryd.prog 82 = 1 := by kernel_rfl
@[go_sem] theorem by82 : bytesT Tryd.prog 82 = 8 := by kernel_rfl
@[go_sem] theorem ag82 : isAggT Tryd.prog 82 = some false := by kernel_rfl
@[go_sem] theorem zc82 : zeroC Tryd.prog 6 82 = some [.nilf] := by kernel_rfl
@[go_sem] theorem ni82 : noIntT Tryd.prog 82 = true := by kernel_rfl
@[go_sem] theorem sz83 : szT Tryd.prog 83 = 1 := by kernel_rfl
@[go_sem] theorem by83 : bytesT Tryd.prog 83 = 8 := by kernel_rfl
@[go_sem] theorem ag83 : isAggT Tryd.prog 83 = some false := by kernel_rfl
@[go_sem] theorem zc83 : zeroC Tryd.prog 6 83 = some [.nilf] := by kernel_rfl
@[go_sem] theorem ni83 : noIntT Tryd.prog 83 = true := by kernel_rfl
@[go_sem] theorem sz84 : szT Tryd.prog 84 = 1 := by kernel_rfl
@[go_sem] theorem by84 : bytesT Tryd.prog 84 = 8 := by kernel_rfl
@[go_sem] theorem ag84 : isAggT Tryd.prog 84 = some false := by kernel_rfl
@[go_sem] theorem zc84 : zeroC Tryd.prog 6 84 = some [.nilf] := by kernel_rfl
@[go_sem] theorem ni84 : noIntT Tryd.prog 84 = true := by kernel_rfl
@[go_sem] theorem sz85 : szT Tryd.prog 85 = 1 := by kernel_rfl
@[go_sem] theorem by85 : bytesT Tryd.prog 85 = 8 := by kernel_rfl
@[go_sem] theorem ag85 : isAggT Tryd.prog 85 = some false := by kernel_rfl
@[go_sem] theorem zc85 : zeroC Tryd.prog 6 85 = some [.nilp] := by kernel_rfl
@[go_sem] theorem ni85 : noIntT Tryd.prog 85 = true := by kernel_rfl
@[go_sem] theorem sz86 : szT Tryd.prog 86 = 2 := by kernel_rfl
@[go_sem] theorem by86 : bytesT Tryd.prog 86 = 32 := by kernel_rfl
@[go_sem] theorem ag86 : isAggT Tryd.prog 86 = some true := by kernel_rfl
@[go_sem] theorem zc86 : zeroC Tryd.prog 6 86 = some [.nilp, .nils 1] := by kernel_rfl
@[go_sem] theorem ni86 : noIntT Tryd.prog 86 = true := by kernel_rfl
@[go_sem] theorem fs86 : (fieldsT Tryd.prog 86).isSome = true := by kernel_rfl
@[go_sem] theorem fl86_0 : fldA Tryd.prog 86 0 = some (0, 85) := by kernel_rfl
@[go_sem] theorem fl86_1 : fldA Tryd.prog 86 1 = some (1, 71) := by kernel_rfl
@[go_sem] theorem sz87 : szT Tryd.prog 87 = 2 := by kernel_rfl
@[go_sem] theorem by87 : bytesT Tryd.prog 87 = 32 := by kernel_rfl
@[go_sem] theorem ag87 : isAggT Tryd.prog 87 = some true := by kernel_rfl
@[go_sem] theorem zc87 : zeroC Tryd.prog 6 87 = some [.nilp, .nils 1] := by kernel_rfl
@[go_sem] theorem ni87 : noIntT Tryd.prog 87 = true := by kernel_rfl
@[go_sem] theorem fs87 : (fieldsT Tryd.prog 87).isSome = true := by kernel_rfl
@[go_sem] theorem fl87_0 : fldA Tryd.prog 87 0 = some (0, 85) := by kernel_rfl
@[go_sem] theorem fl87_1 : fldA Tryd.prog 87 1 = some (1, 71) := by kernel_rfl
@[go_sem] theorem sz90 : szT Tryd.prog 90 = 1 := by kernel_rfl
@[go_sem] theorem by90 : bytesT Tryd.prog 90 = 8 := by kernel_rfl
@[go_sem] theorem ag90 : isAggT Tryd.prog 90 = some false := by kernel_rfl
@[go_sem] theorem zc90 : zeroC Tryd.prog 6 90 = some [.nilf] := by kernel_rfl
@[go_sem] theorem ni90 : noIntT Tryd.prog 90 = true := by kernel_rfl
@[go_sem] theorem sz92 : szT Tryd.prog 92 = 1 := by kernel_rfl
@[go_sem] theorem by92 : bytesT Tryd.prog 92 = 8 := by kernel_rfl
@[go_sem] theorem ag92 : isAggT Tryd.prog 92 = some false := by kernel_rfl
@[go_sem] theorem zc92 : zeroC Tryd.prog 6 92 = some [.nilf] := by kernel_rfl
@[go_sem] theorem ni92 : noIntT Tryd.prog 92 = true := by kernel_rfl
@[go_sem] theorem sz93 : szT Tryd.prog 93 = 1 := by kernel_rfl
@[go_sem] theorem by93 : bytesT Tryd.prog 93 = 8 := by kernel_rfl
@[go_sem] theorem ag93 : isAggT Tryd.prog 93 = some false := by kernel_rfl
@[go_sem] theorem zc93 : zeroC Tryd.prog 6 93 = some [.nilf] := by kernel_rfl
@[go_sem] theorem ni93 : noIntT Tryd.prog 93 = true := by kernel_rfl
@[go_sem] theorem sz94 : szT Tryd.prog 94 = 1 := by kernel_rfl
@[go_sem] theorem by94 : bytesT Tryd.prog 94 = 8 := by kernel_rfl
@[go_sem] theorem ag94 : isAggT Tryd.prog 94 = some false := by kernel_rfl
@[go_sem] theorem zc94 : zeroC Tryd.prog 6 94 = some [.nilf] := by kernel_rfl
@[go_sem] theorem ni94 : noIntT Tryd.prog 94 = true := by kernel_rfl
@[go_sem] theorem sz95 : szT Tryd.prog 95 = 1 := by kernel_rfl
@[go_sem] theorem by95 : bytesT Tryd.prog 95 = 8 := by kernel_rfl
@[go_sem] theorem ag95 : isAggT Tryd.prog 95 = some false := by kernel_rfl
@[go_sem] theorem zc95 : zeroC Tryd.prog 6 95 = some [.nilf] := by kernel_rfl
@[go_sem] theorem ni95 : noIntT Tryd.prog 95 = true := by kernel_rfl
@[go_sem] theorem sz96 : szT Tryd.prog 96 = 1 := by kernel_rfl
@[go_sem] theorem by96 : bytesT Tryd.prog 96 = 8 := by kernel_rfl
@[go_sem] theorem ag96 : isAggT Tryd.prog 96 = some false := by kernel_rfl
@[go_sem] theorem zc96 : zeroC Tryd.prog 6 96 = some [.nilf] := by kernel_rfl
@[go_sem] theorem ni96 : noIntT Tryd.prog 96 = true := by kernel_rfl
@[go_sem] theorem sz97 : szT Tryd.prog 97 = 1 := by kernel_rfl
@[go_sem] theorem by97 : bytesT Tryd.prog 97 = 8 := by kernel_rfl
@[go_sem] theorem ag97 : isAggT Tryd.prog 97 = some false := by kernel_rfl
@[go_sem] theorem zc97 : zeroC Tryd.prog 6 97 = some [.nilf] := by kernel_rfl
@[go_sem] theorem ni97 : noIntT Tryd.prog 97 = true := by kernel_rfl
@[go_sem] theorem sz98 : szT Tryd.prog 98 = 1 := by kernel_rfl
@[go_sem] theorem by98 : bytesT Tryd.prog 98 = 8 := by kernel_rfl
@[go_sem] theorem ag98 : isAggT Tryd.prog 98 = some false := by kernel_rfl
@[go_sem] theorem zc98 : zeroC Tryd.prog 6 98 = some [.nilp] := by kernel_rfl
@[go_sem] theorem ni98 : noIntT Tryd.prog 98 = true := by kernel_rfl
@[go_sem] theorem sz99 : szT Tryd.prog 99 = 1 := by kernel_rfl
@[go_sem] theorem by99 : bytesT Tryd.prog 99 = 8 := by kernel_rfl
@[go_sem] theorem ag99 : isAggT Tryd.prog 99 = some false := by kernel_rfl
@[go_sem] theorem zc99 : zeroC Tryd.prog 6 99 = some [.nilf] := by kernel_rfl
@[go_sem] theorem ni99 : noIntT Tryd.prog 99 = true := by kernel_rfl
@[go_sem] theorem sz100 : szT Tryd.prog 100 = 24 := by kernel_rfl
@[go_sem] theorem by100 : bytesT Tryd.prog 100 = 24 := by kernel_rfl
@[go_sem] theorem ag100 : isAggT Tryd.prog 100 = some true := by kernel_rfl
@[go_sem] theorem zc100 : zeroC Tryd.prog 6 100 = some [.int .u8 (0), .int .u8 (0), .int .u8 (0), .int .u8 (0), .int .u8 (0), .int .u8 (0), .int .u8 (0), .int .u8 (0), .int .u8 (0), .int .u8 (0), .int .u8 (0), .int .u8 (0), .int .u8 (0), .int .u8 (0), .int .u8 (0), .int .u8 (0), .int .u8 (0), .int .u8 (0), .int .u8 (0), .int .u8 (0), .int .u8 (0), .int .u8 (0), .int .u8 (0), .int .u8 (0)] := by kernel_rfl
@[go_sem] theorem ni100 : noIntT Tryd.prog 100 = true := by kernel_rfl
@[go_sem] theorem sz101 : szT Tryd.prog 101 = 1 := by kernel_rfl
@[go_sem] theorem by101 : bytesT Tryd.prog 101 = 8 := by kernel_rfl
@[go_sem] theorem ag101 : isAggT Tryd.prog 101 = some false := by kernel_rfl
@[go_sem] theorem zc101 : zeroC Tryd.prog 6 101 = some [.int .u64 (0)] := by kernel_rfl
@[go_sem] theorem ni101 : noIntT Tryd.prog 101 = false := by kernel_rfl
@[go_sem] theorem sz102 : szT Tryd.prog 102 = 1 := by kernel_rfl
@[go_sem] theorem by102 : bytesT Tryd.prog 102 = 8 := by kernel_rfl
@[go_sem] theorem ag102 : isAggT Tryd.prog 102 = some false := by kernel_rfl
@[go_sem] theorem zc102 : zeroC Tryd.prog 6 102 = some [.nilf] := by kernel_rfl
@[go_sem] theorem ni102 : noIntT Tryd.prog 102 = true := by kernel_rfl
@[go_sem] theorem sz103 : szT Tryd.prog 103 = 1 := by kernel_rfl
@[go_sem] theorem by103 : bytesT Tryd.prog 103 = 8 := by kernel_rfl
@[go_sem] theorem ag103 : isAggT Tryd.prog 103 = some false := by kernel_rfl
@[go_sem] theorem zc103 : zeroC Tryd.prog 6 103 = some [.nilf] := by kernel_rfl
@[go_sem] theorem ni103 : noIntT Tryd.prog 103 = true := by kernel_rfl
@[go_sem] theorem sz105 : szT Tryd.prog 105 = 1 := by kernel_rfl
@[go_sem] theorem by105 : bytesT Tryd.prog 105 = 8 := by kernel_rfl
@[go_sem] theorem ag105 : isAggT Tryd.prog 105 = some false := by kernel_rfl
@[go_sem] theorem zc105 : zeroC Tryd.prog 6 105 = some [.nilf] := by kernel_rfl
@[go_sem] theorem ni105 : noIntT Tryd.prog 105 = true := by kernel_rfl
@[go_sem] theorem sz107 : szT Tryd.prog 107 = 1 := by kernel_rfl
@[go_sem] theorem by107 : bytesT Tryd.prog 107 = 8 := by kernel_rfl
@[go_sem] theorem ag107 : isAggT Tryd.prog 107 = some false := by kernel_rfl
@[go_sem] theorem zc107 : zeroC Tryd.prog 6 107 = some [.nilf] := by kernel_rfl
@[go_sem] theorem ni107 : noIntT Tryd.prog 107 = true := by kernel_rfl
@[go_sem] theorem sz108 : szT Tryd.prog 108 = 1 := by kernel_rfl
@[go_sem] theorem by108 : bytesT Tryd.prog 108 = 8 := by kernel_rfl
@[go_sem] theorem ag108 : isAggT Tryd.prog 108 = some false := by kernel_rfl
@[go_sem] theorem zc108 : zeroC Tryd.prog 6 108 = some [.nilf] := by kernel_rfl
@[go_sem] theorem ni108 : noIntT Tryd.prog 108 = true := by kernel_rfl
@[go_sem] theorem sz109 : szT Tryd.prog 109 = 1 := by kernel_rfl
@[go_sem] theorem by109 : bytesT Tryd.prog 109 = 8 := by kernel_rfl
@[go_sem] theorem ag109 : isAggT Tryd.prog 109 = some false := by kernel_rfl
@[go_sem] theorem zc109 : zeroC Tryd.prog 6 109 = some [.nilf] := by kernel_rfl
@[go_sem] theorem ni109 : noIntT Tryd.prog 109 = true := by kernel_rfl
@[go_sem] theorem sz110 : szT Tryd.prog 110 = 1 := by kernel_rfl
@[go_sem] theorem by110 : bytesT Tryd.prog 110 = 8 := by kernel_rfl
@[go_sem] theorem ag110 : isAggT Tryd.prog 110 = some false := by kernel_rfl
@[go_sem] theorem zc110 : zeroC Tryd.prog 6 110 = some [.nilf] := by kernel_rfl
@[go_sem] theorem ni110 : noIntT Tryd.prog 110 = true := by kernel_rfl
@[go_sem] theorem sz111 : szT Tryd.prog 111 = 1 := by kernel_rfl
@[go_sem] theorem by111 : bytesT Tryd.prog 111 = 8 := by kernel_rfl
@[go_sem] theorem ag111 : isAggT Tryd.prog 111 = some false := by kernel_rfl
@[go_sem] theorem zc111 : zeroC Tryd.prog 6 111 = some [.nilf] := by kernel_rfl
@[go_sem] theorem ni111 : noIntT Tryd.prog 111 = true := by kernel_rfl
@[go_sem] theorem sz112 : szT Tryd.prog 112 = 20 := by kernel_rfl
@[go_sem] theorem by112 : bytesT Tryd.prog 112 = 160 := by kernel_rfl
@[go_sem] theorem ag112 : isAggT Tryd.prog 112 = some true := by kernel_rfl
@[go_sem] theorem zc112 : zeroC Tryd.prog 6 112 = some [.int .u64 (0), .int .u64 (0), .int .u64 (0), .int .u64 (0), .int .u64 (0), .int .u64 (0), .int .u64 (0), .int .u64 (0), .int .u64 (0), .int .u64 (0), .int .u64 (0), .int .u64 (0), .int .u64 (0), .int .u64 (0), .int .u64 (0), .int .u64 (0), .int .u64 (0), .int .u64 (0), .int .u64 (0), .int .u64 (0)] := by kernel_rfl
@[go_sem] theorem ni112 : noIntT Tryd.prog 112 = true := by kernel_rfl
@[go_sem] theorem sz113 : szT Tryd.prog 113 = 1 := by kernel_rfl
@[go_sem] theorem by113 : bytesT Tryd.prog 113 = 4 := by kernel_rfl
@[go_sem] theorem ag113 : isAggT Tryd.prog 113 = some false := by kernel_rfl
@[go_sem] theorem zc113 : zeroC Tryd.prog 6 113 = some [.int .u32 (0)] := by kernel_rfl
@[go_sem] theorem ni113 : noIntT Tryd.prog 113 = false := by kernel_rfl
@[go_sem] theorem sz114 : szT Tryd.prog 114 = 65 := by kernel_rfl
@[go_sem] theorem by114 : bytesT Tryd.prog 114 = 65 := by kernel_rfl
@[go_sem] theorem ag114 : isAggT Tryd.prog 114 = some true := by kernel_rfl
@[go_sem] theorem zc114 : zeroC Tryd.prog 6 114 = some [.int .u8 (0), .int .u8 (0), .int .u8 (0), .int .u8 (0), .int .u8 (0), .int .u8 (0), .int .u8 (0), .int .u8 (0), .int .u8 (0), .int .u8 (0), .int .u8 (0), .int .u8 (0), .int .u8 (0), .int .u8 (0), .int .u8 (0), .int .u8 (0), .int .u8 (0), .int .u8 (0), .int .u8 (0), .int .u8 (0), .int .u8 (0), .int .u8 (0), .int .u8 (0), .int .u8 (0), .int .u8 (0), .int .u8 (0), .int .u8 (0), .int .u8 (0), .int .u8 (0), .int .u8 (0), .int .u8 (0), .int .u8 (0), .int .u8 (0), .int .u8 (0), .int .u8 (0), .int .u8 (0), .int .u8 (0), .int .u8 (0), .int .u8 (0), .int .u8 (0), .int .u8 (0), .int .u8 (0), .int .u8 (0), .int .u8 (0), .int .u8 (0), .int .u8 (0), .int .u8 (0), .int .u8 (0), .int .u8 (0), .int .u8 (0), .int .u8 (0), .int .u8 (0), .int .u8 (0), .int .u8 (0), .int .u8 (0), .int .u8 (0), .int .u8 (0), .int .u8 (0), .int .u8 (0), .int .u8 (0), .int .u8 (0), .int .u8 (0), .int .u8 (0), .int .u8 (0), .int .u8 (0)] := by kernel_rfl
@[go_sem] theorem ni114 : noIntT Tryd.prog 114 = true := by kernel_rfl
@[go_sem] theorem sz115 : szT Tryd.prog 115 = 1 := by kernel_rfl
@[go_sem] theorem by115 : bytesT Tryd.prog 115 = 8 := by kernel_rfl
@[go_sem] theorem ag115 : isAggT Tryd.prog 115 = some false := by kernel_rfl
@[go_sem] theorem zc115 : zeroC Tryd.prog 6 115 = some [.int .u64 (0)] := by kernel_rfl
@[go_sem] theorem ni115 : noIntT Tryd.prog 115 = false := by kernel_rfl
@[go_sem] theorem sz116 : szT Tryd.prog 116 = 1 := by kernel_rfl
@[go_sem] theorem by116 : bytesT Tryd.prog 116 = 8 := by kernel_rfl
@[go_sem] theorem ag116 : isAggT Tryd.prog 116 = some false := by kernel_rfl
@[go_sem] theorem zc116 : zeroC Tryd.prog 6 116 = some [.nilf] := by kernel_rfl
@[go_sem] theorem ni116 : noIntT Tryd.prog 116 = true := by kernel_rfl
@[go_sem] theorem sz117 : szT Tryd.prog 117 = 1 := by kernel_rfl
@[go_sem] theorem by117 : bytesT Tryd.prog 117 = 8 := by kernel_rfl
@[go_sem] theorem ag117 : isAggT Tryd.prog 117 = some false := by kernel_rfl
@[go_sem] theorem zc117 : zeroC Tryd.prog 6 117 = some [.nilf] := by kernel_rfl
@[go_sem] theorem ni117 : noIntT Tryd.prog 117 = true := by kernel_rfl
@[go_sem] theorem sz118 : szT Tryd.prog 118 = 1 := by kernel_rfl
@[go_sem] theorem by118 : bytesT Tryd.prog 118 = 8 := by kernel_rfl
@[go_sem] theorem ag118 : isAggT Tryd.prog 118 = some false := by kernel_rfl
@[go_sem] theorem zc118 : zeroC Tryd.prog 6 118 = some [.nilf] := by kernel_rfl
@[go_sem] theorem ni118 : noIntT Tryd.prog 118 = true := by kernel_rfl
@[go_sem] theorem sz120 : szT Tryd.prog 120 = 1 := by kernel_rfl
@[go_sem] theorem by120 : bytesT Tryd.prog 120 = 8 := by kernel_rfl
@[go_sem] theorem ag120 : isAggT Tryd.prog 120 = some false := by kernel_rfl
@[go_sem] theorem zc120 : zeroC Tryd.prog 6 120 = some [.nilf] := by kernel_rfl
@[go_sem] theorem ni120 : noIntT Tryd.prog 120 = true := by kernel_rfl
@[go_sem] theorem sz121 : szT Tryd.prog 121 = 32 := by kernel_rfl
@[go_sem] theorem by121 : bytesT Tryd.prog 121 = 32 := by kernel_rfl
@[go_sem] theorem ag121 : isAggT Tryd.prog 121 = some true := by kernel_rfl
@[go_sem] theorem zc121 : zeroC Tryd.prog 6 121 = some [.int .u8 (0), .int .u8 (0), .int .u8 (0), .int .u8 (0), .int .u8 (0), .int .u8 (0), .int .u8 (0), .int .u8 (0), .int .u8 (0), .int .u8 (0), .int .u8 (0), .int .u8 (0), .int .u8 (0), .int .u8 (0), .int .u8 (0), .int .u8 (0), .int .u8 (0), .int .u8 (0), .int .u8 (0), .int .u8 (0), .int .u8 (0), .int .u8 (0), .int .u8 (0), .int .u8 (0), .int .u8 (0), .int .u8 (0), .int .u8 (0), .int .u8 (0), .int .u8 (0), .int .u8 (0), .int .u8 (0), .int .u8 (0)] := by kernel_rfl
@[go_sem] theorem ni121 : noIntT Tryd.prog 121 = true := by kernel_rfl
@[go_sem] theorem sz122 : szT Tryd.prog 122 = 64 := by kernel_rfl
@[go_sem] theorem by122 : bytesT Tryd.prog 122 = 64 := by kernel_rfl
@[go_sem] theorem ag122 : isAggT Tryd.prog 122 = some true := by kernel_rfl
@[go_sem] theorem zc122 : zeroC Tryd.prog 6 122 = some [.int .u8 (0), .int .u8 (0), .int .u8 (0), .int .u8 (0), .int .u8 (0), .int .u8 (0), .int .u8 (0), .int .u8 (0), .int .u8 (0), .int .u8 (0), .int .u8 (0), .int .u8 (0), .int .u8 (0), .int .u8 (0), .int .u8 (0), .int .u8 (0), .int .u8 (0), .int .u8 (0), .int .u8 (0), .int .u8 (0), .int .u8 (0), .int .u8 (0), .int .u8 (0), .int .u8 (0), .int .u8 (0), .int .u8 (0), .int .u8 (0), .int .u8 (0), .int .u8 (0), .int .u8 (0), .int .u8 (0), .int .u8 (0), .int .u8 (0), .int .u8 (0), .int .u8 (0), .int .u8 (0), .int .u8 (0), .int .u8 (0), .int .u8 (0), .int .u8 (0), .int .u8 (0), .int .u8 (0), .int .u8 (0), .int .u8 (0), .int .u8 (0), .int .u8 (0), .int .u8 (0), .int .u8 (0), .int .u8 (0), .int .u8 (0), .int .u8 (0), .int .u8 (0), .int .u8 (0), .int .u8 (0), .int .u8 (0), .int .u8 (0), .int .u8 (0), .int .u8 (0), .int .u8 (0), .int .u8 (0), .int .u8 (0), .int .u8 (0), .int .u8 (0), .int .u8 (0)] := by kernel_rfl
@[go_sem] theorem ni122 : noIntT Tryd.prog 122 = true := by kernel_rfl
@[go_sem] theorem sz123 : szT Tryd.prog 123 = 4 := by kernel_rfl
@[go_sem] theorem by123 : bytesT Tryd.prog 123 = 40 := by kernel_rfl
@[go_sem] theorem ag123 : isAggT Tryd.prog 123 = some true := by kernel_rfl
@[go_sem] theorem zc123 : zeroC Tryd.prog 6 123 = some [.nilp, .nilp, .nilp, .str ⟨#[]⟩] := by kernel_rfl
@[go_sem] theorem ni123 : noIntT Tryd.prog 123 = true := by kernel_rfl
@[go_sem] theorem fs123 : (fieldsT Tryd.prog 123).isSome = true := by kernel_rfl
@[go_sem] theorem fl123_0 : fldA Tryd.prog 123 0 = some (0, 17) := by kernel_rfl
@[go_sem] theorem fl123_1 : fldA Tryd.prog 123 1 = some (1, 17) := by kernel_rfl
@[go_sem] theorem fl123_2 : fldA Tryd.prog 123 2 = some (2, 17) := by kernel_rfl
@[go_sem] theorem fl123_3 : fldA Tryd.prog 123 3 = some (3, 9) := by kernel_rfl
@[go_sem] theorem sz124 : szT Tryd.prog 124 = 4 := by kernel_rfl
@[go_sem] theorem by124 : bytesT Tryd.prog 124 = 40 := by kernel_rfl
@[go_sem] theorem ag124 : isAggT Tryd.prog 124 = some true := by kernel_rfl
@[go_sem] theorem zc124 : zeroC Tryd.prog 6 124 = some [.nilp, .nilp, .nilp, .str ⟨#[]⟩] := by kernel_rfl
@[go_sem] theorem ni124 : noIntT Tryd.prog 124 = true := by kernel_rfl
@[go_sem] theorem fs124 : (fieldsT Tryd.prog 124).isSome = true := by kernel_rfl
@[go_sem] theorem fl124_0 : fldA Tryd.prog 124 0 = some (0, 17) := by kernel_rfl
@[go_sem] theorem fl124_1 : fldA Tryd.prog 124 1 = some (1, 17) := by kernel_rfl
@[go_sem] theorem fl124_2 : fldA Tryd.prog 124 2 = some (2, 17) := by kernel_rfl
@[go_sem] theorem fl124_3 : fldA Tryd.prog 124 3 = some (3, 9) := by kernel_rfl
@[go_sem] theorem sz125 : szT Tryd.prog 125 = 0 := by kernel_rfl
@[go_sem] theorem by125 : bytesT Tryd.prog 125 = 0 := by kernel_rfl
@[go_sem] theorem ag125 : isAggT Tryd.prog 125 = some true := by kernel_rfl
@[go_sem] theorem zc125 : zeroC Tryd.prog 6 125 = some [] := by kernel_rfl
@[go_sem] theorem ni125 : noIntT Tryd.prog 125 = true := by kernel_rfl
@[go_sem] theorem sz126 : szT Tryd.prog 126 = 0 := by kernel_rfl
@[go_sem] theorem by126 : bytesT Tryd.prog 126 = 0 := by kernel_rfl
@[go_sem] theorem ag126 : isAggT Tryd.prog 126 = some true := by kernel_rfl
@[go_sem] theorem zc126 : zeroC Tryd.prog 6 126 = some [] := by kernel_rfl
@[go_sem] theorem ni126 : noIntT Tryd.prog 126 = true := by kernel_rfl
@[go_sem] theorem fs126 : (fieldsT Tryd.prog 126).isSome = true := by kernel_rfl
@[go_sem] theorem fl126_0 : fldA Tryd.prog 126 0 = some (0, 125) := by kernel_rfl
@[go_sem] theorem sz127 : szT Tryd.prog 127 = 0 := by kernel_rfl
@[go_sem] theorem by127 : bytesT Tryd.prog 127 = 0 := by kernel_rfl
@[go_sem] theorem ag127 : isAggT Tryd.prog 127 = some true := by kernel_rfl
@[go_sem] theorem zc127 : zeroC Tryd.prog 6 127 = some [] := by kernel_rfl
@[go_sem] theorem ni127 : noIntT Tryd.prog 127 = true := by kernel_rfl
@[go_sem] theorem fs127 : (fieldsT Tryd.prog 127).isSome = true := by kernel_rfl
@[go_sem] theorem fl127_0 : fldA Tryd.prog 127 0 = some (0, 125) := by kernel_rfl
@[go_sem] theorem sz128 : szT Tryd.prog 128 = 1 := by kernel_rfl
@[go_sem] theorem by128 : bytesT Tryd.prog 128 = 8 := by kernel_rfl
@[go_sem] theorem ag128 : isAggT Tryd.prog 128 = some false := by kernel_rfl
@[go_sem] theorem zc128 : zeroC Tryd.prog 6 128 = some [.nilf] := by kernel_rfl
@[go_sem] theorem ni128 : noIntT Tryd.prog 128 = true := by kernel_rfl
@[go_sem] theorem sz129 : szT Tryd.prog 129 = 1 := by kernel_rfl
@[go_sem] theorem by129 : bytesT Tryd.prog 129 = 1 := by kernel_rfl
@[go_sem] theorem ag129 : isAggT Tryd.prog 129 = some false := by kernel_rfl
@[go_sem] theorem zc129 : zeroC Tryd.prog 6 129 = some [.int .u8 (0)] := by kernel_rfl
@[go_sem] theorem ni129 : noIntT Tryd.prog 129 = false := by kernel_rfl
@[go_sem] theorem sz130 : szT Tryd.prog 130 = 1 := by kernel_rfl
@[go_sem] theorem by130 : bytesT Tryd.prog 130 = 1 := by kernel_rfl
@[go_sem] theorem ag130 : isAggT Tryd.prog 130 = some false := by kernel_rfl
@[go_sem] theorem zc130 : zeroC Tryd.prog 6 130 = some [.int .u8 (0)] := by kernel_rfl
@[go_sem] theorem ni130 : noIntT Tryd.prog 130 = false := by kernel_rfl
@[go_sem] theorem sz131 : szT Tryd.prog 131 = 1 := by kernel_rfl
@[go_sem] theorem by131 : bytesT Tryd.prog 131 = 8 := by kernel_rfl
@[go_sem] theorem ag131 : isAggT Tryd.prog 131 = some false := by kernel_rfl
@[go_sem] theorem zc131 : zeroC Tryd.prog 6 131 = some [.nilf] := by kernel_rfl
@[go_sem] theorem ni131 : noIntT Tryd.prog 131 = true := by kernel_rfl
@[go_sem] theorem sz132 : szT Tryd.prog 132 = 1 := by kernel_rfl
@[go_sem] theorem by132 : bytesT Tryd.prog 132 = 4 := by kernel_rfl
@[go_sem] theorem ag132 : isAggT Tryd.prog 132 = some false := by kernel_rfl
@[go_sem] theorem zc132 : zeroC Tryd.prog 6 132 = some [.int .i32 (0)] := by kernel_rfl
@[go_sem] theorem ni132 : noIntT Tryd.prog 132 = false := by kernel_rfl
@[go_sem] theorem sz133 : szT Tryd.prog 133 = 1 := by kernel_rfl
@[go_sem] theorem by133 : bytesT Tryd.prog 133 = 4 := by kernel_rfl
@[go_sem] theorem ag133 : isAggT Tryd.prog 133 = some false := by kernel_rfl
@[go_sem] theorem zc133 : zeroC Tryd.prog 6 133 = some [.int .i32 (0)] := by kernel_rfl
@[go_sem] theorem ni133 : noIntT Tryd.prog 133 = false := by kernel_rfl
@[go_sem] theorem sz134 : szT Tryd.prog 134 = 11 := by kernel_rfl
@[go_sem] theorem by134 : bytesT Tryd.prog 134 = 48 := by kernel_rfl
@[go_sem] theorem ag134 : isAggT Tryd.prog 134 = some true := by kernel_rfl
@[go_sem] theorem zc134 : zeroC Tryd.prog 6 134 = some [.int .u64 (0), .int .u64 (0), .int .u32 (0), .int .u8 (0), .int .u8 (0), .int .u8 (0), .int .u8 (0), .nilf, .nilp, .int .i32 (0), .int .i32 (0)] := by kernel_rfl
@[go_sem] theorem ni134 : noIntT Tryd.prog 134 = true := by kernel_rfl
@[go_sem] theorem fs134 : (fieldsT Tryd.prog 134).isSome = true := by kernel_rfl
@[go_sem] theorem fl134_0 : fldA Tryd.prog 134 0 = some (0, 12) := by kernel_rfl
@[go_sem] theorem fl134_1 : fldA Tryd.prog 134 1 = some (1, 12) := by kernel_rfl
@[go_sem] theorem fl134_2 : fldA Tryd.prog 134 2 = some (2, 113) := by kernel_rfl
@[go_sem] theorem fl134_3 : fldA Tryd.prog 134 3 = some (3, 129) := by kernel_rfl
@[go_sem] theorem fl134_4 : fldA Tryd.prog 134 4 = some (4, 5) := by kernel_rfl
@[go_sem] theorem fl134_5 : fldA Tryd.prog 134 5 = some (5, 5) := by kernel_rfl
@[go_sem] theorem fl134_6 : fldA Tryd.prog 134 6 = some (6, 130) := by kernel_rfl
@[go_sem] theorem fl134_7 : fldA Tryd.prog 134 7 = some (7, 131) := by kernel_rfl
@[go_sem] theorem fl134_8 : fldA Tryd.prog 134 8 = some (8, 98) := by kernel_rfl
@[go_sem] theorem fl134_9 : fldA Tryd.prog 134 9 = some (9, 132) := by kernel_rfl
@[go_sem] theorem fl134_10 : fldA Tryd.prog 134 10 = some (10, 133) := by kernel_rfl
@[go_sem] theorem sz135 : szT Tryd.prog 135 = 11 := by kernel_rfl
@[go_sem] theorem by135 : bytesT Tryd.prog 135 = 48 := by kernel_rfl
@[go_sem] theorem ag135 : isAggT Tryd.prog 135 = some true := by kernel_rfl
@[go_sem] theorem zc135 : zeroC Tryd.prog 6 135 = some [.int .u64 (0), .int .u64 (0), .int .u32 (0), .int .u8 (0), .int .u8 (0), .int .u8 (0), .int .u8 (0), .nilf, .nilp, .int .i32 (0), .int .i32 (0)] := by kernel_rfl
@[go_sem] theorem ni135 : noIntT Tryd.prog 135 = true := by kernel_rfl
@[go_sem] theorem fs135 : (fieldsT Tryd.prog 135).isSome = true := by kernel_rfl
@[go_sem] theorem fl135_0 : fldA Tryd.prog 135 0 = some (0, 12) := by kernel_rfl
@[go_sem] theorem fl135_1 : fldA Tryd.prog 135 1 = some (1, 12) := by kernel_rfl
@[go_sem] theorem fl135_2 : fldA Tryd.prog 135 2 = some (2, 113) := by kernel_rfl
@[go_sem] theorem fl135_3 : fldA Tryd.prog 135 3 = some (3, 129) := by kernel_rfl
@[go_sem] theorem fl135_4 : fldA Tryd.prog 135 4 = some (4, 5) := by kernel_rfl
@[go_sem] theorem fl135_5 : fldA Tryd.prog 135 5 = some (5, 5) := by kernel_rfl
@[go_sem] theorem fl135_6 : fldA Tryd.prog 135 6 = some (6, 130) := by kernel_rfl
@[go_sem] theorem fl135_7 : fldA Tryd.prog 135 7 = some (7, 131) := by kernel_rfl
@[go_sem] theorem fl135_8 : fldA Tryd.prog 135 8 = some (8, 98) := by kernel_rfl
@[go_sem] theorem fl135_9 : fldA Tryd.prog 135 9 = some (9, 132) := by kernel_rfl
@[go_sem] theorem fl135_10 : fldA Tryd.prog 135 10 = some (10, 133) := by kernel_rfl
attribute [go_sem] Tryd.underlying1 Tryd.underlying2 Tryd.underlying3 Tryd.underlying4 Tryd.underlying5 Tryd.underlying6 Tryd.underlying7 Tryd.underlying8 Tryd.underlying9 Tryd.underlying10 Tryd.underlying11 Tryd.underlying12 Tryd.underlying13 Tryd.underlying14 Tryd.underlying15 Tryd.underlying16 Tryd.underlying17 Tryd.underlying18 Tryd.underlying19 Tryd.underlying21 Tryd.underlying22 Tryd.underlying23 Tryd.underlying24 Tryd.underlying25 Tryd.underlying26 Tryd.underlying27 Tryd.underlying28 Tryd.underlying29 Tryd.underlying30 Tryd.underlying31 Tryd.underlying32 Tryd.underlying33 Tryd.underlying34 Tryd.underlying35 Tryd.underlying36 Tryd.underlying37 Tryd.underlying38 Tryd.underlying39 Tryd.underlying40 Tryd.underlying42 Tryd.underlying43 Tryd.underlying44 Tryd.underlying45 Tryd.underlying46 Tryd.underlying47 Tryd.underlying48 Tryd.underlying49 Tryd.underlying50 Tryd.underlying51 Tryd.underlying52 Tryd.underlying53 Tryd.underlying54 Tryd.underlying55 Tryd.underlying56 Tryd.underlying57 Tryd.underlying58 Tryd.underlying59 Tryd.underlying60 Tryd.underlying61 Tryd.underlying62 Tryd.underlying63 Tryd.underlying64 Tryd.underlying65 Tryd.underlying66 Tryd.underlying67 Tryd.underlying68 Tryd.underlying69 Tryd.underlying70 Tryd.underlying71 Tryd.underlying72 Tryd.underlying73 Tryd.underlying74 Tryd.underlying75 Tryd.underlying76 Tryd.underlying77 Tryd.underlying78 Tryd.underlying79 Tryd.underlying80 Tryd.underlying81 Tryd.underlying82 Tryd.underlying83 Tryd.underlying84 Tryd.underlying85 Tryd.underlying86 Tryd.underlying87 Tryd.underlying90 Tryd.underlying92 Tryd.underlying93 Tryd.underlying94 Tryd.underlying95 Tryd.underlying96 Tryd.underlying97 Tryd.underlying98 Tryd.underlying99 Tryd.underlying100 Tryd.underlying101 Tryd.underlying102 Tryd.underlying103 Tryd.underlying105 Tryd.underlying107 Tryd.underlying108 Tryd.underlying109 Tryd.underlying110 Tryd.underlying111 Tryd.underlying112 Tryd.underlying113 Tryd.underlying114 Tryd.underlying115 Tryd.underlying116 Tryd.underlying117 Tryd.underlying118 Tryd.underlying120 Tryd.underlying121 Tryd.underlying122 Tryd.underlying123 Tryd.underlying124 Tryd.underlying125 Tryd.underlying126 Tryd.underlying127 Tryd.underlying128 Tryd.underlying129 Tryd.underlying130 Tryd.underlying131 Tryd.underlying132 Tryd.underlying133 Tryd.underlying134 Tryd.underlying135
end Go.Ev.Tryd
