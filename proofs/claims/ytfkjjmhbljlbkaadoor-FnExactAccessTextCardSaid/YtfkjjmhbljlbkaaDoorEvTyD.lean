/- Part of the proof of a statement about the given program: EvTyD. No condition of its own. -/
import Derived.Test.YtfkjjmhbljlbkaaDoorProg
import Derived.Test.YtfkjjmhbljlbkaaDoorEvSym
namespace Go.Ev.Tryd
open Go.Proofs
set_option maxRecDepth 100000
@[go_sem] theorem sz1 : szT Tryd.prog 1 = 1 := by kernel_rfl
@[go_sem] theorem by1 : bytesT Tryd.prog 1 = 8 := by kernel_rfl
@[go_sem] theorem ag1 : isAggT Tryd.prog 1 = some false := by kernel_rfl
@[go_sem] theorem zc1 : zeroC Tryd.prog 6 1 = some [.nilf] := by kernel_rfl
@[go_sem] theorem ni1 : noIntT Tryd.prog 1 = true := by kernel_rfl
@[go_sem] theorem sz2 : szT Tryd.prog 2 = 1 := by kernel_rfl
@[go_sem] theorem by2 : bytesT Tryd.prog 2 = 8 := by kernel_rfl
@[go_sem] theorem ag2 : isAggT Tryd.prog 2 = some false := by kernel_rfl
@[go_sem] theorem zc2 : zeroC Tryd.prog 6 2 = some [.int .i64 (0)] := by kernel_rfl
@[go_sem] theorem ni2 : noIntT Tryd.prog 2 = false := by kernel_rfl
@[go_sem] theorem sz3 : szT Tryd.prog 3 = 1 := by kernel_rfl
@[go_sem] theorem by3 : bytesT Tryd.prog 3 = 8 := by kernel_rfl
@[go_sem] theorem ag3 : isAggT Tryd.prog 3 = some false := by kernel_rfl
@[go_sem] theorem zc3 : zeroC Tryd.prog 6 3 = some [.int .i64 (0)] := by kernel_rfl
@[go_sem] theorem ni3 : noIntT Tryd.prog 3 = false := by kernel_rfl
@[go_sem] theorem sz4 : szT Tryd.prog 4 = 1 := by kernel_rfl
@[go_sem] theorem by4 : bytesT Tryd.prog 4 = 1 := by kernel_rfl
@[go_sem] theorem ag4 : isAggT Tryd.prog 4 = some false := by kernel_rfl
@[go_sem] theorem zc4 : zeroC Tryd.prog 6 4 = some [.bool false] := by kernel_rfl
@[go_sem] theorem ni4 : noIntT Tryd.prog 4 = true := by kernel_rfl
@[go_sem] theorem sz5 : szT Tryd.prog 5 = 1 := by kernel_rfl
@[go_sem] theorem by5 : bytesT Tryd.prog 5 = 1 := by kernel_rfl
@[go_sem] theorem ag5 : isAggT Tryd.prog 5 = some false := by kernel_rfl
@[go_sem] theorem zc5 : zeroC Tryd.prog 6 5 = some [.int .u8 (0)] := by kernel_rfl
@[go_sem] theorem ni5 : noIntT Tryd.prog 5 = false := by kernel_rfl
@[go_sem] theorem sz6 : szT Tryd.prog 6 = 1 := by kernel_rfl
@[go_sem] theorem by6 : bytesT Tryd.prog 6 = 1 := by kernel_rfl
@[go_sem] theorem ag6 : isAggT Tryd.prog 6 = some false := by kernel_rfl
@[go_sem] theorem zc6 : zeroC Tryd.prog 6 6 = some [.int .u8 (0)] := by kernel_rfl
@[go_sem] theorem ni6 : noIntT Tryd.prog 6 = false := by kernel_rfl
@[go_sem] theorem sz7 : szT Tryd.prog 7 = 4 := by kernel_rfl
@[go_sem] theorem by7 : bytesT Tryd.prog 7 = 24 := by kernel_rfl
@[go_sem] theorem ag7 : isAggT Tryd.prog 7 = some true := by kernel_rfl
@[go_sem] theorem zc7 : zeroC Tryd.prog 6 7 = some [.int .i64 (0), .int .i64 (0), .bool false, .int .u8 (0)] := by kernel_rfl
@[go_sem] theorem ni7 : noIntT Tryd.prog 7 = true := by kernel_rfl
@[go_sem] theorem fs7 : (fieldsT Tryd.prog 7).isSome = true := by kernel_rfl
@[go_sem] theorem fl7_0 : fldA Tryd.prog 7 0 = some (0, 2) := by kernel_rfl
@[go_sem] theorem fl7_1 : fldA Tryd.prog 7 1 = some (1, 3) := by kernel_rfl
@[go_sem] theorem fl7_2 : fldA Tryd.prog 7 2 = some (2, 4) := by kernel_rfl
@[go_sem] theorem fl7_3 : fldA Tryd.prog 7 3 = some (3, 6) := by kernel_rfl
@[go_sem] theorem sz8 : szT Tryd.prog 8 = 4 := by kernel_rfl
@[go_sem] theorem by8 : bytesT Tryd.prog 8 = 24 := by kernel_rfl
@[go_sem] theorem ag8 : isAggT Tryd.prog 8 = some true := by kernel_rfl
@[go_sem] theorem zc8 : zeroC Tryd.prog 6 8 = some [.int .i64 (0), .int .i64 (0), .bool false, .int .u8 (0)] := by kernel_rfl
@[go_sem] theorem ni8 : noIntT Tryd.prog 8 = true := by kernel_rfl
@[go_sem] theorem fs8 : (fieldsT Tryd.prog 8).isSome = true := by kernel_rfl
@[go_sem] theorem fl8_0 : fldA Tryd.prog 8 0 = some (0, 2) := by kernel_rfl
@[go_sem] theorem fl8_1 : fldA Tryd.prog 8 1 = some (1, 3) := by kernel_rfl
@[go_sem] theorem fl8_2 : fldA Tryd.prog 8 2 = some (2, 4) := by kernel_rfl
@[go_sem] theorem fl8_3 : fldA Tryd.prog 8 3 = some (3, 6) := by kernel_rfl
@[go_sem] theorem sz9 : szT Tryd.prog 9 = 1 := by kernel_rfl
@[go_sem] theorem by9 : bytesT Tryd.prog 9 = 16 := by kernel_rfl
@[go_sem] theorem ag9 : isAggT Tryd.prog 9 = some false := by kernel_rfl
@[go_sem] theorem zc9 : zeroC Tryd.prog 6 9 = some [.str ⟨#[]⟩] := by kernel_rfl
@[go_sem] theorem ni9 : noIntT Tryd.prog 9 = true := by kernel_rfl
@[go_sem] theorem sz10 : szT Tryd.prog 10 = 1 := by kernel_rfl
@[go_sem] theorem by10 : bytesT Tryd.prog 10 = 16 := by kernel_rfl
@[go_sem] theorem ag10 : isAggT Tryd.prog 10 = some false := by kernel_rfl
@[go_sem] theorem zc10 : zeroC Tryd.prog 6 10 = some [.str ⟨#[]⟩] := by kernel_rfl
@[go_sem] theorem ni10 : noIntT Tryd.prog 10 = true := by kernel_rfl
@[go_sem] theorem sz11 : szT Tryd.prog 11 = 1 := by kernel_rfl
@[go_sem] theorem by11 : bytesT Tryd.prog 11 = 16 := by kernel_rfl
@[go_sem] theorem ag11 : isAggT Tryd.prog 11 = some false := by kernel_rfl
@[go_sem] theorem zc11 : zeroC Tryd.prog 6 11 = some [.str ⟨#[]⟩] := by kernel_rfl
@[go_sem] theorem ni11 : noIntT Tryd.prog 11 = true := by kernel_rfl
@[go_sem] theorem sz12 : szT Tryd.prog 12 = 1 := by kernel_rfl
@[go_sem] theorem by12 : bytesT Tryd.prog 12 = 8 := by kernel_rfl
@[go_sem] theorem ag12 : isAggT Tryd.prog 12 = some false := by kernel_rfl
@[go_sem] theorem zc12 : zeroC Tryd.prog 6 12 = some [.int .u64 (0)] := by kernel_rfl
@[go_sem] theorem ni12 : noIntT Tryd.prog 12 = false := by kernel_rfl
@[go_sem] theorem sz13 : szT Tryd.prog 13 = 2 := by kernel_rfl
@[go_sem] theorem by13 : bytesT Tryd.prog 13 = 24 := by kernel_rfl
@[go_sem] theorem ag13 : isAggT Tryd.prog 13 = some true := by kernel_rfl
@[go_sem] theorem zc13 : zeroC Tryd.prog 6 13 = some [.str ⟨#[]⟩, .int .u64 (0)] := by kernel_rfl
@[go_sem] theorem ni13 : noIntT Tryd.prog 13 = true := by kernel_rfl
@[go_sem] theorem fs13 : (fieldsT Tryd.prog 13).isSome = true := by kernel_rfl
@[go_sem] theorem fl13_0 : fldA Tryd.prog 13 0 = some (0, 9) := by kernel_rfl
@[go_sem] theorem fl13_1 : fldA Tryd.prog 13 1 = some (1, 12) := by kernel_rfl
@[go_sem] theorem sz14 : szT Tryd.prog 14 = 2 := by kernel_rfl
@[go_sem] theorem by14 : bytesT Tryd.prog 14 = 24 := by kernel_rfl
@[go_sem] theorem ag14 : isAggT Tryd.prog 14 = some true := by kernel_rfl
@[go_sem] theorem zc14 : zeroC Tryd.prog 6 14 = some [.str ⟨#[]⟩, .int .u64 (0)] := by kernel_rfl
@[go_sem] theorem ni14 : noIntT Tryd.prog 14 = true := by kernel_rfl
@[go_sem] theorem fs14 : (fieldsT Tryd.prog 14).isSome = true := by kernel_rfl
@[go_sem] theorem fl14_0 : fldA Tryd.prog 14 0 = some (0, 9) := by kernel_rfl
@[go_sem] theorem fl14_1 : fldA Tryd.prog 14 1 = some (1, 12) := by kernel_rfl
@[go_sem] theorem sz15 : szT Tryd.prog 15 = 1 := by kernel_rfl
@[go_sem] theorem by15 : bytesT Tryd.prog 15 = 8 := by kernel_rfl
@[go_sem] theorem ag15 : isAggT Tryd.prog 15 = some false := by kernel_rfl
@[go_sem] theorem zc15 : zeroC Tryd.prog 6 15 = some [.nilp] := by kernel_rfl
@[go_sem] theorem ni15 : noIntT Tryd.prog 15 = true := by kernel_rfl
@[go_sem] theorem sz16 : szT Tryd.prog 16 = 1 := by kernel_rfl
@[go_sem] theorem by16 : bytesT Tryd.prog 16 = 8 := by kernel_rfl
@[go_sem] theorem ag16 : isAggT Tryd.prog 16 = some false := by kernel_rfl
@[go_sem] theorem zc16 : zeroC Tryd.prog 6 16 = some [.nilp] := by kernel_rfl
@[go_sem] theorem ni16 : noIntT Tryd.prog 16 = true := by kernel_rfl
@[go_sem] theorem sz17 : szT Tryd.prog 17 = 1 := by kernel_rfl
@[go_sem] theorem by17 : bytesT Tryd.prog 17 = 8 := by kernel_rfl
@[go_sem] theorem ag17 : isAggT Tryd.prog 17 = some false := by kernel_rfl
@[go_sem] theorem zc17 : zeroC Tryd.prog 6 17 = some [.nilp] := by kernel_rfl
@[go_sem] theorem ni17 : noIntT Tryd.prog 17 = true := by kernel_rfl
@[go_sem] theorem sz18 : szT Tryd.prog 18 = 1 := by kernel_rfl
@[go_sem] theorem by18 : bytesT Tryd.prog 18 = 8 := by kernel_rfl
@[go_sem] theorem ag18 : isAggT Tryd.prog 18 = some true := by kernel_rfl
@[go_sem] theorem zc18 : zeroC Tryd.prog 6 18 = some [.nilp] := by kernel_rfl
@[go_sem] theorem ni18 : noIntT Tryd.prog 18 = true := by kernel_rfl
@[go_sem] theorem fs18 : (fieldsT Tryd.prog 18).isSome = true := by kernel_rfl
@[go_sem] theorem fl18_0 : fldA Tryd.prog 18 0 = some (0, 17) := by kernel_rfl
@[go_sem] theorem sz19 : szT Tryd.prog 19 = 1 := by kernel_rfl
@[go_sem] theorem by19 : bytesT Tryd.prog 19 = 8 := by kernel_rfl
@[go_sem] theorem ag19 : isAggT Tryd.prog 19 = some true := by kernel_rfl
@[go_sem] theorem zc19 : zeroC Tryd.prog 6 19 = some [.nilp] := by kernel_rfl
@[go_sem] theorem ni19 : noIntT Tryd.prog 19 = true := by kernel_rfl
@[go_sem] theorem fs19 : (fieldsT Tryd.prog 19).isSome = true := by kernel_rfl
@[go_sem] theorem fl19_0 : fldA Tryd.prog 19 0 = some (0, 17) := by kernel_rfl
@[go_sem] theorem sz21 : szT Tryd.prog 21 = 1 := by kernel_rfl
@[go_sem] theorem by21 : bytesT Tryd.prog 21 = 4 := by kernel_rfl
@[go_sem] theorem ag21 : isAggT Tryd.prog 21 = some false := by kernel_rfl
@[go_sem] theorem zc21 : zeroC Tryd.prog 6 21 = some [.int .i32 (0)] := by kernel_rfl
@[go_sem] theorem ni21 : noIntT Tryd.prog 21 = false := by kernel_rfl
@[go_sem] theorem sz22 : szT Tryd.prog 22 = 7 := by kernel_rfl
@[go_sem] theorem by22 : bytesT Tryd.prog 22 = 64 := by kernel_rfl
@[go_sem] theorem ag22 : isAggT Tryd.prog 22 = some true := by kernel_rfl
@[go_sem] theorem zc22 : zeroC Tryd.prog 6 22 = some [.str ⟨#[]⟩, .int .i64 (0), .int .i64 (0), .int .i64 (0), .int .i64 (0), .int .i64 (0), .int .i64 (0)] := by kernel_rfl
@[go_sem] theorem ni22 : noIntT Tryd.prog 22 = true := by kernel_rfl
@[go_sem] theorem fs22 : (fieldsT Tryd.prog 22).isSome = true := by kernel_rfl
@[go_sem] theorem fl22_0 : fldA Tryd.prog 22 0 = some (0, 9) := by kernel_rfl
@[go_sem] theorem fl22_1 : fldA Tryd.prog 22 1 = some (1, 3) := by kernel_rfl
@[go_sem] theorem fl22_2 : fldA Tryd.prog 22 2 = some (2, 3) := by kernel_rfl
@[go_sem] theorem fl22_3 : fldA Tryd.prog 22 3 = some (3, 3) := by kernel_rfl
@[go_sem] theorem fl22_4 : fldA Tryd.prog 22 4 = some (4, 3) := by kernel_rfl
@[go_sem] theorem fl22_5 : fldA Tryd.prog 22 5 = some (5, 3) := by kernel_rfl
@[go_sem] theorem fl22_6 : fldA Tryd.prog 22 6 = some (6, 3) := by kernel_rfl
@[go_sem] theorem sz23 : szT Tryd.prog 23 = 7 := by kernel_rfl
@[go_sem] theorem by23 : bytesT Tryd.prog 23 = 64 := by kernel_rfl
@[go_sem] theorem ag23 : isAggT Tryd.prog 23 = some true := by kernel_rfl
@[go_sem] theorem zc23 : zeroC Tryd.prog 6 23 = some [.str ⟨#[]⟩, .int .i64 (0), .int .i64 (0), .int .i64 (0), .int .i64 (0), .int .i64 (0), .int .i64 (0)] := by kernel_rfl
@[go_sem] theorem ni23 : noIntT Tryd.prog 23 = true := by kernel_rfl
@[go_sem] theorem fs23 : (fieldsT Tryd.prog 23).isSome = true := by kernel_rfl
@[go_sem] theorem fl23_0 : fldA Tryd.prog 23 0 = some (0, 9) := by kernel_rfl
@[go_sem] theorem fl23_1 : fldA Tryd.prog 23 1 = some (1, 3) := by kernel_rfl
@[go_sem] theorem fl23_2 : fldA Tryd.prog 23 2 = some (2, 3) := by kernel_rfl
@[go_sem] theorem fl23_3 : fldA Tryd.prog 23 3 = some (3, 3) := by kernel_rfl
@[go_sem] theorem fl23_4 : fldA Tryd.prog 23 4 = some (4, 3) := by kernel_rfl
@[go_sem] theorem fl23_5 : fldA Tryd.prog 23 5 = some (5, 3) := by kernel_rfl
@[go_sem] theorem fl23_6 : fldA Tryd.prog 23 6 = some (6, 3) := by kernel_rfl
@[go_sem] theorem sz24 : szT Tryd.prog 24 = 1 := by kernel_rfl
@[go_sem] theorem by24 : bytesT Tryd.prog 24 = 8 := by kernel_rfl
@[go_sem] theorem ag24 : isAggT Tryd.prog 24 = some false := by kernel_rfl
@[go_sem] theorem zc24 : zeroC Tryd.prog 6 24 = some [.nilf] := by kernel_rfl
@[go_sem] theorem ni24 : noIntT Tryd.prog 24 = true := by kernel_rfl
@[go_sem] theorem sz25 : szT Tryd.prog 25 = 1 := by kernel_rfl
@[go_sem] theorem by25 : bytesT Tryd.prog 25 = 8 := by kernel_rfl
@[go_sem] theorem ag25 : isAggT Tryd.prog 25 = some false := by kernel_rfl
@[go_sem] theorem zc25 : zeroC Tryd.prog 6 25 = some [.nilf] := by kernel_rfl
@[go_sem] theorem ni25 : noIntT Tryd.prog 25 = true := by kernel_rfl
@[go_sem] theorem sz26 : szT Tryd.prog 26 = 7 := by kernel_rfl
@[go_sem] theorem by26 : bytesT Tryd.prog 26 = 64 := by kernel_rfl
@[go_sem] theorem ag26 : isAggT Tryd.prog 26 = some true := by kernel_rfl
@[go_sem] theorem zc26 : zeroC Tryd.prog 6 26 = some [.str ⟨#[]⟩, .int .i64 (0), .int .i64 (0), .int .i64 (0), .int .i64 (0), .int .i64 (0), .int .i64 (0)] := by kernel_rfl
@[go_sem] theorem ni26 : noIntT Tryd.prog 26 = true := by kernel_rfl
@[go_sem] theorem fs26 : (fieldsT Tryd.prog 26).isSome = true := by kernel_rfl
@[go_sem] theorem fl26_0 : fldA Tryd.prog 26 0 = some (0, 9) := by kernel_rfl
@[go_sem] theorem fl26_1 : fldA Tryd.prog 26 1 = some (1, 3) := by kernel_rfl
@[go_sem] theorem fl26_2 : fldA Tryd.prog 26 2 = some (2, 3) := by kernel_rfl
@[go_sem] theorem fl26_3 : fldA Tryd.prog 26 3 = some (3, 3) := by kernel_rfl
@[go_sem] theorem fl26_4 : fldA Tryd.prog 26 4 = some (4, 3) := by kernel_rfl
@[go_sem] theorem fl26_5 : fldA Tryd.prog 26 5 = some (5, 3) := by kernel_rfl
@[go_sem] theorem fl26_6 : fldA Tryd.prog 26 6 = some (6, 3) := by kernel_rfl
@[go_sem] theorem sz27 : szT Tryd.prog 27 = 1 := by kernel_rfl
@[go_sem] theorem by27 : bytesT Tryd.prog 27 = 8 := by kernel_rfl
@[go_sem] theorem ag27 : isAggT Tryd.prog 27 = some false := by kernel_rfl
@[go_sem] theorem zc27 : zeroC Tryd.prog 6 27 = some [.nilf] := by kernel_rfl
@[go_sem] theorem ni27 : noIntT Tryd.prog 27 = true := by kernel_rfl
@[go_sem] theorem sz28 : szT Tryd.prog 28 = 1 := by kernel_rfl
@[go_sem] theorem by28 : bytesT Tryd.prog 28 = 8 := by kernel_rfl
@[go_sem] theorem ag28 : isAggT Tryd.prog 28 = some false := by kernel_rfl
@[go_sem] theorem zc28 : zeroC Tryd.prog 6 28 = some [.nilf] := by kernel_rfl
@[go_sem] theorem ni28 : noIntT Tryd.prog 28 = true := by kernel_rfl
@[go_sem] theorem sz29 : szT Tryd.prog 29 = 1 := by kernel_rfl
@[go_sem] theorem by29 : bytesT Tryd.prog 29 = 24 := by kernel_rfl
@[go_sem] theorem ag29 : isAggT Tryd.prog 29 = some false := by kernel_rfl
@[go_sem] theorem zc29 : zeroC Tryd.prog 6 29 = some [.nils 1] := by kernel_rfl
@[go_sem] theorem ni29 : noIntT Tryd.prog 29 = true := by kernel_rfl
@[go_sem] theorem el29 : elemT Tryd.prog 29 = some 5 := by kernel_rfl
@[go_sem] theorem sz30 : szT Tryd.prog 30 = 1 := by kernel_rfl
@[go_sem] theorem by30 : bytesT Tryd.prog 30 = 24 := by kernel_rfl
@[go_sem] theorem ag30 : isAggT Tryd.prog 30 = some false := by kernel_rfl
@[go_sem] theorem zc30 : zeroC Tryd.prog 6 30 = some [.nils 1] := by kernel_rfl
@[go_sem] theorem ni30 : noIntT Tryd.prog 30 = true := by kernel_rfl
@[go_sem] theorem el30 : elemT Tryd.prog 30 = some 9 := by kernel_rfl
@[go_sem] theorem sz31 : szT Tryd.prog 31 = 1 := by kernel_rfl
@[go_sem] theorem by31 : bytesT Tryd.prog 31 = 8 := by kernel_rfl
@[go_sem] theorem ag31 : isAggT Tryd.prog 31 = some false := by kernel_rfl
@[go_sem] theorem zc31 : zeroC Tryd.prog 6 31 = some [.nilf] := by kernel_rfl
@[go_sem] theorem ni31 : noIntT Tryd.prog 31 = true := by kernel_rfl
@[go_sem] theorem sz32 : szT Tryd.prog 32 = 1 := by kernel_rfl
@[go_sem] theorem by32 : bytesT Tryd.prog 32 = 8 := by kernel_rfl
@[go_sem] theorem ag32 : isAggT Tryd.prog 32 = some false := by kernel_rfl
@[go_sem] theorem zc32 : zeroC Tryd.prog 6 32 = some [.nilf] := by kernel_rfl
@[go_sem] theorem ni32 : noIntT Tryd.prog 32 = true := by kernel_rfl
@[go_sem] theorem sz33 : szT Tryd.prog 33 = 2 := by kernel_rfl
@[go_sem] theorem by33 : bytesT Tryd.prog 33 = 24 := by kernel_rfl
@[go_sem] theorem ag33 : isAggT Tryd.prog 33 = some true := by kernel_rfl
@[go_sem] theorem zc33 : zeroC Tryd.prog 6 33 = some [.str ⟨#[]⟩, .bool false] := by kernel_rfl
@[go_sem] theorem ni33 : noIntT Tryd.prog 33 = true := by kernel_rfl
@[go_sem] theorem fs33 : (fieldsT Tryd.prog 33).isSome = true := by kernel_rfl
@[go_sem] theorem fl33_0 : fldA Tryd.prog 33 0 = some (0, 9) := by kernel_rfl
@[go_sem] theorem fl33_1 : fldA Tryd.prog 33 1 = some (1, 4) := by kernel_rfl
@[go_sem] theorem sz34 : szT Tryd.prog 34 = 2 := by kernel_rfl
@[go_sem] theorem by34 : bytesT Tryd.prog 34 = 24 := by kernel_rfl
@[go_sem] theorem ag34 : isAggT Tryd.prog 34 = some true := by kernel_rfl
@[go_sem] theorem zc34 : zeroC Tryd.prog 6 34 = some [.str ⟨#[]⟩, .bool false] := by kernel_rfl
@[go_sem] theorem ni34 : noIntT Tryd.prog 34 = true := by kernel_rfl
@[go_sem] theorem fs34 : (fieldsT Tryd.prog 34).isSome = true := by kernel_rfl
@[go_sem] theorem fl34_0 : fldA Tryd.prog 34 0 = some (0, 9) := by kernel_rfl
@[go_sem] theorem fl34_1 : fldA Tryd.prog 34 1 = some (1, 4) := by kernel_rfl
@[go_sem] theorem sz35 : szT Tryd.prog 35 = 1 := by kernel_rfl
@[go_sem] theorem by35 : bytesT Tryd.prog 35 = 24 := by kernel_rfl
@[go_sem] theorem ag35 : isAggT Tryd.prog 35 = some false := by kernel_rfl
@[go_sem] theorem zc35 : zeroC Tryd.prog 6 35 = some [.nils 1] := by kernel_rfl
@[go_sem] theorem ni35 : noIntT Tryd.prog 35 = true := by kernel_rfl
@[go_sem] theorem el35 : elemT Tryd.prog 35 = some 30 := by kernel_rfl
@[go_sem] theorem sz37 : szT Tryd.prog 37 = 1 := by kernel_rfl
@[go_sem] theorem by37 : bytesT Tryd.prog 37 = 8 := by kernel_rfl
@[go_sem] theorem ag37 : isAggT Tryd.prog 37 = some false := by kernel_rfl
@[go_sem] theorem zc37 : zeroC Tryd.prog 6 37 = some [.nilf] := by kernel_rfl
@[go_sem] theorem ni37 : noIntT Tryd.prog 37 = true := by kernel_rfl
@[go_sem] theorem sz38 : szT Tryd.prog 38 = 1 := by kernel_rfl
@[go_sem] theorem by38 : bytesT Tryd.prog 38 = 8 := by kernel_rfl
@[go_sem] theorem ag38 : isAggT Tryd.prog 38 = some false := by kernel_rfl
@[go_sem] theorem zc38 : zeroC Tryd.prog 6 38 = some [.nilf] := by kernel_rfl
@[go_sem] theorem ni38 : noIntT Tryd.prog 38 = true := by kernel_rfl
@[go_sem] theorem sz39 : szT Tryd.prog 39 = 1 := by kernel_rfl
@[go_sem] theorem by39 : bytesT Tryd.prog 39 = 8 := by kernel_rfl
@[go_sem] theorem ag39 : isAggT Tryd.prog 39 = some false := by kernel_rfl
@[go_sem] theorem zc39 : zeroC Tryd.prog 6 39 = some [.nilf] := by kernel_rfl
@[go_sem] theorem ni39 : noIntT Tryd.prog 39 = true := by kernel_rfl
@[go_sem] theorem sz40 : szT Tryd.prog 40 = 1 := by kernel_rfl
@[go_sem] theorem by40 : bytesT Tryd.prog 40 = 24 := by kernel_rfl
@[go_sem] theorem ag40 : isAggT Tryd.prog 40 = some false := by kernel_rfl
@[go_sem] theorem zc40 : zeroC Tryd.prog 6 40 = some [.nils 6] := by kernel_rfl
@[go_sem] theorem ni40 : noIntT Tryd.prog 40 = true := by kernel_rfl
@[go_sem] theorem el40 : elemT Tryd.prog 40 = some 42 := by kernel_rfl
@[go_sem] theorem sz41 : szT Tryd.prog 41 = 6 := by kernel_rfl
@[go_sem] theorem by41 : bytesT Tryd.prog 41 = 88 := by kernel_rfl
@[go_sem] theorem ag41 : isAggT Tryd.prog 41 = some true := by kernel_rfl
@[go_sem] theorem zc41 : zeroC Tryd.prog 6 41 = some [.int .i64 (0), .str ⟨#[]⟩, .nils 6, .int .i64 (0), .int .i64 (0), .nils 6] := by kernel_rfl
@[go_sem] theorem ni41 : noIntT Tryd.prog 41 = true := by kernel_rfl
@[go_sem] theorem fs41 : (fieldsT Tryd.prog 41).isSome = true := by kernel_rfl
@[go_sem] theorem fl41_0 : fldA Tryd.prog 41 0 = some (0, 3) := by kernel_rfl
@[go_sem] theorem fl41_1 : fldA Tryd.prog 41 1 = some (1, 9) := by kernel_rfl
@[go_sem] theorem fl41_2 : fldA Tryd.prog 41 2 = some (2, 40) := by kernel_rfl
@[go_sem] theorem fl41_3 : fldA Tryd.prog 41 3 = some (3, 3) := by kernel_rfl
@[go_sem] theorem fl41_4 : fldA Tryd.prog 41 4 = some (4, 3) := by kernel_rfl
@[go_sem] theorem fl41_5 : fldA Tryd.prog 41 5 = some (5, 40) := by kernel_rfl
@[go_sem] theorem sz42 : szT Tryd.prog 42 = 6 := by kernel_rfl
@[go_sem] theorem by42 : bytesT Tryd.prog 42 = 88 := by kernel_rfl
@[go_sem] theorem ag42 : isAggT Tryd.prog 42 = some true := by kernel_rfl
@[go_sem] theorem zc42 : zeroC Tryd.prog 6 42 = some [.int .i64 (0), .str ⟨#[]⟩, .nils 6, .int .i64 (0), .int .i64 (0), .nils 6] := by kernel_rfl
@[go_sem] theorem ni42 : noIntT Tryd.prog 42 = true := by kernel_rfl
@[go_sem] theorem fs42 : (fieldsT Tryd.prog 42).isSome = true := by kernel_rfl
@[go_sem] theorem fl42_0 : fldA Tryd.prog 42 0 = some (0, 3) := by kernel_rfl
@[go_sem] theorem fl42_1 : fldA Tryd.prog 42 1 = some (1, 9) := by kernel_rfl
@[go_sem] theorem fl42_2 : fldA Tryd.prog 42 2 = some (2, 40) := by kernel_rfl
@[go_sem] theorem fl42_3 : fldA Tryd.prog 42 3 = some (3, 3) := by kernel_rfl
@[go_sem] theorem fl42_4 : fldA Tryd.prog 42 4 = some (4, 3) := by kernel_rfl
@[go_sem] theorem fl42_5 : fldA Tryd.prog 42 5 = some (5, 40) := by kernel_rfl
@[go_sem] theorem sz43 : szT Tryd.prog 43 = 1 := by kernel_rfl
@[go_sem] theorem by43 : bytesT Tryd.prog 43 = 8 := by kernel_rfl
@[go_sem] theorem ag43 : isAggT Tryd.prog 43 = some false := by kernel_rfl
@[go_sem] theorem zc43 : zeroC Tryd.prog 6 43 = some [.nilf] := by kernel_rfl
@[go_sem] theorem ni43 : noIntT Tryd.prog 43 = true := by kernel_rfl
@[go_sem] theorem sz44 : szT Tryd.prog 44 = 1 := by kernel_rfl
@[go_sem] theorem by44 : bytesT Tryd.prog 44 = 24 := by kernel_rfl
@[go_sem] theorem ag44 : isAggT Tryd.prog 44 = some false := by kernel_rfl
@[go_sem] theorem zc44 : zeroC Tryd.prog 6 44 = some [.nils 6] := by kernel_rfl
@[go_sem] theorem ni44 : noIntT Tryd.prog 44 = true := by kernel_rfl
@[go_sem] theorem el44 : elemT Tryd.prog 44 = some 46 := by kernel_rfl
@[go_sem] theorem sz45 : szT Tryd.prog 45 = 6 := by kernel_rfl
@[go_sem] theorem by45 : bytesT Tryd.prog 45 = 88 := by kernel_rfl
@[go_sem] theorem ag45 : isAggT Tryd.prog 45 = some true := by kernel_rfl
@[go_sem] theorem zc45 : zeroC Tryd.prog 6 45 = some [.int .i64 (0), .str ⟨#[]⟩, .nils 6, .int .i64 (0), .int .i64 (0), .nils 6] := by kernel_rfl
@[go_sem] theorem ni45 : noIntT Tryd.prog 45 = true := by kernel_rfl
@[go_sem] theorem fs45 : (fieldsT Tryd.prog 45).isSome = true := by kernel_rfl
@[go_sem] theorem fl45_0 : fldA Tryd.prog 45 0 = some (0, 3) := by kernel_rfl
@[go_sem] theorem fl45_1 : fldA Tryd.prog 45 1 = some (1, 9) := by kernel_rfl
@[go_sem] theorem fl45_2 : fldA Tryd.prog 45 2 = some (2, 44) := by kernel_rfl
@[go_sem] theorem fl45_3 : fldA Tryd.prog 45 3 = some (3, 3) := by kernel_rfl
@[go_sem] theorem fl45_4 : fldA Tryd.prog 45 4 = some (4, 3) := by kernel_rfl
@[go_sem] theorem fl45_5 : fldA Tryd.prog 45 5 = some (5, 44) := by kernel_rfl
@[go_sem] theorem sz46 : szT Tryd.prog 46 = 6 := by kernel_rfl
@[go_sem] theorem by46 : bytesT Tryd.prog 46 = 88 := by kernel_rfl
@[go_sem] theorem ag46 : isAggT Tryd.prog 46 = some true := by kernel_rfl
@[go_sem] theorem zc46 : zeroC Tryd.prog 6 46 = some [.int .i64 (0), .str ⟨#[]⟩, .nils 6, .int .i64 (0), .int .i64 (0), .nils 6] := by kernel_rfl
@[go_sem] theorem ni46 : noIntT Tryd.prog 46 = true := by kernel_rfl
@[go_sem] theorem fs46 : (fieldsT Tryd.prog 46).isSome = true := by kernel_rfl
@[go_sem] theorem fl46_0 : fldA Tryd.prog 46 0 = some (0, 3) := by kernel_rfl
@[go_sem] theorem fl46_1 : fldA Tryd.prog 46 1 = some (1, 9) := by kernel_rfl
@[go_sem] theorem fl46_2 : fldA Tryd.prog 46 2 = some (2, 44) := by kernel_rfl
@[go_sem] theorem fl46_3 : fldA Tryd.prog 46 3 = some (3, 3) := by kernel_rfl
@[go_sem] theorem fl46_4 : fldA Tryd.prog 46 4 = some (4, 3) := by kernel_rfl
@[go_sem] theorem fl46_5 : fldA Tryd.prog 46 5 = some (5, 44) := by kernel_rfl
@[go_sem] theorem sz47 : szT Tryd.prog 47 = 7 := by kernel_rfl
@[go_sem] theorem by47 : bytesT Tryd.prog 47 = 96 := by kernel_rfl
@[go_sem] theorem ag47 : isAggT Tryd.prog 47 = some true := by kernel_rfl
@[go_sem] theorem zc47 : zeroC Tryd.prog 6 47 = some [.int .i64 (0), .int .i64 (0), .str ⟨#[]⟩, .nils 6, .int .i64 (0), .int .i64 (0), .nils 6] := by kernel_rfl
@[go_sem] theorem ni47 : noIntT Tryd.prog 47 = true := by kernel_rfl
@[go_sem] theorem fs47 : (fieldsT Tryd.prog 47).isSome = true := by kernel_rfl
@[go_sem] theorem fl47_0 : fldA Tryd.prog 47 0 = some (0, 3) := by kernel_rfl
@[go_sem] theorem fl47_1 : fldA Tryd.prog 47 1 = some (1, 46) := by kernel_rfl
@[go_sem] theorem sz48 : szT Tryd.prog 48 = 7 := by kernel_rfl
@[go_sem] theorem by48 : bytesT Tryd.prog 48 = 96 := by kernel_rfl
@[go_sem] theorem ag48 : isAggT Tryd.prog 48 = some true := by kernel_rfl
@[go_sem] theorem zc48 : zeroC Tryd.prog 6 48 = some [.int .i64 (0), .int .i64 (0), .str ⟨#[]⟩, .nils 6, .int .i64 (0), .int .i64 (0), .nils 6] := by kernel_rfl
@[go_sem] theorem ni48 : noIntT Tryd.prog 48 = true := by kernel_rfl
@[go_sem] theorem fs48 : (fieldsT Tryd.prog 48).isSome = true := by kernel_rfl
@[go_sem] theorem fl48_0 : fldA Tryd.prog 48 0 = some (0, 3) := by kernel_rfl
@[go_sem] theorem fl48_1 : fldA Tryd.prog 48 1 = some (1, 46) := by kernel_rfl
@[go_sem] theorem sz50 : szT Tryd.prog 50 = 1 := by kernel_rfl
@[go_sem] theorem by50 : bytesT Tryd.prog 50 = 8 := by kernel_rfl
@[go_sem] theorem ag50 : isAggT Tryd.prog 50 = some false := by kernel_rfl
@[go_sem] theorem zc50 : zeroC Tryd.prog 6 50 = some [.nilf] := by kernel_rfl
@[go_sem] theorem ni50 : noIntT Tryd.prog 50 = true := by kernel_rfl
@[go_sem] theorem sz51 : szT Tryd.prog 51 = 1 := by kernel_rfl
@[go_sem] theorem by51 : bytesT Tryd.prog 51 = 8 := by kernel_rfl
@[go_sem] theorem ag51 : isAggT Tryd.prog 51 = some false := by kernel_rfl
@[go_sem] theorem zc51 : zeroC Tryd.prog 6 51 = some [.nilf] := by kernel_rfl
@[go_sem] theorem ni51 : noIntT Tryd.prog 51 = true := by kernel_rfl
@[go_sem] theorem sz52 : szT Tryd.prog 52 = 1 := by kernel_rfl
@[go_sem] theorem by52 : bytesT Tryd.prog 52 = 8 := by kernel_rfl
@[go_sem] theorem ag52 : isAggT Tryd.prog 52 = some false := by kernel_rfl
@[go_sem] theorem zc52 : zeroC Tryd.prog 6 52 = some [.nilf] := by kernel_rfl
@[go_sem] theorem ni52 : noIntT Tryd.prog 52 = true := by kernel_rfl
@[go_sem] theorem sz53 : szT Tryd.prog 53 = 1 := by kernel_rfl
@[go_sem] theorem by53 : bytesT Tryd.prog 53 = 8 := by kernel_rfl
@[go_sem] theorem ag53 : isAggT Tryd.prog 53 = some false := by kernel_rfl
@[go_sem] theorem zc53 : zeroC Tryd.prog 6 53 = some [.nilf] := by kernel_rfl
@[go_sem] theorem ni53 : noIntT Tryd.prog 53 = true := by kernel_rfl
@[go_sem] theorem sz54 : szT Tryd.prog 54 = 1 := by kernel_rfl
@[go_sem] theorem by54 : bytesT Tryd.prog 54 = 8 := by kernel_rfl
@[go_sem] theorem ag54 : isAggT Tryd.prog 54 = some false := by kernel_rfl
@[go_sem] theorem zc54 : zeroC Tryd.prog 6 54 = some [.nilf] := by kernel_rfl
@[go_sem] theorem ni54 : noIntT Tryd.prog 54 = true := by kernel_rfl
@[go_sem] theorem sz55 : szT Tryd.prog 55 = 1 := by kernel_rfl
@[go_sem] theorem by55 : bytesT Tryd.prog 55 = 8 := by kernel_rfl
@[go_sem] theorem ag55 : isAggT Tryd.prog 55 = some false := by kernel_rfl
@[go_sem] theorem zc55 : zeroC Tryd.prog 6 55 = some [.nilf] := by kernel_rfl
@[go_sem] theorem ni55 : noIntT Tryd.prog 55 = true := by kernel_rfl
@[go_sem] theorem sz56 : szT Tryd.prog 56 = 1 := by kernel_rfl
@[go_sem] theorem by56 : bytesT Tryd.prog 56 = 8 := by kernel_rfl
@[go_sem] theorem ag56 : isAggT Tryd.prog 56 = some false := by kernel_rfl
@[go_sem] theorem zc56 : zeroC Tryd.prog 6 56 = some [.nilf] := by kernel_rfl
@[go_sem] theorem ni56 : noIntT Tryd.prog 56 = true := by kernel_rfl
@[go_sem] theorem sz58 : szT Tryd.prog 58 = 1 := by kernel_rfl
@[go_sem] theorem by58 : bytesT Tryd.prog 58 = 8 := by kernel_rfl
@[go_sem] theorem ag58 : isAggT Tryd.prog 58 = some false := by kernel_rfl
@[go_sem] theorem zc58 : zeroC Tryd.prog 6 58 = some [.nilf] := by kernel_rfl
@[go_sem] theorem ni58 : noIntT Tryd.prog 58 = true := by kernel_rfl
@[go_sem] theorem sz59 : szT Tryd.prog 59 = 1 := by kernel_rfl
@[go_sem] theorem by59 : bytesT Tryd.prog 59 = 8 := by kernel_rfl
@[go_sem] theorem ag59 : isAggT Tryd.prog 59 = some false := by kernel_rfl
@[go_sem] theorem zc59 : zeroC Tryd.prog 6 59 = some [.nilf] := by kernel_rfl
@[go_sem] theorem ni59 : noIntT Tryd.prog 59 = true := by kernel_rfl
@[go_sem] theorem sz61 : szT Tryd.prog 61 = 1 := by kernel_rfl
@[go_sem] theorem by61 : bytesT Tryd.prog 61 = 8 := by kernel_rfl
@[go_sem] theorem ag61 : isAggT Tryd.prog 61 = some false := by kernel_rfl
@[go_sem] theorem zc61 : zeroC Tryd.prog 6 61 = some [.nilf] := by kernel_rfl
@[go_sem] theorem ni61 : noIntT Tryd.prog 61 = true := by kernel_rfl
@[go_sem] theorem sz62 : szT Tryd.prog 62 = 1 := by kernel_rfl
@[go_sem] theorem by62 : bytesT Tryd.prog 62 = 8 := by kernel_rfl
@[go_sem] theorem ag62 : isAggT Tryd.prog 62 = some false := by kernel_rfl
@[go_sem] theorem zc62 : zeroC Tryd.prog 6 62 = some [.nilf] := by kernel_rfl
@[go_sem] theorem ni62 : noIntT Tryd.prog 62 = true := by kernel_rfl
@[go_sem] theorem sz63 : szT Tryd.prog 63 = 1 := by kernel_rfl
@[go_sem] theorem by63 : bytesT Tryd.prog 63 = 8 := by kernel_rfl
@[go_sem] theorem ag63 : isAggT Tryd.prog 63 = some false := by kernel_rfl
@[go_sem] theorem zc63 : zeroC Tryd.prog 6 63 = some [.nilf] := by kernel_rfl
@[go_sem] theorem ni63 : noIntT Tryd.prog 63 = true := by kernel_rfl
@[go_sem] theorem sz64 : szT Tryd.prog 64 = 1 := by kernel_rfl
@[go_sem] theorem by64 : bytesT Tryd.prog 64 = 8 := by kernel_rfl
@[go_sem] theorem ag64 : isAggT Tryd.prog 64 = some false := by kernel_rfl
@[go_sem] theorem zc64 : zeroC Tryd.prog 6 64 = some [.nilf] := by kernel_rfl
@[go_sem] theorem ni64 : noIntT Tryd.prog 64 = true := by kernel_rfl
@[go_sem] theorem sz65 : szT Tryd.prog 65 = 1 := by kernel_rfl
@[go_sem] theorem by65 : bytesT Tryd.prog 65 = 8 := by kernel_rfl
@[go_sem] theorem ag65 : isAggT Tryd.prog 65 = some false := by kernel_rfl
@[go_sem] theorem zc65 : zeroC Tryd.prog 6 65 = some [.nilf] := by kernel_rfl
@[go_sem] theorem ni65 : noIntT Tryd.prog 65 = true := by kernel_rfl
@[go_sem] theorem sz66 : szT Tryd.prog 66 = 1 := by kernel_rfl
@[go_sem] theorem by66 : bytesT Tryd.prog 66 = 24 := by kernel_rfl
@[go_sem] theorem ag66 : isAggT Tryd.prog 66 = some false := by kernel_rfl
@[go_sem] theorem zc66 : zeroC Tryd.prog 6 66 = some [.nils 5] := by kernel_rfl
@[go_sem] theorem ni66 : noIntT Tryd.prog 66 = true := by kernel_rfl
@[go_sem] theorem el66 : elemT Tryd.prog 66 = some 68 := by kernel_rfl
@[go_sem] theorem sz67 : szT Tryd.prog 67 = 5 := by kernel_rfl
@[go_sem] theorem by67 : bytesT Tryd.prog 67 = 80 := by kernel_rfl
@[go_sem] theorem ag67 : isAggT Tryd.prog 67 = some true := by kernel_rfl
@[go_sem] theorem zc67 : zeroC Tryd.prog 6 67 = some [.int .i64 (0), .int .i64 (0), .str ⟨#[]⟩, .nils 5, .nils 1] := by kernel_rfl
@[go_sem] theorem ni67 : noIntT Tryd.prog 67 = true := by kernel_rfl
@[go_sem] theorem fs67 : (fieldsT Tryd.prog 67).isSome = true := by kernel_rfl
@[go_sem] theorem fl67_0 : fldA Tryd.prog 67 0 = some (0, 3) := by kernel_rfl
@[go_sem] theorem fl67_1 : fldA Tryd.prog 67 1 = some (1, 3) := by kernel_rfl
@[go_sem] theorem fl67_2 : fldA Tryd.prog 67 2 = some (2, 9) := by kernel_rfl
@[go_sem] theorem fl67_3 : fldA Tryd.prog 67 3 = some (3, 66) := by kernel_rfl
@[go_sem] theorem fl67_4 : fldA Tryd.prog 67 4 = some (4, 30) := by kernel_rfl
@[go_sem] theorem sz68 : szT Tryd.prog 68 = 5 := by kernel_rfl
@[go_sem] theorem by68 : bytesT Tryd.prog 68 = 80 := by kernel_rfl
@[go_sem] theorem ag68 : isAggT Tryd.prog 68 = some true := by kernel_rfl
@[go_sem] theorem zc68 : zeroC Tryd.prog 6 68 = some [.int .i64 (0), .int .i64 (0), .str ⟨#[]⟩, .nils 5, .nils 1] := by kernel_rfl
@[go_sem] theorem ni68 : noIntT Tryd.prog 68 = true := by kernel_rfl
@[go_sem] theorem fs68 : (fieldsT Tryd.prog 68).isSome = true := by kernel_rfl
@[go_sem] theorem fl68_0 : fldA Tryd.prog 68 0 = some (0, 3) := by kernel_rfl
@[go_sem] theorem fl68_1 : fldA Tryd.prog 68 1 = some (1, 3) := by kernel_rfl
@[go_sem] theorem fl68_2 : fldA Tryd.prog 68 2 = some (2, 9) := by kernel_rfl
@[go_sem] theorem fl68_3 : fldA Tryd.prog 68 3 = some (3, 66) := by kernel_rfl
@[go_sem] theorem fl68_4 : fldA Tryd.prog 68 4 = some (4, 30) := by kernel_rfl
@[go_sem] theorem sz69 : szT Tryd.prog 69 = 1 := by kernel_rfl
@[go_sem] theorem by69 : bytesT Tryd.prog 69 = 8 := by kernel_rfl
@[go_sem] theorem ag69 : isAggT Tryd.prog 69 = some false := by kernel_rfl
@[go_sem] theorem zc69 : zeroC Tryd.prog 6 69 = some [.nilf] := by kernel_rfl
@[go_sem] theorem ni69 : noIntT Tryd.prog 69 = true := by kernel_rfl
@[go_sem] theorem sz70 : szT Tryd.prog 70 = 1 := by kernel_rfl
@[go_sem] theorem by70 : bytesT Tryd.prog 70 = 8 := by kernel_rfl
@[go_sem] theorem ag70 : isAggT Tryd.prog 70 = some false := by kernel_rfl
@[go_sem] theorem zc70 : zeroC Tryd.prog 6 70 = some [.nilf] := by kernel_rfl
@[go_sem] theorem ni70 : noIntT Tryd.prog 70 = true := by kernel_rfl
@[go_sem] theorem sz71 : szT Tryd.prog 71 = 1 := by kernel_rfl
@[go_sem] theorem by71 : bytesT Tryd.prog 71 = 24 := by kernel_rfl
@[go_sem] theorem ag71 : isAggT Tryd.prog 71 = some false := by kernel_rfl
@[go_sem] theorem zc71 : zeroC Tryd.prog 6 71 = some [.nils 5] := by kernel_rfl
@[go_sem] theorem ni71 : noIntT Tryd.prog 71 = true := by kernel_rfl
@[go_sem] theorem el71 : elemT Tryd.prog 71 = some 73 := by kernel_rfl
@[go_sem] theorem sz72 : szT Tryd.prog 72 = 5 := by kernel_rfl
@[go_sem] theorem by72 : bytesT Tryd.prog 72 = 80 := by kernel_rfl
@[go_sem] theorem ag72 : isAggT Tryd.prog 72 = some true := by kernel_rfl
@[go_sem] theorem zc72 : zeroC Tryd.prog 6 72 = some [.int .i64 (0), .int .i64 (0), .str ⟨#[]⟩, .nils 5, .nils 1] := by kernel_rfl
@[go_sem] theorem ni72 : noIntT Tryd.prog 72 = true := by kernel_rfl
@[go_sem] theorem fs72 : (fieldsT Tryd.prog 72).isSome = true := by kernel_rfl
@[go_sem] theorem fl72_0 : fldA Tryd.prog 72 0 = some (0, 3) := by kernel_rfl
@[go_sem] theorem fl72_1 : fldA Tryd.prog 72 1 = some (1, 3) := by kernel_rfl
@[go_sem] theorem fl72_2 : fldA Tryd.prog 72 2 = some (2, 9) := by kernel_rfl
@[go_sem] theorem fl72_3 : fldA Tryd.prog 72 3 = some (3, 71) := by kernel_rfl
@[go_sem] theorem fl72_4 : fldA Tryd.prog 72 4 = some (4, 30) := by kernel_rfl
@[go_sem] theorem sz73 : szT Tryd.prog 73 = 5 := by kernel_rfl
@[go_sem] theorem by73 : bytesT Tryd.prog 73 = 80 := by kernel_rfl
@[go_sem] theorem ag73 : isAggT Tryd.prog 73 = some true := by kernel_rfl
@[go_sem] theorem zc73 : zeroC Tryd.prog 6 73 = some [.int .i64 (0), .int .i64 (0), .str ⟨#[]⟩, .nils 5, .nils 1] := by kernel_rfl
@[go_sem] theorem ni73 : noIntT Tryd.prog 73 = true := by kernel_rfl
@[go_sem] theorem fs73 : (fieldsT Tryd.prog 73).isSome = true := by kernel_rfl
@[go_sem] theorem fl73_0 : fldA Tryd.prog 73 0 = some (0, 3) := by kernel_rfl
@[go_sem] theorem fl73_1 : fldA Tryd.prog 73 1 = some (1, 3) := by kernel_rfl
@[go_sem] theorem fl73_2 : fldA Tryd.prog 73 2 = some (2, 9) := by kernel_rfl
@[go_sem] theorem fl73_3 : fldA Tryd.prog 73 3 = some (3, 71) := by kernel_rfl
@[go_sem] theorem fl73_4 : fldA Tryd.prog 73 4 = some (4, 30) := by kernel_rfl
@[go_sem] theorem sz74 : szT Tryd.prog 74 = 1 := by kernel_rfl
@[go_sem] theorem by74 : bytesT Tryd.prog 74 = 8 := by kernel_rfl
@[go_sem] theorem ag74 : isAggT Tryd.prog 74 = some false := by kernel_rfl
@[go_sem] theorem zc74 : zeroC Tryd.prog 6 74 = some [.nilf] := by kernel_rfl
@[go_sem] theorem ni74 : noIntT Tryd.prog 74 = true := by kernel_rfl
@[go_sem] theorem sz75 : szT Tryd.prog 75 = 1 := by kernel_rfl
@[go_sem] theorem by75 : bytesT Tryd.prog 75 = 8 := by kernel_rfl
@[go_sem] theorem ag75 : isAggT Tryd.prog 75 = some false := by kernel_rfl
@[go_sem] theorem zc75 : zeroC Tryd.prog 6 75 = some [.nilf] := by kernel_rfl
@[go_sem] theorem ni75 : noIntT Tryd.prog 75 = true := by kernel_rfl
@[go_sem] theorem sz76 : szT Tryd.prog 76 = 1 := by kernel_rfl
@[go_sem] theorem by76 : bytesT Tryd.prog 76 = 8 := by kernel_rfl
@[go_sem] theorem ag76 : isAggT Tryd.prog 76 = some false := by kernel_rfl
@[go_sem] theorem zc76 : zeroC Tryd.prog 6 76 = some [.nilf] := by kernel_rfl
@[go_sem] theorem ni76 : noIntT Tryd.prog 76 = true := by kernel_rfl
@[go_sem] theorem sz77 : szT Tryd.prog 77 = 1 := by kernel_rfl
@[go_sem] theorem by77 : bytesT Tryd.prog 77 = 8 := by kernel_rfl
@[go_sem] theorem ag77 : isAggT Tryd.prog 77 = some false := by kernel_rfl
@[go_sem] theorem zc77 : zeroC Tryd.prog 6 77 = some [.nilf] := by kernel_rfl
@[go_sem] theorem ni77 : noIntT Tryd.prog 77 = true := by kernel_rfl
@[go_sem] theorem sz78 : szT Tryd.prog 78 = 1 := by kernel_rfl
@[go_sem] theorem by78 : bytesT Tryd.prog 78 = 8 := by kernel_rfl
@[go_sem] theorem ag78 : isAggT Tryd.prog 78 = some false := by kernel_rfl
@[go_sem] theorem zc78 : zeroC Tryd.prog 6 78 = some [.nilf] := by kernel_rfl
@[go_sem] theorem ni78 : noIntT Tryd.prog 78 = true := by kernel_rfl
@[go_sem] theorem sz79 : szT Tryd.prog 79 = 1 := by kernel_rfl
@[go_sem] theorem by79 : bytesT Tryd.prog 79 = 8 := by kernel_rfl
@[go_sem] theorem ag79 : isAggT Tryd.prog 79 = some false := by kernel_rfl
@[go_sem] theorem zc79 : zeroC Tryd.prog 6 79 = some [.nilf] := by kernel_rfl
@[go_sem] theorem ni79 : noIntT Tryd.prog 79 = true := by kernel_rfl
@[go_sem] theorem sz80 : szT Tryd.prog 80 = 1 := by kernel_rfl
@[go_sem] theorem by80 : bytesT Tryd.prog 80 = 8 := by kernel_rfl
@[go_sem] theorem ag80 : isAggT Tryd.prog 80 = some false := by kernel_rfl
@[go_sem] theorem zc80 : zeroC Tryd.prog 6 80 = some [.nilf] := by kernel_rfl
@[go_sem] theorem ni80 : noIntT Tryd.prog 80 = true := by kernel_rfl
@[go_sem] theorem sz82 : szT Tryd.prog 82 = 1 := by kernel_rfl
@[go_sem] theorem by82 : bytesT Tryd.prog 82 = 8 := by kernel_rfl
@[go_sem] theorem ag82 : isAggT Tryd.prog 82 = some false := by kernel_rfl
@[go_sem] theorem zc82 : zeroC Tryd.prog 6 82 = some [.nilf] := by kernel_rfl
@[go_sem] theorem ni82 : noIntT Tryd.prog 82 = true := by kernel_rfl
@[go_sem] theorem sz83 : szT Tryd.prog 83 = 1 := by kernel_rfl
@[go_sem] theorem by83 : bytesT Tryd.prog 83 = 8 := by kernel_rfl
@[go_sem] theorem ag83 : isAggT Tryd.prog 83 = some false := by kernel_rfl
@[go_sem] theorem zc83 : zeroC Tryd.prog 6 83 = some [.nilf] := by kernel_rfl
@[go_sem] theorem ni83 : noIntT Tryd.prog 83 = true := by kernel_rfl
@[go_sem] theorem sz84 : szT Tryd.prog 84 = 1 := by kernel_rfl
@[go_sem] theorem by84 : bytesT Tryd.prog 84 = 8 := by kernel_rfl
@[go_sem] theorem ag84 : isAggT Tryd.prog 84 = some false := by kernel_rfl
@[go_sem] theorem zc84 : zeroC Tryd.prog 6 84 = some [.nilf] := by kernel_rfl
@[go_sem] theorem ni84 : noIntT Tryd.prog 84 = true := by kernel_rfl
@[go_sem] theorem sz85 : szT Tryd.prog 85 = 1 := by kernel_rfl
@[go_sem] theorem by85 : bytesT Tryd.prog 85 = 8 := by kernel_rfl
@[go_sem] theorem ag85 : isAggT Tryd.prog 85 = some false := by kernel_rfl
@[go_sem] theorem zc85 : zeroC Tryd.prog 6 85 = some [.nilf] := by kernel_rfl
@[go_sem] theorem ni85 : noIntT Tryd.prog 85 = true := by kernel_rfl
@[go_sem] theorem sz86 : szT Tryd.prog 86 = 1 := by kernel_rfl
@[go_sem] theorem by86 : bytesT Tryd.prog 86 = 8 := by kernel_rfl
@[go_sem] theorem ag86 : isAggT Tryd.prog 86 = some false := by kernel_rfl
@[go_sem] theorem zc86 : zeroC Tryd.prog 6 86 = some [.nilf] := by kernel_rfl
@[go_sem] theorem ni86 : noIntT Tryd.prog 86 = true := by kernel_rfl
@[go_sem] theorem sz87 : szT Tryd.prog 87 = 1 := by kernel_rfl
@[go_sem] theorem by87 : bytesT Tryd.prog 87 = 8 := by kernel_rfl
@[go_sem] theorem ag87 : isAggT Tryd.prog 87 = some false := by kernel_rfl
@[go_sem] theorem zc87 : zeroC Tryd.prog 6 87 = some [.nilf] := by kernel_rfl
@[go_sem] theorem ni87 : noIntT Tryd.prog 87 = true := by kernel_rfl
@[go_sem] theorem sz88 : szT Tryd.prog 88 = 1 := by kernel_rfl
@[go_sem] theorem by88 : bytesT Tryd.prog 88 = 8 := by kernel_rfl
@[go_sem] theorem ag88 : isAggT Tryd.prog 88 = some false := by kernel_rfl
@[go_sem] theorem zc88 : zeroC Tryd.prog 6 88 = some [.nilf] := by kernel_rfl
@[go_sem] theorem ni88 : noIntT Tryd.prog 88 = true := by kernel_rfl
@[go_sem] theorem sz89 : szT Tryd.prog 89 = 1 := by kernel_rfl
@[go_sem] theorem by89 : bytesT Tryd.prog 89 = 8 := by kernel_rfl
@[go_sem] theorem ag89 : isAggT Tryd.prog 89 = some false := by kernel_rfl
@[go_sem] theorem zc89 : zeroC Tryd.prog 6 89 = some [.nilf] := by kernel_rfl
@[go_sem] theorem ni89 : noIntT Tryd.prog 89 = true := by kernel_rfl
@[go_sem] theorem sz90 : szT Tryd.prog 90 = 1 := by kernel_rfl
@[go_sem] theorem by90 : bytesT Tryd.prog 90 = 8 := by kernel_rfl
@[go_sem] theorem ag90 : isAggT Tryd.prog 90 = some false := by kernel_rfl
@[go_sem] theorem zc90 : zeroC Tryd.prog 6 90 = some [.nilf] := by kernel_rfl
@[go_sem] theorem ni90 : noIntT Tryd.prog 90 = true := by kernel_rfl
@[go_sem] theorem sz91 : szT Tryd.prog 91 = 1 := by kernel_rfl
@[go_sem] theorem by91 : bytesT Tryd.prog 91 = 8 := by kernel_rfl
@[go_sem] theorem ag91 : isAggT Tryd.prog 91 = some false := by kernel_rfl
@[go_sem] theorem zc91 : zeroC Tryd.prog 6 91 = some [.nilf] := by kernel_rfl
@[go_sem] theorem ni91 : noIntT Tryd.prog 91 = true := by kernel_rfl
@[go_sem] theorem sz92 : szT Tryd.prog 92 = 1 := by kernel_rfl
@[go_sem] theorem by92 : bytesT Tryd.prog 92 = 8 := by kernel_rfl
@[go_sem] theorem ag92 : isAggT Tryd.prog 92 = some false := by kernel_rfl
@[go_sem] theorem zc92 : zeroC Tryd.prog 6 92 = some [.nilp] := by kernel_rfl
@[go_sem] theorem ni92 : noIntT Tryd.prog 92 = true := by kernel_rfl
@[go_sem] theorem sz93 : szT Tryd.prog 93 = 1 := by kernel_rfl
@[go_sem] theorem by93 : bytesT Tryd.prog 93 = 8 := by kernel_rfl
@[go_sem] theorem ag93 : isAggT Tryd.prog 93 = some false := by kernel_rfl
@[go_sem] theorem zc93 : zeroC Tryd.prog 6 93 = some [.nilf] := by kernel_rfl
@[go_sem] theorem ni93 : noIntT Tryd.prog 93 = true := by kernel_rfl
@[go_sem] theorem sz94 : szT Tryd.prog 94 = 1 := by kernel_rfl
@[go_sem] theorem by94 : bytesT Tryd.prog 94 = 8 := by kernel_rfl
@[go_sem] theorem ag94 : isAggT Tryd.prog 94 = some false := by kernel_rfl
@[go_sem] theorem zc94 : zeroC Tryd.prog 6 94 = some [.nilp] := by kernel_rfl
@[go_sem] theorem ni94 : noIntT Tryd.prog 94 = true := by kernel_rfl
@[go_sem] theorem sz95 : szT Tryd.prog 95 = 2 := by kernel_rfl
@[go_sem] theorem by95 : bytesT Tryd.prog 95 = 32 := by kernel_rfl
@[go_sem] theorem ag95 : isAggT Tryd.prog 95 = some true := by kernel_rfl
@[go_sem] theorem zc95 : zeroC Tryd.prog 6 95 = some [.nilp, .nils 1] := by kernel_rfl
@[go_sem] theorem ni95 : noIntT Tryd.prog 95 = true := by kernel_rfl
@[go_sem] theorem fs95 : (fieldsT Tryd.prog 95).isSome = true := by kernel_rfl
@[go_sem] theorem fl95_0 : fldA Tryd.prog 95 0 = some (0, 94) := by kernel_rfl
@[go_sem] theorem fl95_1 : fldA Tryd.prog 95 1 = some (1, 29) := by kernel_rfl
@[go_sem] theorem sz96 : szT Tryd.prog 96 = 2 := by kernel_rfl
@[go_sem] theorem by96 : bytesT Tryd.prog 96 = 32 := by kernel_rfl
@[go_sem] theorem ag96 : isAggT Tryd.prog 96 = some true := by kernel_rfl
@[go_sem] theorem zc96 : zeroC Tryd.prog 6 96 = some [.nilp, .nils 1] := by kernel_rfl
@[go_sem] theorem ni96 : noIntT Tryd.prog 96 = true := by kernel_rfl
@[go_sem] theorem fs96 : (fieldsT Tryd.prog 96).isSome = true := by kernel_rfl
@[go_sem] theorem fl96_0 : fldA Tryd.prog 96 0 = some (0, 94) := by kernel_rfl
@[go_sem] theorem fl96_1 : fldA Tryd.prog 96 1 = some (1, 29) := by kernel_rfl
@[go_sem] theorem sz100 : szT Tryd.prog 100 = 1 := by kernel_rfl
@[go_sem] theorem by100 : bytesT Tryd.prog 100 = 8 := by kernel_rfl
@[go_sem] theorem ag100 : isAggT Tryd.prog 100 = some false := by kernel_rfl
@[go_sem] theorem zc100 : zeroC Tryd.prog 6 100 = some [.nilf] := by kernel_rfl
@[go_sem] theorem ni100 : noIntT Tryd.prog 100 = true := by kernel_rfl
@[go_sem] theorem sz101 : szT Tryd.prog 101 = 1 := by kernel_rfl
@[go_sem] theorem by101 : bytesT Tryd.prog 101 = 8 := by kernel_rfl
@[go_sem] theorem ag101 : isAggT Tryd.prog 101 = some false := by kernel_rfl
@[go_sem] theorem zc101 : zeroC Tryd.prog 6 101 = some [.nilf] := by kernel_rfl
@[go_sem] theorem ni101 : noIntT Tryd.prog 101 = true := by kernel_rfl
@[go_sem] theorem sz102 : szT Tryd.prog 102 = 1 := by kernel_rfl
@[go_sem] theorem by102 : bytesT Tryd.prog 102 = 8 := by kernel_rfl
@[go_sem] theorem ag102 : isAggT Tryd.prog 102 = some false := by kernel_rfl
@[go_sem] theorem zc102 : zeroC Tryd.prog 6 102 = some [.nilf] := by kernel_rfl
@[go_sem] theorem ni102 : noIntT Tryd.prog 102 = true := by kernel_rfl
@[go_sem] theorem sz103 : szT Tryd.prog 103 = 1 := by kernel_rfl
@[go_sem] theorem by103 : bytesT Tryd.prog 103 = 8 := by kernel_rfl
@[go_sem] theorem ag103 : isAggT Tryd.prog 103 = some false := by kernel_rfl
@[go_sem] theorem zc103 : zeroC Tryd.prog 6 103 = some [.nilf] := by kernel_rfl
@[go_sem] theorem ni103 : noIntT Tryd.prog 103 = true := by kernel_rfl
@[go_sem] theorem sz105 : szT Tryd.prog 105 = 1 := by kernel_rfl
@[go_sem] theorem by105 : bytesT Tryd.prog 105 = 8 := by kernel_rfl
@[go_sem] theorem ag105 : isAggT Tryd.prog 105 = some false := by kernel_rfl
@[go_sem] theorem zc105 : zeroC Tryd.prog 6 105 = some [.nilf] := by kernel_rfl
@[go_sem] theorem ni105 : noIntT Tryd.prog 105 = true := by kernel_rfl
@[go_sem] theorem sz106 : szT Tryd.prog 106 = 1 := by kernel_rfl
@[go_sem] theorem by106 : bytesT Tryd.prog 106 = 8 := by kernel_rfl
@[go_sem] theorem ag106 : isAggT Tryd.prog 106 = some false := by kernel_rfl
@[go_sem] theorem zc106 : zeroC Tryd.prog 6 106 = some [.nilf] := by kernel_rfl
@[go_sem] theorem ni106 : noIntT Tryd.prog 106 = true := by kernel_rfl
@[go_sem] theorem sz107 : szT Tryd.prog 107 = 1 := by kernel_rfl
@[go_sem] theorem by107 : bytesT Tryd.prog 107 = 8 := by kernel_rfl
@[go_sem] theorem ag107 : isAggT Tryd.prog 107 = some false := by kernel_rfl
@[go_sem] theorem zc107 : zeroC Tryd.prog 6 107 = some [.nilf] := by kernel_rfl
@[go_sem] theorem ni107 : noIntT Tryd.prog 107 = true := by kernel_rfl
@[go_sem] theorem sz108 : szT Tryd.prog 108 = 1 := by kernel_rfl
@[go_sem] theorem by108 : bytesT Tryd.prog 108 = 8 := by kernel_rfl
@[go_sem] theorem ag108 : isAggT Tryd.prog 108 = some false := by kernel_rfl
@[go_sem] theorem zc108 : zeroC Tryd.prog 6 108 = some [.nilf] := by kernel_rfl
@[go_sem] theorem ni108 : noIntT Tryd.prog 108 = true := by kernel_rfl
@[go_sem] theorem sz109 : szT Tryd.prog 109 = 1 := by kernel_rfl
@[go_sem] theorem by109 : bytesT Tryd.prog 109 = 8 := by kernel_rfl
@[go_sem] theorem ag109 : isAggT Tryd.prog 109 = some false := by kernel_rfl
@[go_sem] theorem zc109 : zeroC Tryd.prog 6 109 = some [.nilf] := by kernel_rfl
@[go_sem] theorem ni109 : noIntT Tryd.prog 109 = true := by kernel_rfl
@[go_sem] theorem sz110 : szT Tryd.prog 110 = 1 := by kernel_rfl
@[go_sem] theorem by110 : bytesT Tryd.prog 110 = 8 := by kernel_rfl
@[go_sem] theorem ag110 : isAggT Tryd.prog 110 = some false := by kernel_rfl
@[go_sem] theorem zc110 : zeroC Tryd.prog 6 110 = some [.nilf] := by kernel_rfl
@[go_sem] theorem ni110 : noIntT Tryd.prog 110 = true := by kernel_rfl
@[go_sem] theorem sz111 : szT Tryd.prog 111 = 1 := by kernel_rfl
@[go_sem] theorem by111 : bytesT Tryd.prog 111 = 8 := by kernel_rfl
@[go_sem] theorem ag111 : isAggT Tryd.prog 111 = some false := by kernel_rfl
@[go_sem] theorem zc111 : zeroC Tryd.prog 6 111 = some [.nilf] := by kernel_rfl
@[go_sem] theorem ni111 : noIntT Tryd.prog 111 = true := by kernel_rfl
@[go_sem] theorem sz112 : szT Tryd.prog 112 = 1 := by kernel_rfl
@[go_sem] theorem by112 : bytesT Tryd.prog 112 = 8 := by kernel_rfl
@[go_sem] theorem ag112 : isAggT Tryd.prog 112 = some false := by kernel_rfl
@[go_sem] theorem zc112 : zeroC Tryd.prog 6 112 = some [.nilf] := by kernel_rfl
@[go_sem] theorem ni112 : noIntT Tryd.prog 112 = true := by kernel_rfl
@[go_sem] theorem sz113 : szT Tryd.prog 113 = 1 := by kernel_rfl
@[go_sem] theorem by113 : bytesT Tryd.prog 113 = 8 := by kernel_rfl
@[go_sem] theorem ag113 : isAggT Tryd.prog 113 = some false := by kernel_rfl
@[go_sem] theorem zc113 : zeroC Tryd.prog 6 113 = some [.nilf] := by kernel_rfl
@[go_sem] theorem ni113 : noIntT Tryd.prog 113 = true := by kernel_rfl
@[go_sem] theorem sz114 : szT Tryd.prog 114 = 1 := by kernel_rfl
@[go_sem] theorem by114 : bytesT Tryd.prog 114 = 8 := by kernel_rfl
@[go_sem] theorem ag114 : isAggT Tryd.prog 114 = some false := by kernel_rfl
@[go_sem] theorem zc114 : zeroC Tryd.prog 6 114 = some [.nilf] := by kernel_rfl
@[go_sem] theorem ni114 : noIntT Tryd.prog 114 = true := by kernel_rfl
@[go_sem] theorem sz116 : szT Tryd.prog 116 = 1 := by kernel_rfl
@[go_sem] theorem by116 : bytesT Tryd.prog 116 = 8 := by kernel_rfl
@[go_sem] theorem ag116 : isAggT Tryd.prog 116 = some false := by kernel_rfl
@[go_sem] theorem zc116 : zeroC Tryd.prog 6 116 = some [.nilf] := by kernel_rfl
@[go_sem] theorem ni116 : noIntT Tryd.prog 116 = true := by kernel_rfl
@[go_sem] theorem sz117 : szT Tryd.prog 117 = 1 := by kernel_rfl
@[go_sem] theorem by117 : bytesT Tryd.prog 117 = 8 := by kernel_rfl
@[go_sem] theorem ag117 : isAggT Tryd.prog 117 = some false := by kernel_rfl
@[go_sem] theorem zc117 : zeroC Tryd.prog 6 117 = some [.nilf] := by kernel_rfl
@[go_sem] theorem ni117 : noIntT Tryd.prog 117 = true := by kernel_rfl
@[go_sem] theorem sz118 : szT Tryd.prog 118 = 1 := by kernel_rfl
@[go_sem] theorem by118 : bytesT Tryd.prog 118 = 8 := by kernel_rfl
@[go_sem] theorem ag118 : isAggT Tryd.prog 118 = some false := by kernel_rfl
@[go_sem] theorem zc118 : zeroC Tryd.prog 6 118 = some [.nilf] := by kernel_rfl
@[go_sem] theorem ni118 : noIntT Tryd.prog 118 = true := by kernel_rfl
@[go_sem] theorem sz119 : szT Tryd.prog 119 = 1 := by kernel_rfl
@[go_sem] theorem by119 : bytesT Tryd.prog 119 = 8 := by kernel_rfl
@[go_sem] theorem ag119 : isAggT Tryd.prog 119 = some false := by kernel_rfl
@[go_sem] theorem zc119 : zeroC Tryd.prog 6 119 = some [.nilf] := by kernel_rfl
@[go_sem] theorem ni119 : noIntT Tryd.prog 119 = true := by kernel_rfl
@[go_sem] theorem sz121 : szT Tryd.prog 121 = 1 := by kernel_rfl
@[go_sem] theorem by121 : bytesT Tryd.prog 121 = 8 := by kernel_rfl
@[go_sem] theorem ag121 : isAggT Tryd.prog 121 = some false := by kernel_rfl
@[go_sem] theorem zc121 : zeroC Tryd.prog 6 121 = some [.nilf] := by kernel_rfl
@[go_sem] theorem ni121 : noIntT Tryd.prog 121 = true := by kernel_rfl
@[go_sem] theorem sz122 : szT Tryd.prog 122 = 1 := by kernel_rfl
@[go_sem] theorem by122 : bytesT Tryd.prog 122 = 8 := by kernel_rfl
@[go_sem] theorem ag122 : isAggT Tryd.prog 122 = some false := by kernel_rfl
@[go_sem] theorem zc122 : zeroC Tryd.prog 6 122 = some [.nilf] := by kernel_rfl
@[go_sem] theorem ni122 : noIntT Tryd.prog 122 = true := by kernel_rfl
@[go_sem] theorem sz123 : szT Tryd.prog 123 = 1 := by kernel_rfl
@[go_sem] theorem by123 : bytesT Tryd.prog 123 = 8 := by kernel_rfl
@[go_sem] theorem ag123 : isAggT Tryd.prog 123 = some false := by kernel_rfl
@[go_sem] theorem zc123 : zeroC Tryd.prog 6 123 = some [.nilf] := by kernel_rfl
@[go_sem] theorem ni123 : noIntT Tryd.prog 123 = true := by kernel_rfl
@[go_sem] theorem sz124 : szT Tryd.prog 124 = 1 := by kernel_rfl
@[go_sem] theorem by124 : bytesT Tryd.prog 124 = 8 := by kernel_rfl
@[go_sem] theorem ag124 : isAggT Tryd.prog 124 = some false := by kernel_rfl
@[go_sem] theorem zc124 : zeroC Tryd.prog 6 124 = some [.nilf] := by kernel_rfl
@[go_sem] theorem ni124 : noIntT Tryd.prog 124 = true := by kernel_rfl
@[go_sem] theorem sz125 : szT Tryd.prog 125 = 1 := by kernel_rfl
@[go_sem] theorem by125 : bytesT Tryd.prog 125 = 8 := by kernel_rfl
@[go_sem] theorem ag125 : isAggT Tryd.prog 125 = some false := by kernel_rfl
@[go_sem] theorem zc125 : zeroC Tryd.prog 6 125 = some [.nilf] := by kernel_rfl
@[go_sem] theorem ni125 : noIntT Tryd.prog 125 = true := by kernel_rfl
@[go_sem] theorem sz126 : szT Tryd.prog 126 = 1 := by kernel_rfl
@[go_sem] theorem by126 : bytesT Tryd.prog 126 = 8 := by kernel_rfl
@[go_sem] theorem ag126 : isAggT Tryd.prog 126 = some false := by kernel_rfl
@[go_sem] theorem zc126 : zeroC Tryd.prog 6 126 = some [.nilf] := by kernel_rfl
@[go_sem] theorem ni126 : noIntT Tryd.prog 126 = true := by kernel_rfl
@[go_sem] theorem sz127 : szT Tryd.prog 127 = 1 := by kernel_rfl
@[go_sem] theorem by127 : bytesT Tryd.prog 127 = 8 := by kernel_rfl
@[go_sem] theorem ag127 : isAggT Tryd.prog 127 = some false := by kernel_rfl
@[go_sem] theorem zc127 : zeroC Tryd.prog 6 127 = some [.nilf] := by kernel_rfl
@[go_sem] theorem ni127 : noIntT Tryd.prog 127 = true := by kernel_rfl
@[go_sem] theorem sz128 : szT Tryd.prog 128 = 1 := by kernel_rfl
@[go_sem] theorem by128 : bytesT Tryd.prog 128 = 8 := by kernel_rfl
@[go_sem] theorem ag128 : isAggT Tryd.prog 128 = some false := by kernel_rfl
@[go_sem] theorem zc128 : zeroC Tryd.prog 6 128 = some [.nilf] := by kernel_rfl
@[go_sem] theorem ni128 : noIntT Tryd.prog 128 = true := by kernel_rfl
@[go_sem] theorem sz129 : szT Tryd.prog 129 = 1 := by kernel_rfl
@[go_sem] theorem by129 : bytesT Tryd.prog 129 = 8 := by kernel_rfl
@[go_sem] theorem ag129 : isAggT Tryd.prog 129 = some false := by kernel_rfl
@[go_sem] theorem zc129 : zeroC Tryd.prog 6 129 = some [.nilf] := by kernel_rfl
@[go_sem] theorem ni129 : noIntT Tryd.prog 129 = true := by kernel_rfl
@[go_sem] theorem sz130 : szT Tryd.prog 130 = 1 := by kernel_rfl
@[go_sem] theorem by130 : bytesT Tryd.prog 130 = 8 := by kernel_rfl
@[go_sem] theorem ag130 : isAggT Tryd.prog 130 = some false := by kernel_rfl
@[go_sem] theorem zc130 : zeroC Tryd.prog 6 130 = some [.nilf] := by kernel_rfl
@[go_sem] theorem ni130 : noIntT Tryd.prog 130 = true := by kernel_rfl
@[go_sem] theorem sz131 : szT Tryd.prog 131 = 1 := by kernel_rfl
@[go_sem] theorem by131 : bytesT Tryd.prog 131 = 8 := by kernel_rfl
@[go_sem] theorem ag131 : isAggT Tryd.prog 131 = some false := by kernel_rfl
@[go_sem] theorem zc131 : zeroC Tryd.prog 6 131 = some [.nilf] := by kernel_rfl
@[go_sem] theorem ni131 : noIntT Tryd.prog 131 = true := by kernel_rfl
@[go_sem] theorem sz132 : szT Tryd.prog 132 = 1 := by kernel_rfl
@[go_sem] theorem by132 : bytesT Tryd.prog 132 = 8 := by kernel_rfl
@[go_sem] theorem ag132 : isAggT Tryd.prog 132 = some false := by kernel_rfl
@[go_sem] theorem zc132 : zeroC Tryd.prog 6 132 = some [.nilf] := by kernel_rfl
@[go_sem] theorem ni132 : noIntT Tryd.prog 132 = true := by kernel_rfl
@[go_sem] theorem sz133 : szT Tryd.prog 133 = 1 := by kernel_rfl
@[go_sem] theorem by133 : bytesT Tryd.prog 133 = 8 := by kernel_rfl
@[go_sem] theorem ag133 : isAggT Tryd.prog 133 = some false := by kernel_rfl
@[go_sem] theorem zc133 : zeroC Tryd.prog 6 133 = some [.nilf] := by kernel_rfl
@[go_sem] theorem ni133 : noIntT Tryd.prog 133 = true := by kernel_rfl
@[go_sem] theorem sz134 : szT Tryd.prog 134 = 1 := by kernel_rfl
@[go_sem] theorem by134 : bytesT Tryd.prog 134 = 8 := by kernel_rfl
@[go_sem] theorem ag134 : isAggT Tryd.prog 134 = some false := by kernel_rfl
@[go_sem] theorem zc134 : zeroC Tryd.prog 6 134 = some [.nilf] := by kernel_rfl
@[go_sem] theorem ni134 : noIntT Tryd.prog 134 = true := by kernel_rfl
@[go_sem] theorem sz135 : szT Tryd.prog 135 = 1 := by kernel_rfl
@[go_sem] theorem by135 : bytesT Tryd.prog 135 = 8 := by kernel_rfl
@[go_sem] theorem ag135 : isAggT Tryd.prog 135 = some false := by kernel_rfl
@[go_sem] theorem zc135 : zeroC Tryd.prog 6 135 = some [.nilf] := by kernel_rfl
@[go_sem] theorem ni135 : noIntT Tryd.prog 135 = true := by kernel_rfl
@[go_sem] theorem sz136 : szT Tryd.prog 136 = 1 := by kernel_rfl
@[go_sem] theorem by136 : bytesT Tryd.prog 136 = 8 := by kernel_rfl
@[go_sem] theorem ag136 : isAggT Tryd.prog 136 = some false := by kernel_rfl
@[go_sem] theorem zc136 : zeroC Tryd.prog 6 136 = some [.nilp] := by kernel_rfl
@[go_sem] theorem ni136 : noIntT Tryd.prog 136 = true := by kernel_rfl
@[go_sem] theorem sz137 : szT Tryd.prog 137 = 1 := by kernel_rfl
@[go_sem] theorem by137 : bytesT Tryd.prog 137 = 8 := by kernel_rfl
@[go_sem] theorem ag137 : isAggT Tryd.prog 137 = some false := by kernel_rfl
@[go_sem] theorem zc137 : zeroC Tryd.prog 6 137 = some [.nilf] := by kernel_rfl
@[go_sem] theorem ni137 : noIntT Tryd.prog 137 = true := by kernel_rfl
@[go_sem] theorem sz138 : szT Tryd.prog 138 = 1 := by kernel_rfl
@[go_sem] theorem by138 : bytesT Tryd.prog 138 = 8 := by kernel_rfl
@[go_sem] theorem ag138 : isAggT Tryd.prog 138 = some false := by kernel_rfl
@[go_sem] theorem zc138 : zeroC Tryd.prog 6 138 = some [.nilf] := by kernel_rfl
@[go_sem] theorem ni138 : noIntT Tryd.prog 138 = true := by kernel_rfl
@[go_sem] theorem sz139 : szT Tryd.prog 139 = 1 := by kernel_rfl
@[go_sem] theorem by139 : bytesT Tryd.prog 139 = 8 := by kernel_rfl
@[go_sem] theorem ag139 : isAggT Tryd.prog 139 = some false := by kernel_rfl
@[go_sem] theorem zc139 : zeroC Tryd.prog 6 139 = some [.nilf] := by kernel_rfl
@[go_sem] theorem ni139 : noIntT Tryd.prog 139 = true := by kernel_rfl
@[go_sem] theorem sz140 : szT Tryd.prog 140 = 1 := by kernel_rfl
@[go_sem] theorem by140 : bytesT Tryd.prog 140 = 8 := by kernel_rfl
@[go_sem] theorem ag140 : isAggT Tryd.prog 140 = some false := by kernel_rfl
@[go_sem] theorem zc140 : zeroC Tryd.prog 6 140 = some [.nilf] := by kernel_rfl
@[go_sem] theorem ni140 : noIntT Tryd.prog 140 = true := by kernel_rfl
@[go_sem] theorem sz141 : szT Tryd.prog 141 = 1 := by kernel_rfl
@[go_sem] theorem by141 : bytesT Tryd.prog 141 = 8 := by kernel_rfl
@[go_sem] theorem ag141 : isAggT Tryd.prog 141 = some false := by kernel_rfl
@[go_sem] theorem zc141 : zeroC Tryd.prog 6 141 = some [.nilf] := by kernel_rfl
@[go_sem] theorem ni141 : noIntT Tryd.prog 141 = true := by kernel_rfl
@[go_sem] theorem sz142 : szT Tryd.prog 142 = 1 := by kernel_rfl
@[go_sem] theorem by142 : bytesT Tryd.prog 142 = 8 := by kernel_rfl
@[go_sem] theorem ag142 : isAggT Tryd.prog 142 = some false := by kernel_rfl
@[go_sem] theorem zc142 : zeroC Tryd.prog 6 142 = some [.nilf] := by kernel_rfl
@[go_sem] theorem ni142 : noIntT Tryd.prog 142 = true := by kernel_rfl
@[go_sem] theorem sz143 : szT Tryd.prog 143 = 1 := by kernel_rfl
@[go_sem] theorem by143 : bytesT Tryd.prog 143 = 8 := by kernel_rfl
@[go_sem] theorem ag143 : isAggT Tryd.prog 143 = some false := by kernel_rfl
@[go_sem] theorem zc143 : zeroC Tryd.prog 6 143 = some [.nilf] := by kernel_rfl
@[go_sem] theorem ni143 : noIntT Tryd.prog 143 = true := by kernel_rfl
@[go_sem] theorem sz144 : szT Tryd.prog 144 = 2 := by kernel_rfl
@[go_sem] theorem by144 : bytesT Tryd.prog 144 = 32 := by kernel_rfl
@[go_sem] theorem ag144 : isAggT Tryd.prog 144 = some true := by kernel_rfl
@[go_sem] theorem zc144 : zeroC Tryd.prog 6 144 = some [.nils 1, .int .i64 (0)] := by kernel_rfl
@[go_sem] theorem ni144 : noIntT Tryd.prog 144 = true := by kernel_rfl
@[go_sem] theorem fs144 : (fieldsT Tryd.prog 144).isSome = true := by kernel_rfl
@[go_sem] theorem fl144_0 : fldA Tryd.prog 144 0 = some (0, 29) := by kernel_rfl
@[go_sem] theorem fl144_1 : fldA Tryd.prog 144 1 = some (1, 3) := by kernel_rfl
@[go_sem] theorem sz145 : szT Tryd.prog 145 = 2 := by kernel_rfl
@[go_sem] theorem by145 : bytesT Tryd.prog 145 = 32 := by kernel_rfl
@[go_sem] theorem ag145 : isAggT Tryd.prog 145 = some true := by kernel_rfl
@[go_sem] theorem zc145 : zeroC Tryd.prog 6 145 = some [.nils 1, .int .i64 (0)] := by kernel_rfl
@[go_sem] theorem ni145 : noIntT Tryd.prog 145 = true := by kernel_rfl
@[go_sem] theorem fs145 : (fieldsT Tryd.prog 145).isSome = true := by kernel_rfl
@[go_sem] theorem fl145_0 : fldA Tryd.prog 145 0 = some (0, 29) := by kernel_rfl
@[go_sem] theorem fl145_1 : fldA Tryd.prog 145 1 = some (1, 3) := by kernel_rfl
@[go_sem] theorem sz146 : szT Tryd.prog 146 = 1 := by kernel_rfl
@[go_sem] theorem by146 : bytesT Tryd.prog 146 = 8 := by kernel_rfl
@[go_sem] theorem ag146 : isAggT Tryd.prog 146 = some false := by kernel_rfl
@[go_sem] theorem zc146 : zeroC Tryd.prog 6 146 = some [.int .u64 (0)] := by kernel_rfl
@[go_sem] theorem ni146 : noIntT Tryd.prog 146 = false := by kernel_rfl
@[go_sem] theorem sz147 : szT Tryd.prog 147 = 1 := by kernel_rfl
@[go_sem] theorem by147 : bytesT Tryd.prog 147 = 8 := by kernel_rfl
@[go_sem] theorem ag147 : isAggT Tryd.prog 147 = some false := by kernel_rfl
@[go_sem] theorem zc147 : zeroC Tryd.prog 6 147 = some [.nilp] := by kernel_rfl
@[go_sem] theorem ni147 : noIntT Tryd.prog 147 = true := by kernel_rfl
@[go_sem] theorem sz148 : szT Tryd.prog 148 = 1 := by kernel_rfl
@[go_sem] theorem by148 : bytesT Tryd.prog 148 = 8 := by kernel_rfl
@[go_sem] theorem ag148 : isAggT Tryd.prog 148 = some false := by kernel_rfl
@[go_sem] theorem zc148 : zeroC Tryd.prog 6 148 = some [.int .u64 (0)] := by kernel_rfl
@[go_sem] theorem ni148 : noIntT Tryd.prog 148 = false := by kernel_rfl
@[go_sem] theorem sz149 : szT Tryd.prog 149 = 1 := by kernel_rfl
@[go_sem] theorem by149 : bytesT Tryd.prog 149 = 24 := by kernel_rfl
@[go_sem] theorem ag149 : isAggT Tryd.prog 149 = some false := by kernel_rfl
@[go_sem] theorem zc149 : zeroC Tryd.prog 6 149 = some [.nils 1] := by kernel_rfl
@[go_sem] theorem ni149 : noIntT Tryd.prog 149 = true := by kernel_rfl
@[go_sem] theorem el149 : elemT Tryd.prog 149 = some 3 := by kernel_rfl
@[go_sem] theorem sz150 : szT Tryd.prog 150 = 1 := by kernel_rfl
@[go_sem] theorem by150 : bytesT Tryd.prog 150 = 8 := by kernel_rfl
@[go_sem] theorem ag150 : isAggT Tryd.prog 150 = some false := by kernel_rfl
@[go_sem] theorem zc150 : zeroC Tryd.prog 6 150 = some [.nilf] := by kernel_rfl
@[go_sem] theorem ni150 : noIntT Tryd.prog 150 = true := by kernel_rfl
@[go_sem] theorem sz151 : szT Tryd.prog 151 = 1 := by kernel_rfl
@[go_sem] theorem by151 : bytesT Tryd.prog 151 = 8 := by kernel_rfl
@[go_sem] theorem ag151 : isAggT Tryd.prog 151 = some false := by kernel_rfl
@[go_sem] theorem zc151 : zeroC Tryd.prog 6 151 = some [.nilf] := by kernel_rfl
@[go_sem] theorem ni151 : noIntT Tryd.prog 151 = true := by kernel_rfl
@[go_sem] theorem sz152 : szT Tryd.prog 152 = 1 := by kernel_rfl
@[go_sem] theorem by152 : bytesT Tryd.prog 152 = 8 := by kernel_rfl
@[go_sem] theorem ag152 : isAggT Tryd.prog 152 = some false := by kernel_rfl
@[go_sem] theorem zc152 : zeroC Tryd.prog 6 152 = some [.nilf] := by kernel_rfl
@[go_sem] theorem ni152 : noIntT Tryd.prog 152 = true := by kernel_rfl
@[go_sem] theorem sz153 : szT Tryd.prog 153 = 1 := by kernel_rfl
@[go_sem] theorem by153 : bytesT Tryd.prog 153 = 8 := by kernel_rfl
@[go_sem] theorem ag153 : isAggT Tryd.prog 153 = some false := by kernel_rfl
@[go_sem] theorem zc153 : zeroC Tryd.prog 6 153 = some [.nilf] := by kernel_rfl
@[go_sem] theorem ni153 : noIntT Tryd.prog 153 = true := by kernel_rfl
@[go_sem] theorem sz155 : szT Tryd.prog 155 = 1 := by kernel_rfl
@[go_sem] theorem by155 : bytesT Tryd.prog 155 = 8 := by kernel_rfl
@[go_sem] theorem ag155 : isAggT Tryd.prog 155 = some false := by kernel_rfl
@[go_sem] theorem zc155 : zeroC Tryd.prog 6 155 = some [.nilf] := by kernel_rfl
@[go_sem] theorem ni155 : noIntT Tryd.prog 155 = true := by kernel_rfl
@[go_sem] theorem sz156 : szT Tryd.prog 156 = 1 := by kernel_rfl
@[go_sem] theorem by156 : bytesT Tryd.prog 156 = 8 := by kernel_rfl
@[go_sem] theorem ag156 : isAggT Tryd.prog 156 = some false := by kernel_rfl
@[go_sem] theorem zc156 : zeroC Tryd.prog 6 156 = some [.nilf] := by kernel_rfl
@[go_sem] theorem ni156 : noIntT Tryd.prog 156 = true := by kernel_rfl
@[go_sem] theorem sz157 : szT Tryd.prog 157 = 1 := by kernel_rfl
@[go_sem] theorem by157 : bytesT Tryd.prog 157 = 8 := by kernel_rfl
@[go_sem] theorem ag157 : isAggT Tryd.prog 157 = some false := by kernel_rfl
@[go_sem] theorem zc157 : zeroC Tryd.prog 6 157 = some [.nilf] := by kernel_rfl
@[go_sem] theorem ni157 : noIntT Tryd.prog 157 = true := by kernel_rfl
@[go_sem] theorem sz158 : szT Tryd.prog 158 = 1 := by kernel_rfl
@[go_sem] theorem by158 : bytesT Tryd.prog 158 = 8 := by kernel_rfl
@[go_sem] theorem ag158 : isAggT Tryd.prog 158 = some false := by kernel_rfl
@[go_sem] theorem zc158 : zeroC Tryd.prog 6 158 = some [.nilf] := by kernel_rfl
@[go_sem] theorem ni158 : noIntT Tryd.prog 158 = true := by kernel_rfl
@[go_sem] theorem sz159 : szT Tryd.prog 159 = 1 := by kernel_rfl
@[go_sem] theorem by159 : bytesT Tryd.prog 159 = 8 := by kernel_rfl
@[go_sem] theorem ag159 : isAggT Tryd.prog 159 = some false := by kernel_rfl
@[go_sem] theorem zc159 : zeroC Tryd.prog 6 159 = some [.nilf] := by kernel_rfl
@[go_sem] theorem ni159 : noIntT Tryd.prog 159 = true := by kernel_rfl
@[go_sem] theorem sz160 : szT Tryd.prog 160 = 1 := by kernel_rfl
@[go_sem] theorem by160 : bytesT Tryd.prog 160 = 8 := by kernel_rfl
@[go_sem] theorem ag160 : isAggT Tryd.prog 160 = some false := by kernel_rfl
@[go_sem] theorem zc160 : zeroC Tryd.prog 6 160 = some [.nilf] := by kernel_rfl
@[go_sem] theorem ni160 : noIntT Tryd.prog 160 = true := by kernel_rfl
@[go_sem] theorem sz161 : szT Tryd.prog 161 = 1 := by kernel_rfl
@[go_sem] theorem by161 : bytesT Tryd.prog 161 = 8 := by kernel_rfl
@[go_sem] theorem ag161 : isAggT Tryd.prog 161 = some false := by kernel_rfl
@[go_sem] theorem zc161 : zeroC Tryd.prog 6 161 = some [.nilf] := by kernel_rfl
@[go_sem] theorem ni161 : noIntT Tryd.prog 161 = true := by kernel_rfl
@[go_sem] theorem sz162 : szT Tryd.prog 162 = 1 := by kernel_rfl
@[go_sem] theorem by162 : bytesT Tryd.prog 162 = 8 := by kernel_rfl
@[go_sem] theorem ag162 : isAggT Tryd.prog 162 = some false := by kernel_rfl
@[go_sem] theorem zc162 : zeroC Tryd.prog 6 162 = some [.nilf] := by kernel_rfl
@[go_sem] theorem ni162 : noIntT Tryd.prog 162 = true := by kernel_rfl
@[go_sem] theorem sz163 : szT Tryd.prog 163 = 1 := by kernel_rfl
@[go_sem] theorem by163 : bytesT Tryd.prog 163 = 8 := by kernel_rfl
@[go_sem] theorem ag163 : isAggT Tryd.prog 163 = some false := by kernel_rfl
@[go_sem] theorem zc163 : zeroC Tryd.prog 6 163 = some [.nilf] := by kernel_rfl
@[go_sem] theorem ni163 : noIntT Tryd.prog 163 = true := by kernel_rfl
@[go_sem] theorem sz164 : szT Tryd.prog 164 = 1 := by kernel_rfl
@[go_sem] theorem by164 : bytesT Tryd.prog 164 = 8 := by kernel_rfl
@[go_sem] theorem ag164 : isAggT Tryd.prog 164 = some false := by kernel_rfl
@[go_sem] theorem zc164 : zeroC Tryd.prog 6 164 = some [.nilf] := by kernel_rfl
@[go_sem] theorem ni164 : noIntT Tryd.prog 164 = true := by kernel_rfl
@[go_sem] theorem sz165 : szT Tryd.prog 165 = 1 := by kernel_rfl
@[go_sem] theorem by165 : bytesT Tryd.prog 165 = 8 := by kernel_rfl
@[go_sem] theorem ag165 : isAggT Tryd.prog 165 = some false := by kernel_rfl
@[go_sem] theorem zc165 : zeroC Tryd.prog 6 165 = some [.nilf] := by kernel_rfl
@[go_sem] theorem ni165 : noIntT Tryd.prog 165 = true := by kernel_rfl
@[go_sem] theorem sz166 : szT Tryd.prog 166 = 1 := by kernel_rfl
@[go_sem] theorem by166 : bytesT Tryd.prog 166 = 8 := by kernel_rfl
@[go_sem] theorem ag166 : isAggT Tryd.prog 166 = some false := by kernel_rfl
@[go_sem] theorem zc166 : zeroC Tryd.prog 6 166 = some [.nilf] := by kernel_rfl
@[go_sem] theorem ni166 : noIntT Tryd.prog 166 = true := by kernel_rfl
@[go_sem] theorem sz168 : szT Tryd.prog 168 = 1 := by kernel_rfl
@[go_sem] theorem by168 : bytesT Tryd.prog 168 = 8 := by kernel_rfl
@[go_sem] theorem ag168 : isAggT Tryd.prog 168 = some false := by kernel_rfl
@[go_sem] theorem zc168 : zeroC Tryd.prog 6 168 = some [.nilf] := by kernel_rfl
@[go_sem] theorem ni168 : noIntT Tryd.prog 168 = true := by kernel_rfl
@[go_sem] theorem sz169 : szT Tryd.prog 169 = 1 := by kernel_rfl
@[go_sem] theorem by169 : bytesT Tryd.prog 169 = 8 := by kernel_rfl
@[go_sem] theorem ag169 : isAggT Tryd.prog 169 = some false := by kernel_rfl
@[go_sem] theorem zc169 : zeroC Tryd.prog 6 169 = some [.nilf] := by kernel_rfl
@[go_sem] theorem ni169 : noIntT Tryd.prog 169 = true := by kernel_rfl
@[go_sem] theorem sz170 : szT Tryd.prog 170 = 256 := by kernel_rfl
@[go_sem] theorem by170 : bytesT Tryd.prog 170 = 256 := by kernel_rfl
@[go_sem] theorem ag170 : isAggT Tryd.prog 170 = some true := by kernel_rfl
@[go_sem] theorem zc170 : zeroC Tryd.prog 6 170 = some [.bool false, .bool false, .bool false, .bool false, .bool false, .bool false, .bool false, .bool false, .bool false, .bool false, .bool false, .bool false, .bool false, .bool false, .bool false, .bool false, .bool false, .bool false, .bool false, .bool false, .bool false, .bool false, .bool false, .bool false, .bool false, .bool false, .bool false, .bool false, .bool false, .bool false, .bool false, .bool false, .bool false, .bool false, .bool false, .bool false, .bool false, .bool false, .bool false, .bool false, .bool false, .bool false, .bool false, .bool false, .bool false, .bool false, .bool false, .bool false, .bool false, .bool false, .bool false, .bool false, .bool false, .bool false, .bool false, .bool false, .bool false, .bool false, .bool false, .bool false, .bool false, .bool false, .bool false, .bool false, .bool false, .bool false, .bool false, .bool false, .bool false, .bool false, .bool false, .bool false, .bool false, .bool false, .bool false, .bool false, .bool false, .bool false, .bool false, .bool false, .bool false, .bool false, .bool false, .bool false, .bool false, .bool false, .bool false, .bool false, .bool false, .bool false, .bool false, .bool false, .bool false, .bool false, .bool false, .bool false, .bool false, .bool false, .bool false, .bool false, .bool false, .bool false, .bool false, .bool false, .bool false, .bool false, .bool false, .bool false, .bool false, .bool false, .bool false, .bool false, .bool false, .bool false, .bool false, .bool false, .bool false, .bool false, .bool false, .bool false, .bool false, .bool false, .bool false, .bool false, .bool false, .bool false, .bool false, .bool false, .bool false, .bool false, .bool false, .bool false, .bool false, .bool false, .bool false, .bool false, .bool false, .bool false, .bool false, .bool false, .bool false, .bool false, .bool false, .bool false, .bool false, .bool false, .bool false, .bool false, .bool false, .bool false, .bool false, .bool false, .bool false, .bool false, .bool false, .bool false, .bool false, .bool false, .bool false, .bool false, .bool false, .bool false, .bool false, .bool false, .bool false, .bool false, .bool false, .bool false, .bool false, .bool false, .bool false, .bool false, .bool false, .bool false, .bool false, .bool false, .bool false, .bool false, .bool false, .bool false, .bool false, .bool false, .bool false, .bool false, .bool false, .bool false, .bool false, .bool false, .bool false, .bool false, .bool false, .bool false, .bool false, .bool false, .bool false, .bool false, .bool false, .bool false, .bool false, .bool false, .bool false, .bool false, .bool false, .bool false, .bool false, .bool false, .bool false, .bool false, .bool false, .bool false, .bool false, .bool false, .bool false, .bool false, .bool false, .bool false, .bool false, .bool false, .bool false, .bool false, .bool false, .bool false, .bool false, .bool false, .bool false, .bool false, .bool false, .bool false, .bool false, .bool false, .bool false, .bool false, .bool false, .bool false, .bool false, .bool false, .bool false, .bool false, .bool false, .bool false, .bool false, .bool false, .bool false, .bool false, .bool false, .bool false, .bool false, .bool false, .bool false, .bool false, .bool false, .bool false, .bool false, .bool false, .bool false, .bool false] := by kernel_rfl
@[go_sem] theorem ni170 : noIntT Tryd.prog 170 = true := by kernel_rfl
@[go_sem] theorem sz171 : szT Tryd.prog 171 = 256 := by kernel_rfl
@[go_sem] theorem by171 : bytesT Tryd.prog 171 = 256 := by kernel_rfl
@[go_sem] theorem ag171 : isAggT Tryd.prog 171 = some true := by kernel_rfl
@[go_sem] theorem zc171 : zeroC Tryd.prog 6 171 = some [.bool false, .bool false, .bool false, .bool false, .bool false, .bool false, .bool false, .bool false, .bool false, .bool false, .bool false, .bool false, .bool false, .bool false, .bool false, .bool false, .bool false, .bool false, .bool false, .bool false, .bool false, .bool false, .bool false, .bool false, .bool false, .bool false, .bool false, .bool false, .bool false, .bool false, .bool false, .bool false, .bool false, .bool false, .bool false, .bool false, .bool false, .bool false, .bool false, .bool false, .bool false, .bool false, .bool false, .bool false, .bool false, .bool false, .bool false, .bool false, .bool false, .bool false, .bool false, .bool false, .bool false, .bool false, .bool false, .bool false, .bool false, .bool false, .bool false, .bool false, .bool false, .bool false, .bool false, .bool false, .bool false, .bool false, .bool false, .bool false, .bool false, .bool false, .bool false, .bool false, .bool false, .bool false, .bool false, .bool false, .bool false, .bool false, .bool false, .bool false, .bool false, .bool false, .bool false, .bool false, .bool false, .bool false, .bool false, .bool false, .bool false, .bool false, .bool false, .bool false, .bool false, .bool false, .bool false, .bool false, .bool false, .bool false, .bool false, .bool false, .bool false, .bool false, .bool false, .bool false, .bool false, .bool false, .bool false, .bool false, .bool false, .bool false, .bool false, .bool false, .bool false, .bool false, .bool false, .bool false, .bool false, .bool false, .bool false, .bool false, .bool false, .bool false, .bool false, .bool false, .bool false, .bool false, .bool false, .bool false, .bool false, .bool false, .bool false, .bool false, .bool false, .bool false, .bool false, .bool false, .bool false, .bool false, .bool false, .bool false, .bool false, .bool false, .bool false, .bool false, .bool false, .bool false, .bool false, .bool false, .bool false, .bool false, .bool false, .bool false, .bool false, .bool false, .bool false, .bool false, .bool false, .bool false, .bool false, .bool false, .bool false, .bool false, .bool false, .bool false, .bool false, .bool false, .bool false, .bool false, .bool false, .bool false, .bool false, .bool false, .bool false, .bool false, .bool false, .bool false, .bool false, .bool false, .bool false, .bool false, .bool false, .bool false, .bool false, .bool false, .bool false, .bool false, .bool false, .bool false, .bool false, .bool false, .bool false, .bool false, .bool false, .bool false, .bool false, .bool false, .bool false, .bool false, .bool false, .bool false, .bool false, .bool false, .bool false, .bool false, .bool false, .bool false, .bool false, .bool false, .bool false, .bool false, .bool false, .bool false, .bool false, .bool false, .bool false, .bool false, .bool false, .bool false, .bool false, .bool false, .bool false, .bool false, .bool false, .bool false, .bool false, .bool false, .bool false, .bool false, .bool false, .bool false, .bool false, .bool false, .bool false, .bool false, .bool false, .bool false, .bool false, .bool false, .bool false, .bool false, .bool false, .bool false, .bool false, .bool false, .bool false, .bool false, .bool false, .bool false, .bool false, .bool false, .bool false, .bool false, .bool false, .bool false, .bool false, .bool false] := by kernel_rfl
@[go_sem] theorem ni171 : noIntT Tryd.prog 171 = true := by kernel_rfl
@[go_sem] theorem sz173 : szT Tryd.prog 173 = 1 := by kernel_rfl
@[go_sem] theorem by173 : bytesT Tryd.prog 173 = 8 := by kernel_rfl
@[go_sem] theorem ag173 : isAggT Tryd.prog 173 = some false := by kernel_rfl
@[go_sem] theorem zc173 : zeroC Tryd.prog 6 173 = some [.nilf] := by kernel_rfl
@[go_sem] theorem ni173 : noIntT Tryd.prog 173 = true := by kernel_rfl
@[go_sem] theorem sz174 : szT Tryd.prog 174 = 1 := by kernel_rfl
@[go_sem] theorem by174 : bytesT Tryd.prog 174 = 8 := by kernel_rfl
@[go_sem] theorem ag174 : isAggT Tryd.prog 174 = some false := by kernel_rfl
@[go_sem] theorem zc174 : zeroC Tryd.prog 6 174 = some [.nilf] := by kernel_rfl
@[go_sem] theorem ni174 : noIntT Tryd.prog 174 = true := by kernel_rfl
@[go_sem] theorem sz175 : szT Tryd.prog 175 = 1 := by kernel_rfl
@[go_sem] theorem by175 : bytesT Tryd.prog 175 = 8 := by kernel_rfl
@[go_sem] theorem ag175 : isAggT Tryd.prog 175 = some false := by kernel_rfl
@[go_sem] theorem zc175 : zeroC Tryd.prog 6 175 = some [.nilp] := by kernel_rfl
@[go_sem] theorem ni175 : noIntT Tryd.prog 175 = true := by kernel_rfl
@[go_sem] theorem sz176 : szT Tryd.prog 176 = 1 := by kernel_rfl
@[go_sem] theorem by176 : bytesT Tryd.prog 176 = 8 := by kernel_rfl
@[go_sem] theorem ag176 : isAggT Tryd.prog 176 = some false := by kernel_rfl
@[go_sem] theorem zc176 : zeroC Tryd.prog 6 176 = some [.nilf] := by kernel_rfl
@[go_sem] theorem ni176 : noIntT Tryd.prog 176 = true := by kernel_rfl
@[go_sem] theorem sz177 : szT Tryd.prog 177 = 1 := by kernel_rfl
@[go_sem] theorem by177 : bytesT Tryd.prog 177 = 8 := by kernel_rfl
@[go_sem] theorem ag177 : isAggT Tryd.prog 177 = some false := by kernel_rfl
@[go_sem] theorem zc177 : zeroC Tryd.prog 6 177 = some [.nilf] := by kernel_rfl
@[go_sem] theorem ni177 : noIntT Tryd.prog 177 = true := by kernel_rfl
@[go_sem] theorem sz178 : szT Tryd.prog 178 = 1 := by kernel_rfl
@[go_sem] theorem by178 : bytesT Tryd.prog 178 = 8 := by kernel_rfl
@[go_sem] theorem ag178 : isAggT Tryd.prog 178 = some false := by kernel_rfl
@[go_sem] theorem zc178 : zeroC Tryd.prog 6 178 = some [.nilf] := by kernel_rfl
@[go_sem] theorem ni178 : noIntT Tryd.prog 178 = true := by kernel_rfl
@[go_sem] theorem sz179 : szT Tryd.prog 179 = 1 := by kernel_rfl
@[go_sem] theorem by179 : bytesT Tryd.prog 179 = 8 := by kernel_rfl
@[go_sem] theorem ag179 : isAggT Tryd.prog 179 = some false := by kernel_rfl
@[go_sem] theorem zc179 : zeroC Tryd.prog 6 179 = some [.nilf] := by kernel_rfl
@[go_sem] theorem ni179 : noIntT Tryd.prog 179 = true := by kernel_rfl
@[go_sem] theorem sz180 : szT Tryd.prog 180 = 1 := by kernel_rfl
@[go_sem] theorem by180 : bytesT Tryd.prog 180 = 8 := by kernel_rfl
@[go_sem] theorem ag180 : isAggT Tryd.prog 180 = some false := by kernel_rfl
@[go_sem] theorem zc180 : zeroC Tryd.prog 6 180 = some [.nilf] := by kernel_rfl
@[go_sem] theorem ni180 : noIntT Tryd.prog 180 = true := by kernel_rfl
@[go_sem] theorem sz181 : szT Tryd.prog 181 = 1 := by kernel_rfl
@[go_sem] theorem by181 : bytesT Tryd.prog 181 = 8 := by kernel_rfl
@[go_sem] theorem ag181 : isAggT Tryd.prog 181 = some false := by kernel_rfl
@[go_sem] theorem zc181 : zeroC Tryd.prog 6 181 = some [.nilf] := by kernel_rfl
@[go_sem] theorem ni181 : noIntT Tryd.prog 181 = true := by kernel_rfl
@[go_sem] theorem sz182 : szT Tryd.prog 182 = 1 := by kernel_rfl
@[go_sem] theorem by182 : bytesT Tryd.prog 182 = 8 := by kernel_rfl
@[go_sem] theorem ag182 : isAggT Tryd.prog 182 = some false := by kernel_rfl
@[go_sem] theorem zc182 : zeroC Tryd.prog 6 182 = some [.nilf] := by kernel_rfl
@[go_sem] theorem ni182 : noIntT Tryd.prog 182 = true := by kernel_rfl
@[go_sem] theorem sz183 : szT Tryd.prog 183 = 24 := by kernel_rfl
@[go_sem] theorem by183 : bytesT Tryd.prog 183 = 24 := by kernel_rfl
@[go_sem] theorem ag183 : isAggT Tryd.prog 183 = some true := by kernel_rfl
@[go_sem] theorem zc183 : zeroC Tryd.prog 6 183 = some [.int .u8 (0), .int .u8 (0), .int .u8 (0), .int .u8 (0), .int .u8 (0), .int .u8 (0), .int .u8 (0), .int .u8 (0), .int .u8 (0), .int .u8 (0), .int .u8 (0), .int .u8 (0), .int .u8 (0), .int .u8 (0), .int .u8 (0), .int .u8 (0), .int .u8 (0), .int .u8 (0), .int .u8 (0), .int .u8 (0), .int .u8 (0), .int .u8 (0), .int .u8 (0), .int .u8 (0)] := by kernel_rfl
@[go_sem] theorem ni183 : noIntT Tryd.prog 183 = true := by kernel_rfl
@[go_sem] theorem sz184 : szT Tryd.prog 184 = 1 := by kernel_rfl
@[go_sem] theorem by184 : bytesT Tryd.prog 184 = 8 := by kernel_rfl
@[go_sem] theorem ag184 : isAggT Tryd.prog 184 = some false := by kernel_rfl
@[go_sem] theorem zc184 : zeroC Tryd.prog 6 184 = some [.nilf] := by kernel_rfl
@[go_sem] theorem ni184 : noIntT Tryd.prog 184 = true := by kernel_rfl
@[go_sem] theorem sz185 : szT Tryd.prog 185 = 1 := by kernel_rfl
@[go_sem] theorem by185 : bytesT Tryd.prog 185 = 8 := by kernel_rfl
@[go_sem] theorem ag185 : isAggT Tryd.prog 185 = some false := by kernel_rfl
@[go_sem] theorem zc185 : zeroC Tryd.prog 6 185 = some [.nilf] := by kernel_rfl
@[go_sem] theorem ni185 : noIntT Tryd.prog 185 = true := by kernel_rfl
@[go_sem] theorem sz187 : szT Tryd.prog 187 = 1 := by kernel_rfl
@[go_sem] theorem by187 : bytesT Tryd.prog 187 = 8 := by kernel_rfl
@[go_sem] theorem ag187 : isAggT Tryd.prog 187 = some false := by kernel_rfl
@[go_sem] theorem zc187 : zeroC Tryd.prog 6 187 = some [.nilf] := by kernel_rfl
@[go_sem] theorem ni187 : noIntT Tryd.prog 187 = true := by kernel_rfl
@[go_sem] theorem sz188 : szT Tryd.prog 188 = 1 := by kernel_rfl
@[go_sem] theorem by188 : bytesT Tryd.prog 188 = 8 := by kernel_rfl
@[go_sem] theorem ag188 : isAggT Tryd.prog 188 = some false := by kernel_rfl
@[go_sem] theorem zc188 : zeroC Tryd.prog 6 188 = some [.nilf] := by kernel_rfl
@[go_sem] theorem ni188 : noIntT Tryd.prog 188 = true := by kernel_rfl
@[go_sem] theorem sz190 : szT Tryd.prog 190 = 1 := by kernel_rfl
@[go_sem] theorem by190 : bytesT Tryd.prog 190 = 8 := by kernel_rfl
@[go_sem] theorem ag190 : isAggT Tryd.prog 190 = some false := by kernel_rfl
@[go_sem] theorem zc190 : zeroC Tryd.prog 6 190 = some [.nilf] := by kernel_rfl
@[go_sem] theorem ni190 : noIntT Tryd.prog 190 = true := by kernel_rfl
@[go_sem] theorem sz191 : szT Tryd.prog 191 = 1 := by kernel_rfl
@[go_sem] theorem by191 : bytesT Tryd.prog 191 = 8 := by kernel_rfl
@[go_sem] theorem ag191 : isAggT Tryd.prog 191 = some false := by kernel_rfl
@[go_sem] theorem zc191 : zeroC Tryd.prog 6 191 = some [.nilf] := by kernel_rfl
@[go_sem] theorem ni191 : noIntT Tryd.prog 191 = true := by kernel_rfl
@[go_sem] theorem sz192 : szT Tryd.prog 192 = 1 := by kernel_rfl
@[go_sem] theorem by192 : bytesT Tryd.prog 192 = 8 := by kernel_rfl
@[go_sem] theorem ag192 : isAggT Tryd.prog 192 = some false := by kernel_rfl
@[go_sem] theorem zc192 : zeroC Tryd.prog 6 192 = some [.nilf] := by kernel_rfl
@[go_sem] theorem ni192 : noIntT Tryd.prog 192 = true := by kernel_rfl
@[go_sem] theorem sz193 : szT Tryd.prog 193 = 1 := by kernel_rfl
@[go_sem] theorem by193 : bytesT Tryd.prog 193 = 8 := by kernel_rfl
@[go_sem] theorem ag193 : isAggT Tryd.prog 193 = some false := by kernel_rfl
@[go_sem] theorem zc193 : zeroC Tryd.prog 6 193 = some [.nilf] := by kernel_rfl
@[go_sem] theorem ni193 : noIntT Tryd.prog 193 = true := by kernel_rfl
@[go_sem] theorem sz194 : szT Tryd.prog 194 = 7 := by kernel_rfl
@[go_sem] theorem by194 : bytesT Tryd.prog 194 = 56 := by kernel_rfl
@[go_sem] theorem ag194 : isAggT Tryd.prog 194 = some true := by kernel_rfl
@[go_sem] theorem zc194 : zeroC Tryd.prog 6 194 = some [.int .i64 (0), .int .i64 (0), .int .i64 (0), .int .i64 (0), .int .i64 (0), .int .i64 (0), .int .i64 (0)] := by kernel_rfl
@[go_sem] theorem ni194 : noIntT Tryd.prog 194 = true := by kernel_rfl
@[go_sem] theorem sz195 : szT Tryd.prog 195 = 1 := by kernel_rfl
@[go_sem] theorem by195 : bytesT Tryd.prog 195 = 8 := by kernel_rfl
@[go_sem] theorem ag195 : isAggT Tryd.prog 195 = some false := by kernel_rfl
@[go_sem] theorem zc195 : zeroC Tryd.prog 6 195 = some [.nilf] := by kernel_rfl
@[go_sem] theorem ni195 : noIntT Tryd.prog 195 = true := by kernel_rfl
@[go_sem] theorem sz196 : szT Tryd.prog 196 = 1 := by kernel_rfl
@[go_sem] theorem by196 : bytesT Tryd.prog 196 = 8 := by kernel_rfl
@[go_sem] theorem ag196 : isAggT Tryd.prog 196 = some false := by kernel_rfl
@[go_sem] theorem zc196 : zeroC Tryd.prog 6 196 = some [.nilf] := by kernel_rfl
@[go_sem] theorem ni196 : noIntT Tryd.prog 196 = true := by kernel_rfl
@[go_sem] theorem sz197 : szT Tryd.prog 197 = 1 := by kernel_rfl
@[go_sem] theorem by197 : bytesT Tryd.prog 197 = 8 := by kernel_rfl
@[go_sem] theorem ag197 : isAggT Tryd.prog 197 = some false := by kernel_rfl
@[go_sem] theorem zc197 : zeroC Tryd.prog 6 197 = some [.nilf] := by kernel_rfl
@[go_sem] theorem ni197 : noIntT Tryd.prog 197 = true := by kernel_rfl
@[go_sem] theorem sz198 : szT Tryd.prog 198 = 1 := by kernel_rfl
@[go_sem] theorem by198 : bytesT Tryd.prog 198 = 8 := by kernel_rfl
@[go_sem] theorem ag198 : isAggT Tryd.prog 198 = some false := by kernel_rfl
@[go_sem] theorem zc198 : zeroC Tryd.prog 6 198 = some [.nilf] := by kernel_rfl
@[go_sem] theorem ni198 : noIntT Tryd.prog 198 = true := by kernel_rfl
@[go_sem] theorem sz199 : szT Tryd.prog 199 = 1 := by kernel_rfl
@[go_sem] theorem by199 : bytesT Tryd.prog 199 = 8 := by kernel_rfl
@[go_sem] theorem ag199 : isAggT Tryd.prog 199 = some false := by kernel_rfl
@[go_sem] theorem zc199 : zeroC Tryd.prog 6 199 = some [.nilf] := by kernel_rfl
@[go_sem] theorem ni199 : noIntT Tryd.prog 199 = true := by kernel_rfl
@[go_sem] theorem sz200 : szT Tryd.prog 200 = 20 := by kernel_rfl
@[go_sem] theorem by200 : bytesT Tryd.prog 200 = 160 := by kernel_rfl
@[go_sem] theorem ag200 : isAggT Tryd.prog 200 = some true := by kernel_rfl
@[go_sem] theorem zc200 : zeroC Tryd.prog 6 200 = some [.int .u64 (0), .int .u64 (0), .int .u64 (0), .int .u64 (0), .int .u64 (0), .int .u64 (0), .int .u64 (0), .int .u64 (0), .int .u64 (0), .int .u64 (0), .int .u64 (0), .int .u64 (0), .int .u64 (0), .int .u64 (0), .int .u64 (0), .int .u64 (0), .int .u64 (0), .int .u64 (0), .int .u64 (0), .int .u64 (0)] := by kernel_rfl
@[go_sem] theorem ni200 : noIntT Tryd.prog 200 = true := by kernel_rfl
@[go_sem] theorem sz201 : szT Tryd.prog 201 = 1 := by kernel_rfl
@[go_sem] theorem by201 : bytesT Tryd.prog 201 = 4 := by kernel_rfl
@[go_sem] theorem ag201 : isAggT Tryd.prog 201 = some false := by kernel_rfl
@[go_sem] theorem zc201 : zeroC Tryd.prog 6 201 = some [.int .u32 (0)] := by kernel_rfl
@[go_sem] theorem ni201 : noIntT Tryd.prog 201 = false := by kernel_rfl
@[go_sem] theorem sz202 : szT Tryd.prog 202 = 65 := by kernel_rfl
@[go_sem] theorem by202 : bytesT Tryd.prog 202 = 65 := by kernel_rfl
@[go_sem] theorem ag202 : isAggT Tryd.prog 202 = some true := by kernel_rfl
@[go_sem] theorem zc202 : zeroC Tryd.prog 6 202 = some [.int .u8 (0), .int .u8 (0), .int .u8 (0), .int .u8 (0), .int .u8 (0), .int .u8 (0), .int .u8 (0), .int .u8 (0), .int .u8 (0), .int .u8 (0), .int .u8 (0), .int .u8 (0), .int .u8 (0), .int .u8 (0), .int .u8 (0), .int .u8 (0), .int .u8 (0), .int .u8 (0), .int .u8 (0), .int .u8 (0), .int .u8 (0), .int .u8 (0), .int .u8 (0), .int .u8 (0), .int .u8 (0), .int .u8 (0), .int .u8 (0), .int .u8 (0), .int .u8 (0), .int .u8 (0), .int .u8 (0), .int .u8 (0), .int .u8 (0), .int .u8 (0), .int .u8 (0), .int .u8 (0), .int .u8 (0), .int .u8 (0), .int .u8 (0), .int .u8 (0), .int .u8 (0), .int .u8 (0), .int .u8 (0), .int .u8 (0), .int .u8 (0), .int .u8 (0), .int .u8 (0), .int .u8 (0), .int .u8 (0), .int .u8 (0), .int .u8 (0), .int .u8 (0), .int .u8 (0), .int .u8 (0), .int .u8 (0), .int .u8 (0), .int .u8 (0), .int .u8 (0), .int .u8 (0), .int .u8 (0), .int .u8 (0), .int .u8 (0), .int .u8 (0), .int .u8 (0), .int .u8 (0)] := by kernel_rfl
@[go_sem] theorem ni202 : noIntT Tryd.prog 202 = true := by kernel_rfl
@[go_sem] theorem sz203 : szT Tryd.prog 203 = 1 := by kernel_rfl
@[go_sem] theorem by203 : bytesT Tryd.prog 203 = 8 := by kernel_rfl
@[go_sem] theorem ag203 : isAggT Tryd.prog 203 = some false := by kernel_rfl
@[go_sem] theorem zc203 : zeroC Tryd.prog 6 203 = some [.nilf] := by kernel_rfl
@[go_sem] theorem ni203 : noIntT Tryd.prog 203 = true := by kernel_rfl
@[go_sem] theorem sz204 : szT Tryd.prog 204 = 1 := by kernel_rfl
@[go_sem] theorem by204 : bytesT Tryd.prog 204 = 8 := by kernel_rfl
@[go_sem] theorem ag204 : isAggT Tryd.prog 204 = some false := by kernel_rfl
@[go_sem] theorem zc204 : zeroC Tryd.prog 6 204 = some [.nilf] := by kernel_rfl
@[go_sem] theorem ni204 : noIntT Tryd.prog 204 = true := by kernel_rfl
@[go_sem] theorem sz205 : szT Tryd.prog 205 = 1 := by kernel_rfl
@[go_sem] theorem by205 : bytesT Tryd.prog 205 = 8 := by kernel_rfl
@[go_sem] theorem ag205 : isAggT Tryd.prog 205 = some false := by kernel_rfl
@[go_sem] theorem zc205 : zeroC Tryd.prog 6 205 = some [.nilf] := by kernel_rfl
@[go_sem] theorem ni205 : noIntT Tryd.prog 205 = true := by kernel_rfl
@[go_sem] theorem sz206 : szT Tryd.prog 206 = 1 := by kernel_rfl
@[go_sem] theorem by206 : bytesT Tryd.prog 206 = 8 := by kernel_rfl
@[go_sem] theorem ag206 : isAggT Tryd.prog 206 = some false := by kernel_rfl
@[go_sem] theorem zc206 : zeroC Tryd.prog 6 206 = some [.nilf] := by kernel_rfl
@[go_sem] theorem ni206 : noIntT Tryd.prog 206 = true := by kernel_rfl
@[go_sem] theorem sz207 : szT Tryd.prog 207 = 1 := by kernel_rfl
@[go_sem] theorem by207 : bytesT Tryd.prog 207 = 8 := by kernel_rfl
@[go_sem] theorem ag207 : isAggT Tryd.prog 207 = some false := by kernel_rfl
@[go_sem] theorem zc207 : zeroC Tryd.prog 6 207 = some [.nilf] := by kernel_rfl
@[go_sem] theorem ni207 : noIntT Tryd.prog 207 = true := by kernel_rfl
@[go_sem] theorem sz208 : szT Tryd.prog 208 = 1 := by kernel_rfl
@[go_sem] theorem by208 : bytesT Tryd.prog 208 = 8 := by kernel_rfl
@[go_sem] theorem ag208 : isAggT Tryd.prog 208 = some false := by kernel_rfl
@[go_sem] theorem zc208 : zeroC Tryd.prog 6 208 = some [.nilf] := by kernel_rfl
@[go_sem] theorem ni208 : noIntT Tryd.prog 208 = true := by kernel_rfl
@[go_sem] theorem sz209 : szT Tryd.prog 209 = 256 := by kernel_rfl
@[go_sem] theorem by209 : bytesT Tryd.prog 209 = 256 := by kernel_rfl
@[go_sem] theorem ag209 : isAggT Tryd.prog 209 = some true := by kernel_rfl
@[go_sem] theorem zc209 : zeroC Tryd.prog 6 209 = some [.int .u8 (0), .int .u8 (0), .int .u8 (0), .int .u8 (0), .int .u8 (0), .int .u8 (0), .int .u8 (0), .int .u8 (0), .int .u8 (0), .int .u8 (0), .int .u8 (0), .int .u8 (0), .int .u8 (0), .int .u8 (0), .int .u8 (0), .int .u8 (0), .int .u8 (0), .int .u8 (0), .int .u8 (0), .int .u8 (0), .int .u8 (0), .int .u8 (0), .int .u8 (0), .int .u8 (0), .int .u8 (0), .int .u8 (0), .int .u8 (0), .int .u8 (0), .int .u8 (0), .int .u8 (0), .int .u8 (0), .int .u8 (0), .int .u8 (0), .int .u8 (0), .int .u8 (0), .int .u8 (0), .int .u8 (0), .int .u8 (0), .int .u8 (0), .int .u8 (0), .int .u8 (0), .int .u8 (0), .int .u8 (0), .int .u8 (0), .int .u8 (0), .int .u8 (0), .int .u8 (0), .int .u8 (0), .int .u8 (0), .int .u8 (0), .int .u8 (0), .int .u8 (0), .int .u8 (0), .int .u8 (0), .int .u8 (0), .int .u8 (0), .int .u8 (0), .int .u8 (0), .int .u8 (0), .int .u8 (0), .int .u8 (0), .int .u8 (0), .int .u8 (0), .int .u8 (0), .int .u8 (0), .int .u8 (0), .int .u8 (0), .int .u8 (0), .int .u8 (0), .int .u8 (0), .int .u8 (0), .int .u8 (0), .int .u8 (0), .int .u8 (0), .int .u8 (0), .int .u8 (0), .int .u8 (0), .int .u8 (0), .int .u8 (0), .int .u8 (0), .int .u8 (0), .int .u8 (0), .int .u8 (0), .int .u8 (0), .int .u8 (0), .int .u8 (0), .int .u8 (0), .int .u8 (0), .int .u8 (0), .int .u8 (0), .int .u8 (0), .int .u8 (0), .int .u8 (0), .int .u8 (0), .int .u8 (0), .int .u8 (0), .int .u8 (0), .int .u8 (0), .int .u8 (0), .int .u8 (0), .int .u8 (0), .int .u8 (0), .int .u8 (0), .int .u8 (0), .int .u8 (0), .int .u8 (0), .int .u8 (0), .int .u8 (0), .int .u8 (0), .int .u8 (0), .int .u8 (0), .int .u8 (0), .int .u8 (0), .int .u8 (0), .int .u8 (0), .int .u8 (0), .int .u8 (0), .int .u8 (0), .int .u8 (0), .int .u8 (0), .int .u8 (0), .int .u8 (0), .int .u8 (0), .int .u8 (0), .int .u8 (0), .int .u8 (0), .int .u8 (0), .int .u8 (0), .int .u8 (0), .int .u8 (0), .int .u8 (0), .int .u8 (0), .int .u8 (0), .int .u8 (0), .int .u8 (0), .int .u8 (0), .int .u8 (0), .int .u8 (0), .int .u8 (0), .int .u8 (0), .int .u8 (0), .int .u8 (0), .int .u8 (0), .int .u8 (0), .int .u8 (0), .int .u8 (0), .int .u8 (0), .int .u8 (0), .int .u8 (0), .int .u8 (0), .int .u8 (0), .int .u8 (0), .int .u8 (0), .int .u8 (0), .int .u8 (0), .int .u8 (0), .int .u8 (0), .int .u8 (0), .int .u8 (0), .int .u8 (0), .int .u8 (0), .int .u8 (0), .int .u8 (0), .int .u8 (0), .int .u8 (0), .int .u8 (0), .int .u8 (0), .int .u8 (0), .int .u8 (0), .int .u8 (0), .int .u8 (0), .int .u8 (0), .int .u8 (0), .int .u8 (0), .int .u8 (0), .int .u8 (0), .int .u8 (0), .int .u8 (0), .int .u8 (0), .int .u8 (0), .int .u8 (0), .int .u8 (0), .int .u8 (0), .int .u8 (0), .int .u8 (0), .int .u8 (0), .int .u8 (0), .int .u8 (0), .int .u8 (0), .int .u8 (0), .int .u8 (0), .int .u8 (0), .int .u8 (0), .int .u8 (0), .int .u8 (0), .int .u8 (0), .int .u8 (0), .int .u8 (0), .int .u8 (0), .int .u8 (0), .int .u8 (0), .int .u8 (0), .int .u8 (0), .int .u8 (0), .int .u8 (0), .int .u8 (0), .int .u8 (0), .int .u8 (0), .int .u8 (0), .int .u8 (0), .int .u8 (0), .int .u8 (0), .int .u8 (0), .int .u8 (0), .int .u8 (0), .int .u8 (0), .int .u8 (0), .int .u8 (0), .int .u8 (0), .int .u8 (0), .int .u8 (0), .int .u8 (0), .int .u8 (0), .int .u8 (0), .int .u8 (0), .int .u8 (0), .int .u8 (0), .int .u8 (0), .int .u8 (0), .int .u8 (0), .int .u8 (0), .int .u8 (0), .int .u8 (0), .int .u8 (0), .int .u8 (0), .int .u8 (0), .int .u8 (0), .int .u8 (0), .int .u8 (0), .int .u8 (0), .int .u8 (0), .int .u8 (0), .int .u8 (0), .int .u8 (0), .int .u8 (0), .int .u8 (0), .int .u8 (0), .int .u8 (0), .int .u8 (0), .int .u8 (0), .int .u8 (0), .int .u8 (0), .int .u8 (0), .int .u8 (0), .int .u8 (0), .int .u8 (0)] := by kernel_rfl
@[go_sem] theorem ni209 : noIntT Tryd.prog 209 = true := by kernel_rfl
@[go_sem] theorem sz210 : szT Tryd.prog 210 = 2 := by kernel_rfl
@[go_sem] theorem by210 : bytesT Tryd.prog 210 = 2 := by kernel_rfl
@[go_sem] theorem ag210 : isAggT Tryd.prog 210 = some true := by kernel_rfl
@[go_sem] theorem zc210 : zeroC Tryd.prog 6 210 = some [.int .u8 (0), .int .u8 (0)] := by kernel_rfl
@[go_sem] theorem ni210 : noIntT Tryd.prog 210 = true := by kernel_rfl
@[go_sem] theorem fs210 : (fieldsT Tryd.prog 210).isSome = true := by kernel_rfl
@[go_sem] theorem fl210_0 : fldA Tryd.prog 210 0 = some (0, 5) := by kernel_rfl
@[go_sem] theorem fl210_1 : fldA Tryd.prog 210 1 = some (1, 5) := by kernel_rfl
@[go_sem] theorem sz211 : szT Tryd.prog 211 = 2 := by kernel_rfl
@[go_sem] theorem by211 : bytesT Tryd.prog 211 = 2 := by kernel_rfl
@[go_sem] theorem ag211 : isAggT Tryd.prog 211 = some true := by kernel_rfl
@[go_sem] theorem zc211 : zeroC Tryd.prog 6 211 = some [.int .u8 (0), .int .u8 (0)] := by kernel_rfl
@[go_sem] theorem ni211 : noIntT Tryd.prog 211 = true := by kernel_rfl
@[go_sem] theorem fs211 : (fieldsT Tryd.prog 211).isSome = true := by kernel_rfl
@[go_sem] theorem fl211_0 : fldA Tryd.prog 211 0 = some (0, 5) := by kernel_rfl
@[go_sem] theorem fl211_1 : fldA Tryd.prog 211 1 = some (1, 5) := by kernel_rfl
@[go_sem] theorem sz212 : szT Tryd.prog 212 = 32 := by kernel_rfl
@[go_sem] theorem by212 : bytesT Tryd.prog 212 = 32 := by kernel_rfl
@[go_sem] theorem ag212 : isAggT Tryd.prog 212 = some true := by kernel_rfl
@[go_sem] theorem zc212 : zeroC Tryd.prog 6 212 = some [.int .u8 (0), .int .u8 (0), .int .u8 (0), .int .u8 (0), .int .u8 (0), .int .u8 (0), .int .u8 (0), .int .u8 (0), .int .u8 (0), .int .u8 (0), .int .u8 (0), .int .u8 (0), .int .u8 (0), .int .u8 (0), .int .u8 (0), .int .u8 (0), .int .u8 (0), .int .u8 (0), .int .u8 (0), .int .u8 (0), .int .u8 (0), .int .u8 (0), .int .u8 (0), .int .u8 (0), .int .u8 (0), .int .u8 (0), .int .u8 (0), .int .u8 (0), .int .u8 (0), .int .u8 (0), .int .u8 (0), .int .u8 (0)] := by kernel_rfl
@[go_sem] theorem ni212 : noIntT Tryd.prog 212 = true := by kernel_rfl
@[go_sem] theorem sz213 : szT Tryd.prog 213 = 1 := by kernel_rfl
@[go_sem] theorem by213 : bytesT Tryd.prog 213 = 8 := by kernel_rfl
@[go_sem] theorem ag213 : isAggT Tryd.prog 213 = some false := by kernel_rfl
@[go_sem] theorem zc213 : zeroC Tryd.prog 6 213 = some [.nilf] := by kernel_rfl
@[go_sem] theorem ni213 : noIntT Tryd.prog 213 = true := by kernel_rfl
@[go_sem] theorem sz214 : szT Tryd.prog 214 = 1 := by kernel_rfl
@[go_sem] theorem by214 : bytesT Tryd.prog 214 = 8 := by kernel_rfl
@[go_sem] theorem ag214 : isAggT Tryd.prog 214 = some false := by kernel_rfl
@[go_sem] theorem zc214 : zeroC Tryd.prog 6 214 = some [.nilf] := by kernel_rfl
@[go_sem] theorem ni214 : noIntT Tryd.prog 214 = true := by kernel_rfl
@[go_sem] theorem sz215 : szT Tryd.prog 215 = 1 := by kernel_rfl
@[go_sem] theorem by215 : bytesT Tryd.prog 215 = 8 := by kernel_rfl
@[go_sem] theorem ag215 : isAggT Tryd.prog 215 = some false := by kernel_rfl
@[go_sem] theorem zc215 : zeroC Tryd.prog 6 215 = some [.nilf] := by kernel_rfl
@[go_sem] theorem ni215 : noIntT Tryd.prog 215 = true := by kernel_rfl
@[go_sem] theorem sz216 : szT Tryd.prog 216 = 1 := by kernel_rfl
@[go_sem] theorem by216 : bytesT Tryd.prog 216 = 8 := by kernel_rfl
@[go_sem] theorem ag216 : isAggT Tryd.prog 216 = some false := by kernel_rfl
@[go_sem] theorem zc216 : zeroC Tryd.prog 6 216 = some [.nilf] := by kernel_rfl
@[go_sem] theorem ni216 : noIntT Tryd.prog 216 = true := by kernel_rfl
@[go_sem] theorem sz217 : szT Tryd.prog 217 = 32 := by kernel_rfl
@[go_sem] theorem by217 : bytesT Tryd.prog 217 = 32 := by kernel_rfl
@[go_sem] theorem ag217 : isAggT Tryd.prog 217 = some true := by kernel_rfl
@[go_sem] theorem zc217 : zeroC Tryd.prog 6 217 = some [.int .u8 (0), .int .u8 (0), .int .u8 (0), .int .u8 (0), .int .u8 (0), .int .u8 (0), .int .u8 (0), .int .u8 (0), .int .u8 (0), .int .u8 (0), .int .u8 (0), .int .u8 (0), .int .u8 (0), .int .u8 (0), .int .u8 (0), .int .u8 (0), .int .u8 (0), .int .u8 (0), .int .u8 (0), .int .u8 (0), .int .u8 (0), .int .u8 (0), .int .u8 (0), .int .u8 (0), .int .u8 (0), .int .u8 (0), .int .u8 (0), .int .u8 (0), .int .u8 (0), .int .u8 (0), .int .u8 (0), .int .u8 (0)] := by kernel_rfl
@[go_sem] theorem ni217 : noIntT Tryd.prog 217 = true := by kernel_rfl
@[go_sem] theorem sz218 : szT Tryd.prog 218 = 64 := by kernel_rfl
@[go_sem] theorem by218 : bytesT Tryd.prog 218 = 64 := by kernel_rfl
@[go_sem] theorem ag218 : isAggT Tryd.prog 218 = some true := by kernel_rfl
@[go_sem] theorem zc218 : zeroC Tryd.prog 6 218 = some [.int .u8 (0), .int .u8 (0), .int .u8 (0), .int .u8 (0), .int .u8 (0), .int .u8 (0), .int .u8 (0), .int .u8 (0), .int .u8 (0), .int .u8 (0), .int .u8 (0), .int .u8 (0), .int .u8 (0), .int .u8 (0), .int .u8 (0), .int .u8 (0), .int .u8 (0), .int .u8 (0), .int .u8 (0), .int .u8 (0), .int .u8 (0), .int .u8 (0), .int .u8 (0), .int .u8 (0), .int .u8 (0), .int .u8 (0), .int .u8 (0), .int .u8 (0), .int .u8 (0), .int .u8 (0), .int .u8 (0), .int .u8 (0), .int .u8 (0), .int .u8 (0), .int .u8 (0), .int .u8 (0), .int .u8 (0), .int .u8 (0), .int .u8 (0), .int .u8 (0), .int .u8 (0), .int .u8 (0), .int .u8 (0), .int .u8 (0), .int .u8 (0), .int .u8 (0), .int .u8 (0), .int .u8 (0), .int .u8 (0), .int .u8 (0), .int .u8 (0), .int .u8 (0), .int .u8 (0), .int .u8 (0), .int .u8 (0), .int .u8 (0), .int .u8 (0), .int .u8 (0), .int .u8 (0), .int .u8 (0), .int .u8 (0), .int .u8 (0), .int .u8 (0), .int .u8 (0)] := by kernel_rfl
@[go_sem] theorem ni218 : noIntT Tryd.prog 218 = true := by kernel_rfl
@[go_sem] theorem sz220 : szT Tryd.prog 220 = 1 := by kernel_rfl
@[go_sem] theorem by220 : bytesT Tryd.prog 220 = 8 := by kernel_rfl
@[go_sem] theorem ag220 : isAggT Tryd.prog 220 = some false := by kernel_rfl
@[go_sem] theorem zc220 : zeroC Tryd.prog 6 220 = some [.nilf] := by kernel_rfl
@[go_sem] theorem ni220 : noIntT Tryd.prog 220 = true := by kernel_rfl
@[go_sem] theorem sz221 : szT Tryd.prog 221 = 4 := by kernel_rfl
@[go_sem] theorem by221 : bytesT Tryd.prog 221 = 40 := by kernel_rfl
@[go_sem] theorem ag221 : isAggT Tryd.prog 221 = some true := by kernel_rfl
@[go_sem] theorem zc221 : zeroC Tryd.prog 6 221 = some [.nilp, .nilp, .nilp, .str ⟨#[]⟩] := by kernel_rfl
@[go_sem] theorem ni221 : noIntT Tryd.prog 221 = true := by kernel_rfl
@[go_sem] theorem fs221 : (fieldsT Tryd.prog 221).isSome = true := by kernel_rfl
@[go_sem] theorem fl221_0 : fldA Tryd.prog 221 0 = some (0, 17) := by kernel_rfl
@[go_sem] theorem fl221_1 : fldA Tryd.prog 221 1 = some (1, 17) := by kernel_rfl
@[go_sem] theorem fl221_2 : fldA Tryd.prog 221 2 = some (2, 17) := by kernel_rfl
@[go_sem] theorem fl221_3 : fldA Tryd.prog 221 3 = some (3, 9) := by kernel_rfl
@[go_sem] theorem sz222 : szT Tryd.prog 222 = 4 := by kernel_rfl
@[go_sem] theorem by222 : bytesT Tryd.prog 222 = 40 := by kernel_rfl
@[go_sem] theorem ag222 : isAggT Tryd.prog 222 = some true := by kernel_rfl
@[go_sem] theorem zc222 : zeroC Tryd.prog 6 222 = some [.nilp, .nilp, .nilp, .str ⟨#[]⟩] := by kernel_rfl
@[go_sem] theorem ni222 : noIntT Tryd.prog 222 = true := by kernel_rfl
@[go_sem] theorem fs222 : (fieldsT Tryd.prog 222).isSome = true := by kernel_rfl
@[go_sem] theorem fl222_0 : fldA Tryd.prog 222 0 = some (0, 17) := by kernel_rfl
@[go_sem] theorem fl222_1 : fldA Tryd.prog 222 1 = some (1, 17) := by kernel_rfl
@[go_sem] theorem fl222_2 : fldA Tryd.prog 222 2 = some (2, 17) := by kernel_rfl
@[go_sem] theorem fl222_3 : fldA Tryd.prog 222 3 = some (3, 9) := by kernel_rfl
@[go_sem] theorem sz223 : szT Tryd.prog 223 = 0 := by kernel_rfl
@[go_sem] theorem by223 : bytesT Tryd.prog 223 = 0 := by kernel_rfl
@[go_sem] theorem ag223 : isAggT Tryd.prog 223 = some true := by kernel_rfl
@[go_sem] theorem zc223 : zeroC Tryd.prog 6 223 = some [] := by kernel_rfl
@[go_sem] theorem ni223 : noIntT Tryd.prog 223 = true := by kernel_rfl
@[go_sem] theorem sz224 : szT Tryd.prog 224 = 0 := by kernel_rfl
@[go_sem] theorem by224 : bytesT Tryd.prog 224 = 0 := by kernel_rfl
@[go_sem] theorem ag224 : isAggT Tryd.prog 224 = some true := by kernel_rfl
@[go_sem] theorem zc224 : zeroC Tryd.prog 6 224 = some [] := by kernel_rfl
@[go_sem] theorem ni224 : noIntT Tryd.prog 224 = true := by kernel_rfl
@[go_sem] theorem fs224 : (fieldsT Tryd.prog 224).isSome = true := by kernel_rfl
@[go_sem] theorem fl224_0 : fldA Tryd.prog 224 0 = some (0, 223) := by kernel_rfl
@[go_sem] theorem sz225 : szT Tryd.prog 225 = 0 := by kernel_rfl
@[go_sem] theorem by225 : bytesT Tryd.prog 225 = 0 := by kernel_rfl
@[go_sem] theorem ag225 : isAggT Tryd.prog 225 = some true := by kernel_rfl
@[go_sem] theorem zc225 : zeroC Tryd.prog 6 225 = some [] := by kernel_rfl
@[go_sem] theorem ni225 : noIntT Tryd.prog 225 = true := by kernel_rfl
@[go_sem] theorem fs225 : (fieldsT Tryd.prog 225).isSome = true := by kernel_rfl
@[go_sem] theorem fl225_0 : fldA Tryd.prog 225 0 = some (0, 223) := by kernel_rfl
@[go_sem] theorem sz226 : szT Tryd.prog 226 = 1 := by kernel_rfl
@[go_sem] theorem by226 : bytesT Tryd.prog 226 = 1 := by kernel_rfl
@[go_sem] theorem ag226 : isAggT Tryd.prog 226 = some false := by kernel_rfl
@[go_sem] theorem zc226 : zeroC Tryd.prog 6 226 = some [.int .u8 (0)] := by kernel_rfl
@[go_sem] theorem ni226 : noIntT Tryd.prog 226 = false := by kernel_rfl
@[go_sem] theorem sz227 : szT Tryd.prog 227 = 1 := by kernel_rfl
@[go_sem] theorem by227 : bytesT Tryd.prog 227 = 1 := by kernel_rfl
@[go_sem] theorem ag227 : isAggT Tryd.prog 227 = some false := by kernel_rfl
@[go_sem] theorem zc227 : zeroC Tryd.prog 6 227 = some [.int .u8 (0)] := by kernel_rfl
@[go_sem] theorem ni227 : noIntT Tryd.prog 227 = false := by kernel_rfl
@[go_sem] theorem sz228 : szT Tryd.prog 228 = 1 := by kernel_rfl
@[go_sem] theorem by228 : bytesT Tryd.prog 228 = 8 := by kernel_rfl
@[go_sem] theorem ag228 : isAggT Tryd.prog 228 = some false := by kernel_rfl
@[go_sem] theorem zc228 : zeroC Tryd.prog 6 228 = some [.nilf] := by kernel_rfl
@[go_sem] theorem ni228 : noIntT Tryd.prog 228 = true := by kernel_rfl
@[go_sem] theorem sz229 : szT Tryd.prog 229 = 1 := by kernel_rfl
@[go_sem] theorem by229 : bytesT Tryd.prog 229 = 4 := by kernel_rfl
@[go_sem] theorem ag229 : isAggT Tryd.prog 229 = some false := by kernel_rfl
@[go_sem] theorem zc229 : zeroC Tryd.prog 6 229 = some [.int .i32 (0)] := by kernel_rfl
@[go_sem] theorem ni229 : noIntT Tryd.prog 229 = false := by kernel_rfl
@[go_sem] theorem sz230 : szT Tryd.prog 230 = 1 := by kernel_rfl
@[go_sem] theorem by230 : bytesT Tryd.prog 230 = 4 := by kernel_rfl
@[go_sem] theorem ag230 : isAggT Tryd.prog 230 = some false := by kernel_rfl
@[go_sem] theorem zc230 : zeroC Tryd.prog 6 230 = some [.int .i32 (0)] := by kernel_rfl
@[go_sem] theorem ni230 : noIntT Tryd.prog 230 = false := by kernel_rfl
@[go_sem] theorem sz231 : szT Tryd.prog 231 = 11 := by kernel_rfl
@[go_sem] theorem by231 : bytesT Tryd.prog 231 = 48 := by kernel_rfl
@[go_sem] theorem ag231 : isAggT Tryd.prog 231 = some true := by kernel_rfl
@[go_sem] theorem zc231 : zeroC Tryd.prog 6 231 = some [.int .u64 (0), .int .u64 (0), .int .u32 (0), .int .u8 (0), .int .u8 (0), .int .u8 (0), .int .u8 (0), .nilf, .nilp, .int .i32 (0), .int .i32 (0)] := by kernel_rfl
@[go_sem] theorem ni231 : noIntT Tryd.prog 231 = true := by kernel_rfl
@[go_sem] theorem fs231 : (fieldsT Tryd.prog 231).isSome = true := by kernel_rfl
@[go_sem] theorem fl231_0 : fldA Tryd.prog 231 0 = some (0, 12) := by kernel_rfl
@[go_sem] theorem fl231_1 : fldA Tryd.prog 231 1 = some (1, 12) := by kernel_rfl
@[go_sem] theorem fl231_2 : fldA Tryd.prog 231 2 = some (2, 201) := by kernel_rfl
@[go_sem] theorem fl231_3 : fldA Tryd.prog 231 3 = some (3, 226) := by kernel_rfl
@[go_sem] theorem fl231_4 : fldA Tryd.prog 231 4 = some (4, 5) := by kernel_rfl
@[go_sem] theorem fl231_5 : fldA Tryd.prog 231 5 = some (5, 5) := by kernel_rfl
@[go_sem] theorem fl231_6 : fldA Tryd.prog 231 6 = some (6, 227) := by kernel_rfl
@[go_sem] theorem fl231_7 : fldA Tryd.prog 231 7 = some (7, 228) := by kernel_rfl
@[go_sem] theorem fl231_8 : fldA Tryd.prog 231 8 = some (8, 147) := by kernel_rfl
@[go_sem] theorem fl231_9 : fldA Tryd.prog 231 9 = some (9, 229) := by kernel_rfl
@[go_sem] theorem fl231_10 : fldA Tryd.prog 231 10 = some (10, 230) := by kernel_rfl
@[go_sem] theorem sz232 : szT Tryd.prog 232 = 11 := by kernel_rfl
@[go_sem] theorem by232 : bytesT Tryd.prog 232 = 48 := by kernel_rfl
@[go_sem] theorem ag232 : isAggT Tryd.prog 232 = some true := by kernel_rfl
@[go_sem] theorem zc232 : zeroC Tryd.prog 6 232 = some [.int .u64 (0), .int .u64 (0), .int .u32 (0), .int .u8 (0), .int .u8 (0), .int .u8 (0), .int .u8 (0), .nilf, .nilp, .int .i32 (0), .int .i32 (0)] := by kernel_rfl
@[go_sem] theorem ni232 : noIntT Tryd.prog 232 = true := by kernel_rfl
@[go_sem] theorem fs232 : (fieldsT Tryd.prog 232).isSome = true := by kernel_rfl
@[go_sem] theorem fl232_0 : fldA Tryd.prog 232 0 = some (0, 12) := by kernel_rfl
@[go_sem] theorem fl232_1 : fldA Tryd.prog 232 1 = some (1, 12) := by kernel_rfl
@[go_sem] theorem fl232_2 : fldA Tryd.prog 232 2 = some (2, 201) := by kernel_rfl
@[go_sem] theorem fl232_3 : fldA Tryd.prog 232 3 = some (3, 226) := by kernel_rfl
@[go_sem] theorem fl232_4 : fldA Tryd.prog 232 4 = some (4, 5) := by kernel_rfl
@[go_sem] theorem fl232_5 : fldA Tryd.prog 232 5 = some (5, 5) := by kernel_rfl
@[go_sem] theorem fl232_6 : fldA Tryd.prog 232 6 = some (6, 227) := by kernel_rfl
@[go_sem] theorem fl232_7 : fldA Tryd.prog 232 7 = some (7, 228) := by kernel_rfl
@[go_sem] theorem fl232_8 : fldA Tryd.prog 232 8 = some (8, 147) := by kernel_rfl
@[go_sem] theorem fl232_9 : fldA Tryd.prog 232 9 = some (9, 229) := by kernel_rfl
@[go_sem] theorem fl232_10 : fldA Tryd.prog 232 10 = some (10, 230) := by kernel_rfl
@[go_sem] theorem sz233 : szT Tryd.prog 233 = 1 := by kernel_rfl
@[go_sem] theorem by233 : bytesT Tryd.prog 233 = 8 := by kernel_rfl
@[go_sem] theorem ag233 : isAggT Tryd.prog 233 = some false := by kernel_rfl
@[go_sem] theorem zc233 : zeroC Tryd.prog 6 233 = some [.nilf] := by kernel_rfl
@[go_sem] theorem ni233 : noIntT Tryd.prog 233 = true := by kernel_rfl
@[go_sem] theorem sz234 : szT Tryd.prog 234 = 3 := by kernel_rfl
@[go_sem] theorem by234 : bytesT Tryd.prog 234 = 24 := by kernel_rfl
@[go_sem] theorem ag234 : isAggT Tryd.prog 234 = some true := by kernel_rfl
@[go_sem] theorem zc234 : zeroC Tryd.prog 6 234 = some [.int .i64 (0), .bool false, .int .i64 (0)] := by kernel_rfl
@[go_sem] theorem ni234 : noIntT Tryd.prog 234 = true := by kernel_rfl
@[go_sem] theorem fs234 : (fieldsT Tryd.prog 234).isSome = true := by kernel_rfl
@[go_sem] theorem fl234_0 : fldA Tryd.prog 234 0 = some (0, 3) := by kernel_rfl
@[go_sem] theorem fl234_1 : fldA Tryd.prog 234 1 = some (1, 4) := by kernel_rfl
@[go_sem] theorem fl234_2 : fldA Tryd.prog 234 2 = some (2, 3) := by kernel_rfl
@[go_sem] theorem sz235 : szT Tryd.prog 235 = 3 := by kernel_rfl
@[go_sem] theorem by235 : bytesT Tryd.prog 235 = 24 := by kernel_rfl
@[go_sem] theorem ag235 : isAggT Tryd.prog 235 = some true := by kernel_rfl
@[go_sem] theorem zc235 : zeroC Tryd.prog 6 235 = some [.int .i64 (0), .bool false, .int .i64 (0)] := by kernel_rfl
@[go_sem] theorem ni235 : noIntT Tryd.prog 235 = true := by kernel_rfl
@[go_sem] theorem fs235 : (fieldsT Tryd.prog 235).isSome = true := by kernel_rfl
@[go_sem] theorem fl235_0 : fldA Tryd.prog 235 0 = some (0, 3) := by kernel_rfl
@[go_sem] theorem fl235_1 : fldA Tryd.prog 235 1 = some (1, 4) := by kernel_rfl
@[go_sem] theorem fl235_2 : fldA Tryd.prog 235 2 = some (2, 3) := by kernel_rfl
attribute [go_sem] Tryd.underlying1 Tryd.underlying2 Tryd.underlying3 Tryd.underlying4 Tryd.underlying5 Tryd.underlying6 Tryd.underlying7 Tryd.underlying8 Tryd.underlying9 Tryd.underlying10 Tryd.underlying11 Tryd.underlying12 Tryd.underlying13 Tryd.underlying14 Tryd.underlying15 Tryd.underlying16 Tryd.underlying17 Tryd.underlying18 Tryd.underlying19 Tryd.underlying21 Tryd.underlying22 Tryd.underlying23 Tryd.underlying24 Tryd.underlying25 Tryd.underlying26 Tryd.underlying27 Tryd.underlying28 Tryd.underlying29 Tryd.underlying30 Tryd.underlying31 Tryd.underlying32 Tryd.underlying33 Tryd.underlying34 Tryd.underlying35 Tryd.underlying37 Tryd.underlying38 Tryd.underlying39 Tryd.underlying40 Tryd.underlying41 Tryd.underlying42 Tryd.underlying43 Tryd.underlying44 Tryd.underlying45 Tryd.underlying46 Tryd.underlying47 Tryd.underlying48 Tryd.underlying50 Tryd.underlying51 Tryd.underlying52 Tryd.underlying53 Tryd.underlying54 Tryd.underlying55 Tryd.underlying56 Tryd.underlying58 Tryd.underlying59 Tryd.underlying61 Tryd.underlying62 Tryd.underlying63 Tryd.underlying64 Tryd.underlying65 Tryd.underlying66 Tryd.underlying67 Tryd.underlying68 Tryd.underlying69 Tryd.underlying70 Tryd.underlying71 Tryd.underlying72 Tryd.underlying73 Tryd.underlying74 Tryd.underlying75 Tryd.underlying76 Tryd.underlying77 Tryd.underlying78 Tryd.underlying79 Tryd.underlying80 Tryd.underlying82 Tryd.underlying83 Tryd.underlying84 Tryd.underlying85 Tryd.underlying86 Tryd.underlying87 Tryd.underlying88 Tryd.underlying89 Tryd.underlying90 Tryd.underlying91 Tryd.underlying92 Tryd.underlying93 Tryd.underlying94 Tryd.underlying95 Tryd.underlying96 Tryd.underlying100 Tryd.underlying101 Tryd.underlying102 Tryd.underlying103 Tryd.underlying105 Tryd.underlying106 Tryd.underlying107 Tryd.underlying108 Tryd.underlying109 Tryd.underlying110 Tryd.underlying111 Tryd.underlying112 Tryd.underlying113 Tryd.underlying114 Tryd.underlying116 Tryd.underlying117 Tryd.underlying118 Tryd.underlying119 Tryd.underlying121 Tryd.underlying122 Tryd.underlying123 Tryd.underlying124 Tryd.underlying125 Tryd.underlying126 Tryd.underlying127 Tryd.underlying128 Tryd.underlying129 Tryd.underlying130 Tryd.underlying131 Tryd.underlying132 Tryd.underlying133 Tryd.underlying134 Tryd.underlying135 Tryd.underlying136 Tryd.underlying137 Tryd.underlying138 Tryd.underlying139 Tryd.underlying140 Tryd.underlying141 Tryd.underlying142 Tryd.underlying143 Tryd.underlying144 Tryd.underlying145 Tryd.underlying146 Tryd.underlying147 Tryd.underlying148 Tryd.underlying149 Tryd.underlying150 Tryd.underlying151 Tryd.underlying152 Tryd.underlying153 Tryd.underlying155 Tryd.underlying156 Tryd.underlying157 Tryd.underlying158 Tryd.underlying159 Tryd.underlying160 Tryd.underlying161 Tryd.underlying162 Tryd.underlying163 Tryd.underlying164 Tryd.underlying165 Tryd.underlying166 Tryd.underlying168 Tryd.underlying169 Tryd.underlying170 Tryd.underlying171 Tryd.underlying173 Tryd.underlying174 Tryd.underlying175 Tryd.underlying176 Tryd.underlying177 Tryd.underlying178 Tryd.underlying179 Tryd.underlying180 Tryd.underlying181 Tryd.underlying182 Tryd.underlying183 Tryd.underlying184 Tryd.underlying185 Tryd.underlying187 Tryd.underlying188 Tryd.underlying190 Tryd.underlying191 Tryd.underlying192 Tryd.underlying193 Tryd.underlying194 Tryd.underlying195 Tryd.underlying196 Tryd.underlying197 Tryd.underlying198 Tryd.underlying199 Tryd.underlying200 Tryd.underlying201 Tryd.underlying202 Tryd.underlying203 Tryd.underlying204 Tryd.underlying205 Tryd.underlying206 Tryd.underlying207 Tryd.underlying208 Tryd.underlying209 Tryd.underlying210 Tryd.underlying211 Tryd.underlying212 Tryd.underlying213 Tryd.underlying214 Tryd.underlying215 Tryd.underlying216 Tryd.underlying217 Tryd.underlying218 Tryd.underlying220 Tryd.underlying221 Tryd.underlying222 Tryd.underlying223 Tryd.underlying224 Tryd.underlying225 Tryd.underlying226 Tryd.underlying227 Tryd.underlying228 Tryd.underlying229 Tryd.underlying230 Tryd.underlying231 Tryd.underlying232 Tryd.underlying233 Tryd.underlying234 Tryd.underlying235
end Go.Ev.Tryd
