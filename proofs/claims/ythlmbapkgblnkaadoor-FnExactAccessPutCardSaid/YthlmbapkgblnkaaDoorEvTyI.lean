/- Part of the proof of a statement about the given program: EvTyI. No condition of its own. -/
import Derived.Test.YthlmbapkgblnkaaDoorProg
import Derived.Test.YthlmbapkgblnkaaDoorEvSym
namespace Go.Ev.Tryd
open Go.Proofs
set_option maxRecDepth 100000
@[go_sem] theorem sz1 : szT Tryd.prog 1 = 1 := by kernel_rfl
@[go_sem] theorem by1 : bytesT Tryd.prog 1 = 8 := by kernel_rfl
@[go_sem] theorem ag1 : isAggT Tryd.prog 1 = some false := by kernel_rfl
@[go_sem] theorem zc1 : zeroC Tryd.prog 6 1 = some [.nilf] := by kernel_rfl
@[go_sem] theorem ni1 : noIntT Tryd.prog 1 = true := by kernel_rfl
@[go_sem] theorem sz2 : szT Tryd.prog 2 = 1 := by kernel_rfl
@[go_sem] theorem by2 : bytesT Tryd.prog 2 = 8 := by kernel_rfl
@[go_sem] theorem ag2 : isAggT Tryd.prog 2 = some false := by kernel_rfl
@[go_sem] theorem zc2 : zeroC Tryd.prog 6 2 = some [.int .i64 (0)] := by kernel_rfl
@[go_sem] theorem ni2 : noIntT Tryd.prog 2 = false := by kernel_rfl
@[go_sem] theorem sz3 : szT Tryd.prog 3 = 1 := by kernel_rfl
@[go_sem] theorem by3 : bytesT Tryd.prog 3 = 8 := by kernel_rfl
@[go_sem] theorem ag3 : isAggT Tryd.prog 3 = some false := by kernel_rfl
@[go_sem] theorem zc3 : zeroC Tryd.prog 6 3 = some [.int .i64 (0)] := by kernel_rfl
@[go_sem] theorem ni3 : noIntT Tryd.prog 3 = false := by kernel_rfl
@[go_sem] theorem sz4 : szT Tryd.prog 4 = 1 := by kernel_rfl
@[go_sem] theorem by4 : bytesT Tryd.prog 4 = 1 := by kernel_rfl
@[go_sem] theorem ag4 : isAggT Tryd.prog 4 = some false := by kernel_rfl
@[go_sem] theorem zc4 : zeroC Tryd.prog 6 4 = some [.bool false] := by kernel_rfl
@[go_sem] theorem ni4 : noIntT Tryd.prog 4 = true := by kernel_rfl
@[go_sem] theorem sz5 : szT Tryd.prog 5 = 1 := by kernel_rfl
@[go_sem] theorem by5 : bytesT Tryd.prog 5 = 1 := by kernel_rfl
@[go_sem] theorem ag5 : isAggT Tryd.prog 5 = some false := by kernel_rfl
@[go_sem] theorem zc5 : zeroC Tryd.prog 6 5 = some [.int .u8 (0)] := by kernel_rfl
@[go_sem] theorem ni5 : noIntT Tryd.prog 5 = false := by kernel_rfl
@[go_sem] theorem sz6 : szT Tryd.prog 6 = 1 := by kernel_rfl
@[go_sem] theorem by6 : bytesT Tryd.prog 6 = 1 := by kernel_rfl
@[go_sem] theorem ag6 : isAggT Tryd.prog 6 = some false := by kernel_rfl
@[go_sem] theorem zc6 : zeroC Tryd.prog 6 6 = some [.int .u8 (0)] := by kernel_rfl
@[go_sem] theorem ni6 : noIntT Tryd.prog 6 = false := by kernel_rfl
@[go_sem] theorem sz7 : szT Tryd.prog 7 = 4 := by kernel_rfl
@[go_sem] theorem by7 : bytesT Tryd.prog 7 = 24 := by kernel_rfl
@[go_sem] theorem ag7 : isAggT Tryd.prog 7 = some true := by kernel_rfl
@[go_sem] theorem zc7 : zeroC Tryd.prog 6 7 = some [.int .i64 (0), .int .i64 (0), .bool false, .int .u8 (0)] := by kernel_rfl
@[go_sem] theorem ni7 : noIntT Tryd.prog 7 = true := by kernel_rfl
@[go_sem] theorem fs7 : (fieldsT Tryd.prog 7).isSome = true := by kernel_rfl
@[go_sem] theorem fl7_0 : fldA Tryd.prog 7 0 = some (0, 2) := by kernel_rfl
@[go_sem] theorem fl7_1 : fldA Tryd.prog 7 1 = some (1, 3) := by kernel_rfl
@[go_sem] theorem fl7_2 : fldA Tryd.prog 7 2 = some (2, 4) := by kernel_rfl
@[go_sem] theorem fl7_3 : fldA Tryd.prog 7 3 = some (3, 6) := by kernel_rfl
@[go_sem] theorem sz8 : szT Tryd.prog 8 = 4 := by kernel_rfl
@[go_sem] theorem by8 : bytesT Tryd.prog 8 = 24 := by kernel_rfl
@[go_sem] theorem ag8 : isAggT Tryd.prog 8 = some true := by kernel_rfl
@[go_sem] theorem zc8 : zeroC Tryd.prog 6 8 = some [.int .i64 (0), .int .i64 (0), .bool false, .int .u8 (0)] := by kernel_rfl
@[go_sem] theorem ni8 : noIntT Tryd.prog 8 = true := by kernel_rfl
@[go_sem] theorem fs8 : (fieldsT Tryd.prog 8).isSome = true := by kernel_rfl
@[go_sem] theorem fl8_0 : fldA Tryd.prog 8 0 = some (0, 2) := by kernel_rfl
@[go_sem] theorem fl8_1 : fldA Tryd.prog 8 1 = some (1, 3) := by kernel_rfl
@[go_sem] theorem fl8_2 : fldA Tryd.prog 8 2 = some (2, 4) := by kernel_rfl
@[go_sem] theorem fl8_3 : fldA Tryd.prog 8 3 = some (3, 6) := by kernel_rfl
@[go_sem] theorem sz9 : szT Tryd.prog 9 = 1 := by kernel_rfl
@[go_sem] theorem by9 : bytesT Tryd.prog 9 = 16 := by kernel_rfl
@[go_sem] theorem ag9 : isAggT Tryd.prog 9 = some false := by kernel_rfl
@[go_sem] theorem zc9 : zeroC Tryd.prog 6 9 = some [.str ⟨#[]⟩] := by kernel_rfl
@[go_sem] theorem ni9 : noIntT Tryd.prog 9 = true := by kernel_rfl
@[go_sem] theorem sz10 : szT Tryd.prog 10 = 1 := by kernel_rfl
@[go_sem] theorem by10 : bytesT Tryd.prog 10 = 16 := by kernel_rfl
@[go_sem] theorem ag10 : isAggT Tryd.prog 10 = some false := by kernel_rfl
@[go_sem] theorem zc10 : zeroC Tryd.prog 6 10 = some [.str ⟨#[]⟩] := by kernel_rfl
@[go_sem] theorem ni10 : noIntT Tryd.prog 10 = true := by kernel_rfl
@[go_sem] theorem sz11 : szT Tryd.prog 11 = 1 := by kernel_rfl
@[go_sem] theorem by11 : bytesT Tryd.prog 11 = 16 := by kernel_rfl
@[go_sem] theorem ag11 : isAggT Tryd.prog 11 = some false := by kernel_rfl
@[go_sem] theorem zc11 : zeroC Tryd.prog 6 11 = some [.str ⟨#[]⟩] := by kernel_rfl
@[go_sem] theorem ni11 : noIntT Tryd.prog 11 = true := by kernel_rfl
@[go_sem] theorem sz12 : szT Tryd.prog 12 = 1 := by kernel_rfl
@[go_sem] theorem by12 : bytesT Tryd.prog 12 = 8 := by kernel_rfl
@[go_sem] theorem ag12 : isAggT Tryd.prog 12 = some false := by kernel_rfl
@[go_sem] theorem zc12 : zeroC Tryd.prog 6 12 = some [.int .u64 (0)] := by kernel_rfl
@[go_sem] theorem ni12 : noIntT Tryd.prog 12 = false := by kernel_rfl
@[go_sem] theorem sz13 : szT Tryd.prog 13 = 2 := by kernel_rfl
@[go_sem] theorem by13 : bytesT Tryd.prog 13 = 24 := by kernel_rfl
@[go_sem] theorem ag13 : isAggT Tryd.prog 13 = some true := by kernel_rfl
@[go_sem] theorem zc13 : zeroC Tryd.prog 6 13 = some [.str ⟨#[]⟩, .int .u64 (0)] := by kernel_rfl
@[go_sem] theorem ni13 : noIntT Tryd.prog 13 = true := by kernel_rfl
@[go_sem] theorem fs13 : (fieldsT Tryd.prog 13).isSome = true := by kernel_rfl
@[go_sem] theorem fl13_0 : fldA Tryd.prog 13 0 = some (0, 9) := by kernel_rfl
@[go_sem] theorem fl13_1 : fldA Tryd.prog 13 1 = some (1, 12) := by kernel_rfl
@[go_sem] theorem sz14 : szT Tryd.prog 14 = 2 := by kernel_rfl
@[go_sem] theorem by14 : bytesT Tryd.prog 14 = 24 := by kernel_rfl
@[go_sem] theorem ag14 : isAggT Tryd.prog 14 = some true := by kernel_rfl
@[go_sem] theorem zc14 : zeroC Tryd.prog 6 14 = some [.str ⟨#[]⟩, .int .u64 (0)] := by kernel_rfl
@[go_sem] theorem ni14 : noIntT Tryd.prog 14 = true := by kernel_rfl
@[go_sem] theorem fs14 : (fieldsT Tryd.prog 14).isSome = true := by kernel_rfl
@[go_sem] theorem fl14_0 : fldA Tryd.prog 14 0 = some (0, 9) := by kernel_rfl
@[go_sem] theorem fl14_1 : fldA Tryd.prog 14 1 = some (1, 12) := by kernel_rfl
@[go_sem] theorem sz15 : szT Tryd.prog 15 = 1 := by kernel_rfl
@[go_sem] theorem by15 : bytesT Tryd.prog 15 = 8 := by kernel_rfl
@[go_sem] theorem ag15 : isAggT Tryd.prog 15 = some false := by kernel_rfl
@[go_sem] theorem zc15 : zeroC Tryd.prog 6 15 = some [.nilp] := by kernel_rfl
@[go_sem] theorem ni15 : noIntT Tryd.prog 15 = true := by kernel_rfl
@[go_sem] theorem sz16 : szT Tryd.prog 16 = 1 := by kernel_rfl
@[go_sem] theorem by16 : bytesT Tryd.prog 16 = 8 := by kernel_rfl
@[go_sem] theorem ag16 : isAggT Tryd.prog 16 = some false := by kernel_rfl
@[go_sem] theorem zc16 : zeroC Tryd.prog 6 16 = some [.nilp] := by kernel_rfl
@[go_sem] theorem ni16 : noIntT Tryd.prog 16 = true := by kernel_rfl
@[go_sem] theorem sz17 : szT Tryd.prog 17 = 1 := by kernel_rfl
@[go_sem] theorem by17 : bytesT Tryd.prog 17 = 8 := by kernel_rfl
@[go_sem] theorem ag17 : isAggT Tryd.prog 17 = some false := by kernel_rfl
@[go_sem] theorem zc17 : zeroC Tryd.prog 6 17 = some [.nilp] := by kernel_rfl
@[go_sem] theorem ni17 : noIntT Tryd.prog 17 = true := by kernel_rfl
@[go_sem] theorem sz18 : szT Tryd.prog 18 = 1 := by kernel_rfl
@[go_sem] theorem by18 : bytesT Tryd.prog 18 = 8 := by kernel_rfl
@[go_sem] theorem ag18 : isAggT Tryd.prog 18 = some true := by kernel_rfl
@[go_sem] theorem zc18 : zeroC Tryd.prog 6 18 = some [.nilp] := by kernel_rfl
@[go_sem] theorem ni18 : noIntT Tryd.prog 18 = true := by kernel_rfl
@[go_sem] theorem fs18 : (fieldsT Tryd.prog 18).isSome = true := by kernel_rfl
@[go_sem] theorem fl18_0 : fldA Tryd.prog 18 0 = some (0, 17) := by kernel_rfl
@[go_sem] theorem sz19 : szT Tryd.prog 19 = 1 := by kernel_rfl
@[go_sem] theorem by19 : bytesT Tryd.prog 19 = 8 := by kernel_rfl
@[go_sem] theorem ag19 : isAggT Tryd.prog 19 = some true := by kernel_rfl
@[go_sem] theorem zc19 : zeroC Tryd.prog 6 19 = some [.nilp] := by kernel_rfl
@[go_sem] theorem ni19 : noIntT Tryd.prog 19 = true := by kernel_rfl
@[go_sem] theorem fs19 : (fieldsT Tryd.prog 19).isSome = true := by kernel_rfl
@[go_sem] theorem fl19_0 : fldA Tryd.prog 19 0 = some (0, 17) := by kernel_rfl
@[go_sem] theorem sz21 : szT Tryd.prog 21 = 1 := by kernel_rfl
@[go_sem] theorem by21 : bytesT Tryd.prog 21 = 4 := by kernel_rfl
@[go_sem] theorem ag21 : isAggT Tryd.prog 21 = some false := by kernel_rfl
@[go_sem] theorem zc21 : zeroC Tryd.prog 6 21 = some [.int .i32 (0)] := by kernel_rfl
@[go_sem] theorem ni21 : noIntT Tryd.prog 21 = false := by kernel_rfl
@[go_sem] theorem sz22 : szT Tryd.prog 22 = 7 := by kernel_rfl
@[go_sem] theorem by22 : bytesT Tryd.prog 22 = 64 := by kernel_rfl
@[go_sem] theorem ag22 : isAggT Tryd.prog 22 = some true := by kernel_rfl
@[go_sem] theorem zc22 : zeroC Tryd.prog 6 22 = some [.str ⟨#[]⟩, .int .i64 (0), .int .i64 (0), .int .i64 (0), .int .i64 (0), .int .i64 (0), .int .i64 (0)] := by kernel_rfl
@[go_sem] theorem ni22 : noIntT Tryd.prog 22 = true := by kernel_rfl
@[go_sem] theorem fs22 : (fieldsT Tryd.prog 22).isSome = true := by kernel_rfl
@[go_sem] theorem fl22_0 : fldA Tryd.prog 22 0 = some (0, 9) := by kernel_rfl
@[go_sem] theorem fl22_1 : fldA Tryd.prog 22 1 = some (1, 3) := by kernel_rfl
@[go_sem] theorem fl22_2 : fldA Tryd.prog 22 2 = some (2, 3) := by kernel_rfl
@[go_sem] theorem fl22_3 : fldA Tryd.prog 22 3 = some (3, 3) := by kernel_rfl
@[go_sem] theorem fl22_4 : fldA Tryd.prog 22 4 = some (4, 3) := by kernel_rfl
@[go_sem] theorem fl22_5 : fldA Tryd.prog 22 5 = some (5, 3) := by kernel_rfl
@[go_sem] theorem fl22_6 : fldA Tryd.prog 22 6 = some (6, 3) := by kernel_rfl
@[go_sem] theorem sz23 : szT Tryd.prog 23 = 7 := by kernel_rfl
@[go_sem] theorem by23 : bytesT Tryd.prog 23 = 64 := by kernel_rfl
@[go_sem] theorem ag23 : isAggT Tryd.prog 23 = some true := by kernel_rfl
@[go_sem] theorem zc23 : zeroC Tryd.prog 6 23 = some [.str ⟨#[]⟩, .int .i64 (0), .int .i64 (0), .int .i64 (0), .int .i64 (0), .int .i64 (0), .int .i64 (0)] := by kernel_rfl
@[go_sem] theorem ni23 : noIntT Tryd.prog 23 = true := by kernel_rfl
@[go_sem] theorem fs23 : (fieldsT Tryd.prog 23).isSome = true := by kernel_rfl
@[go_sem] theorem fl23_0 : fldA Tryd.prog 23 0 = some (0, 9) := by kernel_rfl
@[go_sem] theorem fl23_1 : fldA Tryd.prog 23 1 = some (1, 3) := by kernel_rfl
@[go_sem] theorem fl23_2 : fldA Tryd.prog 23 2 = some (2, 3) := by kernel_rfl
@[go_sem] theorem fl23_3 : fldA Tryd.prog 23 3 = some (3, 3) := by kernel_rfl
@[go_sem] theorem fl23_4 : fldA Tryd.prog 23 4 = some (4, 3) := by kernel_rfl
@[go_sem] theorem fl23_5 : fldA Tryd.prog 23 5 = some (5, 3) := by kernel_rfl
@[go_sem] theorem fl23_6 : fldA Tryd.prog 23 6 = some (6, 3) := by kernel_rfl
@[go_sem] theorem sz24 : szT Tryd.prog 24 = 1 := by kernel_rfl
@[go_sem] theorem by24 : bytesT Tryd.prog 24 = 24 := by kernel_rfl
@[go_sem] theorem ag24 : isAggT Tryd.prog 24 = some false := by kernel_rfl
@[go_sem] theorem zc24 : zeroC Tryd.prog 6 24 = some [.nils 6] := by kernel_rfl
@[go_sem] theorem ni24 : noIntT Tryd.prog 24 = true := by kernel_rfl
@[go_sem] theorem el24 : elemT Tryd.prog 24 = some 26 := by kernel_rfl
@[go_sem] theorem sz25 : szT Tryd.prog 25 = 6 := by kernel_rfl
@[go_sem] theorem by25 : bytesT Tryd.prog 25 = 88 := by kernel_rfl
@[go_sem] theorem ag25 : isAggT Tryd.prog 25 = some true := by kernel_rfl
@[go_sem] theorem zc25 : zeroC Tryd.prog 6 25 = some [.int .i64 (0), .str ⟨#[]⟩, .nils 6, .int .i64 (0), .int .i64 (0), .nils 6] := by kernel_rfl
@[go_sem] theorem ni25 : noIntT Tryd.prog 25 = true := by kernel_rfl
@[go_sem] theorem fs25 : (fieldsT Tryd.prog 25).isSome = true := by kernel_rfl
@[go_sem] theorem fl25_0 : fldA Tryd.prog 25 0 = some (0, 3) := by kernel_rfl
@[go_sem] theorem fl25_1 : fldA Tryd.prog 25 1 = some (1, 9) := by kernel_rfl
@[go_sem] theorem fl25_2 : fldA Tryd.prog 25 2 = some (2, 24) := by kernel_rfl
@[go_sem] theorem fl25_3 : fldA Tryd.prog 25 3 = some (3, 3) := by kernel_rfl
@[go_sem] theorem fl25_4 : fldA Tryd.prog 25 4 = some (4, 3) := by kernel_rfl
@[go_sem] theorem fl25_5 : fldA Tryd.prog 25 5 = some (5, 24) := by kernel_rfl
@[go_sem] theorem sz26 : szT Tryd.prog 26 = 6 := by kernel_rfl
@[go_sem] theorem by26 : bytesT Tryd.prog 26 = 88 := by kernel_rfl
@[go_sem] theorem ag26 : isAggT Tryd.prog 26 = some true := by kernel_rfl
@[go_sem] theorem zc26 : zeroC Tryd.prog 6 26 = some [.int .i64 (0), .str ⟨#[]⟩, .nils 6, .int .i64 (0), .int .i64 (0), .nils 6] := by kernel_rfl
@[go_sem] theorem ni26 : noIntT Tryd.prog 26 = true := by kernel_rfl
@[go_sem] theorem fs26 : (fieldsT Tryd.prog 26).isSome = true := by kernel_rfl
@[go_sem] theorem fl26_0 : fldA Tryd.prog 26 0 = some (0, 3) := by kernel_rfl
@[go_sem] theorem fl26_1 : fldA Tryd.prog 26 1 = some (1, 9) := by kernel_rfl
@[go_sem] theorem fl26_2 : fldA Tryd.prog 26 2 = some (2, 24) := by kernel_rfl
@[go_sem] theorem fl26_3 : fldA Tryd.prog 26 3 = some (3, 3) := by kernel_rfl
@[go_sem] theorem fl26_4 : fldA Tryd.prog 26 4 = some (4, 3) := by kernel_rfl
@[go_sem] theorem fl26_5 : fldA Tryd.prog 26 5 = some (5, 24) := by kernel_rfl
@[go_sem] theorem sz27 : szT Tryd.prog 27 = 1 := by kernel_rfl
@[go_sem] theorem by27 : bytesT Tryd.prog 27 = 8 := by kernel_rfl
@[go_sem] theorem ag27 : isAggT Tryd.prog 27 = some false := by kernel_rfl
@[go_sem] theorem zc27 : zeroC Tryd.prog 6 27 = some [.nilf] := by kernel_rfl
@[go_sem] theorem ni27 : noIntT Tryd.prog 27 = true := by kernel_rfl
@[go_sem] theorem sz28 : szT Tryd.prog 28 = 1 := by kernel_rfl
@[go_sem] theorem by28 : bytesT Tryd.prog 28 = 8 := by kernel_rfl
@[go_sem] theorem ag28 : isAggT Tryd.prog 28 = some false := by kernel_rfl
@[go_sem] theorem zc28 : zeroC Tryd.prog 6 28 = some [.nilf] := by kernel_rfl
@[go_sem] theorem ni28 : noIntT Tryd.prog 28 = true := by kernel_rfl
@[go_sem] theorem sz29 : szT Tryd.prog 29 = 1 := by kernel_rfl
@[go_sem] theorem by29 : bytesT Tryd.prog 29 = 24 := by kernel_rfl
@[go_sem] theorem ag29 : isAggT Tryd.prog 29 = some false := by kernel_rfl
@[go_sem] theorem zc29 : zeroC Tryd.prog 6 29 = some [.nils 6] := by kernel_rfl
@[go_sem] theorem ni29 : noIntT Tryd.prog 29 = true := by kernel_rfl
@[go_sem] theorem el29 : elemT Tryd.prog 29 = some 31 := by kernel_rfl
@[go_sem] theorem sz30 : szT Tryd.prog 30 = 6 := by kernel_rfl
@[go_sem] theorem by30 : bytesT Tryd.prog 30 = 88 := by kernel_rfl
@[go_sem] theorem ag30 : isAggT Tryd.prog 30 = some true := by kernel_rfl
@[go_sem] theorem zc30 : zeroC Tryd.prog 6 30 = some [.int .i64 (0), .str ⟨#[]⟩, .nils 6, .int .i64 (0), .int .i64 (0), .nils 6] := by kernel_rfl
@[go_sem] theorem ni30 : noIntT Tryd.prog 30 = true := by kernel_rfl
@[go_sem] theorem fs30 : (fieldsT Tryd.prog 30).isSome = true := by kernel_rfl
@[go_sem] theorem fl30_0 : fldA Tryd.prog 30 0 = some (0, 3) := by kernel_rfl
@[go_sem] theorem fl30_1 : fldA Tryd.prog 30 1 = some (1, 9) := by kernel_rfl
@[go_sem] theorem fl30_2 : fldA Tryd.prog 30 2 = some (2, 29) := by kernel_rfl
@[go_sem] theorem fl30_3 : fldA Tryd.prog 30 3 = some (3, 3) := by kernel_rfl
@[go_sem] theorem fl30_4 : fldA Tryd.prog 30 4 = some (4, 3) := by kernel_rfl
@[go_sem] theorem fl30_5 : fldA Tryd.prog 30 5 = some (5, 29) := by kernel_rfl
@[go_sem] theorem sz31 : szT Tryd.prog 31 = 6 := by kernel_rfl
@[go_sem] theorem by31 : bytesT Tryd.prog 31 = 88 := by kernel_rfl
@[go_sem] theorem ag31 : isAggT Tryd.prog 31 = some true := by kernel_rfl
@[go_sem] theorem zc31 : zeroC Tryd.prog 6 31 = some [.int .i64 (0), .str ⟨#[]⟩, .nils 6, .int .i64 (0), .int .i64 (0), .nils 6] := by kernel_rfl
@[go_sem] theorem ni31 : noIntT Tryd.prog 31 = true := by kernel_rfl
@[go_sem] theorem fs31 : (fieldsT Tryd.prog 31).isSome = true := by kernel_rfl
@[go_sem] theorem fl31_0 : fldA Tryd.prog 31 0 = some (0, 3) := by kernel_rfl
@[go_sem] theorem fl31_1 : fldA Tryd.prog 31 1 = some (1, 9) := by kernel_rfl
@[go_sem] theorem fl31_2 : fldA Tryd.prog 31 2 = some (2, 29) := by kernel_rfl
@[go_sem] theorem fl31_3 : fldA Tryd.prog 31 3 = some (3, 3) := by kernel_rfl
@[go_sem] theorem fl31_4 : fldA Tryd.prog 31 4 = some (4, 3) := by kernel_rfl
@[go_sem] theorem fl31_5 : fldA Tryd.prog 31 5 = some (5, 29) := by kernel_rfl
@[go_sem] theorem sz32 : szT Tryd.prog 32 = 7 := by kernel_rfl
@[go_sem] theorem by32 : bytesT Tryd.prog 32 = 96 := by kernel_rfl
@[go_sem] theorem ag32 : isAggT Tryd.prog 32 = some true := by kernel_rfl
@[go_sem] theorem zc32 : zeroC Tryd.prog 6 32 = some [.int .i64 (0), .int .i64 (0), .str ⟨#[]⟩, .nils 6, .int .i64 (0), .int .i64 (0), .nils 6] := by kernel_rfl
@[go_sem] theorem ni32 : noIntT Tryd.prog 32 = true := by kernel_rfl
@[go_sem] theorem fs32 : (fieldsT Tryd.prog 32).isSome = true := by kernel_rfl
@[go_sem] theorem fl32_0 : fldA Tryd.prog 32 0 = some (0, 3) := by kernel_rfl
@[go_sem] theorem fl32_1 : fldA Tryd.prog 32 1 = some (1, 31) := by kernel_rfl
@[go_sem] theorem sz33 : szT Tryd.prog 33 = 7 := by kernel_rfl
@[go_sem] theorem by33 : bytesT Tryd.prog 33 = 96 := by kernel_rfl
@[go_sem] theorem ag33 : isAggT Tryd.prog 33 = some true := by kernel_rfl
@[go_sem] theorem zc33 : zeroC Tryd.prog 6 33 = some [.int .i64 (0), .int .i64 (0), .str ⟨#[]⟩, .nils 6, .int .i64 (0), .int .i64 (0), .nils 6] := by kernel_rfl
@[go_sem] theorem ni33 : noIntT Tryd.prog 33 = true := by kernel_rfl
@[go_sem] theorem fs33 : (fieldsT Tryd.prog 33).isSome = true := by kernel_rfl
@[go_sem] theorem fl33_0 : fldA Tryd.prog 33 0 = some (0, 3) := by kernel_rfl
@[go_sem] theorem fl33_1 : fldA Tryd.prog 33 1 = some (1, 31) := by kernel_rfl
@[go_sem] theorem sz35 : szT Tryd.prog 35 = 1 := by kernel_rfl
@[go_sem] theorem by35 : bytesT Tryd.prog 35 = 8 := by kernel_rfl
@[go_sem] theorem ag35 : isAggT Tryd.prog 35 = some false := by kernel_rfl
@[go_sem] theorem zc35 : zeroC Tryd.prog 6 35 = some [.nilf] := by kernel_rfl
@[go_sem] theorem ni35 : noIntT Tryd.prog 35 = true := by kernel_rfl
@[go_sem] theorem sz36 : szT Tryd.prog 36 = 7 := by kernel_rfl
@[go_sem] theorem by36 : bytesT Tryd.prog 36 = 64 := by kernel_rfl
@[go_sem] theorem ag36 : isAggT Tryd.prog 36 = some true := by kernel_rfl
@[go_sem] theorem zc36 : zeroC Tryd.prog 6 36 = some [.str ⟨#[]⟩, .int .i64 (0), .int .i64 (0), .int .i64 (0), .int .i64 (0), .int .i64 (0), .int .i64 (0)] := by kernel_rfl
@[go_sem] theorem ni36 : noIntT Tryd.prog 36 = true := by kernel_rfl
@[go_sem] theorem fs36 : (fieldsT Tryd.prog 36).isSome = true := by kernel_rfl
@[go_sem] theorem fl36_0 : fldA Tryd.prog 36 0 = some (0, 9) := by kernel_rfl
@[go_sem] theorem fl36_1 : fldA Tryd.prog 36 1 = some (1, 3) := by kernel_rfl
@[go_sem] theorem fl36_2 : fldA Tryd.prog 36 2 = some (2, 3) := by kernel_rfl
@[go_sem] theorem fl36_3 : fldA Tryd.prog 36 3 = some (3, 3) := by kernel_rfl
@[go_sem] theorem fl36_4 : fldA Tryd.prog 36 4 = some (4, 3) := by kernel_rfl
@[go_sem] theorem fl36_5 : fldA Tryd.prog 36 5 = some (5, 3) := by kernel_rfl
@[go_sem] theorem fl36_6 : fldA Tryd.prog 36 6 = some (6, 3) := by kernel_rfl
@[go_sem] theorem sz37 : szT Tryd.prog 37 = 1 := by kernel_rfl
@[go_sem] theorem by37 : bytesT Tryd.prog 37 = 8 := by kernel_rfl
@[go_sem] theorem ag37 : isAggT Tryd.prog 37 = some false := by kernel_rfl
@[go_sem] theorem zc37 : zeroC Tryd.prog 6 37 = some [.nilf] := by kernel_rfl
@[go_sem] theorem ni37 : noIntT Tryd.prog 37 = true := by kernel_rfl
@[go_sem] theorem sz38 : szT Tryd.prog 38 = 1 := by kernel_rfl
@[go_sem] theorem by38 : bytesT Tryd.prog 38 = 8 := by kernel_rfl
@[go_sem] theorem ag38 : isAggT Tryd.prog 38 = some false := by kernel_rfl
@[go_sem] theorem zc38 : zeroC Tryd.prog 6 38 = some [.nilf] := by kernel_rfl
@[go_sem] theorem ni38 : noIntT Tryd.prog 38 = true := by kernel_rfl
@[go_sem] theorem sz39 : szT Tryd.prog 39 = 1 := by kernel_rfl
@[go_sem] theorem by39 : bytesT Tryd.prog 39 = 8 := by kernel_rfl
@[go_sem] theorem ag39 : isAggT Tryd.prog 39 = some false := by kernel_rfl
@[go_sem] theorem zc39 : zeroC Tryd.prog 6 39 = some [.nilf] := by kernel_rfl
@[go_sem] theorem ni39 : noIntT Tryd.prog 39 = true := by kernel_rfl
@[go_sem] theorem sz40 : szT Tryd.prog 40 = 1 := by kernel_rfl
@[go_sem] theorem by40 : bytesT Tryd.prog 40 = 8 := by kernel_rfl
@[go_sem] theorem ag40 : isAggT Tryd.prog 40 = some false := by kernel_rfl
@[go_sem] theorem zc40 : zeroC Tryd.prog 6 40 = some [.nilf] := by kernel_rfl
@[go_sem] theorem ni40 : noIntT Tryd.prog 40 = true := by kernel_rfl
@[go_sem] theorem sz41 : szT Tryd.prog 41 = 1 := by kernel_rfl
@[go_sem] theorem by41 : bytesT Tryd.prog 41 = 8 := by kernel_rfl
@[go_sem] theorem ag41 : isAggT Tryd.prog 41 = some false := by kernel_rfl
@[go_sem] theorem zc41 : zeroC Tryd.prog 6 41 = some [.nilf] := by kernel_rfl
@[go_sem] theorem ni41 : noIntT Tryd.prog 41 = true := by kernel_rfl
@[go_sem] theorem sz42 : szT Tryd.prog 42 = 1 := by kernel_rfl
@[go_sem] theorem by42 : bytesT Tryd.prog 42 = 8 := by kernel_rfl
@[go_sem] theorem ag42 : isAggT Tryd.prog 42 = some false := by kernel_rfl
@[go_sem] theorem zc42 : zeroC Tryd.prog 6 42 = some [.nilf] := by kernel_rfl
@[go_sem] theorem ni42 : noIntT Tryd.prog 42 = true := by kernel_rfl
@[go_sem] theorem sz43 : szT Tryd.prog 43 = 1 := by kernel_rfl
@[go_sem] theorem by43 : bytesT Tryd.prog 43 = 8 := by kernel_rfl
@[go_sem] theorem ag43 : isAggT Tryd.prog 43 = some false := by kernel_rfl
@[go_sem] theorem zc43 : zeroC Tryd.prog 6 43 = some [.nilf] := by kernel_rfl
@[go_sem] theorem ni43 : noIntT Tryd.prog 43 = true := by kernel_rfl
@[go_sem] theorem sz45 : szT Tryd.prog 45 = 1 := by kernel_rfl
@[go_sem] theorem by45 : bytesT Tryd.prog 45 = 8 := by kernel_rfl
@[go_sem] theorem ag45 : isAggT Tryd.prog 45 = some false := by kernel_rfl
@[go_sem] theorem zc45 : zeroC Tryd.prog 6 45 = some [.nilf] := by kernel_rfl
@[go_sem] theorem ni45 : noIntT Tryd.prog 45 = true := by kernel_rfl
@[go_sem] theorem sz46 : szT Tryd.prog 46 = 1 := by kernel_rfl
@[go_sem] theorem by46 : bytesT Tryd.prog 46 = 8 := by kernel_rfl
@[go_sem] theorem ag46 : isAggT Tryd.prog 46 = some false := by kernel_rfl
@[go_sem] theorem zc46 : zeroC Tryd.prog 6 46 = some [.nilf] := by kernel_rfl
@[go_sem] theorem ni46 : noIntT Tryd.prog 46 = true := by kernel_rfl
@[go_sem] theorem sz47 : szT Tryd.prog 47 = 1 := by kernel_rfl
@[go_sem] theorem by47 : bytesT Tryd.prog 47 = 8 := by kernel_rfl
@[go_sem] theorem ag47 : isAggT Tryd.prog 47 = some false := by kernel_rfl
@[go_sem] theorem zc47 : zeroC Tryd.prog 6 47 = some [.nilf] := by kernel_rfl
@[go_sem] theorem ni47 : noIntT Tryd.prog 47 = true := by kernel_rfl
@[go_sem] theorem sz48 : szT Tryd.prog 48 = 1 := by kernel_rfl
@[go_sem] theorem by48 : bytesT Tryd.prog 48 = 8 := by kernel_rfl
@[go_sem] theorem ag48 : isAggT Tryd.prog 48 = some false := by kernel_rfl
@[go_sem] theorem zc48 : zeroC Tryd.prog 6 48 = some [.nilf] := by kernel_rfl
@[go_sem] theorem ni48 : noIntT Tryd.prog 48 = true := by kernel_rfl
@[go_sem] theorem sz49 : szT Tryd.prog 49 = 1 := by kernel_rfl
@[go_sem] theorem by49 : bytesT Tryd.prog 49 = 8 := by kernel_rfl
@[go_sem] theorem ag49 : isAggT Tryd.prog 49 = some false := by kernel_rfl
@[go_sem] theorem zc49 : zeroC Tryd.prog 6 49 = some [.nilf] := by kernel_rfl
@[go_sem] theorem ni49 : noIntT Tryd.prog 49 = true := by kernel_rfl
@[go_sem] theorem sz50 : szT Tryd.prog 50 = 1 := by kernel_rfl
@[go_sem] theorem by50 : bytesT Tryd.prog 50 = 8 := by kernel_rfl
@[go_sem] theorem ag50 : isAggT Tryd.prog 50 = some false := by kernel_rfl
@[go_sem] theorem zc50 : zeroC Tryd.prog 6 50 = some [.nilf] := by kernel_rfl
@[go_sem] theorem ni50 : noIntT Tryd.prog 50 = true := by kernel_rfl
@[go_sem] theorem sz51 : szT Tryd.prog 51 = 1 := by kernel_rfl
@[go_sem] theorem by51 : bytesT Tryd.prog 51 = 8 := by kernel_rfl
@[go_sem] theorem ag51 : isAggT Tryd.prog 51 = some false := by kernel_rfl
@[go_sem] theorem zc51 : zeroC Tryd.prog 6 51 = some [.nilf] := by kernel_rfl
@[go_sem] theorem ni51 : noIntT Tryd.prog 51 = true := by kernel_rfl
@[go_sem] theorem sz52 : szT Tryd.prog 52 = 1 := by kernel_rfl
@[go_sem] theorem by52 : bytesT Tryd.prog 52 = 8 := by kernel_rfl
@[go_sem] theorem ag52 : isAggT Tryd.prog 52 = some false := by kernel_rfl
@[go_sem] theorem zc52 : zeroC Tryd.prog 6 52 = some [.nilf] := by kernel_rfl
@[go_sem] theorem ni52 : noIntT Tryd.prog 52 = true := by kernel_rfl
@[go_sem] theorem sz53 : szT Tryd.prog 53 = 1 := by kernel_rfl
@[go_sem] theorem by53 : bytesT Tryd.prog 53 = 8 := by kernel_rfl
@[go_sem] theorem ag53 : isAggT Tryd.prog 53 = some false := by kernel_rfl
@[go_sem] theorem zc53 : zeroC Tryd.prog 6 53 = some [.nilf] := by kernel_rfl
@[go_sem] theorem ni53 : noIntT Tryd.prog 53 = true := by kernel_rfl
@[go_sem] theorem sz54 : szT Tryd.prog 54 = 1 := by kernel_rfl
@[go_sem] theorem by54 : bytesT Tryd.prog 54 = 8 := by kernel_rfl
@[go_sem] theorem ag54 : isAggT Tryd.prog 54 = some false := by kernel_rfl
@[go_sem] theorem zc54 : zeroC Tryd.prog 6 54 = some [.nilf] := by kernel_rfl
@[go_sem] theorem ni54 : noIntT Tryd.prog 54 = true := by kernel_rfl
@[go_sem] theorem sz55 : szT Tryd.prog 55 = 1 := by kernel_rfl
@[go_sem] theorem by55 : bytesT Tryd.prog 55 = 8 := by kernel_rfl
@[go_sem] theorem ag55 : isAggT Tryd.prog 55 = some false := by kernel_rfl
@[go_sem] theorem zc55 : zeroC Tryd.prog 6 55 = some [.nilf] := by kernel_rfl
@[go_sem] theorem ni55 : noIntT Tryd.prog 55 = true := by kernel_rfl
@[go_sem] theorem sz56 : szT Tryd.prog 56 = 1 := by kernel_rfl
@[go_sem] theorem by56 : bytesT Tryd.prog 56 = 8 := by kernel_rfl
@[go_sem] theorem ag56 : isAggT Tryd.prog 56 = some false := by kernel_rfl
@[go_sem] theorem zc56 : zeroC Tryd.prog 6 56 = some [.nilf] := by kernel_rfl
@[go_sem] theorem ni56 : noIntT Tryd.prog 56 = true := by kernel_rfl
@[go_sem] theorem sz58 : szT Tryd.prog 58 = 1 := by kernel_rfl
@[go_sem] theorem by58 : bytesT Tryd.prog 58 = 8 := by kernel_rfl
@[go_sem] theorem ag58 : isAggT Tryd.prog 58 = some false := by kernel_rfl
@[go_sem] theorem zc58 : zeroC Tryd.prog 6 58 = some [.nilf] := by kernel_rfl
@[go_sem] theorem ni58 : noIntT Tryd.prog 58 = true := by kernel_rfl
@[go_sem] theorem sz59 : szT Tryd.prog 59 = 1 := by kernel_rfl
@[go_sem] theorem by59 : bytesT Tryd.prog 59 = 8 := by kernel_rfl
@[go_sem] theorem ag59 : isAggT Tryd.prog 59 = some false := by kernel_rfl
@[go_sem] theorem zc59 : zeroC Tryd.prog 6 59 = some [.nilf] := by kernel_rfl
@[go_sem] theorem ni59 : noIntT Tryd.prog 59 = true := by kernel_rfl
@[go_sem] theorem sz60 : szT Tryd.prog 60 = 1 := by kernel_rfl
@[go_sem] theorem by60 : bytesT Tryd.prog 60 = 8 := by kernel_rfl
@[go_sem] theorem ag60 : isAggT Tryd.prog 60 = some false := by kernel_rfl
@[go_sem] theorem zc60 : zeroC Tryd.prog 6 60 = some [.nilf] := by kernel_rfl
@[go_sem] theorem ni60 : noIntT Tryd.prog 60 = true := by kernel_rfl
@[go_sem] theorem sz61 : szT Tryd.prog 61 = 1 := by kernel_rfl
@[go_sem] theorem by61 : bytesT Tryd.prog 61 = 8 := by kernel_rfl
@[go_sem] theorem ag61 : isAggT Tryd.prog 61 = some false := by kernel_rfl
@[go_sem] theorem zc61 : zeroC Tryd.prog 6 61 = some [.nilf] := by kernel_rfl
@[go_sem] theorem ni61 : noIntT Tryd.prog 61 = true := by kernel_rfl
@[go_sem] theorem sz63 : szT Tryd.prog 63 = 1 := by kernel_rfl
@[go_sem] theorem by63 : bytesT Tryd.prog 63 = 8 := by kernel_rfl
@[go_sem] theorem ag63 : isAggT Tryd.prog 63 = some false := by kernel_rfl
@[go_sem] theorem zc63 : zeroC Tryd.prog 6 63 = some [.nilf] := by kernel_rfl
@[go_sem] theorem ni63 : noIntT Tryd.prog 63 = true := by kernel_rfl
@[go_sem] theorem sz64 : szT Tryd.prog 64 = 1 := by kernel_rfl
@[go_sem] theorem by64 : bytesT Tryd.prog 64 = 8 := by kernel_rfl
@[go_sem] theorem ag64 : isAggT Tryd.prog 64 = some false := by kernel_rfl
@[go_sem] theorem zc64 : zeroC Tryd.prog 6 64 = some [.nilf] := by kernel_rfl
@[go_sem] theorem ni64 : noIntT Tryd.prog 64 = true := by kernel_rfl
@[go_sem] theorem sz65 : szT Tryd.prog 65 = 1 := by kernel_rfl
@[go_sem] theorem by65 : bytesT Tryd.prog 65 = 8 := by kernel_rfl
@[go_sem] theorem ag65 : isAggT Tryd.prog 65 = some false := by kernel_rfl
@[go_sem] theorem zc65 : zeroC Tryd.prog 6 65 = some [.nilf] := by kernel_rfl
@[go_sem] theorem ni65 : noIntT Tryd.prog 65 = true := by kernel_rfl
@[go_sem] theorem sz66 : szT Tryd.prog 66 = 1 := by kernel_rfl
@[go_sem] theorem by66 : bytesT Tryd.prog 66 = 8 := by kernel_rfl
@[go_sem] theorem ag66 : isAggT Tryd.prog 66 = some false := by kernel_rfl
@[go_sem] theorem zc66 : zeroC Tryd.prog 6 66 = some [.nilf] := by kernel_rfl
@[go_sem] theorem ni66 : noIntT Tryd.prog 66 = true := by kernel_rfl
@[go_sem] theorem sz67 : szT Tryd.prog 67 = 1 := by kernel_rfl
@[go_sem] theorem by67 : bytesT Tryd.prog 67 = 8 := by kernel_rfl
@[go_sem] theorem ag67 : isAggT Tryd.prog 67 = some false := by kernel_rfl
@[go_sem] theorem zc67 : zeroC Tryd.prog 6 67 = some [.nilf] := by kernel_rfl
@[go_sem] theorem ni67 : noIntT Tryd.prog 67 = true := by kernel_rfl
@[go_sem] theorem sz68 : szT Tryd.prog 68 = 1 := by kernel_rfl
@[go_sem] theorem by68 : bytesT Tryd.prog 68 = 8 := by kernel_rfl
@[go_sem] theorem ag68 : isAggT Tryd.prog 68 = some false := by kernel_rfl
@[go_sem] theorem zc68 : zeroC Tryd.prog 6 68 = some [.nilf] := by kernel_rfl
@[go_sem] theorem ni68 : noIntT Tryd.prog 68 = true := by kernel_rfl
@[go_sem] theorem sz69 : szT Tryd.prog 69 = 1 := by kernel_rfl
@[go_sem] theorem by69 : bytesT Tryd.prog 69 = 8 := by kernel_rfl
@[go_sem] theorem ag69 : isAggT Tryd.prog 69 = some false := by kernel_rfl
@[go_sem] theorem zc69 : zeroC Tryd.prog 6 69 = some [.nilf] := by kernel_rfl
@[go_sem] theorem ni69 : noIntT Tryd.prog 69 = true := by kernel_rfl
@[go_sem] theorem sz70 : szT Tryd.prog 70 = 1 := by kernel_rfl
@[go_sem] theorem by70 : bytesT Tryd.prog 70 = 8 := by kernel_rfl
@[go_sem] theorem ag70 : isAggT Tryd.prog 70 = some false := by kernel_rfl
@[go_sem] theorem zc70 : zeroC Tryd.prog 6 70 = some [.nilf] := by kernel_rfl
@[go_sem] theorem ni70 : noIntT Tryd.prog 70 = true := by kernel_rfl
@[go_sem] theorem sz71 : szT Tryd.prog 71 = 1 := by kernel_rfl
@[go_sem] theorem by71 : bytesT Tryd.prog 71 = 8 := by kernel_rfl
@[go_sem] theorem ag71 : isAggT Tryd.prog 71 = some false := by kernel_rfl
@[go_sem] theorem zc71 : zeroC Tryd.prog 6 71 = some [.int .u64 (0)] := by kernel_rfl
@[go_sem] theorem ni71 : noIntT Tryd.prog 71 = false := by kernel_rfl
@[go_sem] theorem sz72 : szT Tryd.prog 72 = 1 := by kernel_rfl
@[go_sem] theorem by72 : bytesT Tryd.prog 72 = 8 := by kernel_rfl
@[go_sem] theorem ag72 : isAggT Tryd.prog 72 = some false := by kernel_rfl
@[go_sem] theorem zc72 : zeroC Tryd.prog 6 72 = some [.nilf] := by kernel_rfl
@[go_sem] theorem ni72 : noIntT Tryd.prog 72 = true := by kernel_rfl
@[go_sem] theorem sz73 : szT Tryd.prog 73 = 1 := by kernel_rfl
@[go_sem] theorem by73 : bytesT Tryd.prog 73 = 8 := by kernel_rfl
@[go_sem] theorem ag73 : isAggT Tryd.prog 73 = some false := by kernel_rfl
@[go_sem] theorem zc73 : zeroC Tryd.prog 6 73 = some [.int .u64 (0)] := by kernel_rfl
@[go_sem] theorem ni73 : noIntT Tryd.prog 73 = false := by kernel_rfl
@[go_sem] theorem sz74 : szT Tryd.prog 74 = 1 := by kernel_rfl
@[go_sem] theorem by74 : bytesT Tryd.prog 74 = 8 := by kernel_rfl
@[go_sem] theorem ag74 : isAggT Tryd.prog 74 = some false := by kernel_rfl
@[go_sem] theorem zc74 : zeroC Tryd.prog 6 74 = some [.nilf] := by kernel_rfl
@[go_sem] theorem ni74 : noIntT Tryd.prog 74 = true := by kernel_rfl
@[go_sem] theorem sz75 : szT Tryd.prog 75 = 1 := by kernel_rfl
@[go_sem] theorem by75 : bytesT Tryd.prog 75 = 8 := by kernel_rfl
@[go_sem] theorem ag75 : isAggT Tryd.prog 75 = some false := by kernel_rfl
@[go_sem] theorem zc75 : zeroC Tryd.prog 6 75 = some [.nilf] := by kernel_rfl
@[go_sem] theorem ni75 : noIntT Tryd.prog 75 = true := by kernel_rfl
@[go_sem] theorem sz77 : szT Tryd.prog 77 = 1 := by kernel_rfl
@[go_sem] theorem by77 : bytesT Tryd.prog 77 = 8 := by kernel_rfl
@[go_sem] theorem ag77 : isAggT Tryd.prog 77 = some false := by kernel_rfl
@[go_sem] theorem zc77 : zeroC Tryd.prog 6 77 = some [.nilf] := by kernel_rfl
@[go_sem] theorem ni77 : noIntT Tryd.prog 77 = true := by kernel_rfl
@[go_sem] theorem sz78 : szT Tryd.prog 78 = 1 := by kernel_rfl
@[go_sem] theorem by78 : bytesT Tryd.prog 78 = 24 := by kernel_rfl
@[go_sem] theorem ag78 : isAggT Tryd.prog 78 = some false := by kernel_rfl
@[go_sem] theorem zc78 : zeroC Tryd.prog 6 78 = some [.nils 1] := by kernel_rfl
@[go_sem] theorem ni78 : noIntT Tryd.prog 78 = true := by kernel_rfl
@[go_sem] theorem el78 : elemT Tryd.prog 78 = some 5 := by kernel_rfl
@[go_sem] theorem sz79 : szT Tryd.prog 79 = 1 := by kernel_rfl
@[go_sem] theorem by79 : bytesT Tryd.prog 79 = 8 := by kernel_rfl
@[go_sem] theorem ag79 : isAggT Tryd.prog 79 = some false := by kernel_rfl
@[go_sem] theorem zc79 : zeroC Tryd.prog 6 79 = some [.nilf] := by kernel_rfl
@[go_sem] theorem ni79 : noIntT Tryd.prog 79 = true := by kernel_rfl
@[go_sem] theorem sz80 : szT Tryd.prog 80 = 1 := by kernel_rfl
@[go_sem] theorem by80 : bytesT Tryd.prog 80 = 8 := by kernel_rfl
@[go_sem] theorem ag80 : isAggT Tryd.prog 80 = some false := by kernel_rfl
@[go_sem] theorem zc80 : zeroC Tryd.prog 6 80 = some [.nilf] := by kernel_rfl
@[go_sem] theorem ni80 : noIntT Tryd.prog 80 = true := by kernel_rfl
@[go_sem] theorem sz81 : szT Tryd.prog 81 = 1 := by kernel_rfl
@[go_sem] theorem by81 : bytesT Tryd.prog 81 = 8 := by kernel_rfl
@[go_sem] theorem ag81 : isAggT Tryd.prog 81 = some false := by kernel_rfl
@[go_sem] theorem zc81 : zeroC Tryd.prog 6 81 = some [.nilf] := by kernel_rfl
@[go_sem] theorem ni81 : noIntT Tryd.prog 81 = true := by kernel_rfl
@[go_sem] theorem sz82 : szT Tryd.prog 82 = 7 := by kernel_rfl
@[go_sem] theorem by82 : bytesT Tryd.prog 82 = 56 := by kernel_rfl
@[go_sem] theorem ag82 : isAggT Tryd.prog 82 = some true := by kernel_rfl
@[go_sem] theorem zc82 : zeroC Tryd.prog 6 82 = some [.int .i64 (0), .int .i64 (0), .int .i64 (0), .int .i64 (0), .int .i64 (0), .int .i64 (0), .int .i64 (0)] := by kernel_rfl
@[go_sem] theorem ni82 : noIntT Tryd.prog 82 = true := by kernel_rfl
@[go_sem] theorem sz83 : szT Tryd.prog 83 = 1 := by kernel_rfl
@[go_sem] theorem by83 : bytesT Tryd.prog 83 = 8 := by kernel_rfl
@[go_sem] theorem ag83 : isAggT Tryd.prog 83 = some false := by kernel_rfl
@[go_sem] theorem zc83 : zeroC Tryd.prog 6 83 = some [.nilf] := by kernel_rfl
@[go_sem] theorem ni83 : noIntT Tryd.prog 83 = true := by kernel_rfl
@[go_sem] theorem sz84 : szT Tryd.prog 84 = 1 := by kernel_rfl
@[go_sem] theorem by84 : bytesT Tryd.prog 84 = 8 := by kernel_rfl
@[go_sem] theorem ag84 : isAggT Tryd.prog 84 = some false := by kernel_rfl
@[go_sem] theorem zc84 : zeroC Tryd.prog 6 84 = some [.nilf] := by kernel_rfl
@[go_sem] theorem ni84 : noIntT Tryd.prog 84 = true := by kernel_rfl
@[go_sem] theorem sz85 : szT Tryd.prog 85 = 1 := by kernel_rfl
@[go_sem] theorem by85 : bytesT Tryd.prog 85 = 8 := by kernel_rfl
@[go_sem] theorem ag85 : isAggT Tryd.prog 85 = some false := by kernel_rfl
@[go_sem] theorem zc85 : zeroC Tryd.prog 6 85 = some [.nilf] := by kernel_rfl
@[go_sem] theorem ni85 : noIntT Tryd.prog 85 = true := by kernel_rfl
@[go_sem] theorem sz86 : szT Tryd.prog 86 = 1 := by kernel_rfl
@[go_sem] theorem by86 : bytesT Tryd.prog 86 = 24 := by kernel_rfl
@[go_sem] theorem ag86 : isAggT Tryd.prog 86 = some false := by kernel_rfl
@[go_sem] theorem zc86 : zeroC Tryd.prog 6 86 = some [.nils 1] := by kernel_rfl
@[go_sem] theorem ni86 : noIntT Tryd.prog 86 = true := by kernel_rfl
@[go_sem] theorem el86 : elemT Tryd.prog 86 = some 3 := by kernel_rfl
@[go_sem] theorem sz87 : szT Tryd.prog 87 = 1 := by kernel_rfl
@[go_sem] theorem by87 : bytesT Tryd.prog 87 = 8 := by kernel_rfl
@[go_sem] theorem ag87 : isAggT Tryd.prog 87 = some false := by kernel_rfl
@[go_sem] theorem zc87 : zeroC Tryd.prog 6 87 = some [.nilf] := by kernel_rfl
@[go_sem] theorem ni87 : noIntT Tryd.prog 87 = true := by kernel_rfl
@[go_sem] theorem sz88 : szT Tryd.prog 88 = 4 := by kernel_rfl
@[go_sem] theorem by88 : bytesT Tryd.prog 88 = 40 := by kernel_rfl
@[go_sem] theorem ag88 : isAggT Tryd.prog 88 = some true := by kernel_rfl
@[go_sem] theorem zc88 : zeroC Tryd.prog 6 88 = some [.nilp, .nilp, .nilp, .str ⟨#[]⟩] := by kernel_rfl
@[go_sem] theorem ni88 : noIntT Tryd.prog 88 = true := by kernel_rfl
@[go_sem] theorem fs88 : (fieldsT Tryd.prog 88).isSome = true := by kernel_rfl
@[go_sem] theorem fl88_0 : fldA Tryd.prog 88 0 = some (0, 17) := by kernel_rfl
@[go_sem] theorem fl88_1 : fldA Tryd.prog 88 1 = some (1, 17) := by kernel_rfl
@[go_sem] theorem fl88_2 : fldA Tryd.prog 88 2 = some (2, 17) := by kernel_rfl
@[go_sem] theorem fl88_3 : fldA Tryd.prog 88 3 = some (3, 9) := by kernel_rfl
@[go_sem] theorem sz89 : szT Tryd.prog 89 = 4 := by kernel_rfl
@[go_sem] theorem by89 : bytesT Tryd.prog 89 = 40 := by kernel_rfl
@[go_sem] theorem ag89 : isAggT Tryd.prog 89 = some true := by kernel_rfl
@[go_sem] theorem zc89 : zeroC Tryd.prog 6 89 = some [.nilp, .nilp, .nilp, .str ⟨#[]⟩] := by kernel_rfl
@[go_sem] theorem ni89 : noIntT Tryd.prog 89 = true := by kernel_rfl
@[go_sem] theorem fs89 : (fieldsT Tryd.prog 89).isSome = true := by kernel_rfl
@[go_sem] theorem fl89_0 : fldA Tryd.prog 89 0 = some (0, 17) := by kernel_rfl
@[go_sem] theorem fl89_1 : fldA Tryd.prog 89 1 = some (1, 17) := by kernel_rfl
@[go_sem] theorem fl89_2 : fldA Tryd.prog 89 2 = some (2, 17) := by kernel_rfl
@[go_sem] theorem fl89_3 : fldA Tryd.prog 89 3 = some (3, 9) := by kernel_rfl
@[go_sem] theorem sz90 : szT Tryd.prog 90 = 0 := by kernel_rfl
@[go_sem] theorem by90 : bytesT Tryd.prog 90 = 0 := by kernel_rfl
@[go_sem] theorem ag90 : isAggT Tryd.prog 90 = some true := by kernel_rfl
@[go_sem] theorem zc90 : zeroC Tryd.prog 6 90 = some [] := by kernel_rfl
@[go_sem] theorem ni90 : noIntT Tryd.prog 90 = true := by kernel_rfl
@[go_sem] theorem sz91 : szT Tryd.prog 91 = 0 := by kernel_rfl
@[go_sem] theorem by91 : bytesT Tryd.prog 91 = 0 := by kernel_rfl
@[go_sem] theorem ag91 : isAggT Tryd.prog 91 = some true := by kernel_rfl
@[go_sem] theorem zc91 : zeroC Tryd.prog 6 91 = some [] := by kernel_rfl
@[go_sem] theorem ni91 : noIntT Tryd.prog 91 = true := by kernel_rfl
@[go_sem] theorem fs91 : (fieldsT Tryd.prog 91).isSome = true := by kernel_rfl
@[go_sem] theorem fl91_0 : fldA Tryd.prog 91 0 = some (0, 90) := by kernel_rfl
@[go_sem] theorem sz92 : szT Tryd.prog 92 = 0 := by kernel_rfl
@[go_sem] theorem by92 : bytesT Tryd.prog 92 = 0 := by kernel_rfl
@[go_sem] theorem ag92 : isAggT Tryd.prog 92 = some true := by kernel_rfl
@[go_sem] theorem zc92 : zeroC Tryd.prog 6 92 = some [] := by kernel_rfl
@[go_sem] theorem ni92 : noIntT Tryd.prog 92 = true := by kernel_rfl
@[go_sem] theorem fs92 : (fieldsT Tryd.prog 92).isSome = true := by kernel_rfl
@[go_sem] theorem fl92_0 : fldA Tryd.prog 92 0 = some (0, 90) := by kernel_rfl
@[go_sem] theorem sz93 : szT Tryd.prog 93 = 1 := by kernel_rfl
@[go_sem] theorem by93 : bytesT Tryd.prog 93 = 8 := by kernel_rfl
@[go_sem] theorem ag93 : isAggT Tryd.prog 93 = some false := by kernel_rfl
@[go_sem] theorem zc93 : zeroC Tryd.prog 6 93 = some [.nilf] := by kernel_rfl
@[go_sem] theorem ni93 : noIntT Tryd.prog 93 = true := by kernel_rfl
@[go_sem] theorem sz94 : szT Tryd.prog 94 = 1 := by kernel_rfl
@[go_sem] theorem by94 : bytesT Tryd.prog 94 = 4 := by kernel_rfl
@[go_sem] theorem ag94 : isAggT Tryd.prog 94 = some false := by kernel_rfl
@[go_sem] theorem zc94 : zeroC Tryd.prog 6 94 = some [.int .u32 (0)] := by kernel_rfl
@[go_sem] theorem ni94 : noIntT Tryd.prog 94 = false := by kernel_rfl
@[go_sem] theorem sz95 : szT Tryd.prog 95 = 1 := by kernel_rfl
@[go_sem] theorem by95 : bytesT Tryd.prog 95 = 1 := by kernel_rfl
@[go_sem] theorem ag95 : isAggT Tryd.prog 95 = some false := by kernel_rfl
@[go_sem] theorem zc95 : zeroC Tryd.prog 6 95 = some [.int .u8 (0)] := by kernel_rfl
@[go_sem] theorem ni95 : noIntT Tryd.prog 95 = false := by kernel_rfl
@[go_sem] theorem sz96 : szT Tryd.prog 96 = 1 := by kernel_rfl
@[go_sem] theorem by96 : bytesT Tryd.prog 96 = 1 := by kernel_rfl
@[go_sem] theorem ag96 : isAggT Tryd.prog 96 = some false := by kernel_rfl
@[go_sem] theorem zc96 : zeroC Tryd.prog 6 96 = some [.int .u8 (0)] := by kernel_rfl
@[go_sem] theorem ni96 : noIntT Tryd.prog 96 = false := by kernel_rfl
@[go_sem] theorem sz97 : szT Tryd.prog 97 = 1 := by kernel_rfl
@[go_sem] theorem by97 : bytesT Tryd.prog 97 = 8 := by kernel_rfl
@[go_sem] theorem ag97 : isAggT Tryd.prog 97 = some false := by kernel_rfl
@[go_sem] theorem zc97 : zeroC Tryd.prog 6 97 = some [.nilf] := by kernel_rfl
@[go_sem] theorem ni97 : noIntT Tryd.prog 97 = true := by kernel_rfl
@[go_sem] theorem sz98 : szT Tryd.prog 98 = 1 := by kernel_rfl
@[go_sem] theorem by98 : bytesT Tryd.prog 98 = 8 := by kernel_rfl
@[go_sem] theorem ag98 : isAggT Tryd.prog 98 = some false := by kernel_rfl
@[go_sem] theorem zc98 : zeroC Tryd.prog 6 98 = some [.nilp] := by kernel_rfl
@[go_sem] theorem ni98 : noIntT Tryd.prog 98 = true := by kernel_rfl
@[go_sem] theorem sz99 : szT Tryd.prog 99 = 1 := by kernel_rfl
@[go_sem] theorem by99 : bytesT Tryd.prog 99 = 4 := by kernel_rfl
@[go_sem] theorem ag99 : isAggT Tryd.prog 99 = some false := by kernel_rfl
@[go_sem] theorem zc99 : zeroC Tryd.prog 6 99 = some [.int .i32 (0)] := by kernel_rfl
@[go_sem] theorem ni99 : noIntT Tryd.prog 99 = false := by kernel_rfl
@[go_sem] theorem sz100 : szT Tryd.prog 100 = 1 := by kernel_rfl
@[go_sem] theorem by100 : bytesT Tryd.prog 100 = 4 := by kernel_rfl
@[go_sem] theorem ag100 : isAggT Tryd.prog 100 = some false := by kernel_rfl
@[go_sem] theorem zc100 : zeroC Tryd.prog 6 100 = some [.int .i32 (0)] := by kernel_rfl
@[go_sem] theorem ni100 : noIntT Tryd.prog 100 = false := by kernel_rfl
@[go_sem] theorem sz101 : szT Tryd.prog 101 = 11 := by kernel_rfl
@[go_sem] theorem by101 : bytesT Tryd.prog 101 = 48 := by kernel_rfl
@[go_sem] theorem ag101 : isAggT Tryd.prog 101 = some true := by kernel_rfl
@[go_sem] theorem zc101 : zeroC Tryd.prog 6 101 = some [.int .u64 (0), .int .u64 (0), .int .u32 (0), .int .u8 (0), .int .u8 (0), .int .u8 (0), .int .u8 (0), .nilf, .nilp, .int .i32 (0), .int .i32 (0)] := by kernel_rfl
@[go_sem] theorem ni101 : noIntT Tryd.prog 101 = true := by kernel_rfl
@[go_sem] theorem fs101 : (fieldsT Tryd.prog 101).isSome = true := by kernel_rfl
@[go_sem] theorem fl101_0 : fldA Tryd.prog 101 0 = some (0, 12) := by kernel_rfl
@[go_sem] theorem fl101_1 : fldA Tryd.prog 101 1 = some (1, 12) := by kernel_rfl
@[go_sem] theorem fl101_2 : fldA Tryd.prog 101 2 = some (2, 94) := by kernel_rfl
@[go_sem] theorem fl101_3 : fldA Tryd.prog 101 3 = some (3, 95) := by kernel_rfl
@[go_sem] theorem fl101_4 : fldA Tryd.prog 101 4 = some (4, 5) := by kernel_rfl
@[go_sem] theorem fl101_5 : fldA Tryd.prog 101 5 = some (5, 5) := by kernel_rfl
@[go_sem] theorem fl101_6 : fldA Tryd.prog 101 6 = some (6, 96) := by kernel_rfl
@[go_sem] theorem fl101_7 : fldA Tryd.prog 101 7 = some (7, 97) := by kernel_rfl
@[go_sem] theorem fl101_8 : fldA Tryd.prog 101 8 = some (8, 98) := by kernel_rfl
@[go_sem] theorem fl101_9 : fldA Tryd.prog 101 9 = some (9, 99) := by kernel_rfl
@[go_sem] theorem fl101_10 : fldA Tryd.prog 101 10 = some (10, 100) := by kernel_rfl
@[go_sem] theorem sz102 : szT Tryd.prog 102 = 11 := by kernel_rfl
@[go_sem] theorem by102 : bytesT Tryd.prog 102 = 48 := by kernel_rfl
@[go_sem] theorem ag102 : isAggT Tryd.prog 102 = some true := by kernel_rfl
@[go_sem] theorem zc102 : zeroC Tryd.prog 6 102 = some [.int .u64 (0), .int .u64 (0), .int .u32 (0), .int .u8 (0), .int .u8 (0), .int .u8 (0), .int .u8 (0), .nilf, .nilp, .int .i32 (0), .int .i32 (0)] := by kernel_rfl
@[go_sem] theorem ni102 : noIntT Tryd.prog 102 = true := by kernel_rfl
@[go_sem] theorem fs102 : (fieldsT Tryd.prog 102).isSome = true := by kernel_rfl
@[go_sem] theorem fl102_0 : fldA Tryd.prog 102 0 = some (0, 12) := by kernel_rfl
@[go_sem] theorem fl102_1 : fldA Tryd.prog 102 1 = some (1, 12) := by kernel_rfl
@[go_sem] theorem fl102_2 : fldA Tryd.prog 102 2 = some (2, 94) := by kernel_rfl
@[go_sem] theorem fl102_3 : fldA Tryd.prog 102 3 = some (3, 95) := by kernel_rfl
@[go_sem] theorem fl102_4 : fldA Tryd.prog 102 4 = some (4, 5) := by kernel_rfl
@[go_sem] theorem fl102_5 : fldA Tryd.prog 102 5 = some (5, 5) := by kernel_rfl
@[go_sem] theorem fl102_6 : fldA Tryd.prog 102 6 = some (6, 96) := by kernel_rfl
@[go_sem] theorem fl102_7 : fldA Tryd.prog 102 7 = some (7, 97) := by kernel_rfl
@[go_sem] theorem fl102_8 : fldA Tryd.prog 102 8 = some (8, 98) := by kernel_rfl
@[go_sem] theorem fl102_9 : fldA Tryd.prog 102 9 = some (9, 99) := by kernel_rfl
@[go_sem] theorem fl102_10 : fldA Tryd.prog 102 10 = some (10, 100) := by kernel_rfl
@[go_sem] theorem sz103 : szT Tryd.prog 103 = 1 := by kernel_rfl
@[go_sem] theorem by103 : bytesT Tryd.prog 103 = 8 := by kernel_rfl
@[go_sem] theorem ag103 : isAggT Tryd.prog 103 = some false := by kernel_rfl
@[go_sem] theorem zc103 : zeroC Tryd.prog 6 103 = some [.nilf] := by kernel_rfl
@[go_sem] theorem ni103 : noIntT Tryd.prog 103 = true := by kernel_rfl
@[go_sem] theorem sz105 : szT Tryd.prog 105 = 3 := by kernel_rfl
@[go_sem] theorem by105 : bytesT Tryd.prog 105 = 24 := by kernel_rfl
@[go_sem] theorem ag105 : isAggT Tryd.prog 105 = some true := by kernel_rfl
@[go_sem] theorem zc105 : zeroC Tryd.prog 6 105 = some [.int .i64 (0), .bool false, .int .i64 (0)] := by kernel_rfl
@[go_sem] theorem ni105 : noIntT Tryd.prog 105 = true := by kernel_rfl
@[go_sem] theorem fs105 : (fieldsT Tryd.prog 105).isSome = true := by kernel_rfl
@[go_sem] theorem fl105_0 : fldA Tryd.prog 105 0 = some (0, 3) := by kernel_rfl
@[go_sem] theorem fl105_1 : fldA Tryd.prog 105 1 = some (1, 4) := by kernel_rfl
@[go_sem] theorem fl105_2 : fldA Tryd.prog 105 2 = some (2, 3) := by kernel_rfl
@[go_sem] theorem sz106 : szT Tryd.prog 106 = 3 := by kernel_rfl
@[go_sem] theorem by106 : bytesT Tryd.prog 106 = 24 := by kernel_rfl
@[go_sem] theorem ag106 : isAggT Tryd.prog 106 = some true := by kernel_rfl
@[go_sem] theorem zc106 : zeroC Tryd.prog 6 106 = some [.int .i64 (0), .bool false, .int .i64 (0)] := by kernel_rfl
@[go_sem] theorem ni106 : noIntT Tryd.prog 106 = true := by kernel_rfl
@[go_sem] theorem fs106 : (fieldsT Tryd.prog 106).isSome = true := by kernel_rfl
@[go_sem] theorem fl106_0 : fldA Tryd.prog 106 0 = some (0, 3) := by kernel_rfl
@[go_sem] theorem fl106_1 : fldA Tryd.prog 106 1 = some (1, 4) := by kernel_rfl
@[go_sem] theorem fl106_2 : fldA Tryd.prog 106 2 = some (2, 3) := by kernel_rfl
attribute [go_sem] Tryd.underlying1 Tryd.underlying2 Tryd.underlying3 Tryd.underlying4 Tryd.underlying5 Tryd.underlying6 Tryd.underlying7 Tryd.underlying8 Tryd.underlying9 Tryd.underlying10 Tryd.underlying11 Tryd.underlying12 Tryd.underlying13 Tryd.underlying14 Tryd.underlying15 Tryd.underlying16 Tryd.underlying17 Tryd.underlying18 Tryd.underlying19 Tryd.underlying21 Tryd.underlying22 Tryd.underlying23 Tryd.underlying24 Tryd.underlying25 Tryd.underlying26 Tryd.underlying27 Tryd.underlying28 Tryd.underlying29 Tryd.underlying30 Tryd.underlying31 Tryd.underlying32 Tryd.underlying33 Tryd.underlying35 Tryd.underlying36 Tryd.underlying37 Tryd.underlying38 Tryd.underlying39 Tryd.underlying40 Tryd.underlying41 Tryd.underlying42 Tryd.underlying43 Tryd.underlying45 Tryd.underlying46 Tryd.underlying47 Tryd.underlying48 Tryd.underlying49 Tryd.underlying50 Tryd.underlying51 Tryd.underlying52 Tryd.underlying53 Tryd.underlying54 Tryd.underlying55 Tryd.underlying56 Tryd.underlying58 Tryd.underlying59 Tryd.underlying60 Tryd.underlying61 Tryd.underlying63 Tryd.underlying64 Tryd.underlying65 Tryd.underlying66 Tryd.underlying67 Tryd.underlying68 Tryd.underlying69 Tryd.underlying70 Tryd.underlying71 Tryd.underlying72 Tryd.underlying73 Tryd.underlying74 Tryd.underlying75 Tryd.underlying77 Tryd.underlying78 Tryd.underlying79 Tryd.underlying80 Tryd.underlying81 Tryd.underlying82 Tryd.underlying83 Tryd.underlying84 Tryd.underlying85 Tryd.underlying86 Tryd.underlying87 Tryd.underlying88 Tryd.underlying89 Tryd.underlying90 Tryd.underlying91 Tryd.underlying92 Tryd.underlying93 Tryd.underlying94 Tryd.underlying95 Tryd.underlying96 Tryd.underlying97 Tryd.underlying98 Tryd.underlying99 Tryd.underlying100 Tryd.underlying101 Tryd.underlying102 Tryd.underlying103 Tryd.underlying105 Tryd.underlying106
end Go.Ev.Tryd
