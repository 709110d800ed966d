/- Part of the proof of a statement about the given program: EvTyZD. No condition of its own. -/
import Derived.Test.YtmnpcdchlobdlaaGreatDoorProg
import Derived.Test.YtmnpcdchlobdlaaGreatDoorEvSym
namespace Go.Ev.Tryz
open Go.Proofs
set_option maxRecDepth 100000
@[go_sem] theorem sz1 : szT Tryz.prog 1 = 1 := by kernel_rfl
@[go_sem] theorem by1 : bytesT Tryz.prog 1 = 8 := by kernel_rfl
@[go_sem] theorem ag1 : isAggT Tryz.prog 1 = some false := by kernel_rfl
@[go_sem] theorem zc1 : zeroC Tryz.prog 6 1 = some [.nilf] := by kernel_rfl
@[go_sem] theorem ni1 : noIntT Tryz.prog 1 = true := by kernel_rfl
@[go_sem] theorem sz2 : szT Tryz.prog 2 = 1 := by kernel_rfl
@[go_sem] theorem by2 : bytesT Tryz.prog 2 = 8 := by kernel_rfl
@[go_sem] theorem ag2 : isAggT Tryz.prog 2 = some false := by kernel_rfl
@[go_sem] theorem zc2 : zeroC Tryz.prog 6 2 = some [.int .i64 (0)] := by kernel_rfl
@[go_sem] theorem ni2 : noIntT Tryz.prog 2 = false := by kernel_rfl
@[go_sem] theorem sz3 : szT Tryz.prog 3 = 1 := by kernel_rfl
@[go_sem] theorem by3 : bytesT Tryz.prog 3 = 8 := by kernel_rfl
@[go_sem] theorem ag3 : isAggT Tryz.prog 3 = some false := by kernel_rfl
@[go_sem] theorem zc3 : zeroC Tryz.prog 6 3 = some [.int .i64 (0)] := by kernel_rfl
@[go_sem] theorem ni3 : noIntT Tryz.prog 3 = false := by kernel_rfl
@[go_sem] theorem sz4 : szT Tryz.prog 4 = 1 := by kernel_rfl
@[go_sem] theorem by4 : bytesT Tryz.prog 4 = 1 := by kernel_rfl
@[go_sem] theorem ag4 : isAggT Tryz.prog 4 = some false := by kernel_rfl
@[go_sem] theorem zc4 : zeroC Tryz.prog 6 4 = some [.bool false] := by kernel_rfl
@[go_sem] theorem ni4 : noIntT Tryz.prog 4 = true := by kernel_rfl
@[go_sem] theorem sz5 : szT Tryz.prog 5 = 1 := by kernel_rfl
@[go_sem] theorem by5 : bytesT Tryz.prog 5 = 1 := by kernel_rfl
@[go_sem] theorem ag5 : isAggT Tryz.prog 5 = some false := by kernel_rfl
@[go_sem] theorem zc5 : zeroC Tryz.prog 6 5 = some [.int .u8 (0)] := by kernel_rfl
@[go_sem] theorem ni5 : noIntT Tryz.prog 5 = false := by kernel_rfl
@[go_sem] theorem sz6 : szT Tryz.prog 6 = 1 := by kernel_rfl
@[go_sem] theorem by6 : bytesT Tryz.prog 6 = 1 := by kernel_rfl
@[go_sem] theorem ag6 : isAggT Tryz.prog 6 = some false := by kernel_rfl
@[go_sem] theorem zc6 : zeroC Tryz.prog 6 6 = some [.int .u8 (0)] := by kernel_rfl
@[go_sem] theorem ni6 : noIntT Tryz.prog 6 = false := by kernel_rfl
@[go_sem] theorem sz7 : szT Tryz.prog 7 = 4 := by kernel_rfl
@[go_sem] theorem by7 : bytesT Tryz.prog 7 = 24 := by kernel_rfl
@[go_sem] theorem ag7 : isAggT Tryz.prog 7 = some true := by kernel_rfl
@[go_sem] theorem zc7 : zeroC Tryz.prog 6 7 = some [.int .i64 (0), .int .i64 (0), .bool false, .int .u8 (0)] := by kernel_rfl
@[go_sem] theorem ni7 : noIntT Tryz.prog 7 = true := by kernel_rfl
@[go_sem] theorem fs7 : (fieldsT Tryz.prog 7).isSome = true := by kernel_rfl
@[go_sem] theorem fl7_0 : fldA Tryz.prog 7 0 = some (0, 2) := by kernel_rfl
@[go_sem] theorem fl7_1 : fldA Tryz.prog 7 1 = some (1, 3) := by kernel_rfl
@[go_sem] theorem fl7_2 : fldA Tryz.prog 7 2 = some (2, 4) := by kernel_rfl
@[go_sem] theorem fl7_3 : fldA Tryz.prog 7 3 = some (3, 6) := by kernel_rfl
@[go_sem] theorem sz8 : szT Tryz.prog 8 = 4 := by kernel_rfl
@[go_sem] theorem by8 : bytesT Tryz.prog 8 = 24 := by kernel_rfl
@[go_sem] theorem ag8 : isAggT Tryz.prog 8 = some true := by kernel_rfl
@[go_sem] theorem zc8 : zeroC Tryz.prog 6 8 = some [.int .i64 (0), .int .i64 (0), .bool false, .int .u8 (0)] := by kernel_rfl
@[go_sem] theorem ni8 : noIntT Tryz.prog 8 = true := by kernel_rfl
@[go_sem] theorem fs8 : (fieldsT Tryz.prog 8).isSome = true := by kernel_rfl
@[go_sem] theorem fl8_0 : fldA Tryz.prog 8 0 = some (0, 2) := by kernel_rfl
@[go_sem] theorem fl8_1 : fldA Tryz.prog 8 1 = some (1, 3) := by kernel_rfl
@[go_sem] theorem fl8_2 : fldA Tryz.prog 8 2 = some (2, 4) := by kernel_rfl
@[go_sem] theorem fl8_3 : fldA Tryz.prog 8 3 = some (3, 6) := by kernel_rfl
@[go_sem] theorem sz9 : szT Tryz.prog 9 = 1 := by kernel_rfl
@[go_sem] theorem by9 : bytesT Tryz.prog 9 = 16 := by kernel_rfl
@[go_sem] theorem ag9 : isAggT Tryz.prog 9 = some false := by kernel_rfl
@[go_sem] theorem zc9 : zeroC Tryz.prog 6 9 = some [.str ⟨#[]⟩] := by kernel_rfl
@[go_sem] theorem ni9 : noIntT Tryz.prog 9 = true := by kernel_rfl
@[go_sem] theorem sz10 : szT Tryz.prog 10 = 1 := by kernel_rfl
@[go_sem] theorem by10 : bytesT Tryz.prog 10 = 16 := by kernel_rfl
@[go_sem] theorem ag10 : isAggT Tryz.prog 10 = some false := by kernel_rfl
@[go_sem] theorem zc10 : zeroC Tryz.prog 6 10 = some [.str ⟨#[]⟩] := by kernel_rfl
@[go_sem] theorem ni10 : noIntT Tryz.prog 10 = true := by kernel_rfl
@[go_sem] theorem sz11 : szT Tryz.prog 11 = 1 := by kernel_rfl
@[go_sem] theorem by11 : bytesT Tryz.prog 11 = 16 := by kernel_rfl
@[go_sem] theorem ag11 : isAggT Tryz.prog 11 = some false := by kernel_rfl
@[go_sem] theorem zc11 : zeroC Tryz.prog 6 11 = some [.str ⟨#[]⟩] := by kernel_rfl
@[go_sem] theorem ni11 : noIntT Tryz.prog 11 = true := by kernel_rfl
@[go_sem] theorem sz12 : szT Tryz.prog 12 = 1 := by kernel_rfl
@[go_sem] theorem by12 : bytesT Tryz.prog 12 = 8 := by kernel_rfl
@[go_sem] theorem ag12 : isAggT Tryz.prog 12 = some false := by kernel_rfl
@[go_sem] theorem zc12 : zeroC Tryz.prog 6 12 = some [.int .u64 (0)] := by kernel_rfl
@[go_sem] theorem ni12 : noIntT Tryz.prog 12 = false := by kernel_rfl
@[go_sem] theorem sz13 : szT Tryz.prog 13 = 2 := by kernel_rfl
@[go_sem] theorem by13 : bytesT Tryz.prog 13 = 24 := by kernel_rfl
@[go_sem] theorem ag13 : isAggT Tryz.prog 13 = some true := by kernel_rfl
@[go_sem] theorem zc13 : zeroC Tryz.prog 6 13 = some [.str ⟨#[]⟩, .int .u64 (0)] := by kernel_rfl
@[go_sem] theorem ni13 : noIntT Tryz.prog 13 = true := by kernel_rfl
@[go_sem] theorem fs13 : (fieldsT Tryz.prog 13).isSome = true := by kernel_rfl
@[go_sem] theorem fl13_0 : fldA Tryz.prog 13 0 = some (0, 9) := by kernel_rfl
@[go_sem] theorem fl13_1 : fldA Tryz.prog 13 1 = some (1, 12) := by kernel_rfl
@[go_sem] theorem sz14 : szT Tryz.prog 14 = 2 := by kernel_rfl
@[go_sem] theorem by14 : bytesT Tryz.prog 14 = 24 := by kernel_rfl
@[go_sem] theorem ag14 : isAggT Tryz.prog 14 = some true := by kernel_rfl
@[go_sem] theorem zc14 : zeroC Tryz.prog 6 14 = some [.str ⟨#[]⟩, .int .u64 (0)] := by kernel_rfl
@[go_sem] theorem ni14 : noIntT Tryz.prog 14 = true := by kernel_rfl
@[go_sem] theorem fs14 : (fieldsT Tryz.prog 14).isSome = true := by kernel_rfl
@[go_sem] theorem fl14_0 : fldA Tryz.prog 14 0 = some (0, 9) := by kernel_rfl
@[go_sem] theorem fl14_1 : fldA Tryz.prog 14 1 = some (1, 12) := by kernel_rfl
@[go_sem] theorem sz15 : szT Tryz.prog 15 = 1 := by kernel_rfl
@[go_sem] theorem by15 : bytesT Tryz.prog 15 = 8 := by kernel_rfl
@[go_sem] theorem ag15 : isAggT Tryz.prog 15 = some false := by kernel_rfl
@[go_sem] theorem zc15 : zeroC Tryz.prog 6 15 = some [.nilp] := by kernel_rfl
@[go_sem] theorem ni15 : noIntT Tryz.prog 15 = true := by kernel_rfl
@[go_sem] theorem sz16 : szT Tryz.prog 16 = 1 := by kernel_rfl
@[go_sem] theorem by16 : bytesT Tryz.prog 16 = 8 := by kernel_rfl
@[go_sem] theorem ag16 : isAggT Tryz.prog 16 = some false := by kernel_rfl
@[go_sem] theorem zc16 : zeroC Tryz.prog 6 16 = some [.nilp] := by kernel_rfl
@[go_sem] theorem ni16 : noIntT Tryz.prog 16 = true := by kernel_rfl
@[go_sem] theorem sz17 : szT Tryz.prog 17 = 1 := by kernel_rfl
@[go_sem] theorem by17 : bytesT Tryz.prog 17 = 8 := by kernel_rfl
@[go_sem] theorem ag17 : isAggT Tryz.prog 17 = some false := by kernel_rfl
@[go_sem] theorem zc17 : zeroC Tryz.prog 6 17 = some [.nilp] := by kernel_rfl
@[go_sem] theorem ni17 : noIntT Tryz.prog 17 = true := by kernel_rfl
@[go_sem] theorem sz18 : szT Tryz.prog 18 = 1 := by kernel_rfl
@[go_sem] theorem by18 : bytesT Tryz.prog 18 = 8 := by kernel_rfl
@[go_sem] theorem ag18 : isAggT Tryz.prog 18 = some true := by kernel_rfl
@[go_sem] theorem zc18 : zeroC Tryz.prog 6 18 = some [.nilp] := by kernel_rfl
@[go_sem] theorem ni18 : noIntT Tryz.prog 18 = true := by kernel_rfl
@[go_sem] theorem fs18 : (fieldsT Tryz.prog 18).isSome = true := by kernel_rfl
@[go_sem] theorem fl18_0 : fldA Tryz.prog 18 0 = some (0, 17) := by kernel_rfl
@[go_sem] theorem sz19 : szT Tryz.prog 19 = 1 := by kernel_rfl
@[go_sem] theorem by19 : bytesT Tryz.prog 19 = 8 := by kernel_rfl
@[go_sem] theorem ag19 : isAggT Tryz.prog 19 = some true := by kernel_rfl
@[go_sem] theorem zc19 : zeroC Tryz.prog 6 19 = some [.nilp] := by kernel_rfl
@[go_sem] theorem ni19 : noIntT Tryz.prog 19 = true := by kernel_rfl
@[go_sem] theorem fs19 : (fieldsT Tryz.prog 19).isSome = true := by kernel_rfl
@[go_sem] theorem fl19_0 : fldA Tryz.prog 19 0 = some (0, 17) := by kernel_rfl
@[go_sem] theorem sz21 : szT Tryz.prog 21 = 1 := by kernel_rfl
@[go_sem] theorem by21 : bytesT Tryz.prog 21 = 4 := by kernel_rfl
@[go_sem] theorem ag21 : isAggT Tryz.prog 21 = some false := by kernel_rfl
@[go_sem] theorem zc21 : zeroC Tryz.prog 6 21 = some [.int .i32 (0)] := by kernel_rfl
@[go_sem] theorem ni21 : noIntT Tryz.prog 21 = false := by kernel_rfl
@[go_sem] theorem sz22 : szT Tryz.prog 22 = 1 := by kernel_rfl
@[go_sem] theorem by22 : bytesT Tryz.prog 22 = 24 := by kernel_rfl
@[go_sem] theorem ag22 : isAggT Tryz.prog 22 = some false := by kernel_rfl
@[go_sem] theorem zc22 : zeroC Tryz.prog 6 22 = some [.nils 1] := by kernel_rfl
@[go_sem] theorem ni22 : noIntT Tryz.prog 22 = true := by kernel_rfl
@[go_sem] theorem el22 : elemT Tryz.prog 22 = some 5 := by kernel_rfl
@[go_sem] theorem sz23 : szT Tryz.prog 23 = 1 := by kernel_rfl
@[go_sem] theorem by23 : bytesT Tryz.prog 23 = 24 := by kernel_rfl
@[go_sem] theorem ag23 : isAggT Tryz.prog 23 = some false := by kernel_rfl
@[go_sem] theorem zc23 : zeroC Tryz.prog 6 23 = some [.nils 5] := by kernel_rfl
@[go_sem] theorem ni23 : noIntT Tryz.prog 23 = true := by kernel_rfl
@[go_sem] theorem el23 : elemT Tryz.prog 23 = some 26 := by kernel_rfl
@[go_sem] theorem sz24 : szT Tryz.prog 24 = 1 := by kernel_rfl
@[go_sem] theorem by24 : bytesT Tryz.prog 24 = 24 := by kernel_rfl
@[go_sem] theorem ag24 : isAggT Tryz.prog 24 = some false := by kernel_rfl
@[go_sem] theorem zc24 : zeroC Tryz.prog 6 24 = some [.nils 1] := by kernel_rfl
@[go_sem] theorem ni24 : noIntT Tryz.prog 24 = true := by kernel_rfl
@[go_sem] theorem el24 : elemT Tryz.prog 24 = some 9 := by kernel_rfl
@[go_sem] theorem sz25 : szT Tryz.prog 25 = 5 := by kernel_rfl
@[go_sem] theorem by25 : bytesT Tryz.prog 25 = 80 := by kernel_rfl
@[go_sem] theorem ag25 : isAggT Tryz.prog 25 = some true := by kernel_rfl
@[go_sem] theorem zc25 : zeroC Tryz.prog 6 25 = some [.int .i64 (0), .int .i64 (0), .str ⟨#[]⟩, .nils 5, .nils 1] := by kernel_rfl
@[go_sem] theorem ni25 : noIntT Tryz.prog 25 = true := by kernel_rfl
@[go_sem] theorem fs25 : (fieldsT Tryz.prog 25).isSome = true := by kernel_rfl
@[go_sem] theorem fl25_0 : fldA Tryz.prog 25 0 = some (0, 3) := by kernel_rfl
@[go_sem] theorem fl25_1 : fldA Tryz.prog 25 1 = some (1, 3) := by kernel_rfl
@[go_sem] theorem fl25_2 : fldA Tryz.prog 25 2 = some (2, 9) := by kernel_rfl
@[go_sem] theorem fl25_3 : fldA Tryz.prog 25 3 = some (3, 23) := by kernel_rfl
@[go_sem] theorem fl25_4 : fldA Tryz.prog 25 4 = some (4, 24) := by kernel_rfl
@[go_sem] theorem sz26 : szT Tryz.prog 26 = 5 := by kernel_rfl
@[go_sem] theorem by26 : bytesT Tryz.prog 26 = 80 := by kernel_rfl
@[go_sem] theorem ag26 : isAggT Tryz.prog 26 = some true := by kernel_rfl
@[go_sem] theorem zc26 : zeroC Tryz.prog 6 26 = some [.int .i64 (0), .int .i64 (0), .str ⟨#[]⟩, .nils 5, .nils 1] := by kernel_rfl
@[go_sem] theorem ni26 : noIntT Tryz.prog 26 = true := by kernel_rfl
@[go_sem] theorem fs26 : (fieldsT Tryz.prog 26).isSome = true := by kernel_rfl
@[go_sem] theorem fl26_0 : fldA Tryz.prog 26 0 = some (0, 3) := by kernel_rfl
@[go_sem] theorem fl26_1 : fldA Tryz.prog 26 1 = some (1, 3) := by kernel_rfl
@[go_sem] theorem fl26_2 : fldA Tryz.prog 26 2 = some (2, 9) := by kernel_rfl
@[go_sem] theorem fl26_3 : fldA Tryz.prog 26 3 = some (3, 23) := by kernel_rfl
@[go_sem] theorem fl26_4 : fldA Tryz.prog 26 4 = some (4, 24) := by kernel_rfl
@[go_sem] theorem sz28 : szT Tryz.prog 28 = 1 := by kernel_rfl
@[go_sem] theorem by28 : bytesT Tryz.prog 28 = 8 := by kernel_rfl
@[go_sem] theorem ag28 : isAggT Tryz.prog 28 = some false := by kernel_rfl
@[go_sem] theorem zc28 : zeroC Tryz.prog 6 28 = some [.nilf] := by kernel_rfl
@[go_sem] theorem ni28 : noIntT Tryz.prog 28 = true := by kernel_rfl
@[go_sem] theorem sz29 : szT Tryz.prog 29 = 1 := by kernel_rfl
@[go_sem] theorem by29 : bytesT Tryz.prog 29 = 24 := by kernel_rfl
@[go_sem] theorem ag29 : isAggT Tryz.prog 29 = some false := by kernel_rfl
@[go_sem] theorem zc29 : zeroC Tryz.prog 6 29 = some [.nils 1] := by kernel_rfl
@[go_sem] theorem ni29 : noIntT Tryz.prog 29 = true := by kernel_rfl
@[go_sem] theorem el29 : elemT Tryz.prog 29 = some 24 := by kernel_rfl
@[go_sem] theorem sz30 : szT Tryz.prog 30 = 1 := by kernel_rfl
@[go_sem] theorem by30 : bytesT Tryz.prog 30 = 8 := by kernel_rfl
@[go_sem] theorem ag30 : isAggT Tryz.prog 30 = some false := by kernel_rfl
@[go_sem] theorem zc30 : zeroC Tryz.prog 6 30 = some [.nilf] := by kernel_rfl
@[go_sem] theorem ni30 : noIntT Tryz.prog 30 = true := by kernel_rfl
@[go_sem] theorem sz32 : szT Tryz.prog 32 = 1 := by kernel_rfl
@[go_sem] theorem by32 : bytesT Tryz.prog 32 = 8 := by kernel_rfl
@[go_sem] theorem ag32 : isAggT Tryz.prog 32 = some false := by kernel_rfl
@[go_sem] theorem zc32 : zeroC Tryz.prog 6 32 = some [.nilf] := by kernel_rfl
@[go_sem] theorem ni32 : noIntT Tryz.prog 32 = true := by kernel_rfl
@[go_sem] theorem sz33 : szT Tryz.prog 33 = 1 := by kernel_rfl
@[go_sem] theorem by33 : bytesT Tryz.prog 33 = 8 := by kernel_rfl
@[go_sem] theorem ag33 : isAggT Tryz.prog 33 = some false := by kernel_rfl
@[go_sem] theorem zc33 : zeroC Tryz.prog 6 33 = some [.nilf] := by kernel_rfl
@[go_sem] theorem ni33 : noIntT Tryz.prog 33 = true := by kernel_rfl
@[go_sem] theorem sz34 : szT Tryz.prog 34 = 1 := by kernel_rfl
@[go_sem] theorem by34 : bytesT Tryz.prog 34 = 8 := by kernel_rfl
@[go_sem] theorem ag34 : isAggT Tryz.prog 34 = some false := by kernel_rfl
@[go_sem] theorem zc34 : zeroC Tryz.prog 6 34 = some [.nilf] := by kernel_rfl
@[go_sem] theorem ni34 : noIntT Tryz.prog 34 = true := by kernel_rfl
@[go_sem] theorem sz35 : szT Tryz.prog 35 = 1 := by kernel_rfl
@[go_sem] theorem by35 : bytesT Tryz.prog 35 = 8 := by kernel_rfl
@[go_sem] theorem ag35 : isAggT Tryz.prog 35 = some false := by kernel_rfl
@[go_sem] theorem zc35 : zeroC Tryz.prog 6 35 = some [.nilf] := by kernel_rfl
@[go_sem] theorem ni35 : noIntT Tryz.prog 35 = true := by kernel_rfl
@[go_sem] theorem sz36 : szT Tryz.prog 36 = 1 := by kernel_rfl
@[go_sem] theorem by36 : bytesT Tryz.prog 36 = 8 := by kernel_rfl
@[go_sem] theorem ag36 : isAggT Tryz.prog 36 = some false := by kernel_rfl
@[go_sem] theorem zc36 : zeroC Tryz.prog 6 36 = some [.nilf] := by kernel_rfl
@[go_sem] theorem ni36 : noIntT Tryz.prog 36 = true := by kernel_rfl
@[go_sem] theorem sz37 : szT Tryz.prog 37 = 1 := by kernel_rfl
@[go_sem] theorem by37 : bytesT Tryz.prog 37 = 8 := by kernel_rfl
@[go_sem] theorem ag37 : isAggT Tryz.prog 37 = some false := by kernel_rfl
@[go_sem] theorem zc37 : zeroC Tryz.prog 6 37 = some [.nilp] := by kernel_rfl
@[go_sem] theorem ni37 : noIntT Tryz.prog 37 = true := by kernel_rfl
@[go_sem] theorem sz38 : szT Tryz.prog 38 = 1 := by kernel_rfl
@[go_sem] theorem by38 : bytesT Tryz.prog 38 = 8 := by kernel_rfl
@[go_sem] theorem ag38 : isAggT Tryz.prog 38 = some false := by kernel_rfl
@[go_sem] theorem zc38 : zeroC Tryz.prog 6 38 = some [.nilf] := by kernel_rfl
@[go_sem] theorem ni38 : noIntT Tryz.prog 38 = true := by kernel_rfl
@[go_sem] theorem sz39 : szT Tryz.prog 39 = 1 := by kernel_rfl
@[go_sem] theorem by39 : bytesT Tryz.prog 39 = 24 := by kernel_rfl
@[go_sem] theorem ag39 : isAggT Tryz.prog 39 = some false := by kernel_rfl
@[go_sem] theorem zc39 : zeroC Tryz.prog 6 39 = some [.nils 2] := by kernel_rfl
@[go_sem] theorem ni39 : noIntT Tryz.prog 39 = true := by kernel_rfl
@[go_sem] theorem el39 : elemT Tryz.prog 39 = some 49 := by kernel_rfl
@[go_sem] theorem sz40 : szT Tryz.prog 40 = 1 := by kernel_rfl
@[go_sem] theorem by40 : bytesT Tryz.prog 40 = 24 := by kernel_rfl
@[go_sem] theorem ag40 : isAggT Tryz.prog 40 = some false := by kernel_rfl
@[go_sem] theorem zc40 : zeroC Tryz.prog 6 40 = some [.nils 2] := by kernel_rfl
@[go_sem] theorem ni40 : noIntT Tryz.prog 40 = true := by kernel_rfl
@[go_sem] theorem el40 : elemT Tryz.prog 40 = some 92 := by kernel_rfl
@[go_sem] theorem sz41 : szT Tryz.prog 41 = 2 := by kernel_rfl
@[go_sem] theorem by41 : bytesT Tryz.prog 41 = 48 := by kernel_rfl
@[go_sem] theorem ag41 : isAggT Tryz.prog 41 = some true := by kernel_rfl
@[go_sem] theorem zc41 : zeroC Tryz.prog 6 41 = some [.nils 2, .nils 2] := by kernel_rfl
@[go_sem] theorem ni41 : noIntT Tryz.prog 41 = true := by kernel_rfl
@[go_sem] theorem fs41 : (fieldsT Tryz.prog 41).isSome = true := by kernel_rfl
@[go_sem] theorem fl41_0 : fldA Tryz.prog 41 0 = some (0, 39) := by kernel_rfl
@[go_sem] theorem fl41_1 : fldA Tryz.prog 41 1 = some (1, 40) := by kernel_rfl
@[go_sem] theorem sz42 : szT Tryz.prog 42 = 2 := by kernel_rfl
@[go_sem] theorem by42 : bytesT Tryz.prog 42 = 48 := by kernel_rfl
@[go_sem] theorem ag42 : isAggT Tryz.prog 42 = some true := by kernel_rfl
@[go_sem] theorem zc42 : zeroC Tryz.prog 6 42 = some [.nils 2, .nils 2] := by kernel_rfl
@[go_sem] theorem ni42 : noIntT Tryz.prog 42 = true := by kernel_rfl
@[go_sem] theorem fs42 : (fieldsT Tryz.prog 42).isSome = true := by kernel_rfl
@[go_sem] theorem fl42_0 : fldA Tryz.prog 42 0 = some (0, 39) := by kernel_rfl
@[go_sem] theorem fl42_1 : fldA Tryz.prog 42 1 = some (1, 40) := by kernel_rfl
@[go_sem] theorem sz44 : szT Tryz.prog 44 = 1 := by kernel_rfl
@[go_sem] theorem by44 : bytesT Tryz.prog 44 = 8 := by kernel_rfl
@[go_sem] theorem ag44 : isAggT Tryz.prog 44 = some false := by kernel_rfl
@[go_sem] theorem zc44 : zeroC Tryz.prog 6 44 = some [.nilf] := by kernel_rfl
@[go_sem] theorem ni44 : noIntT Tryz.prog 44 = true := by kernel_rfl
@[go_sem] theorem sz45 : szT Tryz.prog 45 = 1 := by kernel_rfl
@[go_sem] theorem by45 : bytesT Tryz.prog 45 = 8 := by kernel_rfl
@[go_sem] theorem ag45 : isAggT Tryz.prog 45 = some false := by kernel_rfl
@[go_sem] theorem zc45 : zeroC Tryz.prog 6 45 = some [.nilf] := by kernel_rfl
@[go_sem] theorem ni45 : noIntT Tryz.prog 45 = true := by kernel_rfl
@[go_sem] theorem sz46 : szT Tryz.prog 46 = 1 := by kernel_rfl
@[go_sem] theorem by46 : bytesT Tryz.prog 46 = 8 := by kernel_rfl
@[go_sem] theorem ag46 : isAggT Tryz.prog 46 = some false := by kernel_rfl
@[go_sem] theorem zc46 : zeroC Tryz.prog 6 46 = some [.nilf] := by kernel_rfl
@[go_sem] theorem ni46 : noIntT Tryz.prog 46 = true := by kernel_rfl
@[go_sem] theorem sz47 : szT Tryz.prog 47 = 1 := by kernel_rfl
@[go_sem] theorem by47 : bytesT Tryz.prog 47 = 24 := by kernel_rfl
@[go_sem] theorem ag47 : isAggT Tryz.prog 47 = some false := by kernel_rfl
@[go_sem] theorem zc47 : zeroC Tryz.prog 6 47 = some [.nils 6] := by kernel_rfl
@[go_sem] theorem ni47 : noIntT Tryz.prog 47 = true := by kernel_rfl
@[go_sem] theorem el47 : elemT Tryz.prog 47 = some 68 := by kernel_rfl
@[go_sem] theorem sz48 : szT Tryz.prog 48 = 2 := by kernel_rfl
@[go_sem] theorem by48 : bytesT Tryz.prog 48 = 40 := by kernel_rfl
@[go_sem] theorem ag48 : isAggT Tryz.prog 48 = some true := by kernel_rfl
@[go_sem] theorem zc48 : zeroC Tryz.prog 6 48 = some [.str ⟨#[]⟩, .nils 6] := by kernel_rfl
@[go_sem] theorem ni48 : noIntT Tryz.prog 48 = true := by kernel_rfl
@[go_sem] theorem fs48 : (fieldsT Tryz.prog 48).isSome = true := by kernel_rfl
@[go_sem] theorem fl48_0 : fldA Tryz.prog 48 0 = some (0, 9) := by kernel_rfl
@[go_sem] theorem fl48_1 : fldA Tryz.prog 48 1 = some (1, 47) := by kernel_rfl
@[go_sem] theorem sz49 : szT Tryz.prog 49 = 2 := by kernel_rfl
@[go_sem] theorem by49 : bytesT Tryz.prog 49 = 40 := by kernel_rfl
@[go_sem] theorem ag49 : isAggT Tryz.prog 49 = some true := by kernel_rfl
@[go_sem] theorem zc49 : zeroC Tryz.prog 6 49 = some [.str ⟨#[]⟩, .nils 6] := by kernel_rfl
@[go_sem] theorem ni49 : noIntT Tryz.prog 49 = true := by kernel_rfl
@[go_sem] theorem fs49 : (fieldsT Tryz.prog 49).isSome = true := by kernel_rfl
@[go_sem] theorem fl49_0 : fldA Tryz.prog 49 0 = some (0, 9) := by kernel_rfl
@[go_sem] theorem fl49_1 : fldA Tryz.prog 49 1 = some (1, 47) := by kernel_rfl
@[go_sem] theorem sz50 : szT Tryz.prog 50 = 1 := by kernel_rfl
@[go_sem] theorem by50 : bytesT Tryz.prog 50 = 8 := by kernel_rfl
@[go_sem] theorem ag50 : isAggT Tryz.prog 50 = some false := by kernel_rfl
@[go_sem] theorem zc50 : zeroC Tryz.prog 6 50 = some [.nilf] := by kernel_rfl
@[go_sem] theorem ni50 : noIntT Tryz.prog 50 = true := by kernel_rfl
@[go_sem] theorem sz51 : szT Tryz.prog 51 = 1 := by kernel_rfl
@[go_sem] theorem by51 : bytesT Tryz.prog 51 = 8 := by kernel_rfl
@[go_sem] theorem ag51 : isAggT Tryz.prog 51 = some false := by kernel_rfl
@[go_sem] theorem zc51 : zeroC Tryz.prog 6 51 = some [.nilf] := by kernel_rfl
@[go_sem] theorem ni51 : noIntT Tryz.prog 51 = true := by kernel_rfl
@[go_sem] theorem sz52 : szT Tryz.prog 52 = 1 := by kernel_rfl
@[go_sem] theorem by52 : bytesT Tryz.prog 52 = 8 := by kernel_rfl
@[go_sem] theorem ag52 : isAggT Tryz.prog 52 = some false := by kernel_rfl
@[go_sem] theorem zc52 : zeroC Tryz.prog 6 52 = some [.nilf] := by kernel_rfl
@[go_sem] theorem ni52 : noIntT Tryz.prog 52 = true := by kernel_rfl
@[go_sem] theorem sz53 : szT Tryz.prog 53 = 1 := by kernel_rfl
@[go_sem] theorem by53 : bytesT Tryz.prog 53 = 8 := by kernel_rfl
@[go_sem] theorem ag53 : isAggT Tryz.prog 53 = some false := by kernel_rfl
@[go_sem] theorem zc53 : zeroC Tryz.prog 6 53 = some [.nilf] := by kernel_rfl
@[go_sem] theorem ni53 : noIntT Tryz.prog 53 = true := by kernel_rfl
@[go_sem] theorem sz54 : szT Tryz.prog 54 = 1 := by kernel_rfl
@[go_sem] theorem by54 : bytesT Tryz.prog 54 = 8 := by kernel_rfl
@[go_sem] theorem ag54 : isAggT Tryz.prog 54 = some false := by kernel_rfl
@[go_sem] theorem zc54 : zeroC Tryz.prog 6 54 = some [.nilf] := by kernel_rfl
@[go_sem] theorem ni54 : noIntT Tryz.prog 54 = true := by kernel_rfl
@[go_sem] theorem sz55 : szT Tryz.prog 55 = 1 := by kernel_rfl
@[go_sem] theorem by55 : bytesT Tryz.prog 55 = 8 := by kernel_rfl
@[go_sem] theorem ag55 : isAggT Tryz.prog 55 = some false := by kernel_rfl
@[go_sem] theorem zc55 : zeroC Tryz.prog 6 55 = some [.nilp] := by kernel_rfl
@[go_sem] theorem ni55 : noIntT Tryz.prog 55 = true := by kernel_rfl
@[go_sem] theorem sz56 : szT Tryz.prog 56 = 1 := by kernel_rfl
@[go_sem] theorem by56 : bytesT Tryz.prog 56 = 8 := by kernel_rfl
@[go_sem] theorem ag56 : isAggT Tryz.prog 56 = some false := by kernel_rfl
@[go_sem] theorem zc56 : zeroC Tryz.prog 6 56 = some [.nilf] := by kernel_rfl
@[go_sem] theorem ni56 : noIntT Tryz.prog 56 = true := by kernel_rfl
@[go_sem] theorem sz57 : szT Tryz.prog 57 = 1 := by kernel_rfl
@[go_sem] theorem by57 : bytesT Tryz.prog 57 = 8 := by kernel_rfl
@[go_sem] theorem ag57 : isAggT Tryz.prog 57 = some false := by kernel_rfl
@[go_sem] theorem zc57 : zeroC Tryz.prog 6 57 = some [.nilf] := by kernel_rfl
@[go_sem] theorem ni57 : noIntT Tryz.prog 57 = true := by kernel_rfl
@[go_sem] theorem sz58 : szT Tryz.prog 58 = 1 := by kernel_rfl
@[go_sem] theorem by58 : bytesT Tryz.prog 58 = 8 := by kernel_rfl
@[go_sem] theorem ag58 : isAggT Tryz.prog 58 = some false := by kernel_rfl
@[go_sem] theorem zc58 : zeroC Tryz.prog 6 58 = some [.nilf] := by kernel_rfl
@[go_sem] theorem ni58 : noIntT Tryz.prog 58 = true := by kernel_rfl
@[go_sem] theorem sz59 : szT Tryz.prog 59 = 2 := by kernel_rfl
@[go_sem] theorem by59 : bytesT Tryz.prog 59 = 32 := by kernel_rfl
@[go_sem] theorem ag59 : isAggT Tryz.prog 59 = some true := by kernel_rfl
@[go_sem] theorem zc59 : zeroC Tryz.prog 6 59 = some [.nils 1, .int .i64 (0)] := by kernel_rfl
@[go_sem] theorem ni59 : noIntT Tryz.prog 59 = true := by kernel_rfl
@[go_sem] theorem fs59 : (fieldsT Tryz.prog 59).isSome = true := by kernel_rfl
@[go_sem] theorem fl59_0 : fldA Tryz.prog 59 0 = some (0, 22) := by kernel_rfl
@[go_sem] theorem fl59_1 : fldA Tryz.prog 59 1 = some (1, 3) := by kernel_rfl
@[go_sem] theorem sz60 : szT Tryz.prog 60 = 2 := by kernel_rfl
@[go_sem] theorem by60 : bytesT Tryz.prog 60 = 32 := by kernel_rfl
@[go_sem] theorem ag60 : isAggT Tryz.prog 60 = some true := by kernel_rfl
@[go_sem] theorem zc60 : zeroC Tryz.prog 6 60 = some [.nils 1, .int .i64 (0)] := by kernel_rfl
@[go_sem] theorem ni60 : noIntT Tryz.prog 60 = true := by kernel_rfl
@[go_sem] theorem fs60 : (fieldsT Tryz.prog 60).isSome = true := by kernel_rfl
@[go_sem] theorem fl60_0 : fldA Tryz.prog 60 0 = some (0, 22) := by kernel_rfl
@[go_sem] theorem fl60_1 : fldA Tryz.prog 60 1 = some (1, 3) := by kernel_rfl
@[go_sem] theorem sz61 : szT Tryz.prog 61 = 1 := by kernel_rfl
@[go_sem] theorem by61 : bytesT Tryz.prog 61 = 8 := by kernel_rfl
@[go_sem] theorem ag61 : isAggT Tryz.prog 61 = some false := by kernel_rfl
@[go_sem] theorem zc61 : zeroC Tryz.prog 6 61 = some [.nilf] := by kernel_rfl
@[go_sem] theorem ni61 : noIntT Tryz.prog 61 = true := by kernel_rfl
@[go_sem] theorem sz62 : szT Tryz.prog 62 = 1 := by kernel_rfl
@[go_sem] theorem by62 : bytesT Tryz.prog 62 = 8 := by kernel_rfl
@[go_sem] theorem ag62 : isAggT Tryz.prog 62 = some false := by kernel_rfl
@[go_sem] theorem zc62 : zeroC Tryz.prog 6 62 = some [.nilf] := by kernel_rfl
@[go_sem] theorem ni62 : noIntT Tryz.prog 62 = true := by kernel_rfl
@[go_sem] theorem sz63 : szT Tryz.prog 63 = 1 := by kernel_rfl
@[go_sem] theorem by63 : bytesT Tryz.prog 63 = 24 := by kernel_rfl
@[go_sem] theorem ag63 : isAggT Tryz.prog 63 = some false := by kernel_rfl
@[go_sem] theorem zc63 : zeroC Tryz.prog 6 63 = some [.nils 3] := by kernel_rfl
@[go_sem] theorem ni63 : noIntT Tryz.prog 63 = true := by kernel_rfl
@[go_sem] theorem el63 : elemT Tryz.prog 63 = some 95 := by kernel_rfl
@[go_sem] theorem sz64 : szT Tryz.prog 64 = 1 := by kernel_rfl
@[go_sem] theorem by64 : bytesT Tryz.prog 64 = 8 := by kernel_rfl
@[go_sem] theorem ag64 : isAggT Tryz.prog 64 = some false := by kernel_rfl
@[go_sem] theorem zc64 : zeroC Tryz.prog 6 64 = some [.nilf] := by kernel_rfl
@[go_sem] theorem ni64 : noIntT Tryz.prog 64 = true := by kernel_rfl
@[go_sem] theorem sz65 : szT Tryz.prog 65 = 2 := by kernel_rfl
@[go_sem] theorem by65 : bytesT Tryz.prog 65 = 24 := by kernel_rfl
@[go_sem] theorem ag65 : isAggT Tryz.prog 65 = some true := by kernel_rfl
@[go_sem] theorem zc65 : zeroC Tryz.prog 6 65 = some [.str ⟨#[]⟩, .bool false] := by kernel_rfl
@[go_sem] theorem ni65 : noIntT Tryz.prog 65 = true := by kernel_rfl
@[go_sem] theorem fs65 : (fieldsT Tryz.prog 65).isSome = true := by kernel_rfl
@[go_sem] theorem fl65_0 : fldA Tryz.prog 65 0 = some (0, 9) := by kernel_rfl
@[go_sem] theorem fl65_1 : fldA Tryz.prog 65 1 = some (1, 4) := by kernel_rfl
@[go_sem] theorem sz66 : szT Tryz.prog 66 = 2 := by kernel_rfl
@[go_sem] theorem by66 : bytesT Tryz.prog 66 = 24 := by kernel_rfl
@[go_sem] theorem ag66 : isAggT Tryz.prog 66 = some true := by kernel_rfl
@[go_sem] theorem zc66 : zeroC Tryz.prog 6 66 = some [.str ⟨#[]⟩, .bool false] := by kernel_rfl
@[go_sem] theorem ni66 : noIntT Tryz.prog 66 = true := by kernel_rfl
@[go_sem] theorem fs66 : (fieldsT Tryz.prog 66).isSome = true := by kernel_rfl
@[go_sem] theorem fl66_0 : fldA Tryz.prog 66 0 = some (0, 9) := by kernel_rfl
@[go_sem] theorem fl66_1 : fldA Tryz.prog 66 1 = some (1, 4) := by kernel_rfl
@[go_sem] theorem sz67 : szT Tryz.prog 67 = 6 := by kernel_rfl
@[go_sem] theorem by67 : bytesT Tryz.prog 67 = 64 := by kernel_rfl
@[go_sem] theorem ag67 : isAggT Tryz.prog 67 = some true := by kernel_rfl
@[go_sem] theorem zc67 : zeroC Tryz.prog 6 67 = some [.str ⟨#[]⟩, .int .i64 (0), .str ⟨#[]⟩, .bool false, .bool false, .int .i64 (0)] := by kernel_rfl
@[go_sem] theorem ni67 : noIntT Tryz.prog 67 = true := by kernel_rfl
@[go_sem] theorem fs67 : (fieldsT Tryz.prog 67).isSome = true := by kernel_rfl
@[go_sem] theorem fl67_0 : fldA Tryz.prog 67 0 = some (0, 9) := by kernel_rfl
@[go_sem] theorem fl67_1 : fldA Tryz.prog 67 1 = some (1, 3) := by kernel_rfl
@[go_sem] theorem fl67_2 : fldA Tryz.prog 67 2 = some (2, 66) := by kernel_rfl
@[go_sem] theorem fl67_3 : fldA Tryz.prog 67 3 = some (4, 4) := by kernel_rfl
@[go_sem] theorem fl67_4 : fldA Tryz.prog 67 4 = some (5, 3) := by kernel_rfl
@[go_sem] theorem sz68 : szT Tryz.prog 68 = 6 := by kernel_rfl
@[go_sem] theorem by68 : bytesT Tryz.prog 68 = 64 := by kernel_rfl
@[go_sem] theorem ag68 : isAggT Tryz.prog 68 = some true := by kernel_rfl
@[go_sem] theorem zc68 : zeroC Tryz.prog 6 68 = some [.str ⟨#[]⟩, .int .i64 (0), .str ⟨#[]⟩, .bool false, .bool false, .int .i64 (0)] := by kernel_rfl
@[go_sem] theorem ni68 : noIntT Tryz.prog 68 = true := by kernel_rfl
@[go_sem] theorem fs68 : (fieldsT Tryz.prog 68).isSome = true := by kernel_rfl
@[go_sem] theorem fl68_0 : fldA Tryz.prog 68 0 = some (0, 9) := by kernel_rfl
@[go_sem] theorem fl68_1 : fldA Tryz.prog 68 1 = some (1, 3) := by kernel_rfl
@[go_sem] theorem fl68_2 : fldA Tryz.prog 68 2 = some (2, 66) := by kernel_rfl
@[go_sem] theorem fl68_3 : fldA Tryz.prog 68 3 = some (4, 4) := by kernel_rfl
@[go_sem] theorem fl68_4 : fldA Tryz.prog 68 4 = some (5, 3) := by kernel_rfl
@[go_sem] theorem sz69 : szT Tryz.prog 69 = 1 := by kernel_rfl
@[go_sem] theorem by69 : bytesT Tryz.prog 69 = 8 := by kernel_rfl
@[go_sem] theorem ag69 : isAggT Tryz.prog 69 = some false := by kernel_rfl
@[go_sem] theorem zc69 : zeroC Tryz.prog 6 69 = some [.nilf] := by kernel_rfl
@[go_sem] theorem ni69 : noIntT Tryz.prog 69 = true := by kernel_rfl
@[go_sem] theorem sz70 : szT Tryz.prog 70 = 1 := by kernel_rfl
@[go_sem] theorem by70 : bytesT Tryz.prog 70 = 8 := by kernel_rfl
@[go_sem] theorem ag70 : isAggT Tryz.prog 70 = some false := by kernel_rfl
@[go_sem] theorem zc70 : zeroC Tryz.prog 6 70 = some [.nilf] := by kernel_rfl
@[go_sem] theorem ni70 : noIntT Tryz.prog 70 = true := by kernel_rfl
@[go_sem] theorem sz71 : szT Tryz.prog 71 = 1 := by kernel_rfl
@[go_sem] theorem by71 : bytesT Tryz.prog 71 = 8 := by kernel_rfl
@[go_sem] theorem ag71 : isAggT Tryz.prog 71 = some false := by kernel_rfl
@[go_sem] theorem zc71 : zeroC Tryz.prog 6 71 = some [.nilf] := by kernel_rfl
@[go_sem] theorem ni71 : noIntT Tryz.prog 71 = true := by kernel_rfl
@[go_sem] theorem sz72 : szT Tryz.prog 72 = 1 := by kernel_rfl
@[go_sem] theorem by72 : bytesT Tryz.prog 72 = 8 := by kernel_rfl
@[go_sem] theorem ag72 : isAggT Tryz.prog 72 = some false := by kernel_rfl
@[go_sem] theorem zc72 : zeroC Tryz.prog 6 72 = some [.nilf] := by kernel_rfl
@[go_sem] theorem ni72 : noIntT Tryz.prog 72 = true := by kernel_rfl
@[go_sem] theorem sz73 : szT Tryz.prog 73 = 1 := by kernel_rfl
@[go_sem] theorem by73 : bytesT Tryz.prog 73 = 8 := by kernel_rfl
@[go_sem] theorem ag73 : isAggT Tryz.prog 73 = some false := by kernel_rfl
@[go_sem] theorem zc73 : zeroC Tryz.prog 6 73 = some [.nilf] := by kernel_rfl
@[go_sem] theorem ni73 : noIntT Tryz.prog 73 = true := by kernel_rfl
@[go_sem] theorem sz74 : szT Tryz.prog 74 = 1 := by kernel_rfl
@[go_sem] theorem by74 : bytesT Tryz.prog 74 = 8 := by kernel_rfl
@[go_sem] theorem ag74 : isAggT Tryz.prog 74 = some false := by kernel_rfl
@[go_sem] theorem zc74 : zeroC Tryz.prog 6 74 = some [.nilf] := by kernel_rfl
@[go_sem] theorem ni74 : noIntT Tryz.prog 74 = true := by kernel_rfl
@[go_sem] theorem sz75 : szT Tryz.prog 75 = 1 := by kernel_rfl
@[go_sem] theorem by75 : bytesT Tryz.prog 75 = 8 := by kernel_rfl
@[go_sem] theorem ag75 : isAggT Tryz.prog 75 = some false := by kernel_rfl
@[go_sem] theorem zc75 : zeroC Tryz.prog 6 75 = some [.nilf] := by kernel_rfl
@[go_sem] theorem ni75 : noIntT Tryz.prog 75 = true := by kernel_rfl
@[go_sem] theorem sz76 : szT Tryz.prog 76 = 1 := by kernel_rfl
@[go_sem] theorem by76 : bytesT Tryz.prog 76 = 8 := by kernel_rfl
@[go_sem] theorem ag76 : isAggT Tryz.prog 76 = some false := by kernel_rfl
@[go_sem] theorem zc76 : zeroC Tryz.prog 6 76 = some [.nilf] := by kernel_rfl
@[go_sem] theorem ni76 : noIntT Tryz.prog 76 = true := by kernel_rfl
@[go_sem] theorem sz77 : szT Tryz.prog 77 = 1 := by kernel_rfl
@[go_sem] theorem by77 : bytesT Tryz.prog 77 = 24 := by kernel_rfl
@[go_sem] theorem ag77 : isAggT Tryz.prog 77 = some false := by kernel_rfl
@[go_sem] theorem zc77 : zeroC Tryz.prog 6 77 = some [.nils 1] := by kernel_rfl
@[go_sem] theorem ni77 : noIntT Tryz.prog 77 = true := by kernel_rfl
@[go_sem] theorem el77 : elemT Tryz.prog 77 = some 3 := by kernel_rfl
@[go_sem] theorem sz78 : szT Tryz.prog 78 = 1 := by kernel_rfl
@[go_sem] theorem by78 : bytesT Tryz.prog 78 = 8 := by kernel_rfl
@[go_sem] theorem ag78 : isAggT Tryz.prog 78 = some false := by kernel_rfl
@[go_sem] theorem zc78 : zeroC Tryz.prog 6 78 = some [.nilf] := by kernel_rfl
@[go_sem] theorem ni78 : noIntT Tryz.prog 78 = true := by kernel_rfl
@[go_sem] theorem sz79 : szT Tryz.prog 79 = 1 := by kernel_rfl
@[go_sem] theorem by79 : bytesT Tryz.prog 79 = 8 := by kernel_rfl
@[go_sem] theorem ag79 : isAggT Tryz.prog 79 = some false := by kernel_rfl
@[go_sem] theorem zc79 : zeroC Tryz.prog 6 79 = some [.nilf] := by kernel_rfl
@[go_sem] theorem ni79 : noIntT Tryz.prog 79 = true := by kernel_rfl
@[go_sem] theorem sz80 : szT Tryz.prog 80 = 1 := by kernel_rfl
@[go_sem] theorem by80 : bytesT Tryz.prog 80 = 8 := by kernel_rfl
@[go_sem] theorem ag80 : isAggT Tryz.prog 80 = some false := by kernel_rfl
@[go_sem] theorem zc80 : zeroC Tryz.prog 6 80 = some [.nilf] := by kernel_rfl
@[go_sem] theorem ni80 : noIntT Tryz.prog 80 = true := by kernel_rfl
@[go_sem] theorem sz81 : szT Tryz.prog 81 = 1 := by kernel_rfl
@[go_sem] theorem by81 : bytesT Tryz.prog 81 = 8 := by kernel_rfl
@[go_sem] theorem ag81 : isAggT Tryz.prog 81 = some false := by kernel_rfl
@[go_sem] theorem zc81 : zeroC Tryz.prog 6 81 = some [.nilf] := by kernel_rfl
@[go_sem] theorem ni81 : noIntT Tryz.prog 81 = true := by kernel_rfl
@[go_sem] theorem sz82 : szT Tryz.prog 82 = 1 := by kernel_rfl
@[go_sem] theorem by82 : bytesT Tryz.prog 82 = 8 := by kernel_rfl
@[go_sem] theorem ag82 : isAggT Tryz.prog 82 = some false := by kernel_rfl
@[go_sem] theorem zc82 : zeroC Tryz.prog 6 82 = some [.nilf] := by kernel_rfl
@[go_sem] theorem ni82 : noIntT Tryz.prog 82 = true := by kernel_rfl
@[go_sem] theorem sz83 : szT Tryz.prog 83 = 1 := by kernel_rfl
@[go_sem] theorem by83 : bytesT Tryz.prog 83 = 8 := by kernel_rfl
@[go_sem] theorem ag83 : isAggT Tryz.prog 83 = some false := by kernel_rfl
@[go_sem] theorem zc83 : zeroC Tryz.prog 6 83 = some [.nilf] := by kernel_rfl
@[go_sem] theorem ni83 : noIntT Tryz.prog 83 = true := by kernel_rfl
@[go_sem] theorem sz84 : szT Tryz.prog 84 = 1 := by kernel_rfl
@[go_sem] theorem by84 : bytesT Tryz.prog 84 = 8 := by kernel_rfl
@[go_sem] theorem ag84 : isAggT Tryz.prog 84 = some false := by kernel_rfl
@[go_sem] theorem zc84 : zeroC Tryz.prog 6 84 = some [.nilf] := by kernel_rfl
@[go_sem] theorem ni84 : noIntT Tryz.prog 84 = true := by kernel_rfl
@[go_sem] theorem sz85 : szT Tryz.prog 85 = 1 := by kernel_rfl
@[go_sem] theorem by85 : bytesT Tryz.prog 85 = 8 := by kernel_rfl
@[go_sem] theorem ag85 : isAggT Tryz.prog 85 = some false := by kernel_rfl
@[go_sem] theorem zc85 : zeroC Tryz.prog 6 85 = some [.nilf] := by kernel_rfl
@[go_sem] theorem ni85 : noIntT Tryz.prog 85 = true := by kernel_rfl
@[go_sem] theorem sz86 : szT Tryz.prog 86 = 1 := by kernel_rfl
@[go_sem] theorem by86 : bytesT Tryz.prog 86 = 8 := by kernel_rfl
@[go_sem] theorem ag86 : isAggT Tryz.prog 86 = some false := by kernel_rfl
@[go_sem] theorem zc86 : zeroC Tryz.prog 6 86 = some [.nilf] := by kernel_rfl
@[go_sem] theorem ni86 : noIntT Tryz.prog 86 = true := by kernel_rfl
@[go_sem] theorem sz87 : szT Tryz.prog 87 = 1 := by kernel_rfl
@[go_sem] theorem by87 : bytesT Tryz.prog 87 = 8 := by kernel_rfl
@[go_sem] theorem ag87 : isAggT Tryz.prog 87 = some false := by kernel_rfl
@[go_sem] theorem zc87 : zeroC Tryz.prog 6 87 = some [.nilf] := by kernel_rfl
@[go_sem] theorem ni87 : noIntT Tryz.prog 87 = true := by kernel_rfl
@[go_sem] theorem sz88 : szT Tryz.prog 88 = 1 := by kernel_rfl
@[go_sem] theorem by88 : bytesT Tryz.prog 88 = 8 := by kernel_rfl
@[go_sem] theorem ag88 : isAggT Tryz.prog 88 = some false := by kernel_rfl
@[go_sem] theorem zc88 : zeroC Tryz.prog 6 88 = some [.nilf] := by kernel_rfl
@[go_sem] theorem ni88 : noIntT Tryz.prog 88 = true := by kernel_rfl
@[go_sem] theorem sz89 : szT Tryz.prog 89 = 1 := by kernel_rfl
@[go_sem] theorem by89 : bytesT Tryz.prog 89 = 8 := by kernel_rfl
@[go_sem] theorem ag89 : isAggT Tryz.prog 89 = some false := by kernel_rfl
@[go_sem] theorem zc89 : zeroC Tryz.prog 6 89 = some [.nilf] := by kernel_rfl
@[go_sem] theorem ni89 : noIntT Tryz.prog 89 = true := by kernel_rfl
@[go_sem] theorem sz90 : szT Tryz.prog 90 = 1 := by kernel_rfl
@[go_sem] theorem by90 : bytesT Tryz.prog 90 = 8 := by kernel_rfl
@[go_sem] theorem ag90 : isAggT Tryz.prog 90 = some false := by kernel_rfl
@[go_sem] theorem zc90 : zeroC Tryz.prog 6 90 = some [.nilf] := by kernel_rfl
@[go_sem] theorem ni90 : noIntT Tryz.prog 90 = true := by kernel_rfl
@[go_sem] theorem sz91 : szT Tryz.prog 91 = 2 := by kernel_rfl
@[go_sem] theorem by91 : bytesT Tryz.prog 91 = 40 := by kernel_rfl
@[go_sem] theorem ag91 : isAggT Tryz.prog 91 = some true := by kernel_rfl
@[go_sem] theorem zc91 : zeroC Tryz.prog 6 91 = some [.str ⟨#[]⟩, .nils 1] := by kernel_rfl
@[go_sem] theorem ni91 : noIntT Tryz.prog 91 = true := by kernel_rfl
@[go_sem] theorem fs91 : (fieldsT Tryz.prog 91).isSome = true := by kernel_rfl
@[go_sem] theorem fl91_0 : fldA Tryz.prog 91 0 = some (0, 9) := by kernel_rfl
@[go_sem] theorem fl91_1 : fldA Tryz.prog 91 1 = some (1, 24) := by kernel_rfl
@[go_sem] theorem sz92 : szT Tryz.prog 92 = 2 := by kernel_rfl
@[go_sem] theorem by92 : bytesT Tryz.prog 92 = 40 := by kernel_rfl
@[go_sem] theorem ag92 : isAggT Tryz.prog 92 = some true := by kernel_rfl
@[go_sem] theorem zc92 : zeroC Tryz.prog 6 92 = some [.str ⟨#[]⟩, .nils 1] := by kernel_rfl
@[go_sem] theorem ni92 : noIntT Tryz.prog 92 = true := by kernel_rfl
@[go_sem] theorem fs92 : (fieldsT Tryz.prog 92).isSome = true := by kernel_rfl
@[go_sem] theorem fl92_0 : fldA Tryz.prog 92 0 = some (0, 9) := by kernel_rfl
@[go_sem] theorem fl92_1 : fldA Tryz.prog 92 1 = some (1, 24) := by kernel_rfl
@[go_sem] theorem sz93 : szT Tryz.prog 93 = 1 := by kernel_rfl
@[go_sem] theorem by93 : bytesT Tryz.prog 93 = 8 := by kernel_rfl
@[go_sem] theorem ag93 : isAggT Tryz.prog 93 = some false := by kernel_rfl
@[go_sem] theorem zc93 : zeroC Tryz.prog 6 93 = some [.nilf] := by kernel_rfl
@[go_sem] theorem ni93 : noIntT Tryz.prog 93 = true := by kernel_rfl
@[go_sem] theorem sz94 : szT Tryz.prog 94 = 3 := by kernel_rfl
@[go_sem] theorem by94 : bytesT Tryz.prog 94 = 24 := by kernel_rfl
@[go_sem] theorem ag94 : isAggT Tryz.prog 94 = some true := by kernel_rfl
@[go_sem] theorem zc94 : zeroC Tryz.prog 6 94 = some [.int .i64 (0), .bool false, .int .i64 (0)] := by kernel_rfl
@[go_sem] theorem ni94 : noIntT Tryz.prog 94 = true := by kernel_rfl
@[go_sem] theorem fs94 : (fieldsT Tryz.prog 94).isSome = true := by kernel_rfl
@[go_sem] theorem fl94_0 : fldA Tryz.prog 94 0 = some (0, 3) := by kernel_rfl
@[go_sem] theorem fl94_1 : fldA Tryz.prog 94 1 = some (1, 4) := by kernel_rfl
@[go_sem] theorem fl94_2 : fldA Tryz.prog 94 2 = some (2, 3) := by kernel_rfl
@[go_sem] theorem sz95 : szT Tryz.prog 95 = 3 := by kernel_rfl
@[go_sem] theorem by95 : bytesT Tryz.prog 95 = 24 := by kernel_rfl
@[go_sem] theorem ag95 : isAggT Tryz.prog 95 = some true := by kernel_rfl
@[go_sem] theorem zc95 : zeroC Tryz.prog 6 95 = some [.int .i64 (0), .bool false, .int .i64 (0)] := by kernel_rfl
@[go_sem] theorem ni95 : noIntT Tryz.prog 95 = true := by kernel_rfl
@[go_sem] theorem fs95 : (fieldsT Tryz.prog 95).isSome = true := by kernel_rfl
@[go_sem] theorem fl95_0 : fldA Tryz.prog 95 0 = some (0, 3) := by kernel_rfl
@[go_sem] theorem fl95_1 : fldA Tryz.prog 95 1 = some (1, 4) := by kernel_rfl
@[go_sem] theorem fl95_2 : fldA Tryz.prog 95 2 = some (2, 3) := by kernel_rfl
@[go_sem] theorem sz96 : szT Tryz.prog 96 = 1 := by kernel_rfl
@[go_sem] theorem by96 : bytesT Tryz.prog 96 = 8 := by kernel_rfl
@[go_sem] theorem ag96 : isAggT Tryz.prog 96 = some false := by kernel_rfl
@[go_sem] theorem zc96 : zeroC Tryz.prog 6 96 = some [.nilf] := by kernel_rfl
@[go_sem] theorem ni96 : noIntT Tryz.prog 96 = true := by kernel_rfl
@[go_sem] theorem sz97 : szT Tryz.prog 97 = 1 := by kernel_rfl
@[go_sem] theorem by97 : bytesT Tryz.prog 97 = 8 := by kernel_rfl
@[go_sem] theorem ag97 : isAggT Tryz.prog 97 = some false := by kernel_rfl
@[go_sem] theorem zc97 : zeroC Tryz.prog 6 97 = some [.nilf] := by kernel_rfl
@[go_sem] theorem ni97 : noIntT Tryz.prog 97 = true := by kernel_rfl
@[go_sem] theorem sz98 : szT Tryz.prog 98 = 1 := by kernel_rfl
@[go_sem] theorem by98 : bytesT Tryz.prog 98 = 8 := by kernel_rfl
@[go_sem] theorem ag98 : isAggT Tryz.prog 98 = some false := by kernel_rfl
@[go_sem] theorem zc98 : zeroC Tryz.prog 6 98 = some [.nilf] := by kernel_rfl
@[go_sem] theorem ni98 : noIntT Tryz.prog 98 = true := by kernel_rfl
@[go_sem] theorem sz99 : szT Tryz.prog 99 = 1 := by kernel_rfl
@[go_sem] theorem by99 : bytesT Tryz.prog 99 = 8 := by kernel_rfl
@[go_sem] theorem ag99 : isAggT Tryz.prog 99 = some false := by kernel_rfl
@[go_sem] theorem zc99 : zeroC Tryz.prog 6 99 = some [.nilf] := by kernel_rfl
@[go_sem] theorem ni99 : noIntT Tryz.prog 99 = true := by kernel_rfl
@[go_sem] theorem sz100 : szT Tryz.prog 100 = 1 := by kernel_rfl
@[go_sem] theorem by100 : bytesT Tryz.prog 100 = 8 := by kernel_rfl
@[go_sem] theorem ag100 : isAggT Tryz.prog 100 = some false := by kernel_rfl
@[go_sem] theorem zc100 : zeroC Tryz.prog 6 100 = some [.nilf] := by kernel_rfl
@[go_sem] theorem ni100 : noIntT Tryz.prog 100 = true := by kernel_rfl
@[go_sem] theorem sz101 : szT Tryz.prog 101 = 1 := by kernel_rfl
@[go_sem] theorem by101 : bytesT Tryz.prog 101 = 24 := by kernel_rfl
@[go_sem] theorem ag101 : isAggT Tryz.prog 101 = some false := by kernel_rfl
@[go_sem] theorem zc101 : zeroC Tryz.prog 6 101 = some [.nils 6] := by kernel_rfl
@[go_sem] theorem ni101 : noIntT Tryz.prog 101 = true := by kernel_rfl
@[go_sem] theorem el101 : elemT Tryz.prog 101 = some 103 := by kernel_rfl
@[go_sem] theorem sz102 : szT Tryz.prog 102 = 6 := by kernel_rfl
@[go_sem] theorem by102 : bytesT Tryz.prog 102 = 88 := by kernel_rfl
@[go_sem] theorem ag102 : isAggT Tryz.prog 102 = some true := by kernel_rfl
@[go_sem] theorem zc102 : zeroC Tryz.prog 6 102 = some [.int .i64 (0), .str ⟨#[]⟩, .nils 6, .int .i64 (0), .int .i64 (0), .nils 6] := by kernel_rfl
@[go_sem] theorem ni102 : noIntT Tryz.prog 102 = true := by kernel_rfl
@[go_sem] theorem fs102 : (fieldsT Tryz.prog 102).isSome = true := by kernel_rfl
@[go_sem] theorem fl102_0 : fldA Tryz.prog 102 0 = some (0, 3) := by kernel_rfl
@[go_sem] theorem fl102_1 : fldA Tryz.prog 102 1 = some (1, 9) := by kernel_rfl
@[go_sem] theorem fl102_2 : fldA Tryz.prog 102 2 = some (2, 101) := by kernel_rfl
@[go_sem] theorem fl102_3 : fldA Tryz.prog 102 3 = some (3, 3) := by kernel_rfl
@[go_sem] theorem fl102_4 : fldA Tryz.prog 102 4 = some (4, 3) := by kernel_rfl
@[go_sem] theorem fl102_5 : fldA Tryz.prog 102 5 = some (5, 101) := by kernel_rfl
@[go_sem] theorem sz103 : szT Tryz.prog 103 = 6 := by kernel_rfl
@[go_sem] theorem by103 : bytesT Tryz.prog 103 = 88 := by kernel_rfl
@[go_sem] theorem ag103 : isAggT Tryz.prog 103 = some true := by kernel_rfl
@[go_sem] theorem zc103 : zeroC Tryz.prog 6 103 = some [.int .i64 (0), .str ⟨#[]⟩, .nils 6, .int .i64 (0), .int .i64 (0), .nils 6] := by kernel_rfl
@[go_sem] theorem ni103 : noIntT Tryz.prog 103 = true := by kernel_rfl
@[go_sem] theorem fs103 : (fieldsT Tryz.prog 103).isSome = true := by kernel_rfl
@[go_sem] theorem fl103_0 : fldA Tryz.prog 103 0 = some (0, 3) := by kernel_rfl
@[go_sem] theorem fl103_1 : fldA Tryz.prog 103 1 = some (1, 9) := by kernel_rfl
@[go_sem] theorem fl103_2 : fldA Tryz.prog 103 2 = some (2, 101) := by kernel_rfl
@[go_sem] theorem fl103_3 : fldA Tryz.prog 103 3 = some (3, 3) := by kernel_rfl
@[go_sem] theorem fl103_4 : fldA Tryz.prog 103 4 = some (4, 3) := by kernel_rfl
@[go_sem] theorem fl103_5 : fldA Tryz.prog 103 5 = some (5, 101) := by kernel_rfl
@[go_sem] theorem sz104 : szT Tryz.prog 104 = 1 := by kernel_rfl
@[go_sem] theorem by104 : bytesT Tryz.prog 104 = 8 := by kernel_rfl
@[go_sem] theorem ag104 : isAggT Tryz.prog 104 = some false := by kernel_rfl
@[go_sem] theorem zc104 : zeroC Tryz.prog 6 104 = some [.nilf] := by kernel_rfl
@[go_sem] theorem ni104 : noIntT Tryz.prog 104 = true := by kernel_rfl
@[go_sem] theorem sz105 : szT Tryz.prog 105 = 1 := by kernel_rfl
@[go_sem] theorem by105 : bytesT Tryz.prog 105 = 8 := by kernel_rfl
@[go_sem] theorem ag105 : isAggT Tryz.prog 105 = some false := by kernel_rfl
@[go_sem] theorem zc105 : zeroC Tryz.prog 6 105 = some [.nilf] := by kernel_rfl
@[go_sem] theorem ni105 : noIntT Tryz.prog 105 = true := by kernel_rfl
@[go_sem] theorem sz106 : szT Tryz.prog 106 = 1 := by kernel_rfl
@[go_sem] theorem by106 : bytesT Tryz.prog 106 = 8 := by kernel_rfl
@[go_sem] theorem ag106 : isAggT Tryz.prog 106 = some false := by kernel_rfl
@[go_sem] theorem zc106 : zeroC Tryz.prog 6 106 = some [.nilf] := by kernel_rfl
@[go_sem] theorem ni106 : noIntT Tryz.prog 106 = true := by kernel_rfl
@[go_sem] theorem sz107 : szT Tryz.prog 107 = 1 := by kernel_rfl
@[go_sem] theorem by107 : bytesT Tryz.prog 107 = 8 := by kernel_rfl
@[go_sem] theorem ag107 : isAggT Tryz.prog 107 = some false := by kernel_rfl
@[go_sem] theorem zc107 : zeroC Tryz.prog 6 107 = some [.nilf] := by kernel_rfl
@[go_sem] theorem ni107 : noIntT Tryz.prog 107 = true := by kernel_rfl
@[go_sem] theorem sz108 : szT Tryz.prog 108 = 1 := by kernel_rfl
@[go_sem] theorem by108 : bytesT Tryz.prog 108 = 8 := by kernel_rfl
@[go_sem] theorem ag108 : isAggT Tryz.prog 108 = some false := by kernel_rfl
@[go_sem] theorem zc108 : zeroC Tryz.prog 6 108 = some [.nilp] := by kernel_rfl
@[go_sem] theorem ni108 : noIntT Tryz.prog 108 = true := by kernel_rfl
@[go_sem] theorem sz109 : szT Tryz.prog 109 = 2 := by kernel_rfl
@[go_sem] theorem by109 : bytesT Tryz.prog 109 = 32 := by kernel_rfl
@[go_sem] theorem ag109 : isAggT Tryz.prog 109 = some true := by kernel_rfl
@[go_sem] theorem zc109 : zeroC Tryz.prog 6 109 = some [.nilp, .nils 1] := by kernel_rfl
@[go_sem] theorem ni109 : noIntT Tryz.prog 109 = true := by kernel_rfl
@[go_sem] theorem fs109 : (fieldsT Tryz.prog 109).isSome = true := by kernel_rfl
@[go_sem] theorem fl109_0 : fldA Tryz.prog 109 0 = some (0, 108) := by kernel_rfl
@[go_sem] theorem fl109_1 : fldA Tryz.prog 109 1 = some (1, 22) := by kernel_rfl
@[go_sem] theorem sz110 : szT Tryz.prog 110 = 2 := by kernel_rfl
@[go_sem] theorem by110 : bytesT Tryz.prog 110 = 32 := by kernel_rfl
@[go_sem] theorem ag110 : isAggT Tryz.prog 110 = some true := by kernel_rfl
@[go_sem] theorem zc110 : zeroC Tryz.prog 6 110 = some [.nilp, .nils 1] := by kernel_rfl
@[go_sem] theorem ni110 : noIntT Tryz.prog 110 = true := by kernel_rfl
@[go_sem] theorem fs110 : (fieldsT Tryz.prog 110).isSome = true := by kernel_rfl
@[go_sem] theorem fl110_0 : fldA Tryz.prog 110 0 = some (0, 108) := by kernel_rfl
@[go_sem] theorem fl110_1 : fldA Tryz.prog 110 1 = some (1, 22) := by kernel_rfl
@[go_sem] theorem sz113 : szT Tryz.prog 113 = 1 := by kernel_rfl
@[go_sem] theorem by113 : bytesT Tryz.prog 113 = 8 := by kernel_rfl
@[go_sem] theorem ag113 : isAggT Tryz.prog 113 = some false := by kernel_rfl
@[go_sem] theorem zc113 : zeroC Tryz.prog 6 113 = some [.nilf] := by kernel_rfl
@[go_sem] theorem ni113 : noIntT Tryz.prog 113 = true := by kernel_rfl
@[go_sem] theorem sz115 : szT Tryz.prog 115 = 1 := by kernel_rfl
@[go_sem] theorem by115 : bytesT Tryz.prog 115 = 8 := by kernel_rfl
@[go_sem] theorem ag115 : isAggT Tryz.prog 115 = some false := by kernel_rfl
@[go_sem] theorem zc115 : zeroC Tryz.prog 6 115 = some [.nilf] := by kernel_rfl
@[go_sem] theorem ni115 : noIntT Tryz.prog 115 = true := by kernel_rfl
@[go_sem] theorem sz116 : szT Tryz.prog 116 = 1 := by kernel_rfl
@[go_sem] theorem by116 : bytesT Tryz.prog 116 = 8 := by kernel_rfl
@[go_sem] theorem ag116 : isAggT Tryz.prog 116 = some false := by kernel_rfl
@[go_sem] theorem zc116 : zeroC Tryz.prog 6 116 = some [.nilf] := by kernel_rfl
@[go_sem] theorem ni116 : noIntT Tryz.prog 116 = true := by kernel_rfl
@[go_sem] theorem sz118 : szT Tryz.prog 118 = 1 := by kernel_rfl
@[go_sem] theorem by118 : bytesT Tryz.prog 118 = 8 := by kernel_rfl
@[go_sem] theorem ag118 : isAggT Tryz.prog 118 = some false := by kernel_rfl
@[go_sem] theorem zc118 : zeroC Tryz.prog 6 118 = some [.nilf] := by kernel_rfl
@[go_sem] theorem ni118 : noIntT Tryz.prog 118 = true := by kernel_rfl
@[go_sem] theorem sz119 : szT Tryz.prog 119 = 1 := by kernel_rfl
@[go_sem] theorem by119 : bytesT Tryz.prog 119 = 8 := by kernel_rfl
@[go_sem] theorem ag119 : isAggT Tryz.prog 119 = some false := by kernel_rfl
@[go_sem] theorem zc119 : zeroC Tryz.prog 6 119 = some [.nilf] := by kernel_rfl
@[go_sem] theorem ni119 : noIntT Tryz.prog 119 = true := by kernel_rfl
@[go_sem] theorem sz120 : szT Tryz.prog 120 = 1 := by kernel_rfl
@[go_sem] theorem by120 : bytesT Tryz.prog 120 = 8 := by kernel_rfl
@[go_sem] theorem ag120 : isAggT Tryz.prog 120 = some false := by kernel_rfl
@[go_sem] theorem zc120 : zeroC Tryz.prog 6 120 = some [.nilf] := by kernel_rfl
@[go_sem] theorem ni120 : noIntT Tryz.prog 120 = true := by kernel_rfl
@[go_sem] theorem sz121 : szT Tryz.prog 121 = 1 := by kernel_rfl
@[go_sem] theorem by121 : bytesT Tryz.prog 121 = 8 := by kernel_rfl
@[go_sem] theorem ag121 : isAggT Tryz.prog 121 = some false := by kernel_rfl
@[go_sem] theorem zc121 : zeroC Tryz.prog 6 121 = some [.nilf] := by kernel_rfl
@[go_sem] theorem ni121 : noIntT Tryz.prog 121 = true := by kernel_rfl
@[go_sem] theorem sz122 : szT Tryz.prog 122 = 1 := by kernel_rfl
@[go_sem] theorem by122 : bytesT Tryz.prog 122 = 8 := by kernel_rfl
@[go_sem] theorem ag122 : isAggT Tryz.prog 122 = some false := by kernel_rfl
@[go_sem] theorem zc122 : zeroC Tryz.prog 6 122 = some [.nilf] := by kernel_rfl
@[go_sem] theorem ni122 : noIntT Tryz.prog 122 = true := by kernel_rfl
@[go_sem] theorem sz123 : szT Tryz.prog 123 = 1 := by kernel_rfl
@[go_sem] theorem by123 : bytesT Tryz.prog 123 = 8 := by kernel_rfl
@[go_sem] theorem ag123 : isAggT Tryz.prog 123 = some false := by kernel_rfl
@[go_sem] theorem zc123 : zeroC Tryz.prog 6 123 = some [.nilf] := by kernel_rfl
@[go_sem] theorem ni123 : noIntT Tryz.prog 123 = true := by kernel_rfl
@[go_sem] theorem sz124 : szT Tryz.prog 124 = 1 := by kernel_rfl
@[go_sem] theorem by124 : bytesT Tryz.prog 124 = 8 := by kernel_rfl
@[go_sem] theorem ag124 : isAggT Tryz.prog 124 = some false := by kernel_rfl
@[go_sem] theorem zc124 : zeroC Tryz.prog 6 124 = some [.nilp] := by kernel_rfl
@[go_sem] theorem ni124 : noIntT Tryz.prog 124 = true := by kernel_rfl
@[go_sem] theorem sz125 : szT Tryz.prog 125 = 1 := by kernel_rfl
@[go_sem] theorem by125 : bytesT Tryz.prog 125 = 8 := by kernel_rfl
@[go_sem] theorem ag125 : isAggT Tryz.prog 125 = some false := by kernel_rfl
@[go_sem] theorem zc125 : zeroC Tryz.prog 6 125 = some [.nilf] := by kernel_rfl
@[go_sem] theorem ni125 : noIntT Tryz.prog 125 = true := by kernel_rfl
@[go_sem] theorem sz126 : szT Tryz.prog 126 = 24 := by kernel_rfl
@[go_sem] theorem by126 : bytesT Tryz.prog 126 = 24 := by kernel_rfl
@[go_sem] theorem ag126 : isAggT Tryz.prog 126 = some true := by kernel_rfl
@[go_sem] theorem zc126 : zeroC Tryz.prog 6 126 = some [.int .u8 (0), .int .u8 (0), .int .u8 (0), .int .u8 (0), .int .u8 (0), .int .u8 (0), .int .u8 (0), .int .u8 (0), .int .u8 (0), .int .u8 (0), .int .u8 (0), .int .u8 (0), .int .u8 (0), .int .u8 (0), .int .u8 (0), .int .u8 (0), .int .u8 (0), .int .u8 (0), .int .u8 (0), .int .u8 (0), .int .u8 (0), .int .u8 (0), .int .u8 (0), .int .u8 (0)] := by kernel_rfl
@[go_sem] theorem ni126 : noIntT Tryz.prog 126 = true := by kernel_rfl
@[go_sem] theorem sz127 : szT Tryz.prog 127 = 1 := by kernel_rfl
@[go_sem] theorem by127 : bytesT Tryz.prog 127 = 8 := by kernel_rfl
@[go_sem] theorem ag127 : isAggT Tryz.prog 127 = some false := by kernel_rfl
@[go_sem] theorem zc127 : zeroC Tryz.prog 6 127 = some [.int .u64 (0)] := by kernel_rfl
@[go_sem] theorem ni127 : noIntT Tryz.prog 127 = false := by kernel_rfl
@[go_sem] theorem sz128 : szT Tryz.prog 128 = 1 := by kernel_rfl
@[go_sem] theorem by128 : bytesT Tryz.prog 128 = 8 := by kernel_rfl
@[go_sem] theorem ag128 : isAggT Tryz.prog 128 = some false := by kernel_rfl
@[go_sem] theorem zc128 : zeroC Tryz.prog 6 128 = some [.nilf] := by kernel_rfl
@[go_sem] theorem ni128 : noIntT Tryz.prog 128 = true := by kernel_rfl
@[go_sem] theorem sz129 : szT Tryz.prog 129 = 1 := by kernel_rfl
@[go_sem] theorem by129 : bytesT Tryz.prog 129 = 8 := by kernel_rfl
@[go_sem] theorem ag129 : isAggT Tryz.prog 129 = some false := by kernel_rfl
@[go_sem] theorem zc129 : zeroC Tryz.prog 6 129 = some [.nilf] := by kernel_rfl
@[go_sem] theorem ni129 : noIntT Tryz.prog 129 = true := by kernel_rfl
@[go_sem] theorem sz131 : szT Tryz.prog 131 = 1 := by kernel_rfl
@[go_sem] theorem by131 : bytesT Tryz.prog 131 = 8 := by kernel_rfl
@[go_sem] theorem ag131 : isAggT Tryz.prog 131 = some false := by kernel_rfl
@[go_sem] theorem zc131 : zeroC Tryz.prog 6 131 = some [.nilf] := by kernel_rfl
@[go_sem] theorem ni131 : noIntT Tryz.prog 131 = true := by kernel_rfl
@[go_sem] theorem sz133 : szT Tryz.prog 133 = 1 := by kernel_rfl
@[go_sem] theorem by133 : bytesT Tryz.prog 133 = 8 := by kernel_rfl
@[go_sem] theorem ag133 : isAggT Tryz.prog 133 = some false := by kernel_rfl
@[go_sem] theorem zc133 : zeroC Tryz.prog 6 133 = some [.nilf] := by kernel_rfl
@[go_sem] theorem ni133 : noIntT Tryz.prog 133 = true := by kernel_rfl
@[go_sem] theorem sz134 : szT Tryz.prog 134 = 1 := by kernel_rfl
@[go_sem] theorem by134 : bytesT Tryz.prog 134 = 8 := by kernel_rfl
@[go_sem] theorem ag134 : isAggT Tryz.prog 134 = some false := by kernel_rfl
@[go_sem] theorem zc134 : zeroC Tryz.prog 6 134 = some [.nilf] := by kernel_rfl
@[go_sem] theorem ni134 : noIntT Tryz.prog 134 = true := by kernel_rfl
@[go_sem] theorem sz135 : szT Tryz.prog 135 = 1 := by kernel_rfl
@[go_sem] theorem by135 : bytesT Tryz.prog 135 = 8 := by kernel_rfl
@[go_sem] theorem ag135 : isAggT Tryz.prog 135 = some false := by kernel_rfl
@[go_sem] theorem zc135 : zeroC Tryz.prog 6 135 = some [.nilf] := by kernel_rfl
@[go_sem] theorem ni135 : noIntT Tryz.prog 135 = true := by kernel_rfl
@[go_sem] theorem sz136 : szT Tryz.prog 136 = 1 := by kernel_rfl
@[go_sem] theorem by136 : bytesT Tryz.prog 136 = 8 := by kernel_rfl
@[go_sem] theorem ag136 : isAggT Tryz.prog 136 = some false := by kernel_rfl
@[go_sem] theorem zc136 : zeroC Tryz.prog 6 136 = some [.nilf] := by kernel_rfl
@[go_sem] theorem ni136 : noIntT Tryz.prog 136 = true := by kernel_rfl
@[go_sem] theorem sz137 : szT Tryz.prog 137 = 20 := by kernel_rfl
@[go_sem] theorem by137 : bytesT Tryz.prog 137 = 160 := by kernel_rfl
@[go_sem] theorem ag137 : isAggT Tryz.prog 137 = some true := by kernel_rfl
@[go_sem] theorem zc137 : zeroC Tryz.prog 6 137 = some [.int .u64 (0), .int .u64 (0), .int .u64 (0), .int .u64 (0), .int .u64 (0), .int .u64 (0), .int .u64 (0), .int .u64 (0), .int .u64 (0), .int .u64 (0), .int .u64 (0), .int .u64 (0), .int .u64 (0), .int .u64 (0), .int .u64 (0), .int .u64 (0), .int .u64 (0), .int .u64 (0), .int .u64 (0), .int .u64 (0)] := by kernel_rfl
@[go_sem] theorem ni137 : noIntT Tryz.prog 137 = true := by kernel_rfl
@[go_sem] theorem sz138 : szT Tryz.prog 138 = 1 := by kernel_rfl
@[go_sem] theorem by138 : bytesT Tryz.prog 138 = 4 := by kernel_rfl
@[go_sem] theorem ag138 : isAggT Tryz.prog 138 = some false := by kernel_rfl
@[go_sem] theorem zc138 : zeroC Tryz.prog 6 138 = some [.int .u32 (0)] := by kernel_rfl
@[go_sem] theorem ni138 : noIntT Tryz.prog 138 = false := by kernel_rfl
@[go_sem] theorem sz139 : szT Tryz.prog 139 = 65 := by kernel_rfl
@[go_sem] theorem by139 : bytesT Tryz.prog 139 = 65 := by kernel_rfl
@[go_sem] theorem ag139 : isAggT Tryz.prog 139 = some true := by kernel_rfl
@[go_sem] theorem zc139 : zeroC Tryz.prog 6 139 = some [.int .u8 (0), .int .u8 (0), .int .u8 (0), .int .u8 (0), .int .u8 (0), .int .u8 (0), .int .u8 (0), .int .u8 (0), .int .u8 (0), .int .u8 (0), .int .u8 (0), .int .u8 (0), .int .u8 (0), .int .u8 (0), .int .u8 (0), .int .u8 (0), .int .u8 (0), .int .u8 (0), .int .u8 (0), .int .u8 (0), .int .u8 (0), .int .u8 (0), .int .u8 (0), .int .u8 (0), .int .u8 (0), .int .u8 (0), .int .u8 (0), .int .u8 (0), .int .u8 (0), .int .u8 (0), .int .u8 (0), .int .u8 (0), .int .u8 (0), .int .u8 (0), .int .u8 (0), .int .u8 (0), .int .u8 (0), .int .u8 (0), .int .u8 (0), .int .u8 (0), .int .u8 (0), .int .u8 (0), .int .u8 (0), .int .u8 (0), .int .u8 (0), .int .u8 (0), .int .u8 (0), .int .u8 (0), .int .u8 (0), .int .u8 (0), .int .u8 (0), .int .u8 (0), .int .u8 (0), .int .u8 (0), .int .u8 (0), .int .u8 (0), .int .u8 (0), .int .u8 (0), .int .u8 (0), .int .u8 (0), .int .u8 (0), .int .u8 (0), .int .u8 (0), .int .u8 (0), .int .u8 (0)] := by kernel_rfl
@[go_sem] theorem ni139 : noIntT Tryz.prog 139 = true := by kernel_rfl
@[go_sem] theorem sz140 : szT Tryz.prog 140 = 1 := by kernel_rfl
@[go_sem] theorem by140 : bytesT Tryz.prog 140 = 8 := by kernel_rfl
@[go_sem] theorem ag140 : isAggT Tryz.prog 140 = some false := by kernel_rfl
@[go_sem] theorem zc140 : zeroC Tryz.prog 6 140 = some [.int .u64 (0)] := by kernel_rfl
@[go_sem] theorem ni140 : noIntT Tryz.prog 140 = false := by kernel_rfl
@[go_sem] theorem sz141 : szT Tryz.prog 141 = 1 := by kernel_rfl
@[go_sem] theorem by141 : bytesT Tryz.prog 141 = 8 := by kernel_rfl
@[go_sem] theorem ag141 : isAggT Tryz.prog 141 = some false := by kernel_rfl
@[go_sem] theorem zc141 : zeroC Tryz.prog 6 141 = some [.nilf] := by kernel_rfl
@[go_sem] theorem ni141 : noIntT Tryz.prog 141 = true := by kernel_rfl
@[go_sem] theorem sz142 : szT Tryz.prog 142 = 1 := by kernel_rfl
@[go_sem] theorem by142 : bytesT Tryz.prog 142 = 8 := by kernel_rfl
@[go_sem] theorem ag142 : isAggT Tryz.prog 142 = some false := by kernel_rfl
@[go_sem] theorem zc142 : zeroC Tryz.prog 6 142 = some [.nilf] := by kernel_rfl
@[go_sem] theorem ni142 : noIntT Tryz.prog 142 = true := by kernel_rfl
@[go_sem] theorem sz143 : szT Tryz.prog 143 = 1 := by kernel_rfl
@[go_sem] theorem by143 : bytesT Tryz.prog 143 = 8 := by kernel_rfl
@[go_sem] theorem ag143 : isAggT Tryz.prog 143 = some false := by kernel_rfl
@[go_sem] theorem zc143 : zeroC Tryz.prog 6 143 = some [.nilf] := by kernel_rfl
@[go_sem] theorem ni143 : noIntT Tryz.prog 143 = true := by kernel_rfl
@[go_sem] theorem sz145 : szT Tryz.prog 145 = 1 := by kernel_rfl
@[go_sem] theorem by145 : bytesT Tryz.prog 145 = 8 := by kernel_rfl
@[go_sem] theorem ag145 : isAggT Tryz.prog 145 = some false := by kernel_rfl
@[go_sem] theorem zc145 : zeroC Tryz.prog 6 145 = some [.nilf] := by kernel_rfl
@[go_sem] theorem ni145 : noIntT Tryz.prog 145 = true := by kernel_rfl
@[go_sem] theorem sz146 : szT Tryz.prog 146 = 32 := by kernel_rfl
@[go_sem] theorem by146 : bytesT Tryz.prog 146 = 32 := by kernel_rfl
@[go_sem] theorem ag146 : isAggT Tryz.prog 146 = some true := by kernel_rfl
@[go_sem] theorem zc146 : zeroC Tryz.prog 6 146 = some [.int .u8 (0), .int .u8 (0), .int .u8 (0), .int .u8 (0), .int .u8 (0), .int .u8 (0), .int .u8 (0), .int .u8 (0), .int .u8 (0), .int .u8 (0), .int .u8 (0), .int .u8 (0), .int .u8 (0), .int .u8 (0), .int .u8 (0), .int .u8 (0), .int .u8 (0), .int .u8 (0), .int .u8 (0), .int .u8 (0), .int .u8 (0), .int .u8 (0), .int .u8 (0), .int .u8 (0), .int .u8 (0), .int .u8 (0), .int .u8 (0), .int .u8 (0), .int .u8 (0), .int .u8 (0), .int .u8 (0), .int .u8 (0)] := by kernel_rfl
@[go_sem] theorem ni146 : noIntT Tryz.prog 146 = true := by kernel_rfl
@[go_sem] theorem sz147 : szT Tryz.prog 147 = 64 := by kernel_rfl
@[go_sem] theorem by147 : bytesT Tryz.prog 147 = 64 := by kernel_rfl
@[go_sem] theorem ag147 : isAggT Tryz.prog 147 = some true := by kernel_rfl
@[go_sem] theorem zc147 : zeroC Tryz.prog 6 147 = some [.int .u8 (0), .int .u8 (0), .int .u8 (0), .int .u8 (0), .int .u8 (0), .int .u8 (0), .int .u8 (0), .int .u8 (0), .int .u8 (0), .int .u8 (0), .int .u8 (0), .int .u8 (0), .int .u8 (0), .int .u8 (0), .int .u8 (0), .int .u8 (0), .int .u8 (0), .int .u8 (0), .int .u8 (0), .int .u8 (0), .int .u8 (0), .int .u8 (0), .int .u8 (0), .int .u8 (0), .int .u8 (0), .int .u8 (0), .int .u8 (0), .int .u8 (0), .int .u8 (0), .int .u8 (0), .int .u8 (0), .int .u8 (0), .int .u8 (0), .int .u8 (0), .int .u8 (0), .int .u8 (0), .int .u8 (0), .int .u8 (0), .int .u8 (0), .int .u8 (0), .int .u8 (0), .int .u8 (0), .int .u8 (0), .int .u8 (0), .int .u8 (0), .int .u8 (0), .int .u8 (0), .int .u8 (0), .int .u8 (0), .int .u8 (0), .int .u8 (0), .int .u8 (0), .int .u8 (0), .int .u8 (0), .int .u8 (0), .int .u8 (0), .int .u8 (0), .int .u8 (0), .int .u8 (0), .int .u8 (0), .int .u8 (0), .int .u8 (0), .int .u8 (0), .int .u8 (0)] := by kernel_rfl
@[go_sem] theorem ni147 : noIntT Tryz.prog 147 = true := by kernel_rfl
@[go_sem] theorem sz148 : szT Tryz.prog 148 = 4 := by kernel_rfl
@[go_sem] theorem by148 : bytesT Tryz.prog 148 = 40 := by kernel_rfl
@[go_sem] theorem ag148 : isAggT Tryz.prog 148 = some true := by kernel_rfl
@[go_sem] theorem zc148 : zeroC Tryz.prog 6 148 = some [.nilp, .nilp, .nilp, .str ⟨#[]⟩] := by kernel_rfl
@[go_sem] theorem ni148 : noIntT Tryz.prog 148 = true := by kernel_rfl
@[go_sem] theorem fs148 : (fieldsT Tryz.prog 148).isSome = true := by kernel_rfl
@[go_sem] theorem fl148_0 : fldA Tryz.prog 148 0 = some (0, 17) := by kernel_rfl
@[go_sem] theorem fl148_1 : fldA Tryz.prog 148 1 = some (1, 17) := by kernel_rfl
@[go_sem] theorem fl148_2 : fldA Tryz.prog 148 2 = some (2, 17) := by kernel_rfl
@[go_sem] theorem fl148_3 : fldA Tryz.prog 148 3 = some (3, 9) := by kernel_rfl
@[go_sem] theorem sz149 : szT Tryz.prog 149 = 4 := by kernel_rfl
@[go_sem] theorem by149 : bytesT Tryz.prog 149 = 40 := by kernel_rfl
@[go_sem] theorem ag149 : isAggT Tryz.prog 149 = some true := by kernel_rfl
@[go_sem] theorem zc149 : zeroC Tryz.prog 6 149 = some [.nilp, .nilp, .nilp, .str ⟨#[]⟩] := by kernel_rfl
@[go_sem] theorem ni149 : noIntT Tryz.prog 149 = true := by kernel_rfl
@[go_sem] theorem fs149 : (fieldsT Tryz.prog 149).isSome = true := by kernel_rfl
@[go_sem] theorem fl149_0 : fldA Tryz.prog 149 0 = some (0, 17) := by kernel_rfl
@[go_sem] theorem fl149_1 : fldA Tryz.prog 149 1 = some (1, 17) := by kernel_rfl
@[go_sem] theorem fl149_2 : fldA Tryz.prog 149 2 = some (2, 17) := by kernel_rfl
@[go_sem] theorem fl149_3 : fldA Tryz.prog 149 3 = some (3, 9) := by kernel_rfl
@[go_sem] theorem sz150 : szT Tryz.prog 150 = 0 := by kernel_rfl
@[go_sem] theorem by150 : bytesT Tryz.prog 150 = 0 := by kernel_rfl
@[go_sem] theorem ag150 : isAggT Tryz.prog 150 = some true := by kernel_rfl
@[go_sem] theorem zc150 : zeroC Tryz.prog 6 150 = some [] := by kernel_rfl
@[go_sem] theorem ni150 : noIntT Tryz.prog 150 = true := by kernel_rfl
@[go_sem] theorem sz151 : szT Tryz.prog 151 = 0 := by kernel_rfl
@[go_sem] theorem by151 : bytesT Tryz.prog 151 = 0 := by kernel_rfl
@[go_sem] theorem ag151 : isAggT Tryz.prog 151 = some true := by kernel_rfl
@[go_sem] theorem zc151 : zeroC Tryz.prog 6 151 = some [] := by kernel_rfl
@[go_sem] theorem ni151 : noIntT Tryz.prog 151 = true := by kernel_rfl
@[go_sem] theorem fs151 : (fieldsT Tryz.prog 151).isSome = true := by kernel_rfl
@[go_sem] theorem fl151_0 : fldA Tryz.prog 151 0 = some (0, 150) := by kernel_rfl
@[go_sem] theorem sz152 : szT Tryz.prog 152 = 0 := by kernel_rfl
@[go_sem] theorem by152 : bytesT Tryz.prog 152 = 0 := by kernel_rfl
@[go_sem] theorem ag152 : isAggT Tryz.prog 152 = some true := by kernel_rfl
@[go_sem] theorem zc152 : zeroC Tryz.prog 6 152 = some [] := by kernel_rfl
@[go_sem] theorem ni152 : noIntT Tryz.prog 152 = true := by kernel_rfl
@[go_sem] theorem fs152 : (fieldsT Tryz.prog 152).isSome = true := by kernel_rfl
@[go_sem] theorem fl152_0 : fldA Tryz.prog 152 0 = some (0, 150) := by kernel_rfl
@[go_sem] theorem sz153 : szT Tryz.prog 153 = 1 := by kernel_rfl
@[go_sem] theorem by153 : bytesT Tryz.prog 153 = 8 := by kernel_rfl
@[go_sem] theorem ag153 : isAggT Tryz.prog 153 = some false := by kernel_rfl
@[go_sem] theorem zc153 : zeroC Tryz.prog 6 153 = some [.nilf] := by kernel_rfl
@[go_sem] theorem ni153 : noIntT Tryz.prog 153 = true := by kernel_rfl
@[go_sem] theorem sz154 : szT Tryz.prog 154 = 1 := by kernel_rfl
@[go_sem] theorem by154 : bytesT Tryz.prog 154 = 1 := by kernel_rfl
@[go_sem] theorem ag154 : isAggT Tryz.prog 154 = some false := by kernel_rfl
@[go_sem] theorem zc154 : zeroC Tryz.prog 6 154 = some [.int .u8 (0)] := by kernel_rfl
@[go_sem] theorem ni154 : noIntT Tryz.prog 154 = false := by kernel_rfl
@[go_sem] theorem sz155 : szT Tryz.prog 155 = 1 := by kernel_rfl
@[go_sem] theorem by155 : bytesT Tryz.prog 155 = 1 := by kernel_rfl
@[go_sem] theorem ag155 : isAggT Tryz.prog 155 = some false := by kernel_rfl
@[go_sem] theorem zc155 : zeroC Tryz.prog 6 155 = some [.int .u8 (0)] := by kernel_rfl
@[go_sem] theorem ni155 : noIntT Tryz.prog 155 = false := by kernel_rfl
@[go_sem] theorem sz156 : szT Tryz.prog 156 = 1 := by kernel_rfl
@[go_sem] theorem by156 : bytesT Tryz.prog 156 = 8 := by kernel_rfl
@[go_sem] theorem ag156 : isAggT Tryz.prog 156 = some false := by kernel_rfl
@[go_sem] theorem zc156 : zeroC Tryz.prog 6 156 = some [.nilf] := by kernel_rfl
@[go_sem] theorem ni156 : noIntT Tryz.prog 156 = true := by kernel_rfl
@[go_sem] theorem sz157 : szT Tryz.prog 157 = 1 := by kernel_rfl
@[go_sem] theorem by157 : bytesT Tryz.prog 157 = 4 := by kernel_rfl
@[go_sem] theorem ag157 : isAggT Tryz.prog 157 = some false := by kernel_rfl
@[go_sem] theorem zc157 : zeroC Tryz.prog 6 157 = some [.int .i32 (0)] := by kernel_rfl
@[go_sem] theorem ni157 : noIntT Tryz.prog 157 = false := by kernel_rfl
@[go_sem] theorem sz158 : szT Tryz.prog 158 = 1 := by kernel_rfl
@[go_sem] theorem by158 : bytesT Tryz.prog 158 = 4 := by kernel_rfl
@[go_sem] theorem ag158 : isAggT Tryz.prog 158 = some false := by kernel_rfl
@[go_sem] theorem zc158 : zeroC Tryz.prog 6 158 = some [.int .i32 (0)] := by kernel_rfl
@[go_sem] theorem ni158 : noIntT Tryz.prog 158 = false := by kernel_rfl
@[go_sem] theorem sz159 : szT Tryz.prog 159 = 11 := by kernel_rfl
@[go_sem] theorem by159 : bytesT Tryz.prog 159 = 48 := by kernel_rfl
@[go_sem] theorem ag159 : isAggT Tryz.prog 159 = some true := by kernel_rfl
@[go_sem] theorem zc159 : zeroC Tryz.prog 6 159 = some [.int .u64 (0), .int .u64 (0), .int .u32 (0), .int .u8 (0), .int .u8 (0), .int .u8 (0), .int .u8 (0), .nilf, .nilp, .int .i32 (0), .int .i32 (0)] := by kernel_rfl
@[go_sem] theorem ni159 : noIntT Tryz.prog 159 = true := by kernel_rfl
@[go_sem] theorem fs159 : (fieldsT Tryz.prog 159).isSome = true := by kernel_rfl
@[go_sem] theorem fl159_0 : fldA Tryz.prog 159 0 = some (0, 12) := by kernel_rfl
@[go_sem] theorem fl159_1 : fldA Tryz.prog 159 1 = some (1, 12) := by kernel_rfl
@[go_sem] theorem fl159_2 : fldA Tryz.prog 159 2 = some (2, 138) := by kernel_rfl
@[go_sem] theorem fl159_3 : fldA Tryz.prog 159 3 = some (3, 154) := by kernel_rfl
@[go_sem] theorem fl159_4 : fldA Tryz.prog 159 4 = some (4, 5) := by kernel_rfl
@[go_sem] theorem fl159_5 : fldA Tryz.prog 159 5 = some (5, 5) := by kernel_rfl
@[go_sem] theorem fl159_6 : fldA Tryz.prog 159 6 = some (6, 155) := by kernel_rfl
@[go_sem] theorem fl159_7 : fldA Tryz.prog 159 7 = some (7, 156) := by kernel_rfl
@[go_sem] theorem fl159_8 : fldA Tryz.prog 159 8 = some (8, 124) := by kernel_rfl
@[go_sem] theorem fl159_9 : fldA Tryz.prog 159 9 = some (9, 157) := by kernel_rfl
@[go_sem] theorem fl159_10 : fldA Tryz.prog 159 10 = some (10, 158) := by kernel_rfl
@[go_sem] theorem sz160 : szT Tryz.prog 160 = 11 := by kernel_rfl
@[go_sem] theorem by160 : bytesT Tryz.prog 160 = 48 := by kernel_rfl
@[go_sem] theorem ag160 : isAggT Tryz.prog 160 = some true := by kernel_rfl
@[go_sem] theorem zc160 : zeroC Tryz.prog 6 160 = some [.int .u64 (0), .int .u64 (0), .int .u32 (0), .int .u8 (0), .int .u8 (0), .int .u8 (0), .int .u8 (0), .nilf, .nilp, .int .i32 (0), .int .i32 (0)] := by kernel_rfl
@[go_sem] theorem ni160 : noIntT Tryz.prog 160 = true := by kernel_rfl
@[go_sem] theorem fs160 : (fieldsT Tryz.prog 160).isSome = true := by kernel_rfl
@[go_sem] theorem fl160_0 : fldA Tryz.prog 160 0 = some (0, 12) := by kernel_rfl
@[go_sem] theorem fl160_1 : fldA Tryz.prog 160 1 = some (1, 12) := by kernel_rfl
@[go_sem] theorem fl160_2 : fldA Tryz.prog 160 2 = some (2, 138) := by kernel_rfl
@[go_sem] theorem fl160_3 : fldA Tryz.prog 160 3 = some (3, 154) := by kernel_rfl
@[go_sem] theorem fl160_4 : fldA Tryz.prog 160 4 = some (4, 5) := by kernel_rfl
@[go_sem] theorem fl160_5 : fldA Tryz.prog 160 5 = some (5, 5) := by kernel_rfl
@[go_sem] theorem fl160_6 : fldA Tryz.prog 160 6 = some (6, 155) := by kernel_rfl
@[go_sem] theorem fl160_7 : fldA Tryz.prog 160 7 = some (7, 156) := by kernel_rfl
@[go_sem] theorem fl160_8 : fldA Tryz.prog 160 8 = some (8, 124) := by kernel_rfl
@[go_sem] theorem fl160_9 : fldA Tryz.prog 160 9 = some (9, 157) := by kernel_rfl
@[go_sem] theorem fl160_10 : fldA Tryz.prog 160 10 = some (10, 158) := by kernel_rfl
@[go_sem] theorem sz161 : szT Tryz.prog 161 = 1 := by kernel_rfl
@[go_sem] theorem by161 : bytesT Tryz.prog 161 = 8 := by kernel_rfl
@[go_sem] theorem ag161 : isAggT Tryz.prog 161 = some false := by kernel_rfl
@[go_sem] theorem zc161 : zeroC Tryz.prog 6 161 = some [.nilf] := by kernel_rfl
@[go_sem] theorem ni161 : noIntT Tryz.prog 161 = true := by kernel_rfl
attribute [go_sem] Tryz.underlying1 Tryz.underlying2 Tryz.underlying3 Tryz.underlying4 Tryz.underlying5 Tryz.underlying6 Tryz.underlying7 Tryz.underlying8 Tryz.underlying9 Tryz.underlying10 Tryz.underlying11 Tryz.underlying12 Tryz.underlying13 Tryz.underlying14 Tryz.underlying15 Tryz.underlying16 Tryz.underlying17 Tryz.underlying18 Tryz.underlying19 Tryz.underlying21 Tryz.underlying22 Tryz.underlying23 Tryz.underlying24 Tryz.underlying25 Tryz.underlying26 Tryz.underlying28 Tryz.underlying29 Tryz.underlying30 Tryz.underlying32 Tryz.underlying33 Tryz.underlying34 Tryz.underlying35 Tryz.underlying36 Tryz.underlying37 Tryz.underlying38 Tryz.underlying39 Tryz.underlying40 Tryz.underlying41 Tryz.underlying42 Tryz.underlying44 Tryz.underlying45 Tryz.underlying46 Tryz.underlying47 Tryz.underlying48 Tryz.underlying49 Tryz.underlying50 Tryz.underlying51 Tryz.underlying52 Tryz.underlying53 Tryz.underlying54 Tryz.underlying55 Tryz.underlying56 Tryz.underlying57 Tryz.underlying58 Tryz.underlying59 Tryz.underlying60 Tryz.underlying61 Tryz.underlying62 Tryz.underlying63 Tryz.underlying64 Tryz.underlying65 Tryz.underlying66 Tryz.underlying67 Tryz.underlying68 Tryz.underlying69 Tryz.underlying70 Tryz.underlying71 Tryz.underlying72 Tryz.underlying73 Tryz.underlying74 Tryz.underlying75 Tryz.underlying76 Tryz.underlying77 Tryz.underlying78 Tryz.underlying79 Tryz.underlying80 Tryz.underlying81 Tryz.underlying82 Tryz.underlying83 Tryz.underlying84 Tryz.underlying85 Tryz.underlying86 Tryz.underlying87 Tryz.underlying88 Tryz.underlying89 Tryz.underlying90 Tryz.underlying91 Tryz.underlying92 Tryz.underlying93 Tryz.underlying94 Tryz.underlying95 Tryz.underlying96 Tryz.underlying97 Tryz.underlying98 Tryz.underlying99 Tryz.underlying100 Tryz.underlying101 Tryz.underlying102 Tryz.underlying103 Tryz.underlying104 Tryz.underlying105 Tryz.underlying106 Tryz.underlying107 Tryz.underlying108 Tryz.underlying109 Tryz.underlying110 Tryz.underlying113 Tryz.underlying115 Tryz.underlying116 Tryz.underlying118 Tryz.underlying119 Tryz.underlying120 Tryz.underlying121 Tryz.underlying122 Tryz.underlying123 Tryz.underlying124 Tryz.underlying125 Tryz.underlying126 Tryz.underlying127 Tryz.underlying128 Tryz.underlying129 Tryz.underlying131 Tryz.underlying133 Tryz.underlying134 Tryz.underlying135 Tryz.underlying136 Tryz.underlying137 Tryz.underlying138 Tryz.underlying139 Tryz.underlying140 Tryz.underlying141 Tryz.underlying142 Tryz.underlying143 Tryz.underlying145 Tryz.underlying146 Tryz.underlying147 Tryz.underlying148 Tryz.underlying149 Tryz.underlying150 Tryz.underlying151 Tryz.underlying152 Tryz.underlying153 Tryz.underlying154 Tryz.underlying155 Tryz.underlying156 Tryz.underlying157 Tryz.underlying158 Tryz.underlying159 Tryz.underlying160 Tryz.underlying161
end Go.Ev.Tryz
