/-
  What the evaluator asks of the program's types. Written by a program of this repo (facts.py).
-/
import Derived.Test.YtfjeckcbnhohmaaGreatDoorG3
import Derived.Test.YtfjeckcbnhohmaaGreatDoorProg
namespace Go.Proofs.YtfjeckcbnhohmaaGreatDoor
open Go.RowKit Go.AM
@[simp] theorem un2 : Program.underlying Tryz.prog 2 = some (.int .i64) := by kernel_rfl
@[simp] theorem sz2 : sizeA Tryz.prog 2 = some 1 := by kernel_rfl
@[simp] theorem by2 : bytesA Tryz.prog 2 = some 8 := by kernel_rfl
@[simp] theorem ze2 : zeroA Tryz.prog 2 = some [.v (.int .i64 0)] := by kernel_rfl
@[simp] theorem ag2 : isAggA Tryz.prog 2 = some false := by kernel_rfl
@[simp] theorem rc2 (cs : List PV) : readCells Tryz.prog 2 cs = cs[0]? := by simp [readCells]
@[simp] theorem un3 : Program.underlying Tryz.prog 3 = some (.int .i64) := by kernel_rfl
@[simp] theorem sz3 : sizeA Tryz.prog 3 = some 1 := by kernel_rfl
@[simp] theorem by3 : bytesA Tryz.prog 3 = some 8 := by kernel_rfl
@[simp] theorem ze3 : zeroA Tryz.prog 3 = some [.v (.int .i64 0)] := by kernel_rfl
@[simp] theorem ag3 : isAggA Tryz.prog 3 = some false := by kernel_rfl
@[simp] theorem rc3 (cs : List PV) : readCells Tryz.prog 3 cs = cs[0]? := by simp [readCells]
@[simp] theorem un4 : Program.underlying Tryz.prog 4 = some .bool := by kernel_rfl
@[simp] theorem sz4 : sizeA Tryz.prog 4 = some 1 := by kernel_rfl
@[simp] theorem by4 : bytesA Tryz.prog 4 = some 1 := by kernel_rfl
@[simp] theorem ze4 : zeroA Tryz.prog 4 = some [.v (.bool false)] := by kernel_rfl
@[simp] theorem ag4 : isAggA Tryz.prog 4 = some false := by kernel_rfl
@[simp] theorem rc4 (cs : List PV) : readCells Tryz.prog 4 cs = cs[0]? := by simp [readCells]
@[simp] theorem un5 : Program.underlying Tryz.prog 5 = some (.int .u8) := by kernel_rfl
@[simp] theorem sz5 : sizeA Tryz.prog 5 = some 1 := by kernel_rfl
@[simp] theorem by5 : bytesA Tryz.prog 5 = some 1 := by kernel_rfl
@[simp] theorem ze5 : zeroA Tryz.prog 5 = some [.v (.int .u8 0)] := by kernel_rfl
@[simp] theorem ag5 : isAggA Tryz.prog 5 = some false := by kernel_rfl
@[simp] theorem rc5 (cs : List PV) : readCells Tryz.prog 5 cs = cs[0]? := by simp [readCells]
@[simp] theorem un6 : Program.underlying Tryz.prog 6 = some (.int .u8) := by kernel_rfl
@[simp] theorem sz6 : sizeA Tryz.prog 6 = some 1 := by kernel_rfl
@[simp] theorem by6 : bytesA Tryz.prog 6 = some 1 := by kernel_rfl
@[simp] theorem ze6 : zeroA Tryz.prog 6 = some [.v (.int .u8 0)] := by kernel_rfl
@[simp] theorem ag6 : isAggA Tryz.prog 6 = some false := by kernel_rfl
@[simp] theorem rc6 (cs : List PV) : readCells Tryz.prog 6 cs = cs[0]? := by simp [readCells]
@[simp] theorem sz7 : sizeA Tryz.prog 7 = some 4 := by kernel_rfl
@[simp] theorem by7 : bytesA Tryz.prog 7 = some 24 := by kernel_rfl
@[simp] theorem ze7 : zeroA Tryz.prog 7 = some [.v (.int .i64 0), .v (.int .i64 0), .v (.bool false), .v (.int .u8 0)] := by kernel_rfl
@[simp] theorem ag7 : isAggA Tryz.prog 7 = some true := by kernel_rfl
@[simp] theorem rc7 (cs : List PV) : readCells Tryz.prog 7 cs = if 4 ≤ cs.length then some (.agg (cs.take 4)) else none := by simp [readCells]
@[simp] theorem fi7_0 : fieldA Tryz.prog 7 0 = some (0, 1, false) := by kernel_rfl
@[simp] theorem fi7_1 : fieldA Tryz.prog 7 1 = some (1, 1, false) := by kernel_rfl
@[simp] theorem fi7_2 : fieldA Tryz.prog 7 2 = some (2, 1, false) := by kernel_rfl
@[simp] theorem fi7_3 : fieldA Tryz.prog 7 3 = some (3, 1, false) := by kernel_rfl
@[simp] theorem pl7 : placesA Tryz.prog 7 = some [(0, 1), (1, 1), (2, 1), (3, 1)] := by kernel_rfl
@[simp] theorem fl7 : flatA Tryz.prog 7 = some [0, 0, 1, 0] := by kernel_rfl
@[simp] theorem sz8 : sizeA Tryz.prog 8 = some 4 := by kernel_rfl
@[simp] theorem by8 : bytesA Tryz.prog 8 = some 24 := by kernel_rfl
@[simp] theorem ze8 : zeroA Tryz.prog 8 = some [.v (.int .i64 0), .v (.int .i64 0), .v (.bool false), .v (.int .u8 0)] := by kernel_rfl
@[simp] theorem ag8 : isAggA Tryz.prog 8 = some true := by kernel_rfl
@[simp] theorem rc8 (cs : List PV) : readCells Tryz.prog 8 cs = if 4 ≤ cs.length then some (.agg (cs.take 4)) else none := by simp [readCells]
@[simp] theorem fi8_0 : fieldA Tryz.prog 8 0 = some (0, 1, false) := by kernel_rfl
@[simp] theorem fi8_1 : fieldA Tryz.prog 8 1 = some (1, 1, false) := by kernel_rfl
@[simp] theorem fi8_2 : fieldA Tryz.prog 8 2 = some (2, 1, false) := by kernel_rfl
@[simp] theorem fi8_3 : fieldA Tryz.prog 8 3 = some (3, 1, false) := by kernel_rfl
@[simp] theorem pl8 : placesA Tryz.prog 8 = some [(0, 1), (1, 1), (2, 1), (3, 1)] := by kernel_rfl
@[simp] theorem fl8 : flatA Tryz.prog 8 = some [0, 0, 1, 0] := by kernel_rfl
@[simp] theorem un9 : Program.underlying Tryz.prog 9 = some .string := by kernel_rfl
@[simp] theorem sz9 : sizeA Tryz.prog 9 = some 1 := by kernel_rfl
@[simp] theorem by9 : bytesA Tryz.prog 9 = some 16 := by kernel_rfl
@[simp] theorem ze9 : zeroA Tryz.prog 9 = some [.v (.string ⟨#[]⟩)] := by kernel_rfl
@[simp] theorem ag9 : isAggA Tryz.prog 9 = some false := by kernel_rfl
@[simp] theorem rc9 (cs : List PV) : readCells Tryz.prog 9 cs = cs[0]? := by simp [readCells]
@[simp] theorem un10 : Program.underlying Tryz.prog 10 = some .string := by kernel_rfl
@[simp] theorem sz10 : sizeA Tryz.prog 10 = some 1 := by kernel_rfl
@[simp] theorem by10 : bytesA Tryz.prog 10 = some 16 := by kernel_rfl
@[simp] theorem ze10 : zeroA Tryz.prog 10 = some [.v (.string ⟨#[]⟩)] := by kernel_rfl
@[simp] theorem ag10 : isAggA Tryz.prog 10 = some false := by kernel_rfl
@[simp] theorem rc10 (cs : List PV) : readCells Tryz.prog 10 cs = cs[0]? := by simp [readCells]
@[simp] theorem un11 : Program.underlying Tryz.prog 11 = some .string := by kernel_rfl
@[simp] theorem sz11 : sizeA Tryz.prog 11 = some 1 := by kernel_rfl
@[simp] theorem by11 : bytesA Tryz.prog 11 = some 16 := by kernel_rfl
@[simp] theorem ze11 : zeroA Tryz.prog 11 = some [.v (.string ⟨#[]⟩)] := by kernel_rfl
@[simp] theorem ag11 : isAggA Tryz.prog 11 = some false := by kernel_rfl
@[simp] theorem rc11 (cs : List PV) : readCells Tryz.prog 11 cs = cs[0]? := by simp [readCells]
@[simp] theorem un12 : Program.underlying Tryz.prog 12 = some (.int .u64) := by kernel_rfl
@[simp] theorem sz12 : sizeA Tryz.prog 12 = some 1 := by kernel_rfl
@[simp] theorem by12 : bytesA Tryz.prog 12 = some 8 := by kernel_rfl
@[simp] theorem ze12 : zeroA Tryz.prog 12 = some [.v (.int .u64 0)] := by kernel_rfl
@[simp] theorem ag12 : isAggA Tryz.prog 12 = some false := by kernel_rfl
@[simp] theorem rc12 (cs : List PV) : readCells Tryz.prog 12 cs = cs[0]? := by simp [readCells]
@[simp] theorem sz13 : sizeA Tryz.prog 13 = some 2 := by kernel_rfl
@[simp] theorem by13 : bytesA Tryz.prog 13 = some 24 := by kernel_rfl
@[simp] theorem ze13 : zeroA Tryz.prog 13 = some [.v (.string ⟨#[]⟩), .v (.int .u64 0)] := by kernel_rfl
@[simp] theorem ag13 : isAggA Tryz.prog 13 = some true := by kernel_rfl
@[simp] theorem rc13 (cs : List PV) : readCells Tryz.prog 13 cs = if 2 ≤ cs.length then some (.agg (cs.take 2)) else none := by simp [readCells]
@[simp] theorem fi13_0 : fieldA Tryz.prog 13 0 = some (0, 1, false) := by kernel_rfl
@[simp] theorem fi13_1 : fieldA Tryz.prog 13 1 = some (1, 1, false) := by kernel_rfl
@[simp] theorem pl13 : placesA Tryz.prog 13 = some [(0, 1), (1, 1)] := by kernel_rfl
@[simp] theorem sz14 : sizeA Tryz.prog 14 = some 2 := by kernel_rfl
@[simp] theorem by14 : bytesA Tryz.prog 14 = some 24 := by kernel_rfl
@[simp] theorem ze14 : zeroA Tryz.prog 14 = some [.v (.string ⟨#[]⟩), .v (.int .u64 0)] := by kernel_rfl
@[simp] theorem ag14 : isAggA Tryz.prog 14 = some true := by kernel_rfl
@[simp] theorem rc14 (cs : List PV) : readCells Tryz.prog 14 cs = if 2 ≤ cs.length then some (.agg (cs.take 2)) else none := by simp [readCells]
@[simp] theorem fi14_0 : fieldA Tryz.prog 14 0 = some (0, 1, false) := by kernel_rfl
@[simp] theorem fi14_1 : fieldA Tryz.prog 14 1 = some (1, 1, false) := by kernel_rfl
@[simp] theorem pl14 : placesA Tryz.prog 14 = some [(0, 1), (1, 1)] := by kernel_rfl
@[simp] theorem sz15 : sizeA Tryz.prog 15 = some 1 := by kernel_rfl
@[simp] theorem by15 : bytesA Tryz.prog 15 = some 8 := by kernel_rfl
@[simp] theorem ze15 : zeroA Tryz.prog 15 = some [.v (.pointer none)] := by kernel_rfl
@[simp] theorem ag15 : isAggA Tryz.prog 15 = some false := by kernel_rfl
@[simp] theorem rc15 (cs : List PV) : readCells Tryz.prog 15 cs = cs[0]? := by simp [readCells]
@[simp] theorem sz16 : sizeA Tryz.prog 16 = some 1 := by kernel_rfl
@[simp] theorem by16 : bytesA Tryz.prog 16 = some 8 := by kernel_rfl
@[simp] theorem ze16 : zeroA Tryz.prog 16 = some [.v (.pointer none)] := by kernel_rfl
@[simp] theorem ag16 : isAggA Tryz.prog 16 = some false := by kernel_rfl
@[simp] theorem rc16 (cs : List PV) : readCells Tryz.prog 16 cs = cs[0]? := by simp [readCells]
@[simp] theorem sz17 : sizeA Tryz.prog 17 = some 1 := by kernel_rfl
@[simp] theorem by17 : bytesA Tryz.prog 17 = some 8 := by kernel_rfl
@[simp] theorem ze17 : zeroA Tryz.prog 17 = some [.v (.pointer none)] := by kernel_rfl
@[simp] theorem ag17 : isAggA Tryz.prog 17 = some false := by kernel_rfl
@[simp] theorem rc17 (cs : List PV) : readCells Tryz.prog 17 cs = cs[0]? := by simp [readCells]
@[simp] theorem sz18 : sizeA Tryz.prog 18 = some 1 := by kernel_rfl
@[simp] theorem by18 : bytesA Tryz.prog 18 = some 8 := by kernel_rfl
@[simp] theorem ze18 : zeroA Tryz.prog 18 = some [.v (.pointer none)] := by kernel_rfl
@[simp] theorem ag18 : isAggA Tryz.prog 18 = some true := by kernel_rfl
@[simp] theorem rc18 (cs : List PV) : readCells Tryz.prog 18 cs = if 1 ≤ cs.length then some (.agg (cs.take 1)) else none := by simp [readCells]
@[simp] theorem fi18_0 : fieldA Tryz.prog 18 0 = some (0, 1, false) := by kernel_rfl
@[simp] theorem pl18 : placesA Tryz.prog 18 = some [(0, 1)] := by kernel_rfl
@[simp] theorem sz19 : sizeA Tryz.prog 19 = some 1 := by kernel_rfl
@[simp] theorem by19 : bytesA Tryz.prog 19 = some 8 := by kernel_rfl
@[simp] theorem ze19 : zeroA Tryz.prog 19 = some [.v (.pointer none)] := by kernel_rfl
@[simp] theorem ag19 : isAggA Tryz.prog 19 = some true := by kernel_rfl
@[simp] theorem rc19 (cs : List PV) : readCells Tryz.prog 19 cs = if 1 ≤ cs.length then some (.agg (cs.take 1)) else none := by simp [readCells]
@[simp] theorem fi19_0 : fieldA Tryz.prog 19 0 = some (0, 1, false) := by kernel_rfl
@[simp] theorem pl19 : placesA Tryz.prog 19 = some [(0, 1)] := by kernel_rfl
@[simp] theorem un21 : Program.underlying Tryz.prog 21 = some (.int .i32) := by kernel_rfl
@[simp] theorem sz21 : sizeA Tryz.prog 21 = some 1 := by kernel_rfl
@[simp] theorem by21 : bytesA Tryz.prog 21 = some 4 := by kernel_rfl
@[simp] theorem ze21 : zeroA Tryz.prog 21 = some [.v (.int .i32 0)] := by kernel_rfl
@[simp] theorem ag21 : isAggA Tryz.prog 21 = some false := by kernel_rfl
@[simp] theorem rc21 (cs : List PV) : readCells Tryz.prog 21 cs = cs[0]? := by simp [readCells]
@[simp] theorem un22 : Program.underlying Tryz.prog 22 = some (.slice 82) := by kernel_rfl
@[simp] theorem el22 : elemA Tryz.prog 22 = some 82 := by kernel_rfl
@[simp] theorem sz22 : sizeA Tryz.prog 22 = some 1 := by kernel_rfl
@[simp] theorem by22 : bytesA Tryz.prog 22 = some 24 := by kernel_rfl
@[simp] theorem ze22 : zeroA Tryz.prog 22 = some [.nil] := by kernel_rfl
@[simp] theorem ag22 : isAggA Tryz.prog 22 = some false := by kernel_rfl
@[simp] theorem rc22 (cs : List PV) : readCells Tryz.prog 22 cs = cs[0]? := by simp [readCells]
@[simp] theorem un23 : Program.underlying Tryz.prog 23 = some (.slice 216) := by kernel_rfl
@[simp] theorem el23 : elemA Tryz.prog 23 = some 216 := by kernel_rfl
@[simp] theorem sz23 : sizeA Tryz.prog 23 = some 1 := by kernel_rfl
@[simp] theorem by23 : bytesA Tryz.prog 23 = some 24 := by kernel_rfl
@[simp] theorem ze23 : zeroA Tryz.prog 23 = some [.nil] := by kernel_rfl
@[simp] theorem ag23 : isAggA Tryz.prog 23 = some false := by kernel_rfl
@[simp] theorem rc23 (cs : List PV) : readCells Tryz.prog 23 cs = cs[0]? := by simp [readCells]
@[simp] theorem un24 : Program.underlying Tryz.prog 24 = some (.slice 58) := by kernel_rfl
@[simp] theorem el24 : elemA Tryz.prog 24 = some 58 := by kernel_rfl
@[simp] theorem sz24 : sizeA Tryz.prog 24 = some 1 := by kernel_rfl
@[simp] theorem by24 : bytesA Tryz.prog 24 = some 24 := by kernel_rfl
@[simp] theorem ze24 : zeroA Tryz.prog 24 = some [.nil] := by kernel_rfl
@[simp] theorem ag24 : isAggA Tryz.prog 24 = some false := by kernel_rfl
@[simp] theorem rc24 (cs : List PV) : readCells Tryz.prog 24 cs = cs[0]? := by simp [readCells]
@[simp] theorem sz25 : sizeA Tryz.prog 25 = some 3 := by kernel_rfl
@[simp] theorem by25 : bytesA Tryz.prog 25 = some 72 := by kernel_rfl
@[simp] theorem ze25 : zeroA Tryz.prog 25 = some [.nil, .nil, .nil] := by kernel_rfl
@[simp] theorem ag25 : isAggA Tryz.prog 25 = some true := by kernel_rfl
@[simp] theorem rc25 (cs : List PV) : readCells Tryz.prog 25 cs = if 3 ≤ cs.length then some (.agg (cs.take 3)) else none := by simp [readCells]
@[simp] theorem fi25_0 : fieldA Tryz.prog 25 0 = some (0, 1, false) := by kernel_rfl
@[simp] theorem fi25_1 : fieldA Tryz.prog 25 1 = some (1, 1, false) := by kernel_rfl
@[simp] theorem fi25_2 : fieldA Tryz.prog 25 2 = some (2, 1, false) := by kernel_rfl
@[simp] theorem pl25 : placesA Tryz.prog 25 = some [(0, 1), (1, 1), (2, 1)] := by kernel_rfl
@[simp] theorem sz26 : sizeA Tryz.prog 26 = some 3 := by kernel_rfl
@[simp] theorem by26 : bytesA Tryz.prog 26 = some 72 := by kernel_rfl
@[simp] theorem ze26 : zeroA Tryz.prog 26 = some [.nil, .nil, .nil] := by kernel_rfl
@[simp] theorem ag26 : isAggA Tryz.prog 26 = some true := by kernel_rfl
@[simp] theorem rc26 (cs : List PV) : readCells Tryz.prog 26 cs = if 3 ≤ cs.length then some (.agg (cs.take 3)) else none := by simp [readCells]
@[simp] theorem fi26_0 : fieldA Tryz.prog 26 0 = some (0, 1, false) := by kernel_rfl
@[simp] theorem fi26_1 : fieldA Tryz.prog 26 1 = some (1, 1, false) := by kernel_rfl
@[simp] theorem fi26_2 : fieldA Tryz.prog 26 2 = some (2, 1, false) := by kernel_rfl
@[simp] theorem pl26 : placesA Tryz.prog 26 = some [(0, 1), (1, 1), (2, 1)] := by kernel_rfl
@[simp] theorem un28 : Program.underlying Tryz.prog 28 = some (.slice 38) := by kernel_rfl
@[simp] theorem el28 : elemA Tryz.prog 28 = some 38 := by kernel_rfl
@[simp] theorem sz28 : sizeA Tryz.prog 28 = some 1 := by kernel_rfl
@[simp] theorem by28 : bytesA Tryz.prog 28 = some 24 := by kernel_rfl
@[simp] theorem ze28 : zeroA Tryz.prog 28 = some [.nil] := by kernel_rfl
@[simp] theorem ag28 : isAggA Tryz.prog 28 = some false := by kernel_rfl
@[simp] theorem rc28 (cs : List PV) : readCells Tryz.prog 28 cs = cs[0]? := by simp [readCells]
@[simp] theorem un29 : Program.underlying Tryz.prog 29 = some (.int .i64) := by kernel_rfl
@[simp] theorem sz29 : sizeA Tryz.prog 29 = some 1 := by kernel_rfl
@[simp] theorem by29 : bytesA Tryz.prog 29 = some 8 := by kernel_rfl
@[simp] theorem ze29 : zeroA Tryz.prog 29 = some [.v (.int .i64 0)] := by kernel_rfl
@[simp] theorem ag29 : isAggA Tryz.prog 29 = some false := by kernel_rfl
@[simp] theorem rc29 (cs : List PV) : readCells Tryz.prog 29 cs = cs[0]? := by simp [readCells]
@[simp] theorem un32 : Program.underlying Tryz.prog 32 = some (.slice 36) := by kernel_rfl
@[simp] theorem el32 : elemA Tryz.prog 32 = some 36 := by kernel_rfl
@[simp] theorem sz32 : sizeA Tryz.prog 32 = some 1 := by kernel_rfl
@[simp] theorem by32 : bytesA Tryz.prog 32 = some 24 := by kernel_rfl
@[simp] theorem ze32 : zeroA Tryz.prog 32 = some [.nil] := by kernel_rfl
@[simp] theorem ag32 : isAggA Tryz.prog 32 = some false := by kernel_rfl
@[simp] theorem rc32 (cs : List PV) : readCells Tryz.prog 32 cs = cs[0]? := by simp [readCells]
@[simp] theorem sz35 : sizeA Tryz.prog 35 = some 2 := by kernel_rfl
@[simp] theorem by35 : bytesA Tryz.prog 35 = some 16 := by kernel_rfl
@[simp] theorem ze35 : zeroA Tryz.prog 35 = some [.v (.int .i64 0), .v (.int .i64 0)] := by kernel_rfl
@[simp] theorem ag35 : isAggA Tryz.prog 35 = some true := by kernel_rfl
@[simp] theorem rc35 (cs : List PV) : readCells Tryz.prog 35 cs = if 2 ≤ cs.length then some (.agg (cs.take 2)) else none := by simp [readCells]
@[simp] theorem fi35_0 : fieldA Tryz.prog 35 0 = some (0, 1, false) := by kernel_rfl
@[simp] theorem fi35_1 : fieldA Tryz.prog 35 1 = some (1, 1, false) := by kernel_rfl
@[simp] theorem pl35 : placesA Tryz.prog 35 = some [(0, 1), (1, 1)] := by kernel_rfl
@[simp] theorem fl35 : flatA Tryz.prog 35 = some [0, 0] := by kernel_rfl
@[simp] theorem sz36 : sizeA Tryz.prog 36 = some 2 := by kernel_rfl
@[simp] theorem by36 : bytesA Tryz.prog 36 = some 16 := by kernel_rfl
@[simp] theorem ze36 : zeroA Tryz.prog 36 = some [.v (.int .i64 0), .v (.int .i64 0)] := by kernel_rfl
@[simp] theorem ag36 : isAggA Tryz.prog 36 = some true := by kernel_rfl
@[simp] theorem rc36 (cs : List PV) : readCells Tryz.prog 36 cs = if 2 ≤ cs.length then some (.agg (cs.take 2)) else none := by simp [readCells]
@[simp] theorem fi36_0 : fieldA Tryz.prog 36 0 = some (0, 1, false) := by kernel_rfl
@[simp] theorem fi36_1 : fieldA Tryz.prog 36 1 = some (1, 1, false) := by kernel_rfl
@[simp] theorem pl36 : placesA Tryz.prog 36 = some [(0, 1), (1, 1)] := by kernel_rfl
@[simp] theorem fl36 : flatA Tryz.prog 36 = some [0, 0] := by kernel_rfl
@[simp] theorem sz37 : sizeA Tryz.prog 37 = some 3 := by kernel_rfl
@[simp] theorem by37 : bytesA Tryz.prog 37 = some 32 := by kernel_rfl
@[simp] theorem ze37 : zeroA Tryz.prog 37 = some [.v (.int .i64 0), .v (.int .i64 0), .v (.string ⟨#[]⟩)] := by kernel_rfl
@[simp] theorem ag37 : isAggA Tryz.prog 37 = some true := by kernel_rfl
@[simp] theorem rc37 (cs : List PV) : readCells Tryz.prog 37 cs = if 3 ≤ cs.length then some (.agg (cs.take 3)) else none := by simp [readCells]
@[simp] theorem fi37_0 : fieldA Tryz.prog 37 0 = some (0, 2, true) := by kernel_rfl
@[simp] theorem fi37_1 : fieldA Tryz.prog 37 1 = some (2, 1, false) := by kernel_rfl
@[simp] theorem pl37 : placesA Tryz.prog 37 = some [(0, 2), (2, 1)] := by kernel_rfl
@[simp] theorem sz38 : sizeA Tryz.prog 38 = some 3 := by kernel_rfl
@[simp] theorem by38 : bytesA Tryz.prog 38 = some 32 := by kernel_rfl
@[simp] theorem ze38 : zeroA Tryz.prog 38 = some [.v (.int .i64 0), .v (.int .i64 0), .v (.string ⟨#[]⟩)] := by kernel_rfl
@[simp] theorem ag38 : isAggA Tryz.prog 38 = some true := by kernel_rfl
@[simp] theorem rc38 (cs : List PV) : readCells Tryz.prog 38 cs = if 3 ≤ cs.length then some (.agg (cs.take 3)) else none := by simp [readCells]
@[simp] theorem fi38_0 : fieldA Tryz.prog 38 0 = some (0, 2, true) := by kernel_rfl
@[simp] theorem fi38_1 : fieldA Tryz.prog 38 1 = some (2, 1, false) := by kernel_rfl
@[simp] theorem pl38 : placesA Tryz.prog 38 = some [(0, 2), (2, 1)] := by kernel_rfl
@[simp] theorem un42 : Program.underlying Tryz.prog 42 = some (.slice 146) := by kernel_rfl
@[simp] theorem el42 : elemA Tryz.prog 42 = some 146 := by kernel_rfl
@[simp] theorem sz42 : sizeA Tryz.prog 42 = some 1 := by kernel_rfl
@[simp] theorem by42 : bytesA Tryz.prog 42 = some 24 := by kernel_rfl
@[simp] theorem ze42 : zeroA Tryz.prog 42 = some [.nil] := by kernel_rfl
@[simp] theorem ag42 : isAggA Tryz.prog 42 = some false := by kernel_rfl
@[simp] theorem rc42 (cs : List PV) : readCells Tryz.prog 42 cs = cs[0]? := by simp [readCells]
@[simp] theorem un43 : Program.underlying Tryz.prog 43 = some (.slice 45) := by kernel_rfl
@[simp] theorem el43 : elemA Tryz.prog 43 = some 45 := by kernel_rfl
@[simp] theorem sz43 : sizeA Tryz.prog 43 = some 1 := by kernel_rfl
@[simp] theorem by43 : bytesA Tryz.prog 43 = some 24 := by kernel_rfl
@[simp] theorem ze43 : zeroA Tryz.prog 43 = some [.nil] := by kernel_rfl
@[simp] theorem ag43 : isAggA Tryz.prog 43 = some false := by kernel_rfl
@[simp] theorem rc43 (cs : List PV) : readCells Tryz.prog 43 cs = cs[0]? := by simp [readCells]
@[simp] theorem sz44 : sizeA Tryz.prog 44 = some 7 := by kernel_rfl
@[simp] theorem by44 : bytesA Tryz.prog 44 = some 112 := by kernel_rfl
@[simp] theorem ze44 : zeroA Tryz.prog 44 = some [.v (.int .i64 0), .v (.string ⟨#[]⟩), .v (.int .i64 0), .nil, .v (.string ⟨#[]⟩), .v (.string ⟨#[]⟩), .nil] := by kernel_rfl
@[simp] theorem ag44 : isAggA Tryz.prog 44 = some true := by kernel_rfl
@[simp] theorem rc44 (cs : List PV) : readCells Tryz.prog 44 cs = if 7 ≤ cs.length then some (.agg (cs.take 7)) else none := by simp [readCells]
@[simp] theorem fi44_0 : fieldA Tryz.prog 44 0 = some (0, 1, false) := by kernel_rfl
@[simp] theorem fi44_1 : fieldA Tryz.prog 44 1 = some (1, 1, false) := by kernel_rfl
@[simp] theorem fi44_2 : fieldA Tryz.prog 44 2 = some (2, 1, false) := by kernel_rfl
@[simp] theorem fi44_3 : fieldA Tryz.prog 44 3 = some (3, 1, false) := by kernel_rfl
@[simp] theorem fi44_4 : fieldA Tryz.prog 44 4 = some (4, 1, false) := by kernel_rfl
@[simp] theorem fi44_5 : fieldA Tryz.prog 44 5 = some (5, 1, false) := by kernel_rfl
@[simp] theorem fi44_6 : fieldA Tryz.prog 44 6 = some (6, 1, false) := by kernel_rfl
@[simp] theorem pl44 : placesA Tryz.prog 44 = some [(0, 1), (1, 1), (2, 1), (3, 1), (4, 1), (5, 1), (6, 1)] := by kernel_rfl
@[simp] theorem sz45 : sizeA Tryz.prog 45 = some 7 := by kernel_rfl
@[simp] theorem by45 : bytesA Tryz.prog 45 = some 112 := by kernel_rfl
@[simp] theorem ze45 : zeroA Tryz.prog 45 = some [.v (.int .i64 0), .v (.string ⟨#[]⟩), .v (.int .i64 0), .nil, .v (.string ⟨#[]⟩), .v (.string ⟨#[]⟩), .nil] := by kernel_rfl
@[simp] theorem ag45 : isAggA Tryz.prog 45 = some true := by kernel_rfl
@[simp] theorem rc45 (cs : List PV) : readCells Tryz.prog 45 cs = if 7 ≤ cs.length then some (.agg (cs.take 7)) else none := by simp [readCells]
@[simp] theorem fi45_0 : fieldA Tryz.prog 45 0 = some (0, 1, false) := by kernel_rfl
@[simp] theorem fi45_1 : fieldA Tryz.prog 45 1 = some (1, 1, false) := by kernel_rfl
@[simp] theorem fi45_2 : fieldA Tryz.prog 45 2 = some (2, 1, false) := by kernel_rfl
@[simp] theorem fi45_3 : fieldA Tryz.prog 45 3 = some (3, 1, false) := by kernel_rfl
@[simp] theorem fi45_4 : fieldA Tryz.prog 45 4 = some (4, 1, false) := by kernel_rfl
@[simp] theorem fi45_5 : fieldA Tryz.prog 45 5 = some (5, 1, false) := by kernel_rfl
@[simp] theorem fi45_6 : fieldA Tryz.prog 45 6 = some (6, 1, false) := by kernel_rfl
@[simp] theorem pl45 : placesA Tryz.prog 45 = some [(0, 1), (1, 1), (2, 1), (3, 1), (4, 1), (5, 1), (6, 1)] := by kernel_rfl
@[simp] theorem un55 : Program.underlying Tryz.prog 55 = some (.slice 278) := by kernel_rfl
@[simp] theorem el55 : elemA Tryz.prog 55 = some 278 := by kernel_rfl
@[simp] theorem sz55 : sizeA Tryz.prog 55 = some 1 := by kernel_rfl
@[simp] theorem by55 : bytesA Tryz.prog 55 = some 24 := by kernel_rfl
@[simp] theorem ze55 : zeroA Tryz.prog 55 = some [.nil] := by kernel_rfl
@[simp] theorem ag55 : isAggA Tryz.prog 55 = some false := by kernel_rfl
@[simp] theorem rc55 (cs : List PV) : readCells Tryz.prog 55 cs = cs[0]? := by simp [readCells]
@[simp] theorem un56 : Program.underlying Tryz.prog 56 = some (.slice 92) := by kernel_rfl
@[simp] theorem el56 : elemA Tryz.prog 56 = some 92 := by kernel_rfl
@[simp] theorem sz56 : sizeA Tryz.prog 56 = some 1 := by kernel_rfl
@[simp] theorem by56 : bytesA Tryz.prog 56 = some 24 := by kernel_rfl
@[simp] theorem ze56 : zeroA Tryz.prog 56 = some [.nil] := by kernel_rfl
@[simp] theorem ag56 : isAggA Tryz.prog 56 = some false := by kernel_rfl
@[simp] theorem rc56 (cs : List PV) : readCells Tryz.prog 56 cs = cs[0]? := by simp [readCells]
@[simp] theorem sz57 : sizeA Tryz.prog 57 = some 13 := by kernel_rfl
@[simp] theorem by57 : bytesA Tryz.prog 57 = some 224 := by kernel_rfl
@[simp] theorem ze57 : zeroA Tryz.prog 57 = some [.v (.string ⟨#[]⟩), .v (.string ⟨#[]⟩), .v (.string ⟨#[]⟩), .v (.int .i64 0), .v (.string ⟨#[]⟩), .v (.int .i64 0), .nil, .v (.string ⟨#[]⟩), .v (.string ⟨#[]⟩), .nil, .v (.string ⟨#[]⟩), .nil, .nil] := by kernel_rfl
@[simp] theorem ag57 : isAggA Tryz.prog 57 = some true := by kernel_rfl
@[simp] theorem rc57 (cs : List PV) : readCells Tryz.prog 57 cs = if 13 ≤ cs.length then some (.agg (cs.take 13)) else none := by simp [readCells]
@[simp] theorem fi57_0 : fieldA Tryz.prog 57 0 = some (0, 1, false) := by kernel_rfl
@[simp] theorem fi57_1 : fieldA Tryz.prog 57 1 = some (1, 1, false) := by kernel_rfl
@[simp] theorem fi57_2 : fieldA Tryz.prog 57 2 = some (2, 1, false) := by kernel_rfl
@[simp] theorem fi57_3 : fieldA Tryz.prog 57 3 = some (3, 7, true) := by kernel_rfl
@[simp] theorem fi57_4 : fieldA Tryz.prog 57 4 = some (10, 1, false) := by kernel_rfl
@[simp] theorem fi57_5 : fieldA Tryz.prog 57 5 = some (11, 1, false) := by kernel_rfl
@[simp] theorem fi57_6 : fieldA Tryz.prog 57 6 = some (12, 1, false) := by kernel_rfl
@[simp] theorem pl57 : placesA Tryz.prog 57 = some [(0, 1), (1, 1), (2, 1), (3, 7), (10, 1), (11, 1), (12, 1)] := by kernel_rfl
@[simp] theorem sz58 : sizeA Tryz.prog 58 = some 13 := by kernel_rfl
@[simp] theorem by58 : bytesA Tryz.prog 58 = some 224 := by kernel_rfl
@[simp] theorem ze58 : zeroA Tryz.prog 58 = some [.v (.string ⟨#[]⟩), .v (.string ⟨#[]⟩), .v (.string ⟨#[]⟩), .v (.int .i64 0), .v (.string ⟨#[]⟩), .v (.int .i64 0), .nil, .v (.string ⟨#[]⟩), .v (.string ⟨#[]⟩), .nil, .v (.string ⟨#[]⟩), .nil, .nil] := by kernel_rfl
@[simp] theorem ag58 : isAggA Tryz.prog 58 = some true := by kernel_rfl
@[simp] theorem rc58 (cs : List PV) : readCells Tryz.prog 58 cs = if 13 ≤ cs.length then some (.agg (cs.take 13)) else none := by simp [readCells]
@[simp] theorem fi58_0 : fieldA Tryz.prog 58 0 = some (0, 1, false) := by kernel_rfl
@[simp] theorem fi58_1 : fieldA Tryz.prog 58 1 = some (1, 1, false) := by kernel_rfl
@[simp] theorem fi58_2 : fieldA Tryz.prog 58 2 = some (2, 1, false) := by kernel_rfl
@[simp] theorem fi58_3 : fieldA Tryz.prog 58 3 = some (3, 7, true) := by kernel_rfl
@[simp] theorem fi58_4 : fieldA Tryz.prog 58 4 = some (10, 1, false) := by kernel_rfl
@[simp] theorem fi58_5 : fieldA Tryz.prog 58 5 = some (11, 1, false) := by kernel_rfl
@[simp] theorem fi58_6 : fieldA Tryz.prog 58 6 = some (12, 1, false) := by kernel_rfl
@[simp] theorem pl58 : placesA Tryz.prog 58 = some [(0, 1), (1, 1), (2, 1), (3, 7), (10, 1), (11, 1), (12, 1)] := by kernel_rfl
@[simp] theorem sz66 : sizeA Tryz.prog 66 = some 1 := by kernel_rfl
@[simp] theorem by66 : bytesA Tryz.prog 66 = some 8 := by kernel_rfl
@[simp] theorem ze66 : zeroA Tryz.prog 66 = some [.v (.pointer none)] := by kernel_rfl
@[simp] theorem ag66 : isAggA Tryz.prog 66 = some false := by kernel_rfl
@[simp] theorem rc66 (cs : List PV) : readCells Tryz.prog 66 cs = cs[0]? := by simp [readCells]
@[simp] theorem un67 : Program.underlying Tryz.prog 67 = some (.slice 5) := by kernel_rfl
@[simp] theorem el67 : elemA Tryz.prog 67 = some 5 := by kernel_rfl
@[simp] theorem sz67 : sizeA Tryz.prog 67 = some 1 := by kernel_rfl
@[simp] theorem by67 : bytesA Tryz.prog 67 = some 24 := by kernel_rfl
@[simp] theorem ze67 : zeroA Tryz.prog 67 = some [.nil] := by kernel_rfl
@[simp] theorem ag67 : isAggA Tryz.prog 67 = some false := by kernel_rfl
@[simp] theorem rc67 (cs : List PV) : readCells Tryz.prog 67 cs = cs[0]? := by simp [readCells]
@[simp] theorem sz68 : sizeA Tryz.prog 68 = some 2 := by kernel_rfl
@[simp] theorem by68 : bytesA Tryz.prog 68 = some 32 := by kernel_rfl
@[simp] theorem ze68 : zeroA Tryz.prog 68 = some [.v (.pointer none), .nil] := by kernel_rfl
@[simp] theorem ag68 : isAggA Tryz.prog 68 = some true := by kernel_rfl
@[simp] theorem rc68 (cs : List PV) : readCells Tryz.prog 68 cs = if 2 ≤ cs.length then some (.agg (cs.take 2)) else none := by simp [readCells]
@[simp] theorem fi68_0 : fieldA Tryz.prog 68 0 = some (0, 1, false) := by kernel_rfl
@[simp] theorem fi68_1 : fieldA Tryz.prog 68 1 = some (1, 1, false) := by kernel_rfl
@[simp] theorem pl68 : placesA Tryz.prog 68 = some [(0, 1), (1, 1)] := by kernel_rfl
@[simp] theorem sz69 : sizeA Tryz.prog 69 = some 2 := by kernel_rfl
@[simp] theorem by69 : bytesA Tryz.prog 69 = some 32 := by kernel_rfl
@[simp] theorem ze69 : zeroA Tryz.prog 69 = some [.v (.pointer none), .nil] := by kernel_rfl
@[simp] theorem ag69 : isAggA Tryz.prog 69 = some true := by kernel_rfl
@[simp] theorem rc69 (cs : List PV) : readCells Tryz.prog 69 cs = if 2 ≤ cs.length then some (.agg (cs.take 2)) else none := by simp [readCells]
@[simp] theorem fi69_0 : fieldA Tryz.prog 69 0 = some (0, 1, false) := by kernel_rfl
@[simp] theorem fi69_1 : fieldA Tryz.prog 69 1 = some (1, 1, false) := by kernel_rfl
@[simp] theorem pl69 : placesA Tryz.prog 69 = some [(0, 1), (1, 1)] := by kernel_rfl
@[simp] theorem sz81 : sizeA Tryz.prog 81 = some 3 := by kernel_rfl
@[simp] theorem by81 : bytesA Tryz.prog 81 = some 40 := by kernel_rfl
@[simp] theorem ze81 : zeroA Tryz.prog 81 = some [.v (.string ⟨#[]⟩), .v (.string ⟨#[]⟩), .v (.int .i64 0)] := by kernel_rfl
@[simp] theorem ag81 : isAggA Tryz.prog 81 = some true := by kernel_rfl
@[simp] theorem rc81 (cs : List PV) : readCells Tryz.prog 81 cs = if 3 ≤ cs.length then some (.agg (cs.take 3)) else none := by simp [readCells]
@[simp] theorem fi81_0 : fieldA Tryz.prog 81 0 = some (0, 1, false) := by kernel_rfl
@[simp] theorem fi81_1 : fieldA Tryz.prog 81 1 = some (1, 1, false) := by kernel_rfl
@[simp] theorem fi81_2 : fieldA Tryz.prog 81 2 = some (2, 1, false) := by kernel_rfl
@[simp] theorem pl81 : placesA Tryz.prog 81 = some [(0, 1), (1, 1), (2, 1)] := by kernel_rfl
@[simp] theorem fl81 : flatA Tryz.prog 81 = some [2, 2, 0] := by kernel_rfl
@[simp] theorem sz82 : sizeA Tryz.prog 82 = some 3 := by kernel_rfl
@[simp] theorem by82 : bytesA Tryz.prog 82 = some 40 := by kernel_rfl
@[simp] theorem ze82 : zeroA Tryz.prog 82 = some [.v (.string ⟨#[]⟩), .v (.string ⟨#[]⟩), .v (.int .i64 0)] := by kernel_rfl
@[simp] theorem ag82 : isAggA Tryz.prog 82 = some true := by kernel_rfl
@[simp] theorem rc82 (cs : List PV) : readCells Tryz.prog 82 cs = if 3 ≤ cs.length then some (.agg (cs.take 3)) else none := by simp [readCells]
@[simp] theorem fi82_0 : fieldA Tryz.prog 82 0 = some (0, 1, false) := by kernel_rfl
@[simp] theorem fi82_1 : fieldA Tryz.prog 82 1 = some (1, 1, false) := by kernel_rfl
@[simp] theorem fi82_2 : fieldA Tryz.prog 82 2 = some (2, 1, false) := by kernel_rfl
@[simp] theorem pl82 : placesA Tryz.prog 82 = some [(0, 1), (1, 1), (2, 1)] := by kernel_rfl
@[simp] theorem fl82 : flatA Tryz.prog 82 = some [2, 2, 0] := by kernel_rfl
@[simp] theorem sz91 : sizeA Tryz.prog 91 = some 2 := by kernel_rfl
@[simp] theorem by91 : bytesA Tryz.prog 91 = some 32 := by kernel_rfl
@[simp] theorem ze91 : zeroA Tryz.prog 91 = some [.v (.int .i64 0), .nil] := by kernel_rfl
@[simp] theorem ag91 : isAggA Tryz.prog 91 = some true := by kernel_rfl
@[simp] theorem rc91 (cs : List PV) : readCells Tryz.prog 91 cs = if 2 ≤ cs.length then some (.agg (cs.take 2)) else none := by simp [readCells]
@[simp] theorem fi91_0 : fieldA Tryz.prog 91 0 = some (0, 1, false) := by kernel_rfl
@[simp] theorem fi91_1 : fieldA Tryz.prog 91 1 = some (1, 1, false) := by kernel_rfl
@[simp] theorem pl91 : placesA Tryz.prog 91 = some [(0, 1), (1, 1)] := by kernel_rfl
@[simp] theorem sz92 : sizeA Tryz.prog 92 = some 2 := by kernel_rfl
@[simp] theorem by92 : bytesA Tryz.prog 92 = some 32 := by kernel_rfl
@[simp] theorem ze92 : zeroA Tryz.prog 92 = some [.v (.int .i64 0), .nil] := by kernel_rfl
@[simp] theorem ag92 : isAggA Tryz.prog 92 = some true := by kernel_rfl
@[simp] theorem rc92 (cs : List PV) : readCells Tryz.prog 92 cs = if 2 ≤ cs.length then some (.agg (cs.take 2)) else none := by simp [readCells]
@[simp] theorem fi92_0 : fieldA Tryz.prog 92 0 = some (0, 1, false) := by kernel_rfl
@[simp] theorem fi92_1 : fieldA Tryz.prog 92 1 = some (1, 1, false) := by kernel_rfl
@[simp] theorem pl92 : placesA Tryz.prog 92 = some [(0, 1), (1, 1)] := by kernel_rfl
@[simp] theorem un95 : Program.underlying Tryz.prog 95 = some (.int .u64) := by kernel_rfl
@[simp] theorem sz95 : sizeA Tryz.prog 95 = some 1 := by kernel_rfl
@[simp] theorem by95 : bytesA Tryz.prog 95 = some 8 := by kernel_rfl
@[simp] theorem ze95 : zeroA Tryz.prog 95 = some [.v (.int .u64 0)] := by kernel_rfl
@[simp] theorem ag95 : isAggA Tryz.prog 95 = some false := by kernel_rfl
@[simp] theorem rc95 (cs : List PV) : readCells Tryz.prog 95 cs = cs[0]? := by simp [readCells]
@[simp] theorem un102 : Program.underlying Tryz.prog 102 = some (.slice 9) := by kernel_rfl
@[simp] theorem el102 : elemA Tryz.prog 102 = some 9 := by kernel_rfl
@[simp] theorem sz102 : sizeA Tryz.prog 102 = some 1 := by kernel_rfl
@[simp] theorem by102 : bytesA Tryz.prog 102 = some 24 := by kernel_rfl
@[simp] theorem ze102 : zeroA Tryz.prog 102 = some [.nil] := by kernel_rfl
@[simp] theorem ag102 : isAggA Tryz.prog 102 = some false := by kernel_rfl
@[simp] theorem rc102 (cs : List PV) : readCells Tryz.prog 102 cs = cs[0]? := by simp [readCells]
@[simp] theorem sz104 : sizeA Tryz.prog 104 = some 1 := by kernel_rfl
@[simp] theorem by104 : bytesA Tryz.prog 104 = some 8 := by kernel_rfl
@[simp] theorem ze104 : zeroA Tryz.prog 104 = some [.v (.pointer none)] := by kernel_rfl
@[simp] theorem ag104 : isAggA Tryz.prog 104 = some false := by kernel_rfl
@[simp] theorem rc104 (cs : List PV) : readCells Tryz.prog 104 cs = cs[0]? := by simp [readCells]
@[simp] theorem sz120 : sizeA Tryz.prog 120 = some 1 := by kernel_rfl
@[simp] theorem by120 : bytesA Tryz.prog 120 = some 8 := by kernel_rfl
@[simp] theorem ze120 : zeroA Tryz.prog 120 = some [.v (.pointer none)] := by kernel_rfl
@[simp] theorem ag120 : isAggA Tryz.prog 120 = some false := by kernel_rfl
@[simp] theorem rc120 (cs : List PV) : readCells Tryz.prog 120 cs = cs[0]? := by simp [readCells]
@[simp] theorem mk122 : mapKT Tryz.prog 122 = some (none, 4) := by kernel_rfl
@[simp] theorem zv4_122 : zeroV Tryz.prog 4 = some (.v (.bool false)) := by kernel_rfl
@[simp] theorem sz122 : sizeA Tryz.prog 122 = some 1 := by kernel_rfl
@[simp] theorem by122 : bytesA Tryz.prog 122 = some 8 := by kernel_rfl
@[simp] theorem ze122 : zeroA Tryz.prog 122 = some [.v (.map none)] := by kernel_rfl
@[simp] theorem ag122 : isAggA Tryz.prog 122 = some false := by kernel_rfl
@[simp] theorem rc122 (cs : List PV) : readCells Tryz.prog 122 cs = cs[0]? := by simp [readCells]
@[simp] theorem sz123 : sizeA Tryz.prog 123 = some 6 := by kernel_rfl
@[simp] theorem by123 : bytesA Tryz.prog 123 = some 96 := by kernel_rfl
@[simp] theorem ze123 : zeroA Tryz.prog 123 = some [.nil, .nil, .nil, .v (.map none), .v (.map none), .v (.bool false)] := by kernel_rfl
@[simp] theorem ag123 : isAggA Tryz.prog 123 = some true := by kernel_rfl
@[simp] theorem rc123 (cs : List PV) : readCells Tryz.prog 123 cs = if 6 ≤ cs.length then some (.agg (cs.take 6)) else none := by simp [readCells]
@[simp] theorem fi123_0 : fieldA Tryz.prog 123 0 = some (0, 3, true) := by kernel_rfl
@[simp] theorem fi123_1 : fieldA Tryz.prog 123 1 = some (3, 1, false) := by kernel_rfl
@[simp] theorem fi123_2 : fieldA Tryz.prog 123 2 = some (4, 1, false) := by kernel_rfl
@[simp] theorem fi123_3 : fieldA Tryz.prog 123 3 = some (5, 1, false) := by kernel_rfl
@[simp] theorem pl123 : placesA Tryz.prog 123 = some [(0, 3), (3, 1), (4, 1), (5, 1)] := by kernel_rfl
@[simp] theorem sz124 : sizeA Tryz.prog 124 = some 6 := by kernel_rfl
@[simp] theorem by124 : bytesA Tryz.prog 124 = some 96 := by kernel_rfl
@[simp] theorem ze124 : zeroA Tryz.prog 124 = some [.nil, .nil, .nil, .v (.map none), .v (.map none), .v (.bool false)] := by kernel_rfl
@[simp] theorem ag124 : isAggA Tryz.prog 124 = some true := by kernel_rfl
@[simp] theorem rc124 (cs : List PV) : readCells Tryz.prog 124 cs = if 6 ≤ cs.length then some (.agg (cs.take 6)) else none := by simp [readCells]
@[simp] theorem fi124_0 : fieldA Tryz.prog 124 0 = some (0, 3, true) := by kernel_rfl
@[simp] theorem fi124_1 : fieldA Tryz.prog 124 1 = some (3, 1, false) := by kernel_rfl
@[simp] theorem fi124_2 : fieldA Tryz.prog 124 2 = some (4, 1, false) := by kernel_rfl
@[simp] theorem fi124_3 : fieldA Tryz.prog 124 3 = some (5, 1, false) := by kernel_rfl
@[simp] theorem pl124 : placesA Tryz.prog 124 = some [(0, 3), (3, 1), (4, 1), (5, 1)] := by kernel_rfl
@[simp] theorem un130 : Program.underlying Tryz.prog 130 = some (.int .i64) := by kernel_rfl
@[simp] theorem sz130 : sizeA Tryz.prog 130 = some 1 := by kernel_rfl
@[simp] theorem by130 : bytesA Tryz.prog 130 = some 8 := by kernel_rfl
@[simp] theorem ze130 : zeroA Tryz.prog 130 = some [.v (.int .i64 0)] := by kernel_rfl
@[simp] theorem ag130 : isAggA Tryz.prog 130 = some false := by kernel_rfl
@[simp] theorem rc130 (cs : List PV) : readCells Tryz.prog 130 cs = cs[0]? := by simp [readCells]
@[simp] theorem un137 : Program.underlying Tryz.prog 137 = some (.int .u32) := by kernel_rfl
@[simp] theorem sz137 : sizeA Tryz.prog 137 = some 1 := by kernel_rfl
@[simp] theorem by137 : bytesA Tryz.prog 137 = some 4 := by kernel_rfl
@[simp] theorem ze137 : zeroA Tryz.prog 137 = some [.v (.int .u32 0)] := by kernel_rfl
@[simp] theorem ag137 : isAggA Tryz.prog 137 = some false := by kernel_rfl
@[simp] theorem rc137 (cs : List PV) : readCells Tryz.prog 137 cs = cs[0]? := by simp [readCells]
@[simp] theorem un139 : Program.underlying Tryz.prog 139 = some (.int .u64) := by kernel_rfl
@[simp] theorem sz139 : sizeA Tryz.prog 139 = some 1 := by kernel_rfl
@[simp] theorem by139 : bytesA Tryz.prog 139 = some 8 := by kernel_rfl
@[simp] theorem ze139 : zeroA Tryz.prog 139 = some [.v (.int .u64 0)] := by kernel_rfl
@[simp] theorem ag139 : isAggA Tryz.prog 139 = some false := by kernel_rfl
@[simp] theorem rc139 (cs : List PV) : readCells Tryz.prog 139 cs = cs[0]? := by simp [readCells]
@[simp] theorem un144 : Program.underlying Tryz.prog 144 = some (.slice 180) := by kernel_rfl
@[simp] theorem el144 : elemA Tryz.prog 144 = some 180 := by kernel_rfl
@[simp] theorem sz144 : sizeA Tryz.prog 144 = some 1 := by kernel_rfl
@[simp] theorem by144 : bytesA Tryz.prog 144 = some 24 := by kernel_rfl
@[simp] theorem ze144 : zeroA Tryz.prog 144 = some [.nil] := by kernel_rfl
@[simp] theorem ag144 : isAggA Tryz.prog 144 = some false := by kernel_rfl
@[simp] theorem rc144 (cs : List PV) : readCells Tryz.prog 144 cs = cs[0]? := by simp [readCells]
@[simp] theorem sz145 : sizeA Tryz.prog 145 = some 5 := by kernel_rfl
@[simp] theorem by145 : bytesA Tryz.prog 145 = some 80 := by kernel_rfl
@[simp] theorem ze145 : zeroA Tryz.prog 145 = some [.v (.int .i64 0), .v (.int .i64 0), .v (.string ⟨#[]⟩), .nil, .nil] := by kernel_rfl
@[simp] theorem ag145 : isAggA Tryz.prog 145 = some true := by kernel_rfl
@[simp] theorem rc145 (cs : List PV) : readCells Tryz.prog 145 cs = if 5 ≤ cs.length then some (.agg (cs.take 5)) else none := by simp [readCells]
@[simp] theorem fi145_0 : fieldA Tryz.prog 145 0 = some (0, 1, false) := by kernel_rfl
@[simp] theorem fi145_1 : fieldA Tryz.prog 145 1 = some (1, 1, false) := by kernel_rfl
@[simp] theorem fi145_2 : fieldA Tryz.prog 145 2 = some (2, 1, false) := by kernel_rfl
@[simp] theorem fi145_3 : fieldA Tryz.prog 145 3 = some (3, 1, false) := by kernel_rfl
@[simp] theorem fi145_4 : fieldA Tryz.prog 145 4 = some (4, 1, false) := by kernel_rfl
@[simp] theorem pl145 : placesA Tryz.prog 145 = some [(0, 1), (1, 1), (2, 1), (3, 1), (4, 1)] := by kernel_rfl
@[simp] theorem sz146 : sizeA Tryz.prog 146 = some 5 := by kernel_rfl
@[simp] theorem by146 : bytesA Tryz.prog 146 = some 80 := by kernel_rfl
@[simp] theorem ze146 : zeroA Tryz.prog 146 = some [.v (.int .i64 0), .v (.int .i64 0), .v (.string ⟨#[]⟩), .nil, .nil] := by kernel_rfl
@[simp] theorem ag146 : isAggA Tryz.prog 146 = some true := by kernel_rfl
@[simp] theorem rc146 (cs : List PV) : readCells Tryz.prog 146 cs = if 5 ≤ cs.length then some (.agg (cs.take 5)) else none := by simp [readCells]
@[simp] theorem fi146_0 : fieldA Tryz.prog 146 0 = some (0, 1, false) := by kernel_rfl
@[simp] theorem fi146_1 : fieldA Tryz.prog 146 1 = some (1, 1, false) := by kernel_rfl
@[simp] theorem fi146_2 : fieldA Tryz.prog 146 2 = some (2, 1, false) := by kernel_rfl
@[simp] theorem fi146_3 : fieldA Tryz.prog 146 3 = some (3, 1, false) := by kernel_rfl
@[simp] theorem fi146_4 : fieldA Tryz.prog 146 4 = some (4, 1, false) := by kernel_rfl
@[simp] theorem pl146 : placesA Tryz.prog 146 = some [(0, 1), (1, 1), (2, 1), (3, 1), (4, 1)] := by kernel_rfl
@[simp] theorem un152 : Program.underlying Tryz.prog 152 = some (.slice 208) := by kernel_rfl
@[simp] theorem el152 : elemA Tryz.prog 152 = some 208 := by kernel_rfl
@[simp] theorem sz152 : sizeA Tryz.prog 152 = some 1 := by kernel_rfl
@[simp] theorem by152 : bytesA Tryz.prog 152 = some 24 := by kernel_rfl
@[simp] theorem ze152 : zeroA Tryz.prog 152 = some [.nil] := by kernel_rfl
@[simp] theorem ag152 : isAggA Tryz.prog 152 = some false := by kernel_rfl
@[simp] theorem rc152 (cs : List PV) : readCells Tryz.prog 152 cs = cs[0]? := by simp [readCells]
@[simp] theorem un157 : Program.underlying Tryz.prog 157 = some (.slice 166) := by kernel_rfl
@[simp] theorem el157 : elemA Tryz.prog 157 = some 166 := by kernel_rfl
@[simp] theorem sz157 : sizeA Tryz.prog 157 = some 1 := by kernel_rfl
@[simp] theorem by157 : bytesA Tryz.prog 157 = some 24 := by kernel_rfl
@[simp] theorem ze157 : zeroA Tryz.prog 157 = some [.nil] := by kernel_rfl
@[simp] theorem ag157 : isAggA Tryz.prog 157 = some false := by kernel_rfl
@[simp] theorem rc157 (cs : List PV) : readCells Tryz.prog 157 cs = cs[0]? := by simp [readCells]
@[simp] theorem sz165 : sizeA Tryz.prog 165 = some 10 := by kernel_rfl
@[simp] theorem by165 : bytesA Tryz.prog 165 = some 176 := by kernel_rfl
@[simp] theorem ze165 : zeroA Tryz.prog 165 = some [.v (.string ⟨#[]⟩), .nil, .nil, .v (.int .i64 0), .v (.string ⟨#[]⟩), .v (.int .i64 0), .nil, .v (.string ⟨#[]⟩), .v (.string ⟨#[]⟩), .nil] := by kernel_rfl
@[simp] theorem ag165 : isAggA Tryz.prog 165 = some true := by kernel_rfl
@[simp] theorem rc165 (cs : List PV) : readCells Tryz.prog 165 cs = if 10 ≤ cs.length then some (.agg (cs.take 10)) else none := by simp [readCells]
@[simp] theorem fi165_0 : fieldA Tryz.prog 165 0 = some (0, 1, false) := by kernel_rfl
@[simp] theorem fi165_1 : fieldA Tryz.prog 165 1 = some (1, 1, false) := by kernel_rfl
@[simp] theorem fi165_2 : fieldA Tryz.prog 165 2 = some (2, 1, false) := by kernel_rfl
@[simp] theorem fi165_3 : fieldA Tryz.prog 165 3 = some (3, 7, true) := by kernel_rfl
@[simp] theorem pl165 : placesA Tryz.prog 165 = some [(0, 1), (1, 1), (2, 1), (3, 7)] := by kernel_rfl
@[simp] theorem sz166 : sizeA Tryz.prog 166 = some 10 := by kernel_rfl
@[simp] theorem by166 : bytesA Tryz.prog 166 = some 176 := by kernel_rfl
@[simp] theorem ze166 : zeroA Tryz.prog 166 = some [.v (.string ⟨#[]⟩), .nil, .nil, .v (.int .i64 0), .v (.string ⟨#[]⟩), .v (.int .i64 0), .nil, .v (.string ⟨#[]⟩), .v (.string ⟨#[]⟩), .nil] := by kernel_rfl
@[simp] theorem ag166 : isAggA Tryz.prog 166 = some true := by kernel_rfl
@[simp] theorem rc166 (cs : List PV) : readCells Tryz.prog 166 cs = if 10 ≤ cs.length then some (.agg (cs.take 10)) else none := by simp [readCells]
@[simp] theorem fi166_0 : fieldA Tryz.prog 166 0 = some (0, 1, false) := by kernel_rfl
@[simp] theorem fi166_1 : fieldA Tryz.prog 166 1 = some (1, 1, false) := by kernel_rfl
@[simp] theorem fi166_2 : fieldA Tryz.prog 166 2 = some (2, 1, false) := by kernel_rfl
@[simp] theorem fi166_3 : fieldA Tryz.prog 166 3 = some (3, 7, true) := by kernel_rfl
@[simp] theorem pl166 : placesA Tryz.prog 166 = some [(0, 1), (1, 1), (2, 1), (3, 7)] := by kernel_rfl
@[simp] theorem un168 : Program.underlying Tryz.prog 168 = some (.int .u64) := by kernel_rfl
@[simp] theorem sz168 : sizeA Tryz.prog 168 = some 1 := by kernel_rfl
@[simp] theorem by168 : bytesA Tryz.prog 168 = some 8 := by kernel_rfl
@[simp] theorem ze168 : zeroA Tryz.prog 168 = some [.v (.int .u64 0)] := by kernel_rfl
@[simp] theorem ag168 : isAggA Tryz.prog 168 = some false := by kernel_rfl
@[simp] theorem rc168 (cs : List PV) : readCells Tryz.prog 168 cs = cs[0]? := by simp [readCells]
@[simp] theorem sz172 : sizeA Tryz.prog 172 = some 1 := by kernel_rfl
@[simp] theorem by172 : bytesA Tryz.prog 172 = some 8 := by kernel_rfl
@[simp] theorem ze172 : zeroA Tryz.prog 172 = some [.v (.pointer none)] := by kernel_rfl
@[simp] theorem ag172 : isAggA Tryz.prog 172 = some false := by kernel_rfl
@[simp] theorem rc172 (cs : List PV) : readCells Tryz.prog 172 cs = cs[0]? := by simp [readCells]
@[simp] theorem sz179 : sizeA Tryz.prog 179 = some 6 := by kernel_rfl
@[simp] theorem by179 : bytesA Tryz.prog 179 = some 96 := by kernel_rfl
@[simp] theorem ze179 : zeroA Tryz.prog 179 = some [.v (.string ⟨#[]⟩), .v (.int .i64 0), .v (.int .i64 0), .v (.string ⟨#[]⟩), .nil, .nil] := by kernel_rfl
@[simp] theorem ag179 : isAggA Tryz.prog 179 = some true := by kernel_rfl
@[simp] theorem rc179 (cs : List PV) : readCells Tryz.prog 179 cs = if 6 ≤ cs.length then some (.agg (cs.take 6)) else none := by simp [readCells]
@[simp] theorem fi179_0 : fieldA Tryz.prog 179 0 = some (0, 1, false) := by kernel_rfl
@[simp] theorem fi179_1 : fieldA Tryz.prog 179 1 = some (1, 5, true) := by kernel_rfl
@[simp] theorem pl179 : placesA Tryz.prog 179 = some [(0, 1), (1, 5)] := by kernel_rfl
@[simp] theorem sz180 : sizeA Tryz.prog 180 = some 6 := by kernel_rfl
@[simp] theorem by180 : bytesA Tryz.prog 180 = some 96 := by kernel_rfl
@[simp] theorem ze180 : zeroA Tryz.prog 180 = some [.v (.string ⟨#[]⟩), .v (.int .i64 0), .v (.int .i64 0), .v (.string ⟨#[]⟩), .nil, .nil] := by kernel_rfl
@[simp] theorem ag180 : isAggA Tryz.prog 180 = some true := by kernel_rfl
@[simp] theorem rc180 (cs : List PV) : readCells Tryz.prog 180 cs = if 6 ≤ cs.length then some (.agg (cs.take 6)) else none := by simp [readCells]
@[simp] theorem fi180_0 : fieldA Tryz.prog 180 0 = some (0, 1, false) := by kernel_rfl
@[simp] theorem fi180_1 : fieldA Tryz.prog 180 1 = some (1, 5, true) := by kernel_rfl
@[simp] theorem pl180 : placesA Tryz.prog 180 = some [(0, 1), (1, 5)] := by kernel_rfl
@[simp] theorem un186 : Program.underlying Tryz.prog 186 = some (.slice 190) := by kernel_rfl
@[simp] theorem el186 : elemA Tryz.prog 186 = some 190 := by kernel_rfl
@[simp] theorem sz186 : sizeA Tryz.prog 186 = some 1 := by kernel_rfl
@[simp] theorem by186 : bytesA Tryz.prog 186 = some 24 := by kernel_rfl
@[simp] theorem ze186 : zeroA Tryz.prog 186 = some [.nil] := by kernel_rfl
@[simp] theorem ag186 : isAggA Tryz.prog 186 = some false := by kernel_rfl
@[simp] theorem rc186 (cs : List PV) : readCells Tryz.prog 186 cs = cs[0]? := by simp [readCells]
@[simp] theorem un190 : Program.underlying Tryz.prog 190 = some (.slice 198) := by kernel_rfl
@[simp] theorem el190 : elemA Tryz.prog 190 = some 198 := by kernel_rfl
@[simp] theorem sz190 : sizeA Tryz.prog 190 = some 1 := by kernel_rfl
@[simp] theorem by190 : bytesA Tryz.prog 190 = some 24 := by kernel_rfl
@[simp] theorem ze190 : zeroA Tryz.prog 190 = some [.nil] := by kernel_rfl
@[simp] theorem ag190 : isAggA Tryz.prog 190 = some false := by kernel_rfl
@[simp] theorem rc190 (cs : List PV) : readCells Tryz.prog 190 cs = cs[0]? := by simp [readCells]
@[simp] theorem un194 : Program.underlying Tryz.prog 194 = some (.array 3 3) := by kernel_rfl
@[simp] theorem ar194 : arrA Tryz.prog 194 = some (3, 3) := by kernel_rfl
@[simp] theorem el194 : elemA Tryz.prog 194 = none := by kernel_rfl
@[simp] theorem sz194 : sizeA Tryz.prog 194 = some 3 := by kernel_rfl
@[simp] theorem by194 : bytesA Tryz.prog 194 = some 24 := by kernel_rfl
@[simp] theorem ze194 : zeroA Tryz.prog 194 = some [.v (.int .i64 0), .v (.int .i64 0), .v (.int .i64 0)] := by kernel_rfl
@[simp] theorem ag194 : isAggA Tryz.prog 194 = some true := by kernel_rfl
@[simp] theorem rc194 (cs : List PV) : readCells Tryz.prog 194 cs = if 3 ≤ cs.length then some (.agg (cs.take 3)) else none := by simp [readCells]
@[simp] theorem pl194 : placesA Tryz.prog 194 = none := by kernel_rfl
@[simp] theorem sz195 : sizeA Tryz.prog 195 = some 5 := by kernel_rfl
@[simp] theorem by195 : bytesA Tryz.prog 195 = some 56 := by kernel_rfl
@[simp] theorem ze195 : zeroA Tryz.prog 195 = some [.v (.int .i64 0), .v (.int .i64 0), .v (.int .i64 0), .v (.int .i64 0), .nil] := by kernel_rfl
@[simp] theorem ag195 : isAggA Tryz.prog 195 = some true := by kernel_rfl
@[simp] theorem rc195 (cs : List PV) : readCells Tryz.prog 195 cs = if 5 ≤ cs.length then some (.agg (cs.take 5)) else none := by simp [readCells]
@[simp] theorem fi195_0 : fieldA Tryz.prog 195 0 = some (0, 3, true) := by kernel_rfl
@[simp] theorem fi195_1 : fieldA Tryz.prog 195 1 = some (3, 1, false) := by kernel_rfl
@[simp] theorem fi195_2 : fieldA Tryz.prog 195 2 = some (4, 1, false) := by kernel_rfl
@[simp] theorem pl195 : placesA Tryz.prog 195 = some [(0, 3), (3, 1), (4, 1)] := by kernel_rfl
@[simp] theorem sz196 : sizeA Tryz.prog 196 = some 5 := by kernel_rfl
@[simp] theorem by196 : bytesA Tryz.prog 196 = some 56 := by kernel_rfl
@[simp] theorem ze196 : zeroA Tryz.prog 196 = some [.v (.int .i64 0), .v (.int .i64 0), .v (.int .i64 0), .v (.int .i64 0), .nil] := by kernel_rfl
@[simp] theorem ag196 : isAggA Tryz.prog 196 = some true := by kernel_rfl
@[simp] theorem rc196 (cs : List PV) : readCells Tryz.prog 196 cs = if 5 ≤ cs.length then some (.agg (cs.take 5)) else none := by simp [readCells]
@[simp] theorem fi196_0 : fieldA Tryz.prog 196 0 = some (0, 3, true) := by kernel_rfl
@[simp] theorem fi196_1 : fieldA Tryz.prog 196 1 = some (3, 1, false) := by kernel_rfl
@[simp] theorem fi196_2 : fieldA Tryz.prog 196 2 = some (4, 1, false) := by kernel_rfl
@[simp] theorem pl196 : placesA Tryz.prog 196 = some [(0, 3), (3, 1), (4, 1)] := by kernel_rfl
@[simp] theorem sz197 : sizeA Tryz.prog 197 = some 11 := by kernel_rfl
@[simp] theorem by197 : bytesA Tryz.prog 197 = some 128 := by kernel_rfl
@[simp] theorem ze197 : zeroA Tryz.prog 197 = some [.v (.string ⟨#[]⟩), .v (.int .i64 0), .v (.int .i64 0), .v (.int .i64 0), .v (.int .i64 0), .nil, .v (.int .i64 0), .v (.int .i64 0), .v (.int .i64 0), .v (.int .i64 0), .nil] := by kernel_rfl
@[simp] theorem ag197 : isAggA Tryz.prog 197 = some true := by kernel_rfl
@[simp] theorem rc197 (cs : List PV) : readCells Tryz.prog 197 cs = if 11 ≤ cs.length then some (.agg (cs.take 11)) else none := by simp [readCells]
@[simp] theorem fi197_0 : fieldA Tryz.prog 197 0 = some (0, 1, false) := by kernel_rfl
@[simp] theorem fi197_1 : fieldA Tryz.prog 197 1 = some (1, 5, true) := by kernel_rfl
@[simp] theorem fi197_2 : fieldA Tryz.prog 197 2 = some (6, 5, true) := by kernel_rfl
@[simp] theorem pl197 : placesA Tryz.prog 197 = some [(0, 1), (1, 5), (6, 5)] := by kernel_rfl
@[simp] theorem sz198 : sizeA Tryz.prog 198 = some 11 := by kernel_rfl
@[simp] theorem by198 : bytesA Tryz.prog 198 = some 128 := by kernel_rfl
@[simp] theorem ze198 : zeroA Tryz.prog 198 = some [.v (.string ⟨#[]⟩), .v (.int .i64 0), .v (.int .i64 0), .v (.int .i64 0), .v (.int .i64 0), .nil, .v (.int .i64 0), .v (.int .i64 0), .v (.int .i64 0), .v (.int .i64 0), .nil] := by kernel_rfl
@[simp] theorem ag198 : isAggA Tryz.prog 198 = some true := by kernel_rfl
@[simp] theorem rc198 (cs : List PV) : readCells Tryz.prog 198 cs = if 11 ≤ cs.length then some (.agg (cs.take 11)) else none := by simp [readCells]
@[simp] theorem fi198_0 : fieldA Tryz.prog 198 0 = some (0, 1, false) := by kernel_rfl
@[simp] theorem fi198_1 : fieldA Tryz.prog 198 1 = some (1, 5, true) := by kernel_rfl
@[simp] theorem fi198_2 : fieldA Tryz.prog 198 2 = some (6, 5, true) := by kernel_rfl
@[simp] theorem pl198 : placesA Tryz.prog 198 = some [(0, 1), (1, 5), (6, 5)] := by kernel_rfl
@[simp] theorem sz203 : sizeA Tryz.prog 203 = some 4 := by kernel_rfl
@[simp] theorem by203 : bytesA Tryz.prog 203 = some 48 := by kernel_rfl
@[simp] theorem ze203 : zeroA Tryz.prog 203 = some [.v (.int .i64 0), .v (.int .i64 0), .v (.int .i64 0), .nil] := by kernel_rfl
@[simp] theorem ag203 : isAggA Tryz.prog 203 = some true := by kernel_rfl
@[simp] theorem rc203 (cs : List PV) : readCells Tryz.prog 203 cs = if 4 ≤ cs.length then some (.agg (cs.take 4)) else none := by simp [readCells]
@[simp] theorem fi203_0 : fieldA Tryz.prog 203 0 = some (0, 1, false) := by kernel_rfl
@[simp] theorem fi203_1 : fieldA Tryz.prog 203 1 = some (1, 1, false) := by kernel_rfl
@[simp] theorem fi203_2 : fieldA Tryz.prog 203 2 = some (2, 1, false) := by kernel_rfl
@[simp] theorem fi203_3 : fieldA Tryz.prog 203 3 = some (3, 1, false) := by kernel_rfl
@[simp] theorem pl203 : placesA Tryz.prog 203 = some [(0, 1), (1, 1), (2, 1), (3, 1)] := by kernel_rfl
@[simp] theorem sz204 : sizeA Tryz.prog 204 = some 4 := by kernel_rfl
@[simp] theorem by204 : bytesA Tryz.prog 204 = some 48 := by kernel_rfl
@[simp] theorem ze204 : zeroA Tryz.prog 204 = some [.v (.int .i64 0), .v (.int .i64 0), .v (.int .i64 0), .nil] := by kernel_rfl
@[simp] theorem ag204 : isAggA Tryz.prog 204 = some true := by kernel_rfl
@[simp] theorem rc204 (cs : List PV) : readCells Tryz.prog 204 cs = if 4 ≤ cs.length then some (.agg (cs.take 4)) else none := by simp [readCells]
@[simp] theorem fi204_0 : fieldA Tryz.prog 204 0 = some (0, 1, false) := by kernel_rfl
@[simp] theorem fi204_1 : fieldA Tryz.prog 204 1 = some (1, 1, false) := by kernel_rfl
@[simp] theorem fi204_2 : fieldA Tryz.prog 204 2 = some (2, 1, false) := by kernel_rfl
@[simp] theorem fi204_3 : fieldA Tryz.prog 204 3 = some (3, 1, false) := by kernel_rfl
@[simp] theorem pl204 : placesA Tryz.prog 204 = some [(0, 1), (1, 1), (2, 1), (3, 1)] := by kernel_rfl
@[simp] theorem sz205 : sizeA Tryz.prog 205 = some 5 := by kernel_rfl
@[simp] theorem by205 : bytesA Tryz.prog 205 = some 56 := by kernel_rfl
@[simp] theorem ze205 : zeroA Tryz.prog 205 = some [.v (.int .i64 0), .v (.int .i64 0), .v (.int .i64 0), .nil, .v (.bool false)] := by kernel_rfl
@[simp] theorem ag205 : isAggA Tryz.prog 205 = some true := by kernel_rfl
@[simp] theorem rc205 (cs : List PV) : readCells Tryz.prog 205 cs = if 5 ≤ cs.length then some (.agg (cs.take 5)) else none := by simp [readCells]
@[simp] theorem fi205_0 : fieldA Tryz.prog 205 0 = some (0, 4, true) := by kernel_rfl
@[simp] theorem fi205_1 : fieldA Tryz.prog 205 1 = some (4, 1, false) := by kernel_rfl
@[simp] theorem pl205 : placesA Tryz.prog 205 = some [(0, 4), (4, 1)] := by kernel_rfl
@[simp] theorem sz206 : sizeA Tryz.prog 206 = some 5 := by kernel_rfl
@[simp] theorem by206 : bytesA Tryz.prog 206 = some 56 := by kernel_rfl
@[simp] theorem ze206 : zeroA Tryz.prog 206 = some [.v (.int .i64 0), .v (.int .i64 0), .v (.int .i64 0), .nil, .v (.bool false)] := by kernel_rfl
@[simp] theorem ag206 : isAggA Tryz.prog 206 = some true := by kernel_rfl
@[simp] theorem rc206 (cs : List PV) : readCells Tryz.prog 206 cs = if 5 ≤ cs.length then some (.agg (cs.take 5)) else none := by simp [readCells]
@[simp] theorem fi206_0 : fieldA Tryz.prog 206 0 = some (0, 4, true) := by kernel_rfl
@[simp] theorem fi206_1 : fieldA Tryz.prog 206 1 = some (4, 1, false) := by kernel_rfl
@[simp] theorem pl206 : placesA Tryz.prog 206 = some [(0, 4), (4, 1)] := by kernel_rfl
@[simp] theorem sz207 : sizeA Tryz.prog 207 = some 11 := by kernel_rfl
@[simp] theorem by207 : bytesA Tryz.prog 207 = some 120 := by kernel_rfl
@[simp] theorem ze207 : zeroA Tryz.prog 207 = some [.v (.int .i64 0), .v (.int .i64 0), .v (.int .i64 0), .nil, .v (.bool false), .v (.int .i64 0), .v (.int .i64 0), .v (.int .i64 0), .nil, .v (.bool false), .v (.bool false)] := by kernel_rfl
@[simp] theorem ag207 : isAggA Tryz.prog 207 = some true := by kernel_rfl
@[simp] theorem rc207 (cs : List PV) : readCells Tryz.prog 207 cs = if 11 ≤ cs.length then some (.agg (cs.take 11)) else none := by simp [readCells]
@[simp] theorem fi207_0 : fieldA Tryz.prog 207 0 = some (0, 5, true) := by kernel_rfl
@[simp] theorem fi207_1 : fieldA Tryz.prog 207 1 = some (5, 5, true) := by kernel_rfl
@[simp] theorem fi207_2 : fieldA Tryz.prog 207 2 = some (10, 1, false) := by kernel_rfl
@[simp] theorem pl207 : placesA Tryz.prog 207 = some [(0, 5), (5, 5), (10, 1)] := by kernel_rfl
@[simp] theorem sz208 : sizeA Tryz.prog 208 = some 11 := by kernel_rfl
@[simp] theorem by208 : bytesA Tryz.prog 208 = some 120 := by kernel_rfl
@[simp] theorem ze208 : zeroA Tryz.prog 208 = some [.v (.int .i64 0), .v (.int .i64 0), .v (.int .i64 0), .nil, .v (.bool false), .v (.int .i64 0), .v (.int .i64 0), .v (.int .i64 0), .nil, .v (.bool false), .v (.bool false)] := by kernel_rfl
@[simp] theorem ag208 : isAggA Tryz.prog 208 = some true := by kernel_rfl
@[simp] theorem rc208 (cs : List PV) : readCells Tryz.prog 208 cs = if 11 ≤ cs.length then some (.agg (cs.take 11)) else none := by simp [readCells]
@[simp] theorem fi208_0 : fieldA Tryz.prog 208 0 = some (0, 5, true) := by kernel_rfl
@[simp] theorem fi208_1 : fieldA Tryz.prog 208 1 = some (5, 5, true) := by kernel_rfl
@[simp] theorem fi208_2 : fieldA Tryz.prog 208 2 = some (10, 1, false) := by kernel_rfl
@[simp] theorem pl208 : placesA Tryz.prog 208 = some [(0, 5), (5, 5), (10, 1)] := by kernel_rfl
@[simp] theorem sz215 : sizeA Tryz.prog 215 = some 4 := by kernel_rfl
@[simp] theorem by215 : bytesA Tryz.prog 215 = some 64 := by kernel_rfl
@[simp] theorem ze215 : zeroA Tryz.prog 215 = some [.v (.string ⟨#[]⟩), .v (.string ⟨#[]⟩), .v (.int .i64 0), .nil] := by kernel_rfl
@[simp] theorem ag215 : isAggA Tryz.prog 215 = some true := by kernel_rfl
@[simp] theorem rc215 (cs : List PV) : readCells Tryz.prog 215 cs = if 4 ≤ cs.length then some (.agg (cs.take 4)) else none := by simp [readCells]
@[simp] theorem fi215_0 : fieldA Tryz.prog 215 0 = some (0, 1, false) := by kernel_rfl
@[simp] theorem fi215_1 : fieldA Tryz.prog 215 1 = some (1, 1, false) := by kernel_rfl
@[simp] theorem fi215_2 : fieldA Tryz.prog 215 2 = some (2, 1, false) := by kernel_rfl
@[simp] theorem fi215_3 : fieldA Tryz.prog 215 3 = some (3, 1, false) := by kernel_rfl
@[simp] theorem pl215 : placesA Tryz.prog 215 = some [(0, 1), (1, 1), (2, 1), (3, 1)] := by kernel_rfl
@[simp] theorem sz216 : sizeA Tryz.prog 216 = some 4 := by kernel_rfl
@[simp] theorem by216 : bytesA Tryz.prog 216 = some 64 := by kernel_rfl
@[simp] theorem ze216 : zeroA Tryz.prog 216 = some [.v (.string ⟨#[]⟩), .v (.string ⟨#[]⟩), .v (.int .i64 0), .nil] := by kernel_rfl
@[simp] theorem ag216 : isAggA Tryz.prog 216 = some true := by kernel_rfl
@[simp] theorem rc216 (cs : List PV) : readCells Tryz.prog 216 cs = if 4 ≤ cs.length then some (.agg (cs.take 4)) else none := by simp [readCells]
@[simp] theorem fi216_0 : fieldA Tryz.prog 216 0 = some (0, 1, false) := by kernel_rfl
@[simp] theorem fi216_1 : fieldA Tryz.prog 216 1 = some (1, 1, false) := by kernel_rfl
@[simp] theorem fi216_2 : fieldA Tryz.prog 216 2 = some (2, 1, false) := by kernel_rfl
@[simp] theorem fi216_3 : fieldA Tryz.prog 216 3 = some (3, 1, false) := by kernel_rfl
@[simp] theorem pl216 : placesA Tryz.prog 216 = some [(0, 1), (1, 1), (2, 1), (3, 1)] := by kernel_rfl
@[simp] theorem sz226 : sizeA Tryz.prog 226 = some 1 := by kernel_rfl
@[simp] theorem by226 : bytesA Tryz.prog 226 = some 8 := by kernel_rfl
@[simp] theorem ze226 : zeroA Tryz.prog 226 = some [.v (.pointer none)] := by kernel_rfl
@[simp] theorem ag226 : isAggA Tryz.prog 226 = some false := by kernel_rfl
@[simp] theorem rc226 (cs : List PV) : readCells Tryz.prog 226 cs = cs[0]? := by simp [readCells]
@[simp] theorem un255 : Program.underlying Tryz.prog 255 = some (.slice 206) := by kernel_rfl
@[simp] theorem el255 : elemA Tryz.prog 255 = some 206 := by kernel_rfl
@[simp] theorem sz255 : sizeA Tryz.prog 255 = some 1 := by kernel_rfl
@[simp] theorem by255 : bytesA Tryz.prog 255 = some 24 := by kernel_rfl
@[simp] theorem ze255 : zeroA Tryz.prog 255 = some [.nil] := by kernel_rfl
@[simp] theorem ag255 : isAggA Tryz.prog 255 = some false := by kernel_rfl
@[simp] theorem rc255 (cs : List PV) : readCells Tryz.prog 255 cs = cs[0]? := by simp [readCells]
@[simp] theorem un256 : Program.underlying Tryz.prog 256 = some (.slice 152) := by kernel_rfl
@[simp] theorem el256 : elemA Tryz.prog 256 = some 152 := by kernel_rfl
@[simp] theorem sz256 : sizeA Tryz.prog 256 = some 1 := by kernel_rfl
@[simp] theorem by256 : bytesA Tryz.prog 256 = some 24 := by kernel_rfl
@[simp] theorem ze256 : zeroA Tryz.prog 256 = some [.nil] := by kernel_rfl
@[simp] theorem ag256 : isAggA Tryz.prog 256 = some false := by kernel_rfl
@[simp] theorem rc256 (cs : List PV) : readCells Tryz.prog 256 cs = cs[0]? := by simp [readCells]
@[simp] theorem un263 : Program.underlying Tryz.prog 263 = some (.slice 267) := by kernel_rfl
@[simp] theorem el263 : elemA Tryz.prog 263 = some 267 := by kernel_rfl
@[simp] theorem sz263 : sizeA Tryz.prog 263 = some 1 := by kernel_rfl
@[simp] theorem by263 : bytesA Tryz.prog 263 = some 24 := by kernel_rfl
@[simp] theorem ze263 : zeroA Tryz.prog 263 = some [.nil] := by kernel_rfl
@[simp] theorem ag263 : isAggA Tryz.prog 263 = some false := by kernel_rfl
@[simp] theorem rc263 (cs : List PV) : readCells Tryz.prog 263 cs = cs[0]? := by simp [readCells]
@[simp] theorem sz266 : sizeA Tryz.prog 266 = some 2 := by kernel_rfl
@[simp] theorem by266 : bytesA Tryz.prog 266 = some 32 := by kernel_rfl
@[simp] theorem ze266 : zeroA Tryz.prog 266 = some [.v (.string ⟨#[]⟩), .v (.string ⟨#[]⟩)] := by kernel_rfl
@[simp] theorem ag266 : isAggA Tryz.prog 266 = some true := by kernel_rfl
@[simp] theorem rc266 (cs : List PV) : readCells Tryz.prog 266 cs = if 2 ≤ cs.length then some (.agg (cs.take 2)) else none := by simp [readCells]
@[simp] theorem fi266_0 : fieldA Tryz.prog 266 0 = some (0, 1, false) := by kernel_rfl
@[simp] theorem fi266_1 : fieldA Tryz.prog 266 1 = some (1, 1, false) := by kernel_rfl
@[simp] theorem pl266 : placesA Tryz.prog 266 = some [(0, 1), (1, 1)] := by kernel_rfl
@[simp] theorem fl266 : flatA Tryz.prog 266 = some [2, 2] := by kernel_rfl
@[simp] theorem sz267 : sizeA Tryz.prog 267 = some 2 := by kernel_rfl
@[simp] theorem by267 : bytesA Tryz.prog 267 = some 32 := by kernel_rfl
@[simp] theorem ze267 : zeroA Tryz.prog 267 = some [.v (.string ⟨#[]⟩), .v (.string ⟨#[]⟩)] := by kernel_rfl
@[simp] theorem ag267 : isAggA Tryz.prog 267 = some true := by kernel_rfl
@[simp] theorem rc267 (cs : List PV) : readCells Tryz.prog 267 cs = if 2 ≤ cs.length then some (.agg (cs.take 2)) else none := by simp [readCells]
@[simp] theorem fi267_0 : fieldA Tryz.prog 267 0 = some (0, 1, false) := by kernel_rfl
@[simp] theorem fi267_1 : fieldA Tryz.prog 267 1 = some (1, 1, false) := by kernel_rfl
@[simp] theorem pl267 : placesA Tryz.prog 267 = some [(0, 1), (1, 1)] := by kernel_rfl
@[simp] theorem fl267 : flatA Tryz.prog 267 = some [2, 2] := by kernel_rfl
@[simp] theorem sz277 : sizeA Tryz.prog 277 = some 3 := by kernel_rfl
@[simp] theorem by277 : bytesA Tryz.prog 277 = some 24 := by kernel_rfl
@[simp] theorem ze277 : zeroA Tryz.prog 277 = some [.v (.int .i64 0), .v (.int .i64 0), .v (.int .i64 0)] := by kernel_rfl
@[simp] theorem ag277 : isAggA Tryz.prog 277 = some true := by kernel_rfl
@[simp] theorem rc277 (cs : List PV) : readCells Tryz.prog 277 cs = if 3 ≤ cs.length then some (.agg (cs.take 3)) else none := by simp [readCells]
@[simp] theorem fi277_0 : fieldA Tryz.prog 277 0 = some (0, 1, false) := by kernel_rfl
@[simp] theorem fi277_1 : fieldA Tryz.prog 277 1 = some (1, 1, false) := by kernel_rfl
@[simp] theorem fi277_2 : fieldA Tryz.prog 277 2 = some (2, 1, false) := by kernel_rfl
@[simp] theorem pl277 : placesA Tryz.prog 277 = some [(0, 1), (1, 1), (2, 1)] := by kernel_rfl
@[simp] theorem fl277 : flatA Tryz.prog 277 = some [0, 0, 0] := by kernel_rfl
@[simp] theorem sz278 : sizeA Tryz.prog 278 = some 3 := by kernel_rfl
@[simp] theorem by278 : bytesA Tryz.prog 278 = some 24 := by kernel_rfl
@[simp] theorem ze278 : zeroA Tryz.prog 278 = some [.v (.int .i64 0), .v (.int .i64 0), .v (.int .i64 0)] := by kernel_rfl
@[simp] theorem ag278 : isAggA Tryz.prog 278 = some true := by kernel_rfl
@[simp] theorem rc278 (cs : List PV) : readCells Tryz.prog 278 cs = if 3 ≤ cs.length then some (.agg (cs.take 3)) else none := by simp [readCells]
@[simp] theorem fi278_0 : fieldA Tryz.prog 278 0 = some (0, 1, false) := by kernel_rfl
@[simp] theorem fi278_1 : fieldA Tryz.prog 278 1 = some (1, 1, false) := by kernel_rfl
@[simp] theorem fi278_2 : fieldA Tryz.prog 278 2 = some (2, 1, false) := by kernel_rfl
@[simp] theorem pl278 : placesA Tryz.prog 278 = some [(0, 1), (1, 1), (2, 1)] := by kernel_rfl
@[simp] theorem fl278 : flatA Tryz.prog 278 = some [0, 0, 0] := by kernel_rfl
@[simp] theorem sz291 : sizeA Tryz.prog 291 = some 1 := by kernel_rfl
@[simp] theorem by291 : bytesA Tryz.prog 291 = some 8 := by kernel_rfl
@[simp] theorem ze291 : zeroA Tryz.prog 291 = some [.v (.pointer none)] := by kernel_rfl
@[simp] theorem ag291 : isAggA Tryz.prog 291 = some false := by kernel_rfl
@[simp] theorem rc291 (cs : List PV) : readCells Tryz.prog 291 cs = cs[0]? := by simp [readCells]
@[simp] theorem un295 : Program.underlying Tryz.prog 295 = some (.slice 3) := by kernel_rfl
@[simp] theorem el295 : elemA Tryz.prog 295 = some 3 := by kernel_rfl
@[simp] theorem sz295 : sizeA Tryz.prog 295 = some 1 := by kernel_rfl
@[simp] theorem by295 : bytesA Tryz.prog 295 = some 24 := by kernel_rfl
@[simp] theorem ze295 : zeroA Tryz.prog 295 = some [.nil] := by kernel_rfl
@[simp] theorem ag295 : isAggA Tryz.prog 295 = some false := by kernel_rfl
@[simp] theorem rc295 (cs : List PV) : readCells Tryz.prog 295 cs = cs[0]? := by simp [readCells]
@[simp] theorem sz321 : sizeA Tryz.prog 321 = some 2 := by kernel_rfl
@[simp] theorem by321 : bytesA Tryz.prog 321 = some 2 := by kernel_rfl
@[simp] theorem ze321 : zeroA Tryz.prog 321 = some [.v (.int .u8 0), .v (.int .u8 0)] := by kernel_rfl
@[simp] theorem ag321 : isAggA Tryz.prog 321 = some true := by kernel_rfl
@[simp] theorem rc321 (cs : List PV) : readCells Tryz.prog 321 cs = if 2 ≤ cs.length then some (.agg (cs.take 2)) else none := by simp [readCells]
@[simp] theorem fi321_0 : fieldA Tryz.prog 321 0 = some (0, 1, false) := by kernel_rfl
@[simp] theorem fi321_1 : fieldA Tryz.prog 321 1 = some (1, 1, false) := by kernel_rfl
@[simp] theorem pl321 : placesA Tryz.prog 321 = some [(0, 1), (1, 1)] := by kernel_rfl
@[simp] theorem fl321 : flatA Tryz.prog 321 = some [0, 0] := by kernel_rfl
@[simp] theorem sz322 : sizeA Tryz.prog 322 = some 2 := by kernel_rfl
@[simp] theorem by322 : bytesA Tryz.prog 322 = some 2 := by kernel_rfl
@[simp] theorem ze322 : zeroA Tryz.prog 322 = some [.v (.int .u8 0), .v (.int .u8 0)] := by kernel_rfl
@[simp] theorem ag322 : isAggA Tryz.prog 322 = some true := by kernel_rfl
@[simp] theorem rc322 (cs : List PV) : readCells Tryz.prog 322 cs = if 2 ≤ cs.length then some (.agg (cs.take 2)) else none := by simp [readCells]
@[simp] theorem fi322_0 : fieldA Tryz.prog 322 0 = some (0, 1, false) := by kernel_rfl
@[simp] theorem fi322_1 : fieldA Tryz.prog 322 1 = some (1, 1, false) := by kernel_rfl
@[simp] theorem pl322 : placesA Tryz.prog 322 = some [(0, 1), (1, 1)] := by kernel_rfl
@[simp] theorem fl322 : flatA Tryz.prog 322 = some [0, 0] := by kernel_rfl
@[simp] theorem un323 : Program.underlying Tryz.prog 323 = some (.array 16 322) := by kernel_rfl
@[simp] theorem ar323 : arrA Tryz.prog 323 = some (16, 322) := by kernel_rfl
@[simp] theorem el323 : elemA Tryz.prog 323 = none := by kernel_rfl
@[simp] theorem sz323 : sizeA Tryz.prog 323 = some 32 := by kernel_rfl
@[simp] theorem by323 : bytesA Tryz.prog 323 = some 32 := by kernel_rfl
@[simp] theorem ze323 : zeroA Tryz.prog 323 = some [.v (.int .u8 0), .v (.int .u8 0), .v (.int .u8 0), .v (.int .u8 0), .v (.int .u8 0), .v (.int .u8 0), .v (.int .u8 0), .v (.int .u8 0), .v (.int .u8 0), .v (.int .u8 0), .v (.int .u8 0), .v (.int .u8 0), .v (.int .u8 0), .v (.int .u8 0), .v (.int .u8 0), .v (.int .u8 0), .v (.int .u8 0), .v (.int .u8 0), .v (.int .u8 0), .v (.int .u8 0), .v (.int .u8 0), .v (.int .u8 0), .v (.int .u8 0), .v (.int .u8 0), .v (.int .u8 0), .v (.int .u8 0), .v (.int .u8 0), .v (.int .u8 0), .v (.int .u8 0), .v (.int .u8 0), .v (.int .u8 0), .v (.int .u8 0)] := by kernel_rfl
@[simp] theorem ag323 : isAggA Tryz.prog 323 = some true := by kernel_rfl
@[simp] theorem rc323 (cs : List PV) : readCells Tryz.prog 323 cs = if 32 ≤ cs.length then some (.agg (cs.take 32)) else none := by simp [readCells]
@[simp] theorem pl323 : placesA Tryz.prog 323 = none := by kernel_rfl
@[simp] theorem un341 : Program.underlying Tryz.prog 341 = some (.array 24 5) := by kernel_rfl
@[simp] theorem ar341 : arrA Tryz.prog 341 = some (24, 5) := by kernel_rfl
@[simp] theorem el341 : elemA Tryz.prog 341 = none := by kernel_rfl
@[simp] theorem sz341 : sizeA Tryz.prog 341 = some 24 := by kernel_rfl
@[simp] theorem by341 : bytesA Tryz.prog 341 = some 24 := by kernel_rfl
@[simp] theorem ze341 : zeroA Tryz.prog 341 = some [.v (.int .u8 0), .v (.int .u8 0), .v (.int .u8 0), .v (.int .u8 0), .v (.int .u8 0), .v (.int .u8 0), .v (.int .u8 0), .v (.int .u8 0), .v (.int .u8 0), .v (.int .u8 0), .v (.int .u8 0), .v (.int .u8 0), .v (.int .u8 0), .v (.int .u8 0), .v (.int .u8 0), .v (.int .u8 0), .v (.int .u8 0), .v (.int .u8 0), .v (.int .u8 0), .v (.int .u8 0), .v (.int .u8 0), .v (.int .u8 0), .v (.int .u8 0), .v (.int .u8 0)] := by kernel_rfl
@[simp] theorem ag341 : isAggA Tryz.prog 341 = some true := by kernel_rfl
@[simp] theorem rc341 (cs : List PV) : readCells Tryz.prog 341 cs = if 24 ≤ cs.length then some (.agg (cs.take 24)) else none := by simp [readCells]
@[simp] theorem pl341 : placesA Tryz.prog 341 = none := by kernel_rfl
@[simp] theorem un350 : Program.underlying Tryz.prog 350 = some (.array 20 139) := by kernel_rfl
@[simp] theorem ar350 : arrA Tryz.prog 350 = some (20, 139) := by kernel_rfl
@[simp] theorem el350 : elemA Tryz.prog 350 = none := by kernel_rfl
@[simp] theorem sz350 : sizeA Tryz.prog 350 = some 20 := by kernel_rfl
@[simp] theorem by350 : bytesA Tryz.prog 350 = some 160 := by kernel_rfl
@[simp] theorem ze350 : zeroA Tryz.prog 350 = some [.v (.int .u64 0), .v (.int .u64 0), .v (.int .u64 0), .v (.int .u64 0), .v (.int .u64 0), .v (.int .u64 0), .v (.int .u64 0), .v (.int .u64 0), .v (.int .u64 0), .v (.int .u64 0), .v (.int .u64 0), .v (.int .u64 0), .v (.int .u64 0), .v (.int .u64 0), .v (.int .u64 0), .v (.int .u64 0), .v (.int .u64 0), .v (.int .u64 0), .v (.int .u64 0), .v (.int .u64 0)] := by kernel_rfl
@[simp] theorem ag350 : isAggA Tryz.prog 350 = some true := by kernel_rfl
@[simp] theorem rc350 (cs : List PV) : readCells Tryz.prog 350 cs = if 20 ≤ cs.length then some (.agg (cs.take 20)) else none := by simp [readCells]
@[simp] theorem pl350 : placesA Tryz.prog 350 = none := by kernel_rfl
@[simp] theorem un353 : Program.underlying Tryz.prog 353 = some (.int .i64) := by kernel_rfl
@[simp] theorem sz353 : sizeA Tryz.prog 353 = some 1 := by kernel_rfl
@[simp] theorem by353 : bytesA Tryz.prog 353 = some 8 := by kernel_rfl
@[simp] theorem ze353 : zeroA Tryz.prog 353 = some [.v (.int .i64 0)] := by kernel_rfl
@[simp] theorem ag353 : isAggA Tryz.prog 353 = some false := by kernel_rfl
@[simp] theorem rc353 (cs : List PV) : readCells Tryz.prog 353 cs = cs[0]? := by simp [readCells]
@[simp] theorem sz356 : sizeA Tryz.prog 356 = some 1 := by kernel_rfl
@[simp] theorem by356 : bytesA Tryz.prog 356 = some 8 := by kernel_rfl
@[simp] theorem ze356 : zeroA Tryz.prog 356 = some [.v (.pointer none)] := by kernel_rfl
@[simp] theorem ag356 : isAggA Tryz.prog 356 = some false := by kernel_rfl
@[simp] theorem rc356 (cs : List PV) : readCells Tryz.prog 356 cs = cs[0]? := by simp [readCells]
@[simp] theorem sz363 : sizeA Tryz.prog 363 = some 3 := by kernel_rfl
@[simp] theorem by363 : bytesA Tryz.prog 363 = some 48 := by kernel_rfl
@[simp] theorem ze363 : zeroA Tryz.prog 363 = some [.v (.string ⟨#[]⟩), .v (.string ⟨#[]⟩), .v .nilIface] := by kernel_rfl
@[simp] theorem ag363 : isAggA Tryz.prog 363 = some true := by kernel_rfl
@[simp] theorem rc363 (cs : List PV) : readCells Tryz.prog 363 cs = if 3 ≤ cs.length then some (.agg (cs.take 3)) else none := by simp [readCells]
@[simp] theorem fi363_0 : fieldA Tryz.prog 363 0 = some (0, 1, false) := by kernel_rfl
@[simp] theorem fi363_1 : fieldA Tryz.prog 363 1 = some (1, 1, false) := by kernel_rfl
@[simp] theorem sz364 : sizeA Tryz.prog 364 = some 3 := by kernel_rfl
@[simp] theorem by364 : bytesA Tryz.prog 364 = some 48 := by kernel_rfl
@[simp] theorem ze364 : zeroA Tryz.prog 364 = some [.v (.string ⟨#[]⟩), .v (.string ⟨#[]⟩), .v .nilIface] := by kernel_rfl
@[simp] theorem ag364 : isAggA Tryz.prog 364 = some true := by kernel_rfl
@[simp] theorem rc364 (cs : List PV) : readCells Tryz.prog 364 cs = if 3 ≤ cs.length then some (.agg (cs.take 3)) else none := by simp [readCells]
@[simp] theorem fi364_0 : fieldA Tryz.prog 364 0 = some (0, 1, false) := by kernel_rfl
@[simp] theorem fi364_1 : fieldA Tryz.prog 364 1 = some (1, 1, false) := by kernel_rfl
@[simp] theorem un366 : Program.underlying Tryz.prog 366 = some (.array 32 5) := by kernel_rfl
@[simp] theorem ar366 : arrA Tryz.prog 366 = some (32, 5) := by kernel_rfl
@[simp] theorem el366 : elemA Tryz.prog 366 = none := by kernel_rfl
@[simp] theorem sz366 : sizeA Tryz.prog 366 = some 32 := by kernel_rfl
@[simp] theorem by366 : bytesA Tryz.prog 366 = some 32 := by kernel_rfl
@[simp] theorem ze366 : zeroA Tryz.prog 366 = some [.v (.int .u8 0), .v (.int .u8 0), .v (.int .u8 0), .v (.int .u8 0), .v (.int .u8 0), .v (.int .u8 0), .v (.int .u8 0), .v (.int .u8 0), .v (.int .u8 0), .v (.int .u8 0), .v (.int .u8 0), .v (.int .u8 0), .v (.int .u8 0), .v (.int .u8 0), .v (.int .u8 0), .v (.int .u8 0), .v (.int .u8 0), .v (.int .u8 0), .v (.int .u8 0), .v (.int .u8 0), .v (.int .u8 0), .v (.int .u8 0), .v (.int .u8 0), .v (.int .u8 0), .v (.int .u8 0), .v (.int .u8 0), .v (.int .u8 0), .v (.int .u8 0), .v (.int .u8 0), .v (.int .u8 0), .v (.int .u8 0), .v (.int .u8 0)] := by kernel_rfl
@[simp] theorem ag366 : isAggA Tryz.prog 366 = some true := by kernel_rfl
@[simp] theorem rc366 (cs : List PV) : readCells Tryz.prog 366 cs = if 32 ≤ cs.length then some (.agg (cs.take 32)) else none := by simp [readCells]
@[simp] theorem pl366 : placesA Tryz.prog 366 = none := by kernel_rfl
@[simp] theorem sz369 : sizeA Tryz.prog 369 = some 1 := by kernel_rfl
@[simp] theorem by369 : bytesA Tryz.prog 369 = some 8 := by kernel_rfl
@[simp] theorem ze369 : zeroA Tryz.prog 369 = some [.v (.pointer none)] := by kernel_rfl
@[simp] theorem ag369 : isAggA Tryz.prog 369 = some false := by kernel_rfl
@[simp] theorem rc369 (cs : List PV) : readCells Tryz.prog 369 cs = cs[0]? := by simp [readCells]
@[simp] theorem sz370 : sizeA Tryz.prog 370 = some 1 := by kernel_rfl
@[simp] theorem by370 : bytesA Tryz.prog 370 = some 16 := by kernel_rfl
@[simp] theorem ze370 : zeroA Tryz.prog 370 = some [.v (.string ⟨#[]⟩)] := by kernel_rfl
@[simp] theorem ag370 : isAggA Tryz.prog 370 = some true := by kernel_rfl
@[simp] theorem rc370 (cs : List PV) : readCells Tryz.prog 370 cs = if 1 ≤ cs.length then some (.agg (cs.take 1)) else none := by simp [readCells]
@[simp] theorem fi370_0 : fieldA Tryz.prog 370 0 = some (0, 1, false) := by kernel_rfl
@[simp] theorem pl370 : placesA Tryz.prog 370 = some [(0, 1)] := by kernel_rfl
@[simp] theorem fl370 : flatA Tryz.prog 370 = some [2] := by kernel_rfl
@[simp] theorem sz371 : sizeA Tryz.prog 371 = some 1 := by kernel_rfl
@[simp] theorem by371 : bytesA Tryz.prog 371 = some 16 := by kernel_rfl
@[simp] theorem ze371 : zeroA Tryz.prog 371 = some [.v (.string ⟨#[]⟩)] := by kernel_rfl
@[simp] theorem ag371 : isAggA Tryz.prog 371 = some true := by kernel_rfl
@[simp] theorem rc371 (cs : List PV) : readCells Tryz.prog 371 cs = if 1 ≤ cs.length then some (.agg (cs.take 1)) else none := by simp [readCells]
@[simp] theorem fi371_0 : fieldA Tryz.prog 371 0 = some (0, 1, false) := by kernel_rfl
@[simp] theorem pl371 : placesA Tryz.prog 371 = some [(0, 1)] := by kernel_rfl
@[simp] theorem fl371 : flatA Tryz.prog 371 = some [2] := by kernel_rfl
@[simp] theorem sz372 : sizeA Tryz.prog 372 = some 4 := by kernel_rfl
@[simp] theorem by372 : bytesA Tryz.prog 372 = some 40 := by kernel_rfl
@[simp] theorem ze372 : zeroA Tryz.prog 372 = some [.v (.pointer none), .v (.pointer none), .v (.pointer none), .v (.string ⟨#[]⟩)] := by kernel_rfl
@[simp] theorem ag372 : isAggA Tryz.prog 372 = some true := by kernel_rfl
@[simp] theorem rc372 (cs : List PV) : readCells Tryz.prog 372 cs = if 4 ≤ cs.length then some (.agg (cs.take 4)) else none := by simp [readCells]
@[simp] theorem fi372_0 : fieldA Tryz.prog 372 0 = some (0, 1, false) := by kernel_rfl
@[simp] theorem fi372_1 : fieldA Tryz.prog 372 1 = some (1, 1, false) := by kernel_rfl
@[simp] theorem fi372_2 : fieldA Tryz.prog 372 2 = some (2, 1, false) := by kernel_rfl
@[simp] theorem fi372_3 : fieldA Tryz.prog 372 3 = some (3, 1, false) := by kernel_rfl
@[simp] theorem pl372 : placesA Tryz.prog 372 = some [(0, 1), (1, 1), (2, 1), (3, 1)] := by kernel_rfl
@[simp] theorem sz373 : sizeA Tryz.prog 373 = some 4 := by kernel_rfl
@[simp] theorem by373 : bytesA Tryz.prog 373 = some 40 := by kernel_rfl
@[simp] theorem ze373 : zeroA Tryz.prog 373 = some [.v (.pointer none), .v (.pointer none), .v (.pointer none), .v (.string ⟨#[]⟩)] := by kernel_rfl
@[simp] theorem ag373 : isAggA Tryz.prog 373 = some true := by kernel_rfl
@[simp] theorem rc373 (cs : List PV) : readCells Tryz.prog 373 cs = if 4 ≤ cs.length then some (.agg (cs.take 4)) else none := by simp [readCells]
@[simp] theorem fi373_0 : fieldA Tryz.prog 373 0 = some (0, 1, false) := by kernel_rfl
@[simp] theorem fi373_1 : fieldA Tryz.prog 373 1 = some (1, 1, false) := by kernel_rfl
@[simp] theorem fi373_2 : fieldA Tryz.prog 373 2 = some (2, 1, false) := by kernel_rfl
@[simp] theorem fi373_3 : fieldA Tryz.prog 373 3 = some (3, 1, false) := by kernel_rfl
@[simp] theorem pl373 : placesA Tryz.prog 373 = some [(0, 1), (1, 1), (2, 1), (3, 1)] := by kernel_rfl
@[simp] theorem un377 : Program.underlying Tryz.prog 377 = some (.int .u8) := by kernel_rfl
@[simp] theorem sz377 : sizeA Tryz.prog 377 = some 1 := by kernel_rfl
@[simp] theorem by377 : bytesA Tryz.prog 377 = some 1 := by kernel_rfl
@[simp] theorem ze377 : zeroA Tryz.prog 377 = some [.v (.int .u8 0)] := by kernel_rfl
@[simp] theorem ag377 : isAggA Tryz.prog 377 = some false := by kernel_rfl
@[simp] theorem rc377 (cs : List PV) : readCells Tryz.prog 377 cs = cs[0]? := by simp [readCells]
@[simp] theorem un378 : Program.underlying Tryz.prog 378 = some (.int .u8) := by kernel_rfl
@[simp] theorem sz378 : sizeA Tryz.prog 378 = some 1 := by kernel_rfl
@[simp] theorem by378 : bytesA Tryz.prog 378 = some 1 := by kernel_rfl
@[simp] theorem ze378 : zeroA Tryz.prog 378 = some [.v (.int .u8 0)] := by kernel_rfl
@[simp] theorem ag378 : isAggA Tryz.prog 378 = some false := by kernel_rfl
@[simp] theorem rc378 (cs : List PV) : readCells Tryz.prog 378 cs = cs[0]? := by simp [readCells]
@[simp] theorem un380 : Program.underlying Tryz.prog 380 = some (.int .i32) := by kernel_rfl
@[simp] theorem sz380 : sizeA Tryz.prog 380 = some 1 := by kernel_rfl
@[simp] theorem by380 : bytesA Tryz.prog 380 = some 4 := by kernel_rfl
@[simp] theorem ze380 : zeroA Tryz.prog 380 = some [.v (.int .i32 0)] := by kernel_rfl
@[simp] theorem ag380 : isAggA Tryz.prog 380 = some false := by kernel_rfl
@[simp] theorem rc380 (cs : List PV) : readCells Tryz.prog 380 cs = cs[0]? := by simp [readCells]
@[simp] theorem un381 : Program.underlying Tryz.prog 381 = some (.int .i32) := by kernel_rfl
@[simp] theorem sz381 : sizeA Tryz.prog 381 = some 1 := by kernel_rfl
@[simp] theorem by381 : bytesA Tryz.prog 381 = some 4 := by kernel_rfl
@[simp] theorem ze381 : zeroA Tryz.prog 381 = some [.v (.int .i32 0)] := by kernel_rfl
@[simp] theorem ag381 : isAggA Tryz.prog 381 = some false := by kernel_rfl
@[simp] theorem rc381 (cs : List PV) : readCells Tryz.prog 381 cs = cs[0]? := by simp [readCells]
@[simp] theorem sz382 : sizeA Tryz.prog 382 = some 11 := by kernel_rfl
@[simp] theorem by382 : bytesA Tryz.prog 382 = some 48 := by kernel_rfl
@[simp] theorem ze382 : zeroA Tryz.prog 382 = some [.v (.int .u64 0), .v (.int .u64 0), .v (.int .u32 0), .v (.int .u8 0), .v (.int .u8 0), .v (.int .u8 0), .v (.int .u8 0), .v .nilFunc, .v (.pointer none), .v (.int .i32 0), .v (.int .i32 0)] := by kernel_rfl
@[simp] theorem ag382 : isAggA Tryz.prog 382 = some true := by kernel_rfl
@[simp] theorem rc382 (cs : List PV) : readCells Tryz.prog 382 cs = if 11 ≤ cs.length then some (.agg (cs.take 11)) else none := by simp [readCells]
@[simp] theorem fi382_0 : fieldA Tryz.prog 382 0 = some (0, 1, false) := by kernel_rfl
@[simp] theorem fi382_1 : fieldA Tryz.prog 382 1 = some (1, 1, false) := by kernel_rfl
@[simp] theorem fi382_2 : fieldA Tryz.prog 382 2 = some (2, 1, false) := by kernel_rfl
@[simp] theorem fi382_3 : fieldA Tryz.prog 382 3 = some (3, 1, false) := by kernel_rfl
@[simp] theorem fi382_4 : fieldA Tryz.prog 382 4 = some (4, 1, false) := by kernel_rfl
@[simp] theorem fi382_5 : fieldA Tryz.prog 382 5 = some (5, 1, false) := by kernel_rfl
@[simp] theorem fi382_6 : fieldA Tryz.prog 382 6 = some (6, 1, false) := by kernel_rfl
@[simp] theorem fi382_8 : fieldA Tryz.prog 382 8 = some (8, 1, false) := by kernel_rfl
@[simp] theorem fi382_9 : fieldA Tryz.prog 382 9 = some (9, 1, false) := by kernel_rfl
@[simp] theorem fi382_10 : fieldA Tryz.prog 382 10 = some (10, 1, false) := by kernel_rfl
@[simp] theorem sz383 : sizeA Tryz.prog 383 = some 11 := by kernel_rfl
@[simp] theorem by383 : bytesA Tryz.prog 383 = some 48 := by kernel_rfl
@[simp] theorem ze383 : zeroA Tryz.prog 383 = some [.v (.int .u64 0), .v (.int .u64 0), .v (.int .u32 0), .v (.int .u8 0), .v (.int .u8 0), .v (.int .u8 0), .v (.int .u8 0), .v .nilFunc, .v (.pointer none), .v (.int .i32 0), .v (.int .i32 0)] := by kernel_rfl
@[simp] theorem ag383 : isAggA Tryz.prog 383 = some true := by kernel_rfl
@[simp] theorem rc383 (cs : List PV) : readCells Tryz.prog 383 cs = if 11 ≤ cs.length then some (.agg (cs.take 11)) else none := by simp [readCells]
@[simp] theorem fi383_0 : fieldA Tryz.prog 383 0 = some (0, 1, false) := by kernel_rfl
@[simp] theorem fi383_1 : fieldA Tryz.prog 383 1 = some (1, 1, false) := by kernel_rfl
@[simp] theorem fi383_2 : fieldA Tryz.prog 383 2 = some (2, 1, false) := by kernel_rfl
@[simp] theorem fi383_3 : fieldA Tryz.prog 383 3 = some (3, 1, false) := by kernel_rfl
@[simp] theorem fi383_4 : fieldA Tryz.prog 383 4 = some (4, 1, false) := by kernel_rfl
@[simp] theorem fi383_5 : fieldA Tryz.prog 383 5 = some (5, 1, false) := by kernel_rfl
@[simp] theorem fi383_6 : fieldA Tryz.prog 383 6 = some (6, 1, false) := by kernel_rfl
@[simp] theorem fi383_8 : fieldA Tryz.prog 383 8 = some (8, 1, false) := by kernel_rfl
@[simp] theorem fi383_9 : fieldA Tryz.prog 383 9 = some (9, 1, false) := by kernel_rfl
@[simp] theorem fi383_10 : fieldA Tryz.prog 383 10 = some (10, 1, false) := by kernel_rfl
@[simp] theorem if20 : ifaceA Tryz.prog 20 = true := by kernel_rfl
@[simp] theorem if98 : ifaceA Tryz.prog 98 = true := by kernel_rfl
@[simp] theorem if99 : ifaceA Tryz.prog 99 = true := by kernel_rfl
end Go.Proofs.YtfjeckcbnhohmaaGreatDoor
