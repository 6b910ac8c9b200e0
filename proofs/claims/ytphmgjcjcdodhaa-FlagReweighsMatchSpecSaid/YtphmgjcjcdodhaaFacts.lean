/-
  What the evaluator asks of the program's types. Written by a program of this repo (facts.py).
-/
import Derived.Test.YtphmgjcjcdodhaaAm19
import Derived.Test.YtphmgjcjcdodhaaProg
namespace Go.Proofs.Ytphmgjcjcdodhaa
open Go.RowKit Go.AM
@[simp] theorem un2 : Program.underlying Try.prog 2 = some (.int .i64) := by kernel_rfl
@[simp] theorem sz2 : sizeA Try.prog 2 = some 1 := by kernel_rfl
@[simp] theorem by2 : bytesA Try.prog 2 = some 8 := by kernel_rfl
@[simp] theorem ze2 : zeroA Try.prog 2 = some [.v (.int .i64 0)] := by kernel_rfl
@[simp] theorem ag2 : isAggA Try.prog 2 = some false := by kernel_rfl
@[simp] theorem rc2 (cs : List PV) : readCells Try.prog 2 cs = cs[0]? := by simp [readCells]
@[simp] theorem un3 : Program.underlying Try.prog 3 = some (.int .i64) := by kernel_rfl
@[simp] theorem sz3 : sizeA Try.prog 3 = some 1 := by kernel_rfl
@[simp] theorem by3 : bytesA Try.prog 3 = some 8 := by kernel_rfl
@[simp] theorem ze3 : zeroA Try.prog 3 = some [.v (.int .i64 0)] := by kernel_rfl
@[simp] theorem ag3 : isAggA Try.prog 3 = some false := by kernel_rfl
@[simp] theorem rc3 (cs : List PV) : readCells Try.prog 3 cs = cs[0]? := by simp [readCells]
@[simp] theorem un4 : Program.underlying Try.prog 4 = some .bool := by kernel_rfl
@[simp] theorem sz4 : sizeA Try.prog 4 = some 1 := by kernel_rfl
@[simp] theorem by4 : bytesA Try.prog 4 = some 1 := by kernel_rfl
@[simp] theorem ze4 : zeroA Try.prog 4 = some [.v (.bool false)] := by kernel_rfl
@[simp] theorem ag4 : isAggA Try.prog 4 = some false := by kernel_rfl
@[simp] theorem rc4 (cs : List PV) : readCells Try.prog 4 cs = cs[0]? := by simp [readCells]
@[simp] theorem un5 : Program.underlying Try.prog 5 = some (.int .u8) := by kernel_rfl
@[simp] theorem sz5 : sizeA Try.prog 5 = some 1 := by kernel_rfl
@[simp] theorem by5 : bytesA Try.prog 5 = some 1 := by kernel_rfl
@[simp] theorem ze5 : zeroA Try.prog 5 = some [.v (.int .u8 0)] := by kernel_rfl
@[simp] theorem ag5 : isAggA Try.prog 5 = some false := by kernel_rfl
@[simp] theorem rc5 (cs : List PV) : readCells Try.prog 5 cs = cs[0]? := by simp [readCells]
@[simp] theorem un6 : Program.underlying Try.prog 6 = some (.int .u8) := by kernel_rfl
@[simp] theorem sz6 : sizeA Try.prog 6 = some 1 := by kernel_rfl
@[simp] theorem by6 : bytesA Try.prog 6 = some 1 := by kernel_rfl
@[simp] theorem ze6 : zeroA Try.prog 6 = some [.v (.int .u8 0)] := by kernel_rfl
@[simp] theorem ag6 : isAggA Try.prog 6 = some false := by kernel_rfl
@[simp] theorem rc6 (cs : List PV) : readCells Try.prog 6 cs = cs[0]? := by simp [readCells]
@[simp] theorem sz7 : sizeA Try.prog 7 = some 4 := by kernel_rfl
@[simp] theorem by7 : bytesA Try.prog 7 = some 24 := by kernel_rfl
@[simp] theorem ze7 : zeroA Try.prog 7 = some [.v (.int .i64 0), .v (.int .i64 0), .v (.bool false), .v (.int .u8 0)] := by kernel_rfl
@[simp] theorem ag7 : isAggA Try.prog 7 = some true := by kernel_rfl
@[simp] theorem rc7 (cs : List PV) : readCells Try.prog 7 cs = if 4 ≤ cs.length then some (.agg (cs.take 4)) else none := by simp [readCells]
@[simp] theorem fi7_0 : fieldA Try.prog 7 0 = some (0, 1, false) := by kernel_rfl
@[simp] theorem fi7_1 : fieldA Try.prog 7 1 = some (1, 1, false) := by kernel_rfl
@[simp] theorem fi7_2 : fieldA Try.prog 7 2 = some (2, 1, false) := by kernel_rfl
@[simp] theorem fi7_3 : fieldA Try.prog 7 3 = some (3, 1, false) := by kernel_rfl
@[simp] theorem pl7 : placesA Try.prog 7 = some [(0, 1), (1, 1), (2, 1), (3, 1)] := by kernel_rfl
@[simp] theorem fl7 : flatA Try.prog 7 = some [0, 0, 1, 0] := by kernel_rfl
@[simp] theorem sz8 : sizeA Try.prog 8 = some 4 := by kernel_rfl
@[simp] theorem by8 : bytesA Try.prog 8 = some 24 := by kernel_rfl
@[simp] theorem ze8 : zeroA Try.prog 8 = some [.v (.int .i64 0), .v (.int .i64 0), .v (.bool false), .v (.int .u8 0)] := by kernel_rfl
@[simp] theorem ag8 : isAggA Try.prog 8 = some true := by kernel_rfl
@[simp] theorem rc8 (cs : List PV) : readCells Try.prog 8 cs = if 4 ≤ cs.length then some (.agg (cs.take 4)) else none := by simp [readCells]
@[simp] theorem fi8_0 : fieldA Try.prog 8 0 = some (0, 1, false) := by kernel_rfl
@[simp] theorem fi8_1 : fieldA Try.prog 8 1 = some (1, 1, false) := by kernel_rfl
@[simp] theorem fi8_2 : fieldA Try.prog 8 2 = some (2, 1, false) := by kernel_rfl
@[simp] theorem fi8_3 : fieldA Try.prog 8 3 = some (3, 1, false) := by kernel_rfl
@[simp] theorem pl8 : placesA Try.prog 8 = some [(0, 1), (1, 1), (2, 1), (3, 1)] := by kernel_rfl
@[simp] theorem fl8 : flatA Try.prog 8 = some [0, 0, 1, 0] := by kernel_rfl
@[simp] theorem un9 : Program.underlying Try.prog 9 = some .string := by kernel_rfl
@[simp] theorem sz9 : sizeA Try.prog 9 = some 1 := by kernel_rfl
@[simp] theorem by9 : bytesA Try.prog 9 = some 16 := by kernel_rfl
@[simp] theorem ze9 : zeroA Try.prog 9 = some [.v (.string ⟨#[]⟩)] := by kernel_rfl
@[simp] theorem ag9 : isAggA Try.prog 9 = some false := by kernel_rfl
@[simp] theorem rc9 (cs : List PV) : readCells Try.prog 9 cs = cs[0]? := by simp [readCells]
@[simp] theorem un10 : Program.underlying Try.prog 10 = some .string := by kernel_rfl
@[simp] theorem sz10 : sizeA Try.prog 10 = some 1 := by kernel_rfl
@[simp] theorem by10 : bytesA Try.prog 10 = some 16 := by kernel_rfl
@[simp] theorem ze10 : zeroA Try.prog 10 = some [.v (.string ⟨#[]⟩)] := by kernel_rfl
@[simp] theorem ag10 : isAggA Try.prog 10 = some false := by kernel_rfl
@[simp] theorem rc10 (cs : List PV) : readCells Try.prog 10 cs = cs[0]? := by simp [readCells]
@[simp] theorem un11 : Program.underlying Try.prog 11 = some .string := by kernel_rfl
@[simp] theorem sz11 : sizeA Try.prog 11 = some 1 := by kernel_rfl
@[simp] theorem by11 : bytesA Try.prog 11 = some 16 := by kernel_rfl
@[simp] theorem ze11 : zeroA Try.prog 11 = some [.v (.string ⟨#[]⟩)] := by kernel_rfl
@[simp] theorem ag11 : isAggA Try.prog 11 = some false := by kernel_rfl
@[simp] theorem rc11 (cs : List PV) : readCells Try.prog 11 cs = cs[0]? := by simp [readCells]
@[simp] theorem un12 : Program.underlying Try.prog 12 = some (.int .u64) := by kernel_rfl
@[simp] theorem sz12 : sizeA Try.prog 12 = some 1 := by kernel_rfl
@[simp] theorem by12 : bytesA Try.prog 12 = some 8 := by kernel_rfl
@[simp] theorem ze12 : zeroA Try.prog 12 = some [.v (.int .u64 0)] := by kernel_rfl
@[simp] theorem ag12 : isAggA Try.prog 12 = some false := by kernel_rfl
@[simp] theorem rc12 (cs : List PV) : readCells Try.prog 12 cs = cs[0]? := by simp [readCells]
@[simp] theorem sz13 : sizeA Try.prog 13 = some 2 := by kernel_rfl
@[simp] theorem by13 : bytesA Try.prog 13 = some 24 := by kernel_rfl
@[simp] theorem ze13 : zeroA Try.prog 13 = some [.v (.string ⟨#[]⟩), .v (.int .u64 0)] := by kernel_rfl
@[simp] theorem ag13 : isAggA Try.prog 13 = some true := by kernel_rfl
@[simp] theorem rc13 (cs : List PV) : readCells Try.prog 13 cs = if 2 ≤ cs.length then some (.agg (cs.take 2)) else none := by simp [readCells]
@[simp] theorem fi13_0 : fieldA Try.prog 13 0 = some (0, 1, false) := by kernel_rfl
@[simp] theorem fi13_1 : fieldA Try.prog 13 1 = some (1, 1, false) := by kernel_rfl
@[simp] theorem pl13 : placesA Try.prog 13 = some [(0, 1), (1, 1)] := by kernel_rfl
@[simp] theorem sz14 : sizeA Try.prog 14 = some 2 := by kernel_rfl
@[simp] theorem by14 : bytesA Try.prog 14 = some 24 := by kernel_rfl
@[simp] theorem ze14 : zeroA Try.prog 14 = some [.v (.string ⟨#[]⟩), .v (.int .u64 0)] := by kernel_rfl
@[simp] theorem ag14 : isAggA Try.prog 14 = some true := by kernel_rfl
@[simp] theorem rc14 (cs : List PV) : readCells Try.prog 14 cs = if 2 ≤ cs.length then some (.agg (cs.take 2)) else none := by simp [readCells]
@[simp] theorem fi14_0 : fieldA Try.prog 14 0 = some (0, 1, false) := by kernel_rfl
@[simp] theorem fi14_1 : fieldA Try.prog 14 1 = some (1, 1, false) := by kernel_rfl
@[simp] theorem pl14 : placesA Try.prog 14 = some [(0, 1), (1, 1)] := by kernel_rfl
@[simp] theorem sz15 : sizeA Try.prog 15 = some 1 := by kernel_rfl
@[simp] theorem by15 : bytesA Try.prog 15 = some 8 := by kernel_rfl
@[simp] theorem ze15 : zeroA Try.prog 15 = some [.v (.pointer none)] := by kernel_rfl
@[simp] theorem ag15 : isAggA Try.prog 15 = some false := by kernel_rfl
@[simp] theorem rc15 (cs : List PV) : readCells Try.prog 15 cs = cs[0]? := by simp [readCells]
@[simp] theorem sz16 : sizeA Try.prog 16 = some 1 := by kernel_rfl
@[simp] theorem by16 : bytesA Try.prog 16 = some 8 := by kernel_rfl
@[simp] theorem ze16 : zeroA Try.prog 16 = some [.v (.pointer none)] := by kernel_rfl
@[simp] theorem ag16 : isAggA Try.prog 16 = some false := by kernel_rfl
@[simp] theorem rc16 (cs : List PV) : readCells Try.prog 16 cs = cs[0]? := by simp [readCells]
@[simp] theorem sz17 : sizeA Try.prog 17 = some 1 := by kernel_rfl
@[simp] theorem by17 : bytesA Try.prog 17 = some 8 := by kernel_rfl
@[simp] theorem ze17 : zeroA Try.prog 17 = some [.v (.pointer none)] := by kernel_rfl
@[simp] theorem ag17 : isAggA Try.prog 17 = some false := by kernel_rfl
@[simp] theorem rc17 (cs : List PV) : readCells Try.prog 17 cs = cs[0]? := by simp [readCells]
@[simp] theorem sz18 : sizeA Try.prog 18 = some 1 := by kernel_rfl
@[simp] theorem by18 : bytesA Try.prog 18 = some 8 := by kernel_rfl
@[simp] theorem ze18 : zeroA Try.prog 18 = some [.v (.pointer none)] := by kernel_rfl
@[simp] theorem ag18 : isAggA Try.prog 18 = some true := by kernel_rfl
@[simp] theorem rc18 (cs : List PV) : readCells Try.prog 18 cs = if 1 ≤ cs.length then some (.agg (cs.take 1)) else none := by simp [readCells]
@[simp] theorem fi18_0 : fieldA Try.prog 18 0 = some (0, 1, false) := by kernel_rfl
@[simp] theorem pl18 : placesA Try.prog 18 = some [(0, 1)] := by kernel_rfl
@[simp] theorem sz19 : sizeA Try.prog 19 = some 1 := by kernel_rfl
@[simp] theorem by19 : bytesA Try.prog 19 = some 8 := by kernel_rfl
@[simp] theorem ze19 : zeroA Try.prog 19 = some [.v (.pointer none)] := by kernel_rfl
@[simp] theorem ag19 : isAggA Try.prog 19 = some true := by kernel_rfl
@[simp] theorem rc19 (cs : List PV) : readCells Try.prog 19 cs = if 1 ≤ cs.length then some (.agg (cs.take 1)) else none := by simp [readCells]
@[simp] theorem fi19_0 : fieldA Try.prog 19 0 = some (0, 1, false) := by kernel_rfl
@[simp] theorem pl19 : placesA Try.prog 19 = some [(0, 1)] := by kernel_rfl
@[simp] theorem un21 : Program.underlying Try.prog 21 = some (.int .i32) := by kernel_rfl
@[simp] theorem sz21 : sizeA Try.prog 21 = some 1 := by kernel_rfl
@[simp] theorem by21 : bytesA Try.prog 21 = some 4 := by kernel_rfl
@[simp] theorem ze21 : zeroA Try.prog 21 = some [.v (.int .i32 0)] := by kernel_rfl
@[simp] theorem ag21 : isAggA Try.prog 21 = some false := by kernel_rfl
@[simp] theorem rc21 (cs : List PV) : readCells Try.prog 21 cs = cs[0]? := by simp [readCells]
@[simp] theorem un22 : Program.underlying Try.prog 22 = some (.slice 69) := by kernel_rfl
@[simp] theorem el22 : elemA Try.prog 22 = some 69 := by kernel_rfl
@[simp] theorem sz22 : sizeA Try.prog 22 = some 1 := by kernel_rfl
@[simp] theorem by22 : bytesA Try.prog 22 = some 24 := by kernel_rfl
@[simp] theorem ze22 : zeroA Try.prog 22 = some [.nil] := by kernel_rfl
@[simp] theorem ag22 : isAggA Try.prog 22 = some false := by kernel_rfl
@[simp] theorem rc22 (cs : List PV) : readCells Try.prog 22 cs = cs[0]? := by simp [readCells]
@[simp] theorem sz23 : sizeA Try.prog 23 = some 2 := by kernel_rfl
@[simp] theorem by23 : bytesA Try.prog 23 = some 40 := by kernel_rfl
@[simp] theorem ze23 : zeroA Try.prog 23 = some [.v (.string ⟨#[]⟩), .nil] := by kernel_rfl
@[simp] theorem ag23 : isAggA Try.prog 23 = some true := by kernel_rfl
@[simp] theorem rc23 (cs : List PV) : readCells Try.prog 23 cs = if 2 ≤ cs.length then some (.agg (cs.take 2)) else none := by simp [readCells]
@[simp] theorem fi23_0 : fieldA Try.prog 23 0 = some (0, 1, false) := by kernel_rfl
@[simp] theorem fi23_1 : fieldA Try.prog 23 1 = some (1, 1, false) := by kernel_rfl
@[simp] theorem pl23 : placesA Try.prog 23 = some [(0, 1), (1, 1)] := by kernel_rfl
@[simp] theorem sz24 : sizeA Try.prog 24 = some 2 := by kernel_rfl
@[simp] theorem by24 : bytesA Try.prog 24 = some 40 := by kernel_rfl
@[simp] theorem ze24 : zeroA Try.prog 24 = some [.v (.string ⟨#[]⟩), .nil] := by kernel_rfl
@[simp] theorem ag24 : isAggA Try.prog 24 = some true := by kernel_rfl
@[simp] theorem rc24 (cs : List PV) : readCells Try.prog 24 cs = if 2 ≤ cs.length then some (.agg (cs.take 2)) else none := by simp [readCells]
@[simp] theorem fi24_0 : fieldA Try.prog 24 0 = some (0, 1, false) := by kernel_rfl
@[simp] theorem fi24_1 : fieldA Try.prog 24 1 = some (1, 1, false) := by kernel_rfl
@[simp] theorem pl24 : placesA Try.prog 24 = some [(0, 1), (1, 1)] := by kernel_rfl
@[simp] theorem un25 : Program.underlying Try.prog 25 = some (.slice 28) := by kernel_rfl
@[simp] theorem el25 : elemA Try.prog 25 = some 28 := by kernel_rfl
@[simp] theorem sz25 : sizeA Try.prog 25 = some 1 := by kernel_rfl
@[simp] theorem by25 : bytesA Try.prog 25 = some 24 := by kernel_rfl
@[simp] theorem ze25 : zeroA Try.prog 25 = some [.nil] := by kernel_rfl
@[simp] theorem ag25 : isAggA Try.prog 25 = some false := by kernel_rfl
@[simp] theorem rc25 (cs : List PV) : readCells Try.prog 25 cs = cs[0]? := by simp [readCells]
@[simp] theorem un26 : Program.underlying Try.prog 26 = some (.slice 99) := by kernel_rfl
@[simp] theorem el26 : elemA Try.prog 26 = some 99 := by kernel_rfl
@[simp] theorem sz26 : sizeA Try.prog 26 = some 1 := by kernel_rfl
@[simp] theorem by26 : bytesA Try.prog 26 = some 24 := by kernel_rfl
@[simp] theorem ze26 : zeroA Try.prog 26 = some [.nil] := by kernel_rfl
@[simp] theorem ag26 : isAggA Try.prog 26 = some false := by kernel_rfl
@[simp] theorem rc26 (cs : List PV) : readCells Try.prog 26 cs = cs[0]? := by simp [readCells]
@[simp] theorem sz27 : sizeA Try.prog 27 = some 5 := by kernel_rfl
@[simp] theorem by27 : bytesA Try.prog 27 = some 80 := by kernel_rfl
@[simp] theorem ze27 : zeroA Try.prog 27 = some [.v (.int .i64 0), .v (.int .i64 0), .v (.string ⟨#[]⟩), .nil, .nil] := by kernel_rfl
@[simp] theorem ag27 : isAggA Try.prog 27 = some true := by kernel_rfl
@[simp] theorem rc27 (cs : List PV) : readCells Try.prog 27 cs = if 5 ≤ cs.length then some (.agg (cs.take 5)) else none := by simp [readCells]
@[simp] theorem fi27_0 : fieldA Try.prog 27 0 = some (0, 1, false) := by kernel_rfl
@[simp] theorem fi27_1 : fieldA Try.prog 27 1 = some (1, 1, false) := by kernel_rfl
@[simp] theorem fi27_2 : fieldA Try.prog 27 2 = some (2, 1, false) := by kernel_rfl
@[simp] theorem fi27_3 : fieldA Try.prog 27 3 = some (3, 1, false) := by kernel_rfl
@[simp] theorem fi27_4 : fieldA Try.prog 27 4 = some (4, 1, false) := by kernel_rfl
@[simp] theorem pl27 : placesA Try.prog 27 = some [(0, 1), (1, 1), (2, 1), (3, 1), (4, 1)] := by kernel_rfl
@[simp] theorem sz28 : sizeA Try.prog 28 = some 5 := by kernel_rfl
@[simp] theorem by28 : bytesA Try.prog 28 = some 80 := by kernel_rfl
@[simp] theorem ze28 : zeroA Try.prog 28 = some [.v (.int .i64 0), .v (.int .i64 0), .v (.string ⟨#[]⟩), .nil, .nil] := by kernel_rfl
@[simp] theorem ag28 : isAggA Try.prog 28 = some true := by kernel_rfl
@[simp] theorem rc28 (cs : List PV) : readCells Try.prog 28 cs = if 5 ≤ cs.length then some (.agg (cs.take 5)) else none := by simp [readCells]
@[simp] theorem fi28_0 : fieldA Try.prog 28 0 = some (0, 1, false) := by kernel_rfl
@[simp] theorem fi28_1 : fieldA Try.prog 28 1 = some (1, 1, false) := by kernel_rfl
@[simp] theorem fi28_2 : fieldA Try.prog 28 2 = some (2, 1, false) := by kernel_rfl
@[simp] theorem fi28_3 : fieldA Try.prog 28 3 = some (3, 1, false) := by kernel_rfl
@[simp] theorem fi28_4 : fieldA Try.prog 28 4 = some (4, 1, false) := by kernel_rfl
@[simp] theorem pl28 : placesA Try.prog 28 = some [(0, 1), (1, 1), (2, 1), (3, 1), (4, 1)] := by kernel_rfl
@[simp] theorem un29 : Program.underlying Try.prog 29 = some (.int .i64) := by kernel_rfl
@[simp] theorem sz29 : sizeA Try.prog 29 = some 1 := by kernel_rfl
@[simp] theorem by29 : bytesA Try.prog 29 = some 8 := by kernel_rfl
@[simp] theorem ze29 : zeroA Try.prog 29 = some [.v (.int .i64 0)] := by kernel_rfl
@[simp] theorem ag29 : isAggA Try.prog 29 = some false := by kernel_rfl
@[simp] theorem rc29 (cs : List PV) : readCells Try.prog 29 cs = cs[0]? := by simp [readCells]
@[simp] theorem un35 : Program.underlying Try.prog 35 = some (.slice 43) := by kernel_rfl
@[simp] theorem el35 : elemA Try.prog 35 = some 43 := by kernel_rfl
@[simp] theorem sz35 : sizeA Try.prog 35 = some 1 := by kernel_rfl
@[simp] theorem by35 : bytesA Try.prog 35 = some 24 := by kernel_rfl
@[simp] theorem ze35 : zeroA Try.prog 35 = some [.nil] := by kernel_rfl
@[simp] theorem ag35 : isAggA Try.prog 35 = some false := by kernel_rfl
@[simp] theorem rc35 (cs : List PV) : readCells Try.prog 35 cs = cs[0]? := by simp [readCells]
@[simp] theorem sz42 : sizeA Try.prog 42 = some 2 := by kernel_rfl
@[simp] theorem by42 : bytesA Try.prog 42 = some 16 := by kernel_rfl
@[simp] theorem ze42 : zeroA Try.prog 42 = some [.v (.int .i64 0), .v (.int .i64 0)] := by kernel_rfl
@[simp] theorem ag42 : isAggA Try.prog 42 = some true := by kernel_rfl
@[simp] theorem rc42 (cs : List PV) : readCells Try.prog 42 cs = if 2 ≤ cs.length then some (.agg (cs.take 2)) else none := by simp [readCells]
@[simp] theorem fi42_0 : fieldA Try.prog 42 0 = some (0, 1, false) := by kernel_rfl
@[simp] theorem fi42_1 : fieldA Try.prog 42 1 = some (1, 1, false) := by kernel_rfl
@[simp] theorem pl42 : placesA Try.prog 42 = some [(0, 1), (1, 1)] := by kernel_rfl
@[simp] theorem fl42 : flatA Try.prog 42 = some [0, 0] := by kernel_rfl
@[simp] theorem sz43 : sizeA Try.prog 43 = some 2 := by kernel_rfl
@[simp] theorem by43 : bytesA Try.prog 43 = some 16 := by kernel_rfl
@[simp] theorem ze43 : zeroA Try.prog 43 = some [.v (.int .i64 0), .v (.int .i64 0)] := by kernel_rfl
@[simp] theorem ag43 : isAggA Try.prog 43 = some true := by kernel_rfl
@[simp] theorem rc43 (cs : List PV) : readCells Try.prog 43 cs = if 2 ≤ cs.length then some (.agg (cs.take 2)) else none := by simp [readCells]
@[simp] theorem fi43_0 : fieldA Try.prog 43 0 = some (0, 1, false) := by kernel_rfl
@[simp] theorem fi43_1 : fieldA Try.prog 43 1 = some (1, 1, false) := by kernel_rfl
@[simp] theorem pl43 : placesA Try.prog 43 = some [(0, 1), (1, 1)] := by kernel_rfl
@[simp] theorem fl43 : flatA Try.prog 43 = some [0, 0] := by kernel_rfl
@[simp] theorem un47 : Program.underlying Try.prog 47 = some (.slice 61) := by kernel_rfl
@[simp] theorem el47 : elemA Try.prog 47 = some 61 := by kernel_rfl
@[simp] theorem sz47 : sizeA Try.prog 47 = some 1 := by kernel_rfl
@[simp] theorem by47 : bytesA Try.prog 47 = some 24 := by kernel_rfl
@[simp] theorem ze47 : zeroA Try.prog 47 = some [.nil] := by kernel_rfl
@[simp] theorem ag47 : isAggA Try.prog 47 = some false := by kernel_rfl
@[simp] theorem rc47 (cs : List PV) : readCells Try.prog 47 cs = cs[0]? := by simp [readCells]
@[simp] theorem un48 : Program.underlying Try.prog 48 = some (.slice 3) := by kernel_rfl
@[simp] theorem el48 : elemA Try.prog 48 = some 3 := by kernel_rfl
@[simp] theorem sz48 : sizeA Try.prog 48 = some 1 := by kernel_rfl
@[simp] theorem by48 : bytesA Try.prog 48 = some 24 := by kernel_rfl
@[simp] theorem ze48 : zeroA Try.prog 48 = some [.nil] := by kernel_rfl
@[simp] theorem ag48 : isAggA Try.prog 48 = some false := by kernel_rfl
@[simp] theorem rc48 (cs : List PV) : readCells Try.prog 48 cs = cs[0]? := by simp [readCells]
@[simp] theorem un56 : Program.underlying Try.prog 56 = some (.slice 47) := by kernel_rfl
@[simp] theorem el56 : elemA Try.prog 56 = some 47 := by kernel_rfl
@[simp] theorem sz56 : sizeA Try.prog 56 = some 1 := by kernel_rfl
@[simp] theorem by56 : bytesA Try.prog 56 = some 24 := by kernel_rfl
@[simp] theorem ze56 : zeroA Try.prog 56 = some [.nil] := by kernel_rfl
@[simp] theorem ag56 : isAggA Try.prog 56 = some false := by kernel_rfl
@[simp] theorem rc56 (cs : List PV) : readCells Try.prog 56 cs = cs[0]? := by simp [readCells]
@[simp] theorem sz60 : sizeA Try.prog 60 = some 3 := by kernel_rfl
@[simp] theorem by60 : bytesA Try.prog 60 = some 24 := by kernel_rfl
@[simp] theorem ze60 : zeroA Try.prog 60 = some [.v (.int .i64 0), .v (.int .i64 0), .v (.int .i64 0)] := by kernel_rfl
@[simp] theorem ag60 : isAggA Try.prog 60 = some true := by kernel_rfl
@[simp] theorem rc60 (cs : List PV) : readCells Try.prog 60 cs = if 3 ≤ cs.length then some (.agg (cs.take 3)) else none := by simp [readCells]
@[simp] theorem fi60_0 : fieldA Try.prog 60 0 = some (0, 1, false) := by kernel_rfl
@[simp] theorem fi60_1 : fieldA Try.prog 60 1 = some (1, 1, false) := by kernel_rfl
@[simp] theorem fi60_2 : fieldA Try.prog 60 2 = some (2, 1, false) := by kernel_rfl
@[simp] theorem pl60 : placesA Try.prog 60 = some [(0, 1), (1, 1), (2, 1)] := by kernel_rfl
@[simp] theorem fl60 : flatA Try.prog 60 = some [0, 0, 0] := by kernel_rfl
@[simp] theorem sz61 : sizeA Try.prog 61 = some 3 := by kernel_rfl
@[simp] theorem by61 : bytesA Try.prog 61 = some 24 := by kernel_rfl
@[simp] theorem ze61 : zeroA Try.prog 61 = some [.v (.int .i64 0), .v (.int .i64 0), .v (.int .i64 0)] := by kernel_rfl
@[simp] theorem ag61 : isAggA Try.prog 61 = some true := by kernel_rfl
@[simp] theorem rc61 (cs : List PV) : readCells Try.prog 61 cs = if 3 ≤ cs.length then some (.agg (cs.take 3)) else none := by simp [readCells]
@[simp] theorem fi61_0 : fieldA Try.prog 61 0 = some (0, 1, false) := by kernel_rfl
@[simp] theorem fi61_1 : fieldA Try.prog 61 1 = some (1, 1, false) := by kernel_rfl
@[simp] theorem fi61_2 : fieldA Try.prog 61 2 = some (2, 1, false) := by kernel_rfl
@[simp] theorem pl61 : placesA Try.prog 61 = some [(0, 1), (1, 1), (2, 1)] := by kernel_rfl
@[simp] theorem fl61 : flatA Try.prog 61 = some [0, 0, 0] := by kernel_rfl
@[simp] theorem sz68 : sizeA Try.prog 68 = some 6 := by kernel_rfl
@[simp] theorem by68 : bytesA Try.prog 68 = some 96 := by kernel_rfl
@[simp] theorem ze68 : zeroA Try.prog 68 = some [.v (.string ⟨#[]⟩), .v (.int .i64 0), .v (.int .i64 0), .v (.string ⟨#[]⟩), .nil, .nil] := by kernel_rfl
@[simp] theorem ag68 : isAggA Try.prog 68 = some true := by kernel_rfl
@[simp] theorem rc68 (cs : List PV) : readCells Try.prog 68 cs = if 6 ≤ cs.length then some (.agg (cs.take 6)) else none := by simp [readCells]
@[simp] theorem fi68_0 : fieldA Try.prog 68 0 = some (0, 1, false) := by kernel_rfl
@[simp] theorem fi68_1 : fieldA Try.prog 68 1 = some (1, 5, true) := by kernel_rfl
@[simp] theorem pl68 : placesA Try.prog 68 = some [(0, 1), (1, 5)] := by kernel_rfl
@[simp] theorem sz69 : sizeA Try.prog 69 = some 6 := by kernel_rfl
@[simp] theorem by69 : bytesA Try.prog 69 = some 96 := by kernel_rfl
@[simp] theorem ze69 : zeroA Try.prog 69 = some [.v (.string ⟨#[]⟩), .v (.int .i64 0), .v (.int .i64 0), .v (.string ⟨#[]⟩), .nil, .nil] := by kernel_rfl
@[simp] theorem ag69 : isAggA Try.prog 69 = some true := by kernel_rfl
@[simp] theorem rc69 (cs : List PV) : readCells Try.prog 69 cs = if 6 ≤ cs.length then some (.agg (cs.take 6)) else none := by simp [readCells]
@[simp] theorem fi69_0 : fieldA Try.prog 69 0 = some (0, 1, false) := by kernel_rfl
@[simp] theorem fi69_1 : fieldA Try.prog 69 1 = some (1, 5, true) := by kernel_rfl
@[simp] theorem pl69 : placesA Try.prog 69 = some [(0, 1), (1, 5)] := by kernel_rfl
@[simp] theorem un85 : Program.underlying Try.prog 85 = some (.slice 88) := by kernel_rfl
@[simp] theorem el85 : elemA Try.prog 85 = some 88 := by kernel_rfl
@[simp] theorem sz85 : sizeA Try.prog 85 = some 1 := by kernel_rfl
@[simp] theorem by85 : bytesA Try.prog 85 = some 24 := by kernel_rfl
@[simp] theorem ze85 : zeroA Try.prog 85 = some [.nil] := by kernel_rfl
@[simp] theorem ag85 : isAggA Try.prog 85 = some false := by kernel_rfl
@[simp] theorem rc85 (cs : List PV) : readCells Try.prog 85 cs = cs[0]? := by simp [readCells]
@[simp] theorem sz87 : sizeA Try.prog 87 = some 4 := by kernel_rfl
@[simp] theorem by87 : bytesA Try.prog 87 = some 32 := by kernel_rfl
@[simp] theorem ze87 : zeroA Try.prog 87 = some [.v (.int .i64 0), .v (.int .i64 0), .v (.int .i64 0), .v (.int .i64 0)] := by kernel_rfl
@[simp] theorem ag87 : isAggA Try.prog 87 = some true := by kernel_rfl
@[simp] theorem rc87 (cs : List PV) : readCells Try.prog 87 cs = if 4 ≤ cs.length then some (.agg (cs.take 4)) else none := by simp [readCells]
@[simp] theorem fi87_0 : fieldA Try.prog 87 0 = some (0, 1, false) := by kernel_rfl
@[simp] theorem fi87_1 : fieldA Try.prog 87 1 = some (1, 1, false) := by kernel_rfl
@[simp] theorem fi87_2 : fieldA Try.prog 87 2 = some (2, 1, false) := by kernel_rfl
@[simp] theorem fi87_3 : fieldA Try.prog 87 3 = some (3, 1, false) := by kernel_rfl
@[simp] theorem pl87 : placesA Try.prog 87 = some [(0, 1), (1, 1), (2, 1), (3, 1)] := by kernel_rfl
@[simp] theorem fl87 : flatA Try.prog 87 = some [0, 0, 0, 0] := by kernel_rfl
@[simp] theorem sz88 : sizeA Try.prog 88 = some 4 := by kernel_rfl
@[simp] theorem by88 : bytesA Try.prog 88 = some 32 := by kernel_rfl
@[simp] theorem ze88 : zeroA Try.prog 88 = some [.v (.int .i64 0), .v (.int .i64 0), .v (.int .i64 0), .v (.int .i64 0)] := by kernel_rfl
@[simp] theorem ag88 : isAggA Try.prog 88 = some true := by kernel_rfl
@[simp] theorem rc88 (cs : List PV) : readCells Try.prog 88 cs = if 4 ≤ cs.length then some (.agg (cs.take 4)) else none := by simp [readCells]
@[simp] theorem fi88_0 : fieldA Try.prog 88 0 = some (0, 1, false) := by kernel_rfl
@[simp] theorem fi88_1 : fieldA Try.prog 88 1 = some (1, 1, false) := by kernel_rfl
@[simp] theorem fi88_2 : fieldA Try.prog 88 2 = some (2, 1, false) := by kernel_rfl
@[simp] theorem fi88_3 : fieldA Try.prog 88 3 = some (3, 1, false) := by kernel_rfl
@[simp] theorem pl88 : placesA Try.prog 88 = some [(0, 1), (1, 1), (2, 1), (3, 1)] := by kernel_rfl
@[simp] theorem fl88 : flatA Try.prog 88 = some [0, 0, 0, 0] := by kernel_rfl
@[simp] theorem sz99 : sizeA Try.prog 99 = some 6 := by kernel_rfl
@[simp] theorem by99 : bytesA Try.prog 99 = some 96 := by kernel_rfl
@[simp] theorem ze99 : zeroA Try.prog 99 = some [.v (.string ⟨#[]⟩), .v (.int .i64 0), .v (.int .i64 0), .v (.string ⟨#[]⟩), .nil, .nil] := by kernel_rfl
@[simp] theorem ag99 : isAggA Try.prog 99 = some true := by kernel_rfl
@[simp] theorem rc99 (cs : List PV) : readCells Try.prog 99 cs = if 6 ≤ cs.length then some (.agg (cs.take 6)) else none := by simp [readCells]
@[simp] theorem fi99_0 : fieldA Try.prog 99 0 = some (0, 1, false) := by kernel_rfl
@[simp] theorem fi99_1 : fieldA Try.prog 99 1 = some (1, 5, true) := by kernel_rfl
@[simp] theorem pl99 : placesA Try.prog 99 = some [(0, 1), (1, 5)] := by kernel_rfl
@[simp] theorem un106 : Program.underlying Try.prog 106 = some (.slice 35) := by kernel_rfl
@[simp] theorem el106 : elemA Try.prog 106 = some 35 := by kernel_rfl
@[simp] theorem sz106 : sizeA Try.prog 106 = some 1 := by kernel_rfl
@[simp] theorem by106 : bytesA Try.prog 106 = some 24 := by kernel_rfl
@[simp] theorem ze106 : zeroA Try.prog 106 = some [.nil] := by kernel_rfl
@[simp] theorem ag106 : isAggA Try.prog 106 = some false := by kernel_rfl
@[simp] theorem rc106 (cs : List PV) : readCells Try.prog 106 cs = cs[0]? := by simp [readCells]
@[simp] theorem un114 : Program.underlying Try.prog 114 = some (.int .u64) := by kernel_rfl
@[simp] theorem sz114 : sizeA Try.prog 114 = some 1 := by kernel_rfl
@[simp] theorem by114 : bytesA Try.prog 114 = some 8 := by kernel_rfl
@[simp] theorem ze114 : zeroA Try.prog 114 = some [.v (.int .u64 0)] := by kernel_rfl
@[simp] theorem ag114 : isAggA Try.prog 114 = some false := by kernel_rfl
@[simp] theorem rc114 (cs : List PV) : readCells Try.prog 114 cs = cs[0]? := by simp [readCells]
@[simp] theorem un125 : Program.underlying Try.prog 125 = some (.int .i64) := by kernel_rfl
@[simp] theorem sz125 : sizeA Try.prog 125 = some 1 := by kernel_rfl
@[simp] theorem by125 : bytesA Try.prog 125 = some 8 := by kernel_rfl
@[simp] theorem ze125 : zeroA Try.prog 125 = some [.v (.int .i64 0)] := by kernel_rfl
@[simp] theorem ag125 : isAggA Try.prog 125 = some false := by kernel_rfl
@[simp] theorem rc125 (cs : List PV) : readCells Try.prog 125 cs = cs[0]? := by simp [readCells]
@[simp] theorem un132 : Program.underlying Try.prog 132 = some (.int .u32) := by kernel_rfl
@[simp] theorem sz132 : sizeA Try.prog 132 = some 1 := by kernel_rfl
@[simp] theorem by132 : bytesA Try.prog 132 = some 4 := by kernel_rfl
@[simp] theorem ze132 : zeroA Try.prog 132 = some [.v (.int .u32 0)] := by kernel_rfl
@[simp] theorem ag132 : isAggA Try.prog 132 = some false := by kernel_rfl
@[simp] theorem rc132 (cs : List PV) : readCells Try.prog 132 cs = cs[0]? := by simp [readCells]
@[simp] theorem un134 : Program.underlying Try.prog 134 = some (.int .u64) := by kernel_rfl
@[simp] theorem sz134 : sizeA Try.prog 134 = some 1 := by kernel_rfl
@[simp] theorem by134 : bytesA Try.prog 134 = some 8 := by kernel_rfl
@[simp] theorem ze134 : zeroA Try.prog 134 = some [.v (.int .u64 0)] := by kernel_rfl
@[simp] theorem ag134 : isAggA Try.prog 134 = some false := by kernel_rfl
@[simp] theorem rc134 (cs : List PV) : readCells Try.prog 134 cs = cs[0]? := by simp [readCells]
@[simp] theorem un141 : Program.underlying Try.prog 141 = some (.int .u64) := by kernel_rfl
@[simp] theorem sz141 : sizeA Try.prog 141 = some 1 := by kernel_rfl
@[simp] theorem by141 : bytesA Try.prog 141 = some 8 := by kernel_rfl
@[simp] theorem ze141 : zeroA Try.prog 141 = some [.v (.int .u64 0)] := by kernel_rfl
@[simp] theorem ag141 : isAggA Try.prog 141 = some false := by kernel_rfl
@[simp] theorem rc141 (cs : List PV) : readCells Try.prog 141 cs = cs[0]? := by simp [readCells]
@[simp] theorem sz145 : sizeA Try.prog 145 = some 1 := by kernel_rfl
@[simp] theorem by145 : bytesA Try.prog 145 = some 8 := by kernel_rfl
@[simp] theorem ze145 : zeroA Try.prog 145 = some [.v (.pointer none)] := by kernel_rfl
@[simp] theorem ag145 : isAggA Try.prog 145 = some false := by kernel_rfl
@[simp] theorem rc145 (cs : List PV) : readCells Try.prog 145 cs = cs[0]? := by simp [readCells]
@[simp] theorem sz155 : sizeA Try.prog 155 = some 1 := by kernel_rfl
@[simp] theorem by155 : bytesA Try.prog 155 = some 8 := by kernel_rfl
@[simp] theorem ze155 : zeroA Try.prog 155 = some [.v (.pointer none)] := by kernel_rfl
@[simp] theorem ag155 : isAggA Try.prog 155 = some false := by kernel_rfl
@[simp] theorem rc155 (cs : List PV) : readCells Try.prog 155 cs = cs[0]? := by simp [readCells]
@[simp] theorem sz162 : sizeA Try.prog 162 = some 4 := by kernel_rfl
@[simp] theorem by162 : bytesA Try.prog 162 = some 40 := by kernel_rfl
@[simp] theorem ze162 : zeroA Try.prog 162 = some [.v (.pointer none), .v (.pointer none), .v (.pointer none), .v (.string ⟨#[]⟩)] := by kernel_rfl
@[simp] theorem ag162 : isAggA Try.prog 162 = some true := by kernel_rfl
@[simp] theorem rc162 (cs : List PV) : readCells Try.prog 162 cs = if 4 ≤ cs.length then some (.agg (cs.take 4)) else none := by simp [readCells]
@[simp] theorem fi162_0 : fieldA Try.prog 162 0 = some (0, 1, false) := by kernel_rfl
@[simp] theorem fi162_1 : fieldA Try.prog 162 1 = some (1, 1, false) := by kernel_rfl
@[simp] theorem fi162_2 : fieldA Try.prog 162 2 = some (2, 1, false) := by kernel_rfl
@[simp] theorem fi162_3 : fieldA Try.prog 162 3 = some (3, 1, false) := by kernel_rfl
@[simp] theorem pl162 : placesA Try.prog 162 = some [(0, 1), (1, 1), (2, 1), (3, 1)] := by kernel_rfl
@[simp] theorem sz163 : sizeA Try.prog 163 = some 4 := by kernel_rfl
@[simp] theorem by163 : bytesA Try.prog 163 = some 40 := by kernel_rfl
@[simp] theorem ze163 : zeroA Try.prog 163 = some [.v (.pointer none), .v (.pointer none), .v (.pointer none), .v (.string ⟨#[]⟩)] := by kernel_rfl
@[simp] theorem ag163 : isAggA Try.prog 163 = some true := by kernel_rfl
@[simp] theorem rc163 (cs : List PV) : readCells Try.prog 163 cs = if 4 ≤ cs.length then some (.agg (cs.take 4)) else none := by simp [readCells]
@[simp] theorem fi163_0 : fieldA Try.prog 163 0 = some (0, 1, false) := by kernel_rfl
@[simp] theorem fi163_1 : fieldA Try.prog 163 1 = some (1, 1, false) := by kernel_rfl
@[simp] theorem fi163_2 : fieldA Try.prog 163 2 = some (2, 1, false) := by kernel_rfl
@[simp] theorem fi163_3 : fieldA Try.prog 163 3 = some (3, 1, false) := by kernel_rfl
@[simp] theorem pl163 : placesA Try.prog 163 = some [(0, 1), (1, 1), (2, 1), (3, 1)] := by kernel_rfl
@[simp] theorem un168 : Program.underlying Try.prog 168 = some (.int .u8) := by kernel_rfl
@[simp] theorem sz168 : sizeA Try.prog 168 = some 1 := by kernel_rfl
@[simp] theorem by168 : bytesA Try.prog 168 = some 1 := by kernel_rfl
@[simp] theorem ze168 : zeroA Try.prog 168 = some [.v (.int .u8 0)] := by kernel_rfl
@[simp] theorem ag168 : isAggA Try.prog 168 = some false := by kernel_rfl
@[simp] theorem rc168 (cs : List PV) : readCells Try.prog 168 cs = cs[0]? := by simp [readCells]
@[simp] theorem un169 : Program.underlying Try.prog 169 = some (.int .u8) := by kernel_rfl
@[simp] theorem sz169 : sizeA Try.prog 169 = some 1 := by kernel_rfl
@[simp] theorem by169 : bytesA Try.prog 169 = some 1 := by kernel_rfl
@[simp] theorem ze169 : zeroA Try.prog 169 = some [.v (.int .u8 0)] := by kernel_rfl
@[simp] theorem ag169 : isAggA Try.prog 169 = some false := by kernel_rfl
@[simp] theorem rc169 (cs : List PV) : readCells Try.prog 169 cs = cs[0]? := by simp [readCells]
@[simp] theorem sz171 : sizeA Try.prog 171 = some 1 := by kernel_rfl
@[simp] theorem by171 : bytesA Try.prog 171 = some 8 := by kernel_rfl
@[simp] theorem ze171 : zeroA Try.prog 171 = some [.v (.pointer none)] := by kernel_rfl
@[simp] theorem ag171 : isAggA Try.prog 171 = some false := by kernel_rfl
@[simp] theorem rc171 (cs : List PV) : readCells Try.prog 171 cs = cs[0]? := by simp [readCells]
@[simp] theorem un172 : Program.underlying Try.prog 172 = some (.int .i32) := by kernel_rfl
@[simp] theorem sz172 : sizeA Try.prog 172 = some 1 := by kernel_rfl
@[simp] theorem by172 : bytesA Try.prog 172 = some 4 := by kernel_rfl
@[simp] theorem ze172 : zeroA Try.prog 172 = some [.v (.int .i32 0)] := by kernel_rfl
@[simp] theorem ag172 : isAggA Try.prog 172 = some false := by kernel_rfl
@[simp] theorem rc172 (cs : List PV) : readCells Try.prog 172 cs = cs[0]? := by simp [readCells]
@[simp] theorem un173 : Program.underlying Try.prog 173 = some (.int .i32) := by kernel_rfl
@[simp] theorem sz173 : sizeA Try.prog 173 = some 1 := by kernel_rfl
@[simp] theorem by173 : bytesA Try.prog 173 = some 4 := by kernel_rfl
@[simp] theorem ze173 : zeroA Try.prog 173 = some [.v (.int .i32 0)] := by kernel_rfl
@[simp] theorem ag173 : isAggA Try.prog 173 = some false := by kernel_rfl
@[simp] theorem rc173 (cs : List PV) : readCells Try.prog 173 cs = cs[0]? := by simp [readCells]
@[simp] theorem sz174 : sizeA Try.prog 174 = some 11 := by kernel_rfl
@[simp] theorem by174 : bytesA Try.prog 174 = some 48 := by kernel_rfl
@[simp] theorem ze174 : zeroA Try.prog 174 = some [.v (.int .u64 0), .v (.int .u64 0), .v (.int .u32 0), .v (.int .u8 0), .v (.int .u8 0), .v (.int .u8 0), .v (.int .u8 0), .v .nilFunc, .v (.pointer none), .v (.int .i32 0), .v (.int .i32 0)] := by kernel_rfl
@[simp] theorem ag174 : isAggA Try.prog 174 = some true := by kernel_rfl
@[simp] theorem rc174 (cs : List PV) : readCells Try.prog 174 cs = if 11 ≤ cs.length then some (.agg (cs.take 11)) else none := by simp [readCells]
@[simp] theorem fi174_0 : fieldA Try.prog 174 0 = some (0, 1, false) := by kernel_rfl
@[simp] theorem fi174_1 : fieldA Try.prog 174 1 = some (1, 1, false) := by kernel_rfl
@[simp] theorem fi174_2 : fieldA Try.prog 174 2 = some (2, 1, false) := by kernel_rfl
@[simp] theorem fi174_3 : fieldA Try.prog 174 3 = some (3, 1, false) := by kernel_rfl
@[simp] theorem fi174_4 : fieldA Try.prog 174 4 = some (4, 1, false) := by kernel_rfl
@[simp] theorem fi174_5 : fieldA Try.prog 174 5 = some (5, 1, false) := by kernel_rfl
@[simp] theorem fi174_6 : fieldA Try.prog 174 6 = some (6, 1, false) := by kernel_rfl
@[simp] theorem fi174_8 : fieldA Try.prog 174 8 = some (8, 1, false) := by kernel_rfl
@[simp] theorem fi174_9 : fieldA Try.prog 174 9 = some (9, 1, false) := by kernel_rfl
@[simp] theorem fi174_10 : fieldA Try.prog 174 10 = some (10, 1, false) := by kernel_rfl
@[simp] theorem sz175 : sizeA Try.prog 175 = some 11 := by kernel_rfl
@[simp] theorem by175 : bytesA Try.prog 175 = some 48 := by kernel_rfl
@[simp] theorem ze175 : zeroA Try.prog 175 = some [.v (.int .u64 0), .v (.int .u64 0), .v (.int .u32 0), .v (.int .u8 0), .v (.int .u8 0), .v (.int .u8 0), .v (.int .u8 0), .v .nilFunc, .v (.pointer none), .v (.int .i32 0), .v (.int .i32 0)] := by kernel_rfl
@[simp] theorem ag175 : isAggA Try.prog 175 = some true := by kernel_rfl
@[simp] theorem rc175 (cs : List PV) : readCells Try.prog 175 cs = if 11 ≤ cs.length then some (.agg (cs.take 11)) else none := by simp [readCells]
@[simp] theorem fi175_0 : fieldA Try.prog 175 0 = some (0, 1, false) := by kernel_rfl
@[simp] theorem fi175_1 : fieldA Try.prog 175 1 = some (1, 1, false) := by kernel_rfl
@[simp] theorem fi175_2 : fieldA Try.prog 175 2 = some (2, 1, false) := by kernel_rfl
@[simp] theorem fi175_3 : fieldA Try.prog 175 3 = some (3, 1, false) := by kernel_rfl
@[simp] theorem fi175_4 : fieldA Try.prog 175 4 = some (4, 1, false) := by kernel_rfl
@[simp] theorem fi175_5 : fieldA Try.prog 175 5 = some (5, 1, false) := by kernel_rfl
@[simp] theorem fi175_6 : fieldA Try.prog 175 6 = some (6, 1, false) := by kernel_rfl
@[simp] theorem fi175_8 : fieldA Try.prog 175 8 = some (8, 1, false) := by kernel_rfl
@[simp] theorem fi175_9 : fieldA Try.prog 175 9 = some (9, 1, false) := by kernel_rfl
@[simp] theorem fi175_10 : fieldA Try.prog 175 10 = some (10, 1, false) := by kernel_rfl
end Go.Proofs.Ytphmgjcjcdodhaa
