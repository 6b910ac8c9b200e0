/-
  What the evaluator asks of the program's types. Written by a program of this repo (facts.py).
-/
import Derived.Test.YtphmgjcjcdodhaaDoorAm19
import Derived.Test.YtphmgjcjcdodhaaDoorProg
namespace Go.Proofs.YtphmgjcjcdodhaaDoor
open Go.RowKit Go.AM
@[simp] theorem un2 : Program.underlying Tryd.prog 2 = some (.int .i64) := by kernel_rfl
@[simp] theorem sz2 : sizeA Tryd.prog 2 = some 1 := by kernel_rfl
@[simp] theorem by2 : bytesA Tryd.prog 2 = some 8 := by kernel_rfl
@[simp] theorem ze2 : zeroA Tryd.prog 2 = some [.v (.int .i64 0)] := by kernel_rfl
@[simp] theorem ag2 : isAggA Tryd.prog 2 = some false := by kernel_rfl
@[simp] theorem rc2 (cs : List PV) : readCells Tryd.prog 2 cs = cs[0]? := by simp [readCells]
@[simp] theorem un3 : Program.underlying Tryd.prog 3 = some (.int .i64) := by kernel_rfl
@[simp] theorem sz3 : sizeA Tryd.prog 3 = some 1 := by kernel_rfl
@[simp] theorem by3 : bytesA Tryd.prog 3 = some 8 := by kernel_rfl
@[simp] theorem ze3 : zeroA Tryd.prog 3 = some [.v (.int .i64 0)] := by kernel_rfl
@[simp] theorem ag3 : isAggA Tryd.prog 3 = some false := by kernel_rfl
@[simp] theorem rc3 (cs : List PV) : readCells Tryd.prog 3 cs = cs[0]? := by simp [readCells]
@[simp] theorem un4 : Program.underlying Tryd.prog 4 = some .bool := by kernel_rfl
@[simp] theorem sz4 : sizeA Tryd.prog 4 = some 1 := by kernel_rfl
@[simp] theorem by4 : bytesA Tryd.prog 4 = some 1 := by kernel_rfl
@[simp] theorem ze4 : zeroA Tryd.prog 4 = some [.v (.bool false)] := by kernel_rfl
@[simp] theorem ag4 : isAggA Tryd.prog 4 = some false := by kernel_rfl
@[simp] theorem rc4 (cs : List PV) : readCells Tryd.prog 4 cs = cs[0]? := by simp [readCells]
@[simp] theorem un5 : Program.underlying Tryd.prog 5 = some (.int .u8) := by kernel_rfl
@[simp] theorem sz5 : sizeA Tryd.prog 5 = some 1 := by kernel_rfl
@[simp] theorem by5 : bytesA Tryd.prog 5 = some 1 := by kernel_rfl
@[simp] theorem ze5 : zeroA Tryd.prog 5 = some [.v (.int .u8 0)] := by kernel_rfl
@[simp] theorem ag5 : isAggA Tryd.prog 5 = some false := by kernel_rfl
@[simp] theorem rc5 (cs : List PV) : readCells Tryd.prog 5 cs = cs[0]? := by simp [readCells]
@[simp] theorem un6 : Program.underlying Tryd.prog 6 = some (.int .u8) := by kernel_rfl
@[simp] theorem sz6 : sizeA Tryd.prog 6 = some 1 := by kernel_rfl
@[simp] theorem by6 : bytesA Tryd.prog 6 = some 1 := by kernel_rfl
@[simp] theorem ze6 : zeroA Tryd.prog 6 = some [.v (.int .u8 0)] := by kernel_rfl
@[simp] theorem ag6 : isAggA Tryd.prog 6 = some false := by kernel_rfl
@[simp] theorem rc6 (cs : List PV) : readCells Tryd.prog 6 cs = cs[0]? := by simp [readCells]
@[simp] theorem sz7 : sizeA Tryd.prog 7 = some 4 := by kernel_rfl
@[simp] theorem by7 : bytesA Tryd.prog 7 = some 24 := by kernel_rfl
@[simp] theorem ze7 : zeroA Tryd.prog 7 = some [.v (.int .i64 0), .v (.int .i64 0), .v (.bool false), .v (.int .u8 0)] := by kernel_rfl
@[simp] theorem ag7 : isAggA Tryd.prog 7 = some true := by kernel_rfl
@[simp] theorem rc7 (cs : List PV) : readCells Tryd.prog 7 cs = if 4 ≤ cs.length then some (.agg (cs.take 4)) else none := by simp [readCells]
@[simp] theorem fi7_0 : fieldA Tryd.prog 7 0 = some (0, 1, false) := by kernel_rfl
@[simp] theorem fi7_1 : fieldA Tryd.prog 7 1 = some (1, 1, false) := by kernel_rfl
@[simp] theorem fi7_2 : fieldA Tryd.prog 7 2 = some (2, 1, false) := by kernel_rfl
@[simp] theorem fi7_3 : fieldA Tryd.prog 7 3 = some (3, 1, false) := by kernel_rfl
@[simp] theorem pl7 : placesA Tryd.prog 7 = some [(0, 1), (1, 1), (2, 1), (3, 1)] := by kernel_rfl
@[simp] theorem fl7 : flatA Tryd.prog 7 = some [0, 0, 1, 0] := by kernel_rfl
@[simp] theorem sz8 : sizeA Tryd.prog 8 = some 4 := by kernel_rfl
@[simp] theorem by8 : bytesA Tryd.prog 8 = some 24 := by kernel_rfl
@[simp] theorem ze8 : zeroA Tryd.prog 8 = some [.v (.int .i64 0), .v (.int .i64 0), .v (.bool false), .v (.int .u8 0)] := by kernel_rfl
@[simp] theorem ag8 : isAggA Tryd.prog 8 = some true := by kernel_rfl
@[simp] theorem rc8 (cs : List PV) : readCells Tryd.prog 8 cs = if 4 ≤ cs.length then some (.agg (cs.take 4)) else none := by simp [readCells]
@[simp] theorem fi8_0 : fieldA Tryd.prog 8 0 = some (0, 1, false) := by kernel_rfl
@[simp] theorem fi8_1 : fieldA Tryd.prog 8 1 = some (1, 1, false) := by kernel_rfl
@[simp] theorem fi8_2 : fieldA Tryd.prog 8 2 = some (2, 1, false) := by kernel_rfl
@[simp] theorem fi8_3 : fieldA Tryd.prog 8 3 = some (3, 1, false) := by kernel_rfl
@[simp] theorem pl8 : placesA Tryd.prog 8 = some [(0, 1), (1, 1), (2, 1), (3, 1)] := by kernel_rfl
@[simp] theorem fl8 : flatA Tryd.prog 8 = some [0, 0, 1, 0] := by kernel_rfl
@[simp] theorem un9 : Program.underlying Tryd.prog 9 = some .string := by kernel_rfl
@[simp] theorem sz9 : sizeA Tryd.prog 9 = some 1 := by kernel_rfl
@[simp] theorem by9 : bytesA Tryd.prog 9 = some 16 := by kernel_rfl
@[simp] theorem ze9 : zeroA Tryd.prog 9 = some [.v (.string ⟨#[]⟩)] := by kernel_rfl
@[simp] theorem ag9 : isAggA Tryd.prog 9 = some false := by kernel_rfl
@[simp] theorem rc9 (cs : List PV) : readCells Tryd.prog 9 cs = cs[0]? := by simp [readCells]
@[simp] theorem un10 : Program.underlying Tryd.prog 10 = some .string := by kernel_rfl
@[simp] theorem sz10 : sizeA Tryd.prog 10 = some 1 := by kernel_rfl
@[simp] theorem by10 : bytesA Tryd.prog 10 = some 16 := by kernel_rfl
@[simp] theorem ze10 : zeroA Tryd.prog 10 = some [.v (.string ⟨#[]⟩)] := by kernel_rfl
@[simp] theorem ag10 : isAggA Tryd.prog 10 = some false := by kernel_rfl
@[simp] theorem rc10 (cs : List PV) : readCells Tryd.prog 10 cs = cs[0]? := by simp [readCells]
@[simp] theorem un11 : Program.underlying Tryd.prog 11 = some .string := by kernel_rfl
@[simp] theorem sz11 : sizeA Tryd.prog 11 = some 1 := by kernel_rfl
@[simp] theorem by11 : bytesA Tryd.prog 11 = some 16 := by kernel_rfl
@[simp] theorem ze11 : zeroA Tryd.prog 11 = some [.v (.string ⟨#[]⟩)] := by kernel_rfl
@[simp] theorem ag11 : isAggA Tryd.prog 11 = some false := by kernel_rfl
@[simp] theorem rc11 (cs : List PV) : readCells Tryd.prog 11 cs = cs[0]? := by simp [readCells]
@[simp] theorem un12 : Program.underlying Tryd.prog 12 = some (.int .u64) := by kernel_rfl
@[simp] theorem sz12 : sizeA Tryd.prog 12 = some 1 := by kernel_rfl
@[simp] theorem by12 : bytesA Tryd.prog 12 = some 8 := by kernel_rfl
@[simp] theorem ze12 : zeroA Tryd.prog 12 = some [.v (.int .u64 0)] := by kernel_rfl
@[simp] theorem ag12 : isAggA Tryd.prog 12 = some false := by kernel_rfl
@[simp] theorem rc12 (cs : List PV) : readCells Tryd.prog 12 cs = cs[0]? := by simp [readCells]
@[simp] theorem sz13 : sizeA Tryd.prog 13 = some 2 := by kernel_rfl
@[simp] theorem by13 : bytesA Tryd.prog 13 = some 24 := by kernel_rfl
@[simp] theorem ze13 : zeroA Tryd.prog 13 = some [.v (.string ⟨#[]⟩), .v (.int .u64 0)] := by kernel_rfl
@[simp] theorem ag13 : isAggA Tryd.prog 13 = some true := by kernel_rfl
@[simp] theorem rc13 (cs : List PV) : readCells Tryd.prog 13 cs = if 2 ≤ cs.length then some (.agg (cs.take 2)) else none := by simp [readCells]
@[simp] theorem fi13_0 : fieldA Tryd.prog 13 0 = some (0, 1, false) := by kernel_rfl
@[simp] theorem fi13_1 : fieldA Tryd.prog 13 1 = some (1, 1, false) := by kernel_rfl
@[simp] theorem pl13 : placesA Tryd.prog 13 = some [(0, 1), (1, 1)] := by kernel_rfl
@[simp] theorem sz14 : sizeA Tryd.prog 14 = some 2 := by kernel_rfl
@[simp] theorem by14 : bytesA Tryd.prog 14 = some 24 := by kernel_rfl
@[simp] theorem ze14 : zeroA Tryd.prog 14 = some [.v (.string ⟨#[]⟩), .v (.int .u64 0)] := by kernel_rfl
@[simp] theorem ag14 : isAggA Tryd.prog 14 = some true := by kernel_rfl
@[simp] theorem rc14 (cs : List PV) : readCells Tryd.prog 14 cs = if 2 ≤ cs.length then some (.agg (cs.take 2)) else none := by simp [readCells]
@[simp] theorem fi14_0 : fieldA Tryd.prog 14 0 = some (0, 1, false) := by kernel_rfl
@[simp] theorem fi14_1 : fieldA Tryd.prog 14 1 = some (1, 1, false) := by kernel_rfl
@[simp] theorem pl14 : placesA Tryd.prog 14 = some [(0, 1), (1, 1)] := by kernel_rfl
@[simp] theorem sz15 : sizeA Tryd.prog 15 = some 1 := by kernel_rfl
@[simp] theorem by15 : bytesA Tryd.prog 15 = some 8 := by kernel_rfl
@[simp] theorem ze15 : zeroA Tryd.prog 15 = some [.v (.pointer none)] := by kernel_rfl
@[simp] theorem ag15 : isAggA Tryd.prog 15 = some false := by kernel_rfl
@[simp] theorem rc15 (cs : List PV) : readCells Tryd.prog 15 cs = cs[0]? := by simp [readCells]
@[simp] theorem sz16 : sizeA Tryd.prog 16 = some 1 := by kernel_rfl
@[simp] theorem by16 : bytesA Tryd.prog 16 = some 8 := by kernel_rfl
@[simp] theorem ze16 : zeroA Tryd.prog 16 = some [.v (.pointer none)] := by kernel_rfl
@[simp] theorem ag16 : isAggA Tryd.prog 16 = some false := by kernel_rfl
@[simp] theorem rc16 (cs : List PV) : readCells Tryd.prog 16 cs = cs[0]? := by simp [readCells]
@[simp] theorem sz17 : sizeA Tryd.prog 17 = some 1 := by kernel_rfl
@[simp] theorem by17 : bytesA Tryd.prog 17 = some 8 := by kernel_rfl
@[simp] theorem ze17 : zeroA Tryd.prog 17 = some [.v (.pointer none)] := by kernel_rfl
@[simp] theorem ag17 : isAggA Tryd.prog 17 = some false := by kernel_rfl
@[simp] theorem rc17 (cs : List PV) : readCells Tryd.prog 17 cs = cs[0]? := by simp [readCells]
@[simp] theorem sz18 : sizeA Tryd.prog 18 = some 1 := by kernel_rfl
@[simp] theorem by18 : bytesA Tryd.prog 18 = some 8 := by kernel_rfl
@[simp] theorem ze18 : zeroA Tryd.prog 18 = some [.v (.pointer none)] := by kernel_rfl
@[simp] theorem ag18 : isAggA Tryd.prog 18 = some true := by kernel_rfl
@[simp] theorem rc18 (cs : List PV) : readCells Tryd.prog 18 cs = if 1 ≤ cs.length then some (.agg (cs.take 1)) else none := by simp [readCells]
@[simp] theorem fi18_0 : fieldA Tryd.prog 18 0 = some (0, 1, false) := by kernel_rfl
@[simp] theorem pl18 : placesA Tryd.prog 18 = some [(0, 1)] := by kernel_rfl
@[simp] theorem sz19 : sizeA Tryd.prog 19 = some 1 := by kernel_rfl
@[simp] theorem by19 : bytesA Tryd.prog 19 = some 8 := by kernel_rfl
@[simp] theorem ze19 : zeroA Tryd.prog 19 = some [.v (.pointer none)] := by kernel_rfl
@[simp] theorem ag19 : isAggA Tryd.prog 19 = some true := by kernel_rfl
@[simp] theorem rc19 (cs : List PV) : readCells Tryd.prog 19 cs = if 1 ≤ cs.length then some (.agg (cs.take 1)) else none := by simp [readCells]
@[simp] theorem fi19_0 : fieldA Tryd.prog 19 0 = some (0, 1, false) := by kernel_rfl
@[simp] theorem pl19 : placesA Tryd.prog 19 = some [(0, 1)] := by kernel_rfl
@[simp] theorem un21 : Program.underlying Tryd.prog 21 = some (.int .i32) := by kernel_rfl
@[simp] theorem sz21 : sizeA Tryd.prog 21 = some 1 := by kernel_rfl
@[simp] theorem by21 : bytesA Tryd.prog 21 = some 4 := by kernel_rfl
@[simp] theorem ze21 : zeroA Tryd.prog 21 = some [.v (.int .i32 0)] := by kernel_rfl
@[simp] theorem ag21 : isAggA Tryd.prog 21 = some false := by kernel_rfl
@[simp] theorem rc21 (cs : List PV) : readCells Tryd.prog 21 cs = cs[0]? := by simp [readCells]
@[simp] theorem un24 : Program.underlying Tryd.prog 24 = some (.slice 4) := by kernel_rfl
@[simp] theorem el24 : elemA Tryd.prog 24 = some 4 := by kernel_rfl
@[simp] theorem sz24 : sizeA Tryd.prog 24 = some 1 := by kernel_rfl
@[simp] theorem by24 : bytesA Tryd.prog 24 = some 24 := by kernel_rfl
@[simp] theorem ze24 : zeroA Tryd.prog 24 = some [.nil] := by kernel_rfl
@[simp] theorem ag24 : isAggA Tryd.prog 24 = some false := by kernel_rfl
@[simp] theorem rc24 (cs : List PV) : readCells Tryd.prog 24 cs = cs[0]? := by simp [readCells]
@[simp] theorem sz31 : sizeA Tryd.prog 31 = some 1 := by kernel_rfl
@[simp] theorem by31 : bytesA Tryd.prog 31 = some 8 := by kernel_rfl
@[simp] theorem ze31 : zeroA Tryd.prog 31 = some [.v (.pointer none)] := by kernel_rfl
@[simp] theorem ag31 : isAggA Tryd.prog 31 = some false := by kernel_rfl
@[simp] theorem rc31 (cs : List PV) : readCells Tryd.prog 31 cs = cs[0]? := by simp [readCells]
@[simp] theorem un38 : Program.underlying Tryd.prog 38 = some (.int .u64) := by kernel_rfl
@[simp] theorem sz38 : sizeA Tryd.prog 38 = some 1 := by kernel_rfl
@[simp] theorem by38 : bytesA Tryd.prog 38 = some 8 := by kernel_rfl
@[simp] theorem ze38 : zeroA Tryd.prog 38 = some [.v (.int .u64 0)] := by kernel_rfl
@[simp] theorem ag38 : isAggA Tryd.prog 38 = some false := by kernel_rfl
@[simp] theorem rc38 (cs : List PV) : readCells Tryd.prog 38 cs = cs[0]? := by simp [readCells]
@[simp] theorem sz39 : sizeA Tryd.prog 39 = some 2 := by kernel_rfl
@[simp] theorem by39 : bytesA Tryd.prog 39 = some 2 := by kernel_rfl
@[simp] theorem ze39 : zeroA Tryd.prog 39 = some [.v (.int .u8 0), .v (.int .u8 0)] := by kernel_rfl
@[simp] theorem ag39 : isAggA Tryd.prog 39 = some true := by kernel_rfl
@[simp] theorem rc39 (cs : List PV) : readCells Tryd.prog 39 cs = if 2 ≤ cs.length then some (.agg (cs.take 2)) else none := by simp [readCells]
@[simp] theorem fi39_0 : fieldA Tryd.prog 39 0 = some (0, 1, false) := by kernel_rfl
@[simp] theorem fi39_1 : fieldA Tryd.prog 39 1 = some (1, 1, false) := by kernel_rfl
@[simp] theorem pl39 : placesA Tryd.prog 39 = some [(0, 1), (1, 1)] := by kernel_rfl
@[simp] theorem fl39 : flatA Tryd.prog 39 = some [0, 0] := by kernel_rfl
@[simp] theorem sz40 : sizeA Tryd.prog 40 = some 2 := by kernel_rfl
@[simp] theorem by40 : bytesA Tryd.prog 40 = some 2 := by kernel_rfl
@[simp] theorem ze40 : zeroA Tryd.prog 40 = some [.v (.int .u8 0), .v (.int .u8 0)] := by kernel_rfl
@[simp] theorem ag40 : isAggA Tryd.prog 40 = some true := by kernel_rfl
@[simp] theorem rc40 (cs : List PV) : readCells Tryd.prog 40 cs = if 2 ≤ cs.length then some (.agg (cs.take 2)) else none := by simp [readCells]
@[simp] theorem fi40_0 : fieldA Tryd.prog 40 0 = some (0, 1, false) := by kernel_rfl
@[simp] theorem fi40_1 : fieldA Tryd.prog 40 1 = some (1, 1, false) := by kernel_rfl
@[simp] theorem pl40 : placesA Tryd.prog 40 = some [(0, 1), (1, 1)] := by kernel_rfl
@[simp] theorem fl40 : flatA Tryd.prog 40 = some [0, 0] := by kernel_rfl
@[simp] theorem sz47 : sizeA Tryd.prog 47 = some 4 := by kernel_rfl
@[simp] theorem by47 : bytesA Tryd.prog 47 = some 40 := by kernel_rfl
@[simp] theorem ze47 : zeroA Tryd.prog 47 = some [.v (.pointer none), .v (.pointer none), .v (.pointer none), .v (.string ⟨#[]⟩)] := by kernel_rfl
@[simp] theorem ag47 : isAggA Tryd.prog 47 = some true := by kernel_rfl
@[simp] theorem rc47 (cs : List PV) : readCells Tryd.prog 47 cs = if 4 ≤ cs.length then some (.agg (cs.take 4)) else none := by simp [readCells]
@[simp] theorem fi47_0 : fieldA Tryd.prog 47 0 = some (0, 1, false) := by kernel_rfl
@[simp] theorem fi47_1 : fieldA Tryd.prog 47 1 = some (1, 1, false) := by kernel_rfl
@[simp] theorem fi47_2 : fieldA Tryd.prog 47 2 = some (2, 1, false) := by kernel_rfl
@[simp] theorem fi47_3 : fieldA Tryd.prog 47 3 = some (3, 1, false) := by kernel_rfl
@[simp] theorem pl47 : placesA Tryd.prog 47 = some [(0, 1), (1, 1), (2, 1), (3, 1)] := by kernel_rfl
@[simp] theorem sz48 : sizeA Tryd.prog 48 = some 4 := by kernel_rfl
@[simp] theorem by48 : bytesA Tryd.prog 48 = some 40 := by kernel_rfl
@[simp] theorem ze48 : zeroA Tryd.prog 48 = some [.v (.pointer none), .v (.pointer none), .v (.pointer none), .v (.string ⟨#[]⟩)] := by kernel_rfl
@[simp] theorem ag48 : isAggA Tryd.prog 48 = some true := by kernel_rfl
@[simp] theorem rc48 (cs : List PV) : readCells Tryd.prog 48 cs = if 4 ≤ cs.length then some (.agg (cs.take 4)) else none := by simp [readCells]
@[simp] theorem fi48_0 : fieldA Tryd.prog 48 0 = some (0, 1, false) := by kernel_rfl
@[simp] theorem fi48_1 : fieldA Tryd.prog 48 1 = some (1, 1, false) := by kernel_rfl
@[simp] theorem fi48_2 : fieldA Tryd.prog 48 2 = some (2, 1, false) := by kernel_rfl
@[simp] theorem fi48_3 : fieldA Tryd.prog 48 3 = some (3, 1, false) := by kernel_rfl
@[simp] theorem pl48 : placesA Tryd.prog 48 = some [(0, 1), (1, 1), (2, 1), (3, 1)] := by kernel_rfl
@[simp] theorem un53 : Program.underlying Tryd.prog 53 = some (.int .u32) := by kernel_rfl
@[simp] theorem sz53 : sizeA Tryd.prog 53 = some 1 := by kernel_rfl
@[simp] theorem by53 : bytesA Tryd.prog 53 = some 4 := by kernel_rfl
@[simp] theorem ze53 : zeroA Tryd.prog 53 = some [.v (.int .u32 0)] := by kernel_rfl
@[simp] theorem ag53 : isAggA Tryd.prog 53 = some false := by kernel_rfl
@[simp] theorem rc53 (cs : List PV) : readCells Tryd.prog 53 cs = cs[0]? := by simp [readCells]
@[simp] theorem un54 : Program.underlying Tryd.prog 54 = some (.int .u8) := by kernel_rfl
@[simp] theorem sz54 : sizeA Tryd.prog 54 = some 1 := by kernel_rfl
@[simp] theorem by54 : bytesA Tryd.prog 54 = some 1 := by kernel_rfl
@[simp] theorem ze54 : zeroA Tryd.prog 54 = some [.v (.int .u8 0)] := by kernel_rfl
@[simp] theorem ag54 : isAggA Tryd.prog 54 = some false := by kernel_rfl
@[simp] theorem rc54 (cs : List PV) : readCells Tryd.prog 54 cs = cs[0]? := by simp [readCells]
@[simp] theorem un55 : Program.underlying Tryd.prog 55 = some (.int .u8) := by kernel_rfl
@[simp] theorem sz55 : sizeA Tryd.prog 55 = some 1 := by kernel_rfl
@[simp] theorem by55 : bytesA Tryd.prog 55 = some 1 := by kernel_rfl
@[simp] theorem ze55 : zeroA Tryd.prog 55 = some [.v (.int .u8 0)] := by kernel_rfl
@[simp] theorem ag55 : isAggA Tryd.prog 55 = some false := by kernel_rfl
@[simp] theorem rc55 (cs : List PV) : readCells Tryd.prog 55 cs = cs[0]? := by simp [readCells]
@[simp] theorem sz57 : sizeA Tryd.prog 57 = some 1 := by kernel_rfl
@[simp] theorem by57 : bytesA Tryd.prog 57 = some 8 := by kernel_rfl
@[simp] theorem ze57 : zeroA Tryd.prog 57 = some [.v (.pointer none)] := by kernel_rfl
@[simp] theorem ag57 : isAggA Tryd.prog 57 = some false := by kernel_rfl
@[simp] theorem rc57 (cs : List PV) : readCells Tryd.prog 57 cs = cs[0]? := by simp [readCells]
@[simp] theorem un58 : Program.underlying Tryd.prog 58 = some (.int .i32) := by kernel_rfl
@[simp] theorem sz58 : sizeA Tryd.prog 58 = some 1 := by kernel_rfl
@[simp] theorem by58 : bytesA Tryd.prog 58 = some 4 := by kernel_rfl
@[simp] theorem ze58 : zeroA Tryd.prog 58 = some [.v (.int .i32 0)] := by kernel_rfl
@[simp] theorem ag58 : isAggA Tryd.prog 58 = some false := by kernel_rfl
@[simp] theorem rc58 (cs : List PV) : readCells Tryd.prog 58 cs = cs[0]? := by simp [readCells]
@[simp] theorem un59 : Program.underlying Tryd.prog 59 = some (.int .i32) := by kernel_rfl
@[simp] theorem sz59 : sizeA Tryd.prog 59 = some 1 := by kernel_rfl
@[simp] theorem by59 : bytesA Tryd.prog 59 = some 4 := by kernel_rfl
@[simp] theorem ze59 : zeroA Tryd.prog 59 = some [.v (.int .i32 0)] := by kernel_rfl
@[simp] theorem ag59 : isAggA Tryd.prog 59 = some false := by kernel_rfl
@[simp] theorem rc59 (cs : List PV) : readCells Tryd.prog 59 cs = cs[0]? := by simp [readCells]
@[simp] theorem sz60 : sizeA Tryd.prog 60 = some 11 := by kernel_rfl
@[simp] theorem by60 : bytesA Tryd.prog 60 = some 48 := by kernel_rfl
@[simp] theorem ze60 : zeroA Tryd.prog 60 = some [.v (.int .u64 0), .v (.int .u64 0), .v (.int .u32 0), .v (.int .u8 0), .v (.int .u8 0), .v (.int .u8 0), .v (.int .u8 0), .v .nilFunc, .v (.pointer none), .v (.int .i32 0), .v (.int .i32 0)] := by kernel_rfl
@[simp] theorem ag60 : isAggA Tryd.prog 60 = some true := by kernel_rfl
@[simp] theorem rc60 (cs : List PV) : readCells Tryd.prog 60 cs = if 11 ≤ cs.length then some (.agg (cs.take 11)) else none := by simp [readCells]
@[simp] theorem fi60_0 : fieldA Tryd.prog 60 0 = some (0, 1, false) := by kernel_rfl
@[simp] theorem fi60_1 : fieldA Tryd.prog 60 1 = some (1, 1, false) := by kernel_rfl
@[simp] theorem fi60_2 : fieldA Tryd.prog 60 2 = some (2, 1, false) := by kernel_rfl
@[simp] theorem fi60_3 : fieldA Tryd.prog 60 3 = some (3, 1, false) := by kernel_rfl
@[simp] theorem fi60_4 : fieldA Tryd.prog 60 4 = some (4, 1, false) := by kernel_rfl
@[simp] theorem fi60_5 : fieldA Tryd.prog 60 5 = some (5, 1, false) := by kernel_rfl
@[simp] theorem fi60_6 : fieldA Tryd.prog 60 6 = some (6, 1, false) := by kernel_rfl
@[simp] theorem fi60_8 : fieldA Tryd.prog 60 8 = some (8, 1, false) := by kernel_rfl
@[simp] theorem fi60_9 : fieldA Tryd.prog 60 9 = some (9, 1, false) := by kernel_rfl
@[simp] theorem fi60_10 : fieldA Tryd.prog 60 10 = some (10, 1, false) := by kernel_rfl
@[simp] theorem sz61 : sizeA Tryd.prog 61 = some 11 := by kernel_rfl
@[simp] theorem by61 : bytesA Tryd.prog 61 = some 48 := by kernel_rfl
@[simp] theorem ze61 : zeroA Tryd.prog 61 = some [.v (.int .u64 0), .v (.int .u64 0), .v (.int .u32 0), .v (.int .u8 0), .v (.int .u8 0), .v (.int .u8 0), .v (.int .u8 0), .v .nilFunc, .v (.pointer none), .v (.int .i32 0), .v (.int .i32 0)] := by kernel_rfl
@[simp] theorem ag61 : isAggA Tryd.prog 61 = some true := by kernel_rfl
@[simp] theorem rc61 (cs : List PV) : readCells Tryd.prog 61 cs = if 11 ≤ cs.length then some (.agg (cs.take 11)) else none := by simp [readCells]
@[simp] theorem fi61_0 : fieldA Tryd.prog 61 0 = some (0, 1, false) := by kernel_rfl
@[simp] theorem fi61_1 : fieldA Tryd.prog 61 1 = some (1, 1, false) := by kernel_rfl
@[simp] theorem fi61_2 : fieldA Tryd.prog 61 2 = some (2, 1, false) := by kernel_rfl
@[simp] theorem fi61_3 : fieldA Tryd.prog 61 3 = some (3, 1, false) := by kernel_rfl
@[simp] theorem fi61_4 : fieldA Tryd.prog 61 4 = some (4, 1, false) := by kernel_rfl
@[simp] theorem fi61_5 : fieldA Tryd.prog 61 5 = some (5, 1, false) := by kernel_rfl
@[simp] theorem fi61_6 : fieldA Tryd.prog 61 6 = some (6, 1, false) := by kernel_rfl
@[simp] theorem fi61_8 : fieldA Tryd.prog 61 8 = some (8, 1, false) := by kernel_rfl
@[simp] theorem fi61_9 : fieldA Tryd.prog 61 9 = some (9, 1, false) := by kernel_rfl
@[simp] theorem fi61_10 : fieldA Tryd.prog 61 10 = some (10, 1, false) := by kernel_rfl
end Go.Proofs.YtphmgjcjcdodhaaDoor
