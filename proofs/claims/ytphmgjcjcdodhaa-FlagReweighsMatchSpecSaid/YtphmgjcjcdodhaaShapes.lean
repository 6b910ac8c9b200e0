/-
  The shapes of the program's types. Written by a program of this repo (shapes.py).
-/
import Derived.Test.YtphmgjcjcdodhaaAm28
import Derived.Test.YtphmgjcjcdodhaaProg
namespace Go.Proofs.Ytphmgjcjcdodhaa
open Go.RowKit Go.AM
theorem cel2 : Program.cellsOf Try.prog 2 = 1 := by kernel_rfl
theorem cel3 : Program.cellsOf Try.prog 3 = 1 := by kernel_rfl
theorem cel4 : Program.cellsOf Try.prog 4 = 1 := by kernel_rfl
theorem cel5 : Program.cellsOf Try.prog 5 = 1 := by kernel_rfl
theorem cel6 : Program.cellsOf Try.prog 6 = 1 := by kernel_rfl
theorem shp7 : shapeT Try.prog 7 = some [(2, 0, 1), (3, 1, 1), (4, 2, 1), (6, 3, 1)] := by kernel_rfl
theorem cel7 : Program.cellsOf Try.prog 7 = 4 := by kernel_rfl
theorem shp8 : shapeT Try.prog 8 = some [(2, 0, 1), (3, 1, 1), (4, 2, 1), (6, 3, 1)] := by kernel_rfl
theorem cel8 : Program.cellsOf Try.prog 8 = 4 := by kernel_rfl
theorem cel9 : Program.cellsOf Try.prog 9 = 1 := by kernel_rfl
theorem cel10 : Program.cellsOf Try.prog 10 = 1 := by kernel_rfl
theorem cel11 : Program.cellsOf Try.prog 11 = 1 := by kernel_rfl
theorem cel12 : Program.cellsOf Try.prog 12 = 1 := by kernel_rfl
theorem shp13 : shapeT Try.prog 13 = some [(9, 0, 1), (12, 1, 1)] := by kernel_rfl
theorem cel13 : Program.cellsOf Try.prog 13 = 2 := by kernel_rfl
theorem shp14 : shapeT Try.prog 14 = some [(9, 0, 1), (12, 1, 1)] := by kernel_rfl
theorem cel14 : Program.cellsOf Try.prog 14 = 2 := by kernel_rfl
theorem cel15 : Program.cellsOf Try.prog 15 = 1 := by kernel_rfl
theorem cel16 : Program.cellsOf Try.prog 16 = 1 := by kernel_rfl
theorem cel17 : Program.cellsOf Try.prog 17 = 1 := by kernel_rfl
theorem shp18 : shapeT Try.prog 18 = some [(17, 0, 1)] := by kernel_rfl
theorem cel18 : Program.cellsOf Try.prog 18 = 1 := by kernel_rfl
theorem shp19 : shapeT Try.prog 19 = some [(17, 0, 1)] := by kernel_rfl
theorem cel19 : Program.cellsOf Try.prog 19 = 1 := by kernel_rfl
theorem cel21 : Program.cellsOf Try.prog 21 = 1 := by kernel_rfl
theorem usl22 : Program.underlying Try.prog 22 = some (.slice 69) := by kernel_rfl
theorem cel22 : Program.cellsOf Try.prog 22 = 1 := by kernel_rfl
theorem shp23 : shapeT Try.prog 23 = some [(9, 0, 1), (22, 1, 1)] := by kernel_rfl
theorem cel23 : Program.cellsOf Try.prog 23 = 2 := by kernel_rfl
theorem shp24 : shapeT Try.prog 24 = some [(9, 0, 1), (22, 1, 1)] := by kernel_rfl
theorem cel24 : Program.cellsOf Try.prog 24 = 2 := by kernel_rfl
theorem usl25 : Program.underlying Try.prog 25 = some (.slice 28) := by kernel_rfl
theorem cel25 : Program.cellsOf Try.prog 25 = 1 := by kernel_rfl
theorem usl26 : Program.underlying Try.prog 26 = some (.slice 99) := by kernel_rfl
theorem cel26 : Program.cellsOf Try.prog 26 = 1 := by kernel_rfl
theorem shp27 : shapeT Try.prog 27 = some [(3, 0, 1), (3, 1, 1), (9, 2, 1), (25, 3, 1), (26, 4, 1)] := by kernel_rfl
theorem cel27 : Program.cellsOf Try.prog 27 = 5 := by kernel_rfl
theorem shp28 : shapeT Try.prog 28 = some [(3, 0, 1), (3, 1, 1), (9, 2, 1), (25, 3, 1), (26, 4, 1)] := by kernel_rfl
theorem cel28 : Program.cellsOf Try.prog 28 = 5 := by kernel_rfl
theorem cel29 : Program.cellsOf Try.prog 29 = 1 := by kernel_rfl
theorem usl35 : Program.underlying Try.prog 35 = some (.slice 43) := by kernel_rfl
theorem cel35 : Program.cellsOf Try.prog 35 = 1 := by kernel_rfl
theorem shp42 : shapeT Try.prog 42 = some [(3, 0, 1), (3, 1, 1)] := by kernel_rfl
theorem cel42 : Program.cellsOf Try.prog 42 = 2 := by kernel_rfl
theorem shp43 : shapeT Try.prog 43 = some [(3, 0, 1), (3, 1, 1)] := by kernel_rfl
theorem cel43 : Program.cellsOf Try.prog 43 = 2 := by kernel_rfl
theorem usl47 : Program.underlying Try.prog 47 = some (.slice 61) := by kernel_rfl
theorem cel47 : Program.cellsOf Try.prog 47 = 1 := by kernel_rfl
theorem usl48 : Program.underlying Try.prog 48 = some (.slice 3) := by kernel_rfl
theorem cel48 : Program.cellsOf Try.prog 48 = 1 := by kernel_rfl
theorem usl56 : Program.underlying Try.prog 56 = some (.slice 47) := by kernel_rfl
theorem cel56 : Program.cellsOf Try.prog 56 = 1 := by kernel_rfl
theorem shp60 : shapeT Try.prog 60 = some [(3, 0, 1), (3, 1, 1), (3, 2, 1)] := by kernel_rfl
theorem cel60 : Program.cellsOf Try.prog 60 = 3 := by kernel_rfl
theorem shp61 : shapeT Try.prog 61 = some [(3, 0, 1), (3, 1, 1), (3, 2, 1)] := by kernel_rfl
theorem cel61 : Program.cellsOf Try.prog 61 = 3 := by kernel_rfl
theorem shp68 : shapeT Try.prog 68 = some [(9, 0, 1), (28, 1, 5)] := by kernel_rfl
theorem cel68 : Program.cellsOf Try.prog 68 = 6 := by kernel_rfl
theorem shp69 : shapeT Try.prog 69 = some [(9, 0, 1), (28, 1, 5)] := by kernel_rfl
theorem cel69 : Program.cellsOf Try.prog 69 = 6 := by kernel_rfl
theorem usl85 : Program.underlying Try.prog 85 = some (.slice 88) := by kernel_rfl
theorem cel85 : Program.cellsOf Try.prog 85 = 1 := by kernel_rfl
theorem shp87 : shapeT Try.prog 87 = some [(3, 0, 1), (3, 1, 1), (3, 2, 1), (3, 3, 1)] := by kernel_rfl
theorem cel87 : Program.cellsOf Try.prog 87 = 4 := by kernel_rfl
theorem shp88 : shapeT Try.prog 88 = some [(3, 0, 1), (3, 1, 1), (3, 2, 1), (3, 3, 1)] := by kernel_rfl
theorem cel88 : Program.cellsOf Try.prog 88 = 4 := by kernel_rfl
theorem shp99 : shapeT Try.prog 99 = some [(9, 0, 1), (28, 1, 5)] := by kernel_rfl
theorem cel99 : Program.cellsOf Try.prog 99 = 6 := by kernel_rfl
theorem usl106 : Program.underlying Try.prog 106 = some (.slice 35) := by kernel_rfl
theorem cel106 : Program.cellsOf Try.prog 106 = 1 := by kernel_rfl
theorem cel114 : Program.cellsOf Try.prog 114 = 1 := by kernel_rfl
theorem cel125 : Program.cellsOf Try.prog 125 = 1 := by kernel_rfl
theorem cel132 : Program.cellsOf Try.prog 132 = 1 := by kernel_rfl
theorem cel134 : Program.cellsOf Try.prog 134 = 1 := by kernel_rfl
theorem cel141 : Program.cellsOf Try.prog 141 = 1 := by kernel_rfl
theorem cel145 : Program.cellsOf Try.prog 145 = 1 := by kernel_rfl
theorem cel155 : Program.cellsOf Try.prog 155 = 1 := by kernel_rfl
theorem shp162 : shapeT Try.prog 162 = some [(17, 0, 1), (17, 1, 1), (17, 2, 1), (9, 3, 1)] := by kernel_rfl
theorem cel162 : Program.cellsOf Try.prog 162 = 4 := by kernel_rfl
theorem shp163 : shapeT Try.prog 163 = some [(17, 0, 1), (17, 1, 1), (17, 2, 1), (9, 3, 1)] := by kernel_rfl
theorem cel163 : Program.cellsOf Try.prog 163 = 4 := by kernel_rfl
theorem cel165 : Program.cellsOf Try.prog 165 = 0 := by kernel_rfl
theorem cel166 : Program.cellsOf Try.prog 166 = 0 := by kernel_rfl
theorem cel168 : Program.cellsOf Try.prog 168 = 1 := by kernel_rfl
theorem cel169 : Program.cellsOf Try.prog 169 = 1 := by kernel_rfl
theorem cel171 : Program.cellsOf Try.prog 171 = 1 := by kernel_rfl
theorem cel172 : Program.cellsOf Try.prog 172 = 1 := by kernel_rfl
theorem cel173 : Program.cellsOf Try.prog 173 = 1 := by kernel_rfl
theorem cel174 : Program.cellsOf Try.prog 174 = 11 := by kernel_rfl
theorem cel175 : Program.cellsOf Try.prog 175 = 11 := by kernel_rfl
end Go.Proofs.Ytphmgjcjcdodhaa
