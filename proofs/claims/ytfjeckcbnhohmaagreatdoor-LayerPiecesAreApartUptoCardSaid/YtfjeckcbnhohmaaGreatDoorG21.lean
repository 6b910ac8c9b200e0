/-
  The shapes of the program's types. Written by a program of this repo (shapes.py).
  What a row reads as values, with its bulk.
  What a row reads as conditions and books, with its bulk.
-/
import Derived.Test.YtfjeckcbnhohmaaGreatDoorG20
import Derived.Test.YtfjeckcbnhohmaaGreatDoorProg
import Derived.Test.YtfjeckcbnhohmaaGreatDoorRows
import Derived.Test.YtfjeckcbnhohmaaGreatDoorG5
import Derived.Test.YtfjeckcbnhohmaaGreatDoorG16
namespace Go.Proofs.YtfjeckcbnhohmaaGreatDoor
open Go.RowKit Go.AM
theorem cel2 : Program.cellsOf Tryz.prog 2 = 1 := by kernel_rfl
theorem cel3 : Program.cellsOf Tryz.prog 3 = 1 := by kernel_rfl
theorem cel4 : Program.cellsOf Tryz.prog 4 = 1 := by kernel_rfl
theorem cel5 : Program.cellsOf Tryz.prog 5 = 1 := by kernel_rfl
theorem cel6 : Program.cellsOf Tryz.prog 6 = 1 := by kernel_rfl
theorem shp7 : shapeT Tryz.prog 7 = some [(2, 0, 1), (3, 1, 1), (4, 2, 1), (6, 3, 1)] := by kernel_rfl
theorem cel7 : Program.cellsOf Tryz.prog 7 = 4 := by kernel_rfl
theorem shp8 : shapeT Tryz.prog 8 = some [(2, 0, 1), (3, 1, 1), (4, 2, 1), (6, 3, 1)] := by kernel_rfl
theorem cel8 : Program.cellsOf Tryz.prog 8 = 4 := by kernel_rfl
theorem cel9 : Program.cellsOf Tryz.prog 9 = 1 := by kernel_rfl
theorem cel10 : Program.cellsOf Tryz.prog 10 = 1 := by kernel_rfl
theorem cel11 : Program.cellsOf Tryz.prog 11 = 1 := by kernel_rfl
theorem cel12 : Program.cellsOf Tryz.prog 12 = 1 := by kernel_rfl
theorem shp13 : shapeT Tryz.prog 13 = some [(9, 0, 1), (12, 1, 1)] := by kernel_rfl
theorem cel13 : Program.cellsOf Tryz.prog 13 = 2 := by kernel_rfl
theorem shp14 : shapeT Tryz.prog 14 = some [(9, 0, 1), (12, 1, 1)] := by kernel_rfl
theorem cel14 : Program.cellsOf Tryz.prog 14 = 2 := by kernel_rfl
theorem cel15 : Program.cellsOf Tryz.prog 15 = 1 := by kernel_rfl
theorem cel16 : Program.cellsOf Tryz.prog 16 = 1 := by kernel_rfl
theorem cel17 : Program.cellsOf Tryz.prog 17 = 1 := by kernel_rfl
theorem shp18 : shapeT Tryz.prog 18 = some [(17, 0, 1)] := by kernel_rfl
theorem cel18 : Program.cellsOf Tryz.prog 18 = 1 := by kernel_rfl
theorem shp19 : shapeT Tryz.prog 19 = some [(17, 0, 1)] := by kernel_rfl
theorem cel19 : Program.cellsOf Tryz.prog 19 = 1 := by kernel_rfl
theorem cel21 : Program.cellsOf Tryz.prog 21 = 1 := by kernel_rfl
theorem usl22 : Program.underlying Tryz.prog 22 = some (.slice 82) := by kernel_rfl
theorem cel22 : Program.cellsOf Tryz.prog 22 = 1 := by kernel_rfl
theorem usl23 : Program.underlying Tryz.prog 23 = some (.slice 216) := by kernel_rfl
theorem cel23 : Program.cellsOf Tryz.prog 23 = 1 := by kernel_rfl
theorem usl24 : Program.underlying Tryz.prog 24 = some (.slice 58) := by kernel_rfl
theorem cel24 : Program.cellsOf Tryz.prog 24 = 1 := by kernel_rfl
theorem shp25 : shapeT Tryz.prog 25 = some [(22, 0, 1), (23, 1, 1), (24, 2, 1)] := by kernel_rfl
theorem cel25 : Program.cellsOf Tryz.prog 25 = 3 := by kernel_rfl
theorem shp26 : shapeT Tryz.prog 26 = some [(22, 0, 1), (23, 1, 1), (24, 2, 1)] := by kernel_rfl
theorem cel26 : Program.cellsOf Tryz.prog 26 = 3 := by kernel_rfl
theorem usl28 : Program.underlying Tryz.prog 28 = some (.slice 38) := by kernel_rfl
theorem cel28 : Program.cellsOf Tryz.prog 28 = 1 := by kernel_rfl
theorem cel29 : Program.cellsOf Tryz.prog 29 = 1 := by kernel_rfl
theorem usl32 : Program.underlying Tryz.prog 32 = some (.slice 36) := by kernel_rfl
theorem cel32 : Program.cellsOf Tryz.prog 32 = 1 := by kernel_rfl
theorem shp35 : shapeT Tryz.prog 35 = some [(3, 0, 1), (3, 1, 1)] := by kernel_rfl
theorem cel35 : Program.cellsOf Tryz.prog 35 = 2 := by kernel_rfl
theorem shp36 : shapeT Tryz.prog 36 = some [(3, 0, 1), (3, 1, 1)] := by kernel_rfl
theorem cel36 : Program.cellsOf Tryz.prog 36 = 2 := by kernel_rfl
theorem shp37 : shapeT Tryz.prog 37 = some [(36, 0, 2), (9, 2, 1)] := by kernel_rfl
theorem cel37 : Program.cellsOf Tryz.prog 37 = 3 := by kernel_rfl
theorem shp38 : shapeT Tryz.prog 38 = some [(36, 0, 2), (9, 2, 1)] := by kernel_rfl
theorem cel38 : Program.cellsOf Tryz.prog 38 = 3 := by kernel_rfl
theorem usl42 : Program.underlying Tryz.prog 42 = some (.slice 146) := by kernel_rfl
theorem cel42 : Program.cellsOf Tryz.prog 42 = 1 := by kernel_rfl
theorem usl43 : Program.underlying Tryz.prog 43 = some (.slice 45) := by kernel_rfl
theorem cel43 : Program.cellsOf Tryz.prog 43 = 1 := by kernel_rfl
theorem shp44 : shapeT Tryz.prog 44 = some [(3, 0, 1), (9, 1, 1), (3, 2, 1), (42, 3, 1), (9, 4, 1), (9, 5, 1), (43, 6, 1)] := by kernel_rfl
theorem cel44 : Program.cellsOf Tryz.prog 44 = 7 := by kernel_rfl
theorem shp45 : shapeT Tryz.prog 45 = some [(3, 0, 1), (9, 1, 1), (3, 2, 1), (42, 3, 1), (9, 4, 1), (9, 5, 1), (43, 6, 1)] := by kernel_rfl
theorem cel45 : Program.cellsOf Tryz.prog 45 = 7 := by kernel_rfl
theorem usl55 : Program.underlying Tryz.prog 55 = some (.slice 278) := by kernel_rfl
theorem cel55 : Program.cellsOf Tryz.prog 55 = 1 := by kernel_rfl
theorem usl56 : Program.underlying Tryz.prog 56 = some (.slice 92) := by kernel_rfl
theorem cel56 : Program.cellsOf Tryz.prog 56 = 1 := by kernel_rfl
theorem shp57 : shapeT Tryz.prog 57 = some [(9, 0, 1), (9, 1, 1), (9, 2, 1), (45, 3, 7), (9, 10, 1), (55, 11, 1), (56, 12, 1)] := by kernel_rfl
theorem cel57 : Program.cellsOf Tryz.prog 57 = 13 := by kernel_rfl
theorem shp58 : shapeT Tryz.prog 58 = some [(9, 0, 1), (9, 1, 1), (9, 2, 1), (45, 3, 7), (9, 10, 1), (55, 11, 1), (56, 12, 1)] := by kernel_rfl
theorem cel58 : Program.cellsOf Tryz.prog 58 = 13 := by kernel_rfl
theorem cel66 : Program.cellsOf Tryz.prog 66 = 1 := by kernel_rfl
theorem usl67 : Program.underlying Tryz.prog 67 = some (.slice 5) := by kernel_rfl
theorem cel67 : Program.cellsOf Tryz.prog 67 = 1 := by kernel_rfl
theorem shp68 : shapeT Tryz.prog 68 = some [(66, 0, 1), (67, 1, 1)] := by kernel_rfl
theorem cel68 : Program.cellsOf Tryz.prog 68 = 2 := by kernel_rfl
theorem shp69 : shapeT Tryz.prog 69 = some [(66, 0, 1), (67, 1, 1)] := by kernel_rfl
theorem cel69 : Program.cellsOf Tryz.prog 69 = 2 := by kernel_rfl
theorem shp81 : shapeT Tryz.prog 81 = some [(9, 0, 1), (9, 1, 1), (3, 2, 1)] := by kernel_rfl
theorem cel81 : Program.cellsOf Tryz.prog 81 = 3 := by kernel_rfl
theorem shp82 : shapeT Tryz.prog 82 = some [(9, 0, 1), (9, 1, 1), (3, 2, 1)] := by kernel_rfl
theorem cel82 : Program.cellsOf Tryz.prog 82 = 3 := by kernel_rfl
theorem shp91 : shapeT Tryz.prog 91 = some [(3, 0, 1), (32, 1, 1)] := by kernel_rfl
theorem cel91 : Program.cellsOf Tryz.prog 91 = 2 := by kernel_rfl
theorem shp92 : shapeT Tryz.prog 92 = some [(3, 0, 1), (32, 1, 1)] := by kernel_rfl
theorem cel92 : Program.cellsOf Tryz.prog 92 = 2 := by kernel_rfl
theorem cel95 : Program.cellsOf Tryz.prog 95 = 1 := by kernel_rfl
theorem usl102 : Program.underlying Tryz.prog 102 = some (.slice 9) := by kernel_rfl
theorem cel102 : Program.cellsOf Tryz.prog 102 = 1 := by kernel_rfl
theorem cel104 : Program.cellsOf Tryz.prog 104 = 1 := by kernel_rfl
theorem cel120 : Program.cellsOf Tryz.prog 120 = 1 := by kernel_rfl
theorem cel122 : Program.cellsOf Tryz.prog 122 = 1 := by kernel_rfl
theorem shp123 : shapeT Tryz.prog 123 = some [(26, 0, 3), (122, 3, 1), (122, 4, 1), (4, 5, 1)] := by kernel_rfl
theorem cel123 : Program.cellsOf Tryz.prog 123 = 6 := by kernel_rfl
theorem shp124 : shapeT Tryz.prog 124 = some [(26, 0, 3), (122, 3, 1), (122, 4, 1), (4, 5, 1)] := by kernel_rfl
theorem cel124 : Program.cellsOf Tryz.prog 124 = 6 := by kernel_rfl
theorem cel130 : Program.cellsOf Tryz.prog 130 = 1 := by kernel_rfl
theorem cel137 : Program.cellsOf Tryz.prog 137 = 1 := by kernel_rfl
theorem cel139 : Program.cellsOf Tryz.prog 139 = 1 := by kernel_rfl
theorem usl144 : Program.underlying Tryz.prog 144 = some (.slice 180) := by kernel_rfl
theorem cel144 : Program.cellsOf Tryz.prog 144 = 1 := by kernel_rfl
theorem shp145 : shapeT Tryz.prog 145 = some [(3, 0, 1), (3, 1, 1), (9, 2, 1), (42, 3, 1), (144, 4, 1)] := by kernel_rfl
theorem cel145 : Program.cellsOf Tryz.prog 145 = 5 := by kernel_rfl
theorem shp146 : shapeT Tryz.prog 146 = some [(3, 0, 1), (3, 1, 1), (9, 2, 1), (42, 3, 1), (144, 4, 1)] := by kernel_rfl
theorem cel146 : Program.cellsOf Tryz.prog 146 = 5 := by kernel_rfl
theorem usl152 : Program.underlying Tryz.prog 152 = some (.slice 208) := by kernel_rfl
theorem cel152 : Program.cellsOf Tryz.prog 152 = 1 := by kernel_rfl
theorem usl157 : Program.underlying Tryz.prog 157 = some (.slice 166) := by kernel_rfl
theorem cel157 : Program.cellsOf Tryz.prog 157 = 1 := by kernel_rfl
theorem shp165 : shapeT Tryz.prog 165 = some [(9, 0, 1), (102, 1, 1), (102, 2, 1), (45, 3, 7)] := by kernel_rfl
theorem cel165 : Program.cellsOf Tryz.prog 165 = 10 := by kernel_rfl
theorem shp166 : shapeT Tryz.prog 166 = some [(9, 0, 1), (102, 1, 1), (102, 2, 1), (45, 3, 7)] := by kernel_rfl
theorem cel166 : Program.cellsOf Tryz.prog 166 = 10 := by kernel_rfl
theorem cel168 : Program.cellsOf Tryz.prog 168 = 1 := by kernel_rfl
theorem cel172 : Program.cellsOf Tryz.prog 172 = 1 := by kernel_rfl
theorem shp179 : shapeT Tryz.prog 179 = some [(9, 0, 1), (146, 1, 5)] := by kernel_rfl
theorem cel179 : Program.cellsOf Tryz.prog 179 = 6 := by kernel_rfl
theorem shp180 : shapeT Tryz.prog 180 = some [(9, 0, 1), (146, 1, 5)] := by kernel_rfl
theorem cel180 : Program.cellsOf Tryz.prog 180 = 6 := by kernel_rfl
theorem usl186 : Program.underlying Tryz.prog 186 = some (.slice 190) := by kernel_rfl
theorem cel186 : Program.cellsOf Tryz.prog 186 = 1 := by kernel_rfl
theorem usl190 : Program.underlying Tryz.prog 190 = some (.slice 198) := by kernel_rfl
theorem cel190 : Program.cellsOf Tryz.prog 190 = 1 := by kernel_rfl
theorem cel194 : Program.cellsOf Tryz.prog 194 = 3 := by kernel_rfl
theorem shp195 : shapeT Tryz.prog 195 = some [(194, 0, 3), (3, 3, 1), (102, 4, 1)] := by kernel_rfl
theorem cel195 : Program.cellsOf Tryz.prog 195 = 5 := by kernel_rfl
theorem shp196 : shapeT Tryz.prog 196 = some [(194, 0, 3), (3, 3, 1), (102, 4, 1)] := by kernel_rfl
theorem cel196 : Program.cellsOf Tryz.prog 196 = 5 := by kernel_rfl
theorem shp197 : shapeT Tryz.prog 197 = some [(9, 0, 1), (196, 1, 5), (196, 6, 5)] := by kernel_rfl
theorem cel197 : Program.cellsOf Tryz.prog 197 = 11 := by kernel_rfl
theorem shp198 : shapeT Tryz.prog 198 = some [(9, 0, 1), (196, 1, 5), (196, 6, 5)] := by kernel_rfl
theorem cel198 : Program.cellsOf Tryz.prog 198 = 11 := by kernel_rfl
theorem shp203 : shapeT Tryz.prog 203 = some [(3, 0, 1), (3, 1, 1), (3, 2, 1), (102, 3, 1)] := by kernel_rfl
theorem cel203 : Program.cellsOf Tryz.prog 203 = 4 := by kernel_rfl
theorem shp204 : shapeT Tryz.prog 204 = some [(3, 0, 1), (3, 1, 1), (3, 2, 1), (102, 3, 1)] := by kernel_rfl
theorem cel204 : Program.cellsOf Tryz.prog 204 = 4 := by kernel_rfl
theorem shp205 : shapeT Tryz.prog 205 = some [(204, 0, 4), (4, 4, 1)] := by kernel_rfl
theorem cel205 : Program.cellsOf Tryz.prog 205 = 5 := by kernel_rfl
theorem shp206 : shapeT Tryz.prog 206 = some [(204, 0, 4), (4, 4, 1)] := by kernel_rfl
theorem cel206 : Program.cellsOf Tryz.prog 206 = 5 := by kernel_rfl
theorem shp207 : shapeT Tryz.prog 207 = some [(206, 0, 5), (206, 5, 5), (4, 10, 1)] := by kernel_rfl
theorem cel207 : Program.cellsOf Tryz.prog 207 = 11 := by kernel_rfl
theorem shp208 : shapeT Tryz.prog 208 = some [(206, 0, 5), (206, 5, 5), (4, 10, 1)] := by kernel_rfl
theorem cel208 : Program.cellsOf Tryz.prog 208 = 11 := by kernel_rfl
theorem shp215 : shapeT Tryz.prog 215 = some [(9, 0, 1), (9, 1, 1), (3, 2, 1), (102, 3, 1)] := by kernel_rfl
theorem cel215 : Program.cellsOf Tryz.prog 215 = 4 := by kernel_rfl
theorem shp216 : shapeT Tryz.prog 216 = some [(9, 0, 1), (9, 1, 1), (3, 2, 1), (102, 3, 1)] := by kernel_rfl
theorem cel216 : Program.cellsOf Tryz.prog 216 = 4 := by kernel_rfl
theorem cel226 : Program.cellsOf Tryz.prog 226 = 1 := by kernel_rfl
theorem usl255 : Program.underlying Tryz.prog 255 = some (.slice 206) := by kernel_rfl
theorem cel255 : Program.cellsOf Tryz.prog 255 = 1 := by kernel_rfl
theorem usl256 : Program.underlying Tryz.prog 256 = some (.slice 152) := by kernel_rfl
theorem cel256 : Program.cellsOf Tryz.prog 256 = 1 := by kernel_rfl
theorem usl263 : Program.underlying Tryz.prog 263 = some (.slice 267) := by kernel_rfl
theorem cel263 : Program.cellsOf Tryz.prog 263 = 1 := by kernel_rfl
theorem shp266 : shapeT Tryz.prog 266 = some [(9, 0, 1), (9, 1, 1)] := by kernel_rfl
theorem cel266 : Program.cellsOf Tryz.prog 266 = 2 := by kernel_rfl
theorem shp267 : shapeT Tryz.prog 267 = some [(9, 0, 1), (9, 1, 1)] := by kernel_rfl
theorem cel267 : Program.cellsOf Tryz.prog 267 = 2 := by kernel_rfl
theorem shp277 : shapeT Tryz.prog 277 = some [(3, 0, 1), (3, 1, 1), (3, 2, 1)] := by kernel_rfl
theorem cel277 : Program.cellsOf Tryz.prog 277 = 3 := by kernel_rfl
theorem shp278 : shapeT Tryz.prog 278 = some [(3, 0, 1), (3, 1, 1), (3, 2, 1)] := by kernel_rfl
theorem cel278 : Program.cellsOf Tryz.prog 278 = 3 := by kernel_rfl
theorem cel286 : Program.cellsOf Tryz.prog 286 = 256 := by kernel_rfl
theorem cel287 : Program.cellsOf Tryz.prog 287 = 256 := by kernel_rfl
theorem cel291 : Program.cellsOf Tryz.prog 291 = 1 := by kernel_rfl
theorem usl295 : Program.underlying Tryz.prog 295 = some (.slice 3) := by kernel_rfl
theorem cel295 : Program.cellsOf Tryz.prog 295 = 1 := by kernel_rfl
theorem cel320 : Program.cellsOf Tryz.prog 320 = 256 := by kernel_rfl
theorem shp321 : shapeT Tryz.prog 321 = some [(5, 0, 1), (5, 1, 1)] := by kernel_rfl
theorem cel321 : Program.cellsOf Tryz.prog 321 = 2 := by kernel_rfl
theorem shp322 : shapeT Tryz.prog 322 = some [(5, 0, 1), (5, 1, 1)] := by kernel_rfl
theorem cel322 : Program.cellsOf Tryz.prog 322 = 2 := by kernel_rfl
theorem cel323 : Program.cellsOf Tryz.prog 323 = 32 := by kernel_rfl
theorem cel341 : Program.cellsOf Tryz.prog 341 = 24 := by kernel_rfl
theorem cel350 : Program.cellsOf Tryz.prog 350 = 20 := by kernel_rfl
theorem cel351 : Program.cellsOf Tryz.prog 351 = 65 := by kernel_rfl
theorem cel353 : Program.cellsOf Tryz.prog 353 = 1 := by kernel_rfl
theorem cel356 : Program.cellsOf Tryz.prog 356 = 1 := by kernel_rfl
theorem shp363 : shapeT Tryz.prog 363 = some [(9, 0, 1), (9, 1, 1), (99, 2, 1)] := by kernel_rfl
theorem cel363 : Program.cellsOf Tryz.prog 363 = 3 := by kernel_rfl
theorem shp364 : shapeT Tryz.prog 364 = some [(9, 0, 1), (9, 1, 1), (99, 2, 1)] := by kernel_rfl
theorem cel364 : Program.cellsOf Tryz.prog 364 = 3 := by kernel_rfl
theorem cel366 : Program.cellsOf Tryz.prog 366 = 32 := by kernel_rfl
theorem cel367 : Program.cellsOf Tryz.prog 367 = 64 := by kernel_rfl
theorem cel369 : Program.cellsOf Tryz.prog 369 = 1 := by kernel_rfl
theorem shp370 : shapeT Tryz.prog 370 = some [(9, 0, 1)] := by kernel_rfl
theorem cel370 : Program.cellsOf Tryz.prog 370 = 1 := by kernel_rfl
theorem shp371 : shapeT Tryz.prog 371 = some [(9, 0, 1)] := by kernel_rfl
theorem cel371 : Program.cellsOf Tryz.prog 371 = 1 := by kernel_rfl
theorem shp372 : shapeT Tryz.prog 372 = some [(17, 0, 1), (17, 1, 1), (17, 2, 1), (9, 3, 1)] := by kernel_rfl
theorem cel372 : Program.cellsOf Tryz.prog 372 = 4 := by kernel_rfl
theorem shp373 : shapeT Tryz.prog 373 = some [(17, 0, 1), (17, 1, 1), (17, 2, 1), (9, 3, 1)] := by kernel_rfl
theorem cel373 : Program.cellsOf Tryz.prog 373 = 4 := by kernel_rfl
theorem cel374 : Program.cellsOf Tryz.prog 374 = 0 := by kernel_rfl
theorem shp375 : shapeT Tryz.prog 375 = some [(374, 0, 0)] := by kernel_rfl
theorem cel375 : Program.cellsOf Tryz.prog 375 = 0 := by kernel_rfl
theorem shp376 : shapeT Tryz.prog 376 = some [(374, 0, 0)] := by kernel_rfl
theorem cel376 : Program.cellsOf Tryz.prog 376 = 0 := by kernel_rfl
theorem cel377 : Program.cellsOf Tryz.prog 377 = 1 := by kernel_rfl
theorem cel378 : Program.cellsOf Tryz.prog 378 = 1 := by kernel_rfl
theorem cel380 : Program.cellsOf Tryz.prog 380 = 1 := by kernel_rfl
theorem cel381 : Program.cellsOf Tryz.prog 381 = 1 := by kernel_rfl
theorem cel382 : Program.cellsOf Tryz.prog 382 = 11 := by kernel_rfl
theorem cel383 : Program.cellsOf Tryz.prog 383 = 11 := by kernel_rfl
end Go.Proofs.YtfjeckcbnhohmaaGreatDoor
namespace Go.Proofs.YtfjeckcbnhohmaaGreatDoor
open Go.RowKit Go.AM
theorem len2 {α : Type} : ∀ {l : List α}, l.length = 2 → ∃ a b, l = [a, b]
  | [a, b], _ => ⟨a, b, rfl⟩
theorem len5 {α : Type} : ∀ {l : List α}, l.length = 5 → ∃ a b c d e, l = [a, b, c, d, e]
  | [a, b, c, d, e], _ => ⟨a, b, c, d, e, rfl⟩
theorem len6 {α : Type} : ∀ {l : List α}, l.length = 6 → ∃ a b c d e f, l = [a, b, c, d, e, f]
  | [a, b, c, d, e, f], _ => ⟨a, b, c, d, e, f, rfl⟩
theorem bulkAll_sum {H : Type} : ∀ ds : List (DataW H), Rows.uptoBulkAll ds = (ds.map Rows.uptoBulk).sum
  | [] => rfl
  | d :: ds => by simp [Rows.uptoBulkAll, bulkAll_sum ds]
theorem bulk_slice {H : Type} {d : DataW H} {ds : List (DataW H)} (h : (d = .nil ∧ ds = []) ∨ ∃ sp, d = .slice ds sp) : (ds.map Rows.uptoBulk).sum + 1 ≤ Rows.uptoBulk d := by
  rcases h with ⟨rfl, rfl⟩ | ⟨sp, rfl⟩
  · simp [Rows.uptoBulk]
  · simp only [Rows.uptoBulk, bulkAll_sum]; omega
theorem vbs_sum : ∀ l : List Val, vbs l = (l.map Val.vb).sum
  | [] => rfl
  | v :: l => by simp [vbs, vbs_sum l]
theorem fbs_sum : ∀ l : List (List UInt8 × Val), fbs l = (l.map fun a => a.1.length + a.2.vb).sum
  | [] => rfl
  | (a, v) :: l => by simp [fbs, fbs_sum l]
/-- A name and a value. -/
theorem shows_pair {H : Type} {t ts : TypeId} (hs : shapeT Tryz.prog t = some [(ts, 0, 1), (146, 1, 5)]) (hc : Tryz.prog.cellsOf t = 6) (hu : Tryz.prog.underlying ts = some .string) {n : Nat}
    (ih : ∀ m, m < n → ∀ (d : DataW H) pvs, Shows Tryz.prog m 146 d pvs → ∃ v : Val, pvs = v.enc ∧ v.vb ≤ Rows.uptoBulk d) {d : DataW H} {pvs : List PV} (h : Shows Tryz.prog n t d pvs) : ∃ a : List UInt8 × Val, pvs = encF a ∧ a.1.length + a.2.vb ≤ Rows.uptoBulk d := by
  obtain ⟨m, ds, rfl, rfl, hl, hf⟩ := shows_struct hs h
  rw [hc] at hl
  obtain ⟨y0, ds, rfl, f0, hf⟩ := fieldsS_cons hf
  obtain ⟨y1, ds, rfl, f1, hf⟩ := fieldsS_cons hf
  obtain rfl := fieldsS_nil hf
  · skip
    obtain ⟨s, rfl, e0, _⟩ := shows_string hu f0
    obtain ⟨v, e1, hv⟩ := ih m (by omega) _ _ f1
    obtain ⟨p0, p1, p2, p3, p4, p5, rfl⟩ := len6 hl
    · skip
      simp only [List.drop_zero, List.take_succ_cons, List.take_zero, List.cons.injEq, and_true, List.drop_succ_cons] at e0 e1
      subst e0
      refine ⟨(s, v), by rw [encF, ← e1], ?_⟩
      simp only [Rows.uptoBulk, Rows.uptoBulkAll]
      omega
theorem shows_val {H : Type} : ∀ (n : Nat) (d : DataW H) pvs, Shows Tryz.prog n 146 d pvs → ∃ v : Val, pvs = v.enc ∧ v.vb ≤ Rows.uptoBulk d := by
  intro n
  induction n using Nat.strongRecOn with
  | ind n ih =>
    intro d pvs h
    obtain ⟨m, ds, rfl, rfl, hl, hf⟩ := shows_struct shp146 h
    rw [cel146] at hl
    obtain ⟨y0, ds, rfl, f0, hf⟩ := fieldsS_cons hf
    obtain ⟨y1, ds, rfl, f1, hf⟩ := fieldsS_cons hf
    obtain ⟨y2, ds, rfl, f2, hf⟩ := fieldsS_cons hf
    obtain ⟨y3, ds, rfl, f3, hf⟩ := fieldsS_cons hf
    obtain ⟨y4, ds, rfl, f4, hf⟩ := fieldsS_cons hf
    obtain rfl := fieldsS_nil hf
    · skip
      obtain ⟨k, rfl, e0, _⟩ := shows_int (k := .i64) (by kernel_rfl) f0
      obtain ⟨i, rfl, e1, _⟩ := shows_int (k := .i64) (by kernel_rfl) f1
      obtain ⟨s, rfl, e2, _⟩ := shows_string (by kernel_rfl) f2
      obtain ⟨m3, es3, ds3, hm3, b3, e3, _, z3⟩ := shows_slice (e := 146) (by kernel_rfl) f3
      obtain ⟨m4, es4, ds4, hm4, b4, e4, _, z4⟩ := shows_slice (e := 180) (by kernel_rfl) f4
      obtain rfl : m4 = m3 := by omega
      obtain ⟨is, rfl, w3⟩ := shows_list (enc := Val.enc) (w := Val.vb) (b := Rows.uptoBulk) (fun c y hcy => ih m4 (by omega) y c hcy.2) z3
      obtain ⟨fs, rfl, w4⟩ := shows_list (enc := encF) (w := fun a => a.1.length + a.2.vb) (b := Rows.uptoBulk) (fun c y hcy => shows_pair shp180 cel180 (by kernel_rfl) (fun m' hm' => ih m' (by omega)) hcy.2) z4
      have g3 := bulk_slice b3
      have g4 := bulk_slice b4
      obtain ⟨p0, p1, p2, p3, p4, rfl⟩ := len5 hl
      · skip
        simp only [List.drop_zero, List.take_succ_cons, List.take_zero, List.cons.injEq, and_true, List.drop_succ_cons] at e0 e1 e2 e3 e4
        subst e0; subst e1; subst e2; subst e3; subst e4
        refine ⟨.mk k i s is fs, by rw [enc_eq, cel146, cel180]; rfl, ?_⟩
        rw [vb_eq]
        show 1 + s.length + vbs is + fbs fs ≤ _
        rw [vbs_sum, fbs_sum]
        simp only [Rows.uptoBulk, Rows.uptoBulkAll]
        omega
end Go.Proofs.YtfjeckcbnhohmaaGreatDoor
namespace Go.Proofs.YtfjeckcbnhohmaaGreatDoor
open Go.RowKit Go.AM Go.SpanLaw
theorem len3 {α : Type} : ∀ {l : List α}, l.length = 3 → ∃ a b c, l = [a, b, c]
  | [a, b, c], _ => ⟨a, b, c, rfl⟩
theorem len4 {α : Type} : ∀ {l : List α}, l.length = 4 → ∃ a b c d, l = [a, b, c, d]
  | [a, b, c, d], _ => ⟨a, b, c, d, rfl⟩
theorem len7 {α : Type} : ∀ {l : List α}, l.length = 7 → ∃ a b c d e f g, l = [a, b, c, d, e, f, g]
  | [a, b, c, d, e, f, g], _ => ⟨a, b, c, d, e, f, g, rfl⟩
theorem len13 {α : Type} : ∀ {l : List α}, l.length = 13 → ∃ a b c d e f g h i j k m n, l = [a, b, c, d, e, f, g, h, i, j, k, m, n]
  | [a, b, c, d, e, f, g, h, i, j, k, m, n], _ => ⟨a, b, c, d, e, f, g, h, i, j, k, m, n, rfl⟩
theorem cbs_sum : ∀ l : List Cnd, cbs l = (l.map Cnd.cb).sum
  | [] => rfl
  | c :: l => by simp [cbs, cbs_sum l]
theorem shows_cnd {H : Type} : ∀ (n : Nat) (d : DataW H) pvs, Shows Tryz.prog n 45 d pvs → ∃ c : Cnd, pvs = c.enc ∧ c.cb ≤ Rows.uptoBulk d := by
  intro n
  induction n using Nat.strongRecOn with
  | ind n ih =>
    intro d pvs h
    obtain ⟨m, ds, rfl, rfl, hl, hf⟩ := shows_struct shp45 h
    rw [cel45] at hl
    obtain ⟨y0, ds, rfl, f0, hf⟩ := fieldsS_cons hf
    obtain ⟨y1, ds, rfl, f1, hf⟩ := fieldsS_cons hf
    obtain ⟨y2, ds, rfl, f2, hf⟩ := fieldsS_cons hf
    obtain ⟨y3, ds, rfl, f3, hf⟩ := fieldsS_cons hf
    obtain ⟨y4, ds, rfl, f4, hf⟩ := fieldsS_cons hf
    obtain ⟨y5, ds, rfl, f5, hf⟩ := fieldsS_cons hf
    obtain ⟨y6, ds, rfl, f6, hf⟩ := fieldsS_cons hf
    obtain rfl := fieldsS_nil hf
    · skip
      obtain ⟨k, rfl, e0, _⟩ := shows_int (k := .i64) (by kernel_rfl) f0
      obtain ⟨a, rfl, e1, _⟩ := shows_string (by kernel_rfl) f1
      obtain ⟨o, rfl, e2, _⟩ := shows_int (k := .i64) (by kernel_rfl) f2
      obtain ⟨m3, es3, ds3, hm3, b3, e3, _, z3⟩ := shows_slice (e := 146) (by kernel_rfl) f3
      obtain ⟨p, rfl, e4, _⟩ := shows_string (by kernel_rfl) f4
      obtain ⟨nm, rfl, e5, _⟩ := shows_string (by kernel_rfl) f5
      obtain ⟨m6, es6, ds6, hm6, b6, e6, _, z6⟩ := shows_slice (e := 45) (by kernel_rfl) f6
      obtain ⟨vs, rfl, w3⟩ := shows_list (enc := Val.enc) (w := Val.vb) (b := Rows.uptoBulk) (fun c y hcy => shows_val m3 y c hcy.2) z3
      obtain ⟨cs, rfl, w6⟩ := shows_list (enc := Cnd.enc) (w := Cnd.cb) (b := Rows.uptoBulk) (fun c y hcy => ih m6 (by omega) y c hcy.2) z6
      have g3 := bulk_slice b3
      have g6 := bulk_slice b6
      obtain ⟨p0, p1, p2, p3, p4, p5, p6, rfl⟩ := len7 hl
      · skip
        simp only [List.drop_zero, List.take_succ_cons, List.take_zero, List.cons.injEq, and_true, List.drop_succ_cons] at e0 e1 e2 e3 e4 e5 e6
        subst e0; subst e1; subst e2; subst e3; subst e4; subst e5; subst e6
        refine ⟨.mk k a o vs p nm cs, by rw [cenc_eq, cel146, cel45]; rfl, ?_⟩
        rw [cb_eq]
        show 1 + a.length + vbs vs + p.length + nm.length + cbs cs ≤ _
        rw [vbs_sum, cbs_sum]
        simp only [Rows.uptoBulk, Rows.uptoBulkAll]
        omega
theorem shows_sp {H : Type} {n : Nat} {d : DataW H} {pvs : List PV} (h : Shows Tryz.prog n 36 d pvs) : ∃ s : Sp, pvs = encS s ∧ 1 ≤ Rows.uptoBulk d := by
  obtain ⟨m, ds, rfl, rfl, hl, hf⟩ := shows_struct shp36 h
  rw [cel36] at hl
  obtain ⟨y0, ds, rfl, f0, hf⟩ := fieldsS_cons hf
  obtain ⟨y1, ds, rfl, f1, hf⟩ := fieldsS_cons hf
  obtain rfl := fieldsS_nil hf
  obtain ⟨a, rfl, e0, _⟩ := shows_int (k := .i64) (by kernel_rfl) f0
  obtain ⟨b, rfl, e1, _⟩ := shows_int (k := .i64) (by kernel_rfl) f1
  obtain ⟨p0, p1, rfl⟩ := len2 hl
  · skip
    simp only [List.drop_zero, List.take_succ_cons, List.take_zero, List.cons.injEq, and_true, List.drop_succ_cons] at e0 e1
    subst e0; subst e1
    exact ⟨(a, b), rfl, by simp only [Rows.uptoBulk, Rows.uptoBulkAll]; omega⟩
theorem shows_rg {H : Type} {n : Nat} {d : DataW H} {pvs : List PV} (h : Shows Tryz.prog n 278 d pvs) : ∃ s : Rg, pvs = encG s ∧ 1 ≤ Rows.uptoBulk d := by
  obtain ⟨m, ds, rfl, rfl, hl, hf⟩ := shows_struct shp278 h
  rw [cel278] at hl
  obtain ⟨y0, ds, rfl, f0, hf⟩ := fieldsS_cons hf
  obtain ⟨y1, ds, rfl, f1, hf⟩ := fieldsS_cons hf
  obtain ⟨y2, ds, rfl, f2, hf⟩ := fieldsS_cons hf
  obtain rfl := fieldsS_nil hf
  obtain ⟨a, rfl, e0, _⟩ := shows_int (k := .i64) (by kernel_rfl) f0
  obtain ⟨b, rfl, e1, _⟩ := shows_int (k := .i64) (by kernel_rfl) f1
  obtain ⟨c, rfl, e2, _⟩ := shows_int (k := .i64) (by kernel_rfl) f2
  obtain ⟨p0, p1, p2, rfl⟩ := len3 hl
  · skip
    simp only [List.drop_zero, List.take_succ_cons, List.take_zero, List.cons.injEq, and_true, List.drop_succ_cons] at e0 e1 e2
    subst e0; subst e1; subst e2
    exact ⟨(a, b, c), rfl, by simp only [Rows.uptoBulk, Rows.uptoBulkAll]; omega⟩
theorem ones_sum {α : Type} (l : List α) : (l.map fun _ => 1).sum = l.length := by
  induction l with
  | nil => rfl
  | cons x l ih => simp only [List.map_cons, List.sum_cons, ih, List.length_cons]; omega
theorem shows_phs {H : Type} {n : Nat} {d : DataW H} {pvs : List PV} (h : Shows Tryz.prog n 92 d pvs) : ∃ s : Phs, pvs = s.enc ∧ s.cb ≤ Rows.uptoBulk d := by
  obtain ⟨m, ds, rfl, rfl, hl, hf⟩ := shows_struct shp92 h
  rw [cel92] at hl
  obtain ⟨y0, ds, rfl, f0, hf⟩ := fieldsS_cons hf
  obtain ⟨y1, ds, rfl, f1, hf⟩ := fieldsS_cons hf
  obtain rfl := fieldsS_nil hf
  obtain ⟨a, rfl, e0, _⟩ := shows_int (k := .i64) (by kernel_rfl) f0
  obtain ⟨m1, es1, ds1, _, b1, e1, _, z1⟩ := shows_slice (e := 36) (by kernel_rfl) f1
  obtain ⟨l, rfl, w1⟩ := shows_list (enc := encS) (w := fun _ => 1) (b := Rows.uptoBulk) (fun c y hcy => shows_sp hcy.2) z1
  have g1 := bulk_slice b1
  rw [ones_sum] at w1
  obtain ⟨p0, p1, rfl⟩ := len2 hl
  · skip
    simp only [List.drop_zero, List.take_succ_cons, List.take_zero, List.cons.injEq, and_true, List.drop_succ_cons] at e0 e1
    subst e0; subst e1
    refine ⟨⟨a, l⟩, by rw [cel36]; rfl, ?_⟩
    show 1 + l.length ≤ _
    simp only [Rows.uptoBulk, Rows.uptoBulkAll]
    omega
theorem shows_lyr {H : Type} {n : Nat} {d : DataW H} {pvs : List PV} (h : Shows Tryz.prog n 82 d pvs) : ∃ s : Lyr, pvs = s.enc ∧ s.cb ≤ Rows.uptoBulk d := by
  obtain ⟨m, ds, rfl, rfl, hl, hf⟩ := shows_struct shp82 h
  rw [cel82] at hl
  obtain ⟨y0, ds, rfl, f0, hf⟩ := fieldsS_cons hf
  obtain ⟨y1, ds, rfl, f1, hf⟩ := fieldsS_cons hf
  obtain ⟨y2, ds, rfl, f2, hf⟩ := fieldsS_cons hf
  obtain rfl := fieldsS_nil hf
  obtain ⟨a, rfl, e0, _⟩ := shows_string (by kernel_rfl) f0
  obtain ⟨b, rfl, e1, _⟩ := shows_string (by kernel_rfl) f1
  obtain ⟨c, rfl, e2, _⟩ := shows_int (k := .i64) (by kernel_rfl) f2
  obtain ⟨p0, p1, p2, rfl⟩ := len3 hl
  · skip
    simp only [List.drop_zero, List.take_succ_cons, List.take_zero, List.cons.injEq, and_true, List.drop_succ_cons] at e0 e1 e2
    subst e0; subst e1; subst e2
    refine ⟨⟨a, b, c⟩, rfl, ?_⟩
    show 1 + a.length + b.length ≤ _
    simp only [Rows.uptoBulk, Rows.uptoBulkAll]
    omega
theorem shows_strs {H : Type} {n : Nat} {d : DataW H} {pvs : List PV} (h : Shows Tryz.prog n 9 d pvs) : ∃ s : List UInt8, pvs = [str s] ∧ 1 + s.length ≤ Rows.uptoBulk d := by
  obtain ⟨a, rfl, e0, _⟩ := shows_string (by kernel_rfl) h
  exact ⟨a, e0, by simp only [Rows.uptoBulk]; omega⟩
theorem shows_hld {H : Type} {n : Nat} {d : DataW H} {pvs : List PV} (h : Shows Tryz.prog n 216 d pvs) : ∃ s : Hld, pvs = s.enc ∧ s.cb ≤ Rows.uptoBulk d := by
  obtain ⟨m, ds, rfl, rfl, hl, hf⟩ := shows_struct shp216 h
  rw [cel216] at hl
  obtain ⟨y0, ds, rfl, f0, hf⟩ := fieldsS_cons hf
  obtain ⟨y1, ds, rfl, f1, hf⟩ := fieldsS_cons hf
  obtain ⟨y2, ds, rfl, f2, hf⟩ := fieldsS_cons hf
  obtain ⟨y3, ds, rfl, f3, hf⟩ := fieldsS_cons hf
  obtain rfl := fieldsS_nil hf
  obtain ⟨a, rfl, e0, _⟩ := shows_string (by kernel_rfl) f0
  obtain ⟨b, rfl, e1, _⟩ := shows_string (by kernel_rfl) f1
  obtain ⟨c, rfl, e2, _⟩ := shows_int (k := .i64) (by kernel_rfl) f2
  obtain ⟨m3, es3, ds3, _, b3, e3, _, z3⟩ := shows_slice (e := 9) (by kernel_rfl) f3
  obtain ⟨l, rfl, w3⟩ := shows_list (enc := fun s : List UInt8 => [str s]) (w := fun s : List UInt8 => 1 + s.length) (b := Rows.uptoBulk) (fun c y hcy => shows_strs hcy.2) z3
  have g3 := bulk_slice b3
  obtain ⟨p0, p1, p2, p3, rfl⟩ := len4 hl
  · skip
    simp only [List.drop_zero, List.take_succ_cons, List.take_zero, List.cons.injEq, and_true, List.drop_succ_cons] at e0 e1 e2 e3
    subst e0; subst e1; subst e2; subst e3
    refine ⟨⟨a, b, c, l⟩, by rw [cel9]; rfl, ?_⟩
    show 1 + a.length + b.length + (l.map fun s : List UInt8 => 1 + s.length).sum ≤ _
    simp only [Rows.uptoBulk, Rows.uptoBulkAll]
    omega
theorem shows_xp {H : Type} {n : Nat} {d : DataW H} {pvs : List PV} (h : Shows Tryz.prog n 58 d pvs) : ∃ s : Xp, pvs = s.enc ∧ s.cb ≤ Rows.uptoBulk d := by
  obtain ⟨m, ds, rfl, rfl, hl, hf⟩ := shows_struct shp58 h
  rw [cel58] at hl
  obtain ⟨y0, ds, rfl, f0, hf⟩ := fieldsS_cons hf
  obtain ⟨y1, ds, rfl, f1, hf⟩ := fieldsS_cons hf
  obtain ⟨y2, ds, rfl, f2, hf⟩ := fieldsS_cons hf
  obtain ⟨y3, ds, rfl, f3, hf⟩ := fieldsS_cons hf
  obtain ⟨y4, ds, rfl, f4, hf⟩ := fieldsS_cons hf
  obtain ⟨y5, ds, rfl, f5, hf⟩ := fieldsS_cons hf
  obtain ⟨y6, ds, rfl, f6, hf⟩ := fieldsS_cons hf
  obtain rfl := fieldsS_nil hf
  obtain ⟨a, rfl, e0, _⟩ := shows_string (by kernel_rfl) f0
  obtain ⟨b, rfl, e1, _⟩ := shows_string (by kernel_rfl) f1
  obtain ⟨c, rfl, e2, _⟩ := shows_string (by kernel_rfl) f2
  obtain ⟨cd, e3, w3⟩ := shows_cnd _ _ _ f3
  obtain ⟨sl, rfl, e4, _⟩ := shows_string (by kernel_rfl) f4
  obtain ⟨m5, es5, ds5, _, b5, e5, _, z5⟩ := shows_slice (e := 278) (by kernel_rfl) f5
  obtain ⟨m6, es6, ds6, _, b6, e6, _, z6⟩ := shows_slice (e := 92) (by kernel_rfl) f6
  obtain ⟨l5, rfl, w5⟩ := shows_list (enc := encG) (w := fun _ => 1) (b := Rows.uptoBulk) (fun c y hcy => shows_rg hcy.2) z5
  obtain ⟨l6, rfl, w6⟩ := shows_list (enc := Phs.enc) (w := Phs.cb) (b := Rows.uptoBulk) (fun c y hcy => shows_phs hcy.2) z6
  have g5 := bulk_slice b5
  have g6 := bulk_slice b6
  rw [ones_sum] at w5
  obtain ⟨p0, p1, p2, p3, p4, p5, p6, p7, p8, p9, p10, p11, p12, rfl⟩ := len13 hl
  · skip
    simp only [List.drop_zero, List.take_succ_cons, List.take_zero, List.cons.injEq, and_true, List.drop_succ_cons] at e0 e1 e2 e3 e4 e5 e6
    subst e0; subst e1; subst e2; subst e4; subst e5; subst e6
    refine ⟨⟨a, b, c, cd, sl, l5, l6⟩, by rw [Xp.enc, ← e3, cel278, cel92]; rfl, ?_⟩
    show a.length + b.length + c.length + cd.cb + sl.length + l5.length + (l6.map Phs.cb).sum ≤ _
    simp only [Rows.uptoBulk, Rows.uptoBulkAll]
    omega
theorem shows_bk {H : Type} {n : Nat} {d : DataW H} {pvs : List PV} (h : Shows Tryz.prog n 26 d pvs) : ∃ s : Bk, pvs = s.enc ∧ s.cb ≤ Rows.uptoBulk d := by
  obtain ⟨m, ds, rfl, rfl, hl, hf⟩ := shows_struct shp26 h
  rw [cel26] at hl
  obtain ⟨y0, ds, rfl, f0, hf⟩ := fieldsS_cons hf
  obtain ⟨y1, ds, rfl, f1, hf⟩ := fieldsS_cons hf
  obtain ⟨y2, ds, rfl, f2, hf⟩ := fieldsS_cons hf
  obtain rfl := fieldsS_nil hf
  obtain ⟨m0, es0, ds0, _, b0, e0, _, z0⟩ := shows_slice (e := 82) (by kernel_rfl) f0
  obtain ⟨m1, es1, ds1, _, b1, e1, _, z1⟩ := shows_slice (e := 216) (by kernel_rfl) f1
  obtain ⟨m2, es2, ds2, _, b2, e2, _, z2⟩ := shows_slice (e := 58) (by kernel_rfl) f2
  obtain ⟨l0, rfl, w0⟩ := shows_list (enc := Lyr.enc) (w := Lyr.cb) (b := Rows.uptoBulk) (fun c y hcy => shows_lyr hcy.2) z0
  obtain ⟨l1, rfl, w1⟩ := shows_list (enc := Hld.enc) (w := Hld.cb) (b := Rows.uptoBulk) (fun c y hcy => shows_hld hcy.2) z1
  obtain ⟨l2, rfl, w2⟩ := shows_list (enc := Xp.enc) (w := Xp.cb) (b := Rows.uptoBulk) (fun c y hcy => shows_xp hcy.2) z2
  have g0 := bulk_slice b0
  have g1 := bulk_slice b1
  have g2 := bulk_slice b2
  obtain ⟨p0, p1, p2, rfl⟩ := len3 hl
  · skip
    simp only [List.drop_zero, List.take_succ_cons, List.take_zero, List.cons.injEq, and_true, List.drop_succ_cons] at e0 e1 e2
    subst e0; subst e1; subst e2
    refine ⟨⟨l0, l1, l2⟩, by rw [cel82, cel216, cel58]; rfl, ?_⟩
    show (l0.map Lyr.cb).sum + (l1.map Hld.cb).sum + (l2.map Xp.cb).sum ≤ _
    simp only [Rows.uptoBulk, Rows.uptoBulkAll]
    omega
end Go.Proofs.YtfjeckcbnhohmaaGreatDoor
