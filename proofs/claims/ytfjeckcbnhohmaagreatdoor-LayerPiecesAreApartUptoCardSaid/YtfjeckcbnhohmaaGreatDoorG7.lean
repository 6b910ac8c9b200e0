/-
  Library functions on strings, off the kit's shelf, at this program (written after what the kit's tool prints): Index, Count, Trim, TrimLeft, IndexByte, Atoi.
  Functions of package strings on lists of bytes: Index, Count, Contains, Cut, HasPrefix, CutPrefix, Split, Trim, TrimLeft, IndexByte.
  strings.Split at a separator that is not empty.
  Numbers and parts of versions: allDigits, whole, versionNumber, isPre, CheckVersion, open.
  Versions: their cells, CheckVersion, ReadVersion.
  ReadVersion.
  readPartial.
-/
import Derived.Shelf.Strings.Search2
import Derived.Shelf.Strings.Split
import Derived.Shelf.Strings.Trim
import Derived.Shelf.Strconv.Atoi
import Derived.Ground.Names2Prog
import Derived.Test.YtfjeckcbnhohmaaGreatDoorProg
import Derived.Test.YtfjeckcbnhohmaaGreatDoorG6
import Derived.Test.YtfjeckcbnhohmaaGreatDoorG5
import Derived.Lib.Split
import Derived.Test.YtfjeckcbnhohmaaGreatDoorG4
namespace Go.Proofs
open Go.Shelf
def Tryz.lays161_ren : Go.Shelf.Ren := ⟨fun | 161 => 280 | 231 => 322 | 227 => 260 | 233 => 323 | 235 => 324 | 228 => 301 | 197 => 201 | 151 => 303 | 260 => 257 | 152 => 338 | 137 => 282 | 119 => 353 | 224 => 298 | 225 => 297 | 217 => 296 | 266 => 331 | n => n, fun | 9 => 9 | 4 => 4 | 3 => 3 | 5 => 5 | 117 => 288 | 116 => 287 | 0 => 0 | 124 => 291 | 105 => 237 | 21 => 21 | 119 => 320 | 46 => 95 | 139 => 323 | 138 => 322 | n => n, fun | 3 => 1 | 4 => 2 | n => n⟩
theorem Tryz.lays161 : Go.Proofs.Lays.n161 Tryz.prog Tryz.lays161_ren := {
  mixed := by kernel_rfl
  f119 := Tryz.func353.trans (congrArg some (by kernel_rfl))
  f137 := Tryz.func282.trans (congrArg some (by kernel_rfl))
  f151 := Tryz.func303.trans (congrArg some (by kernel_rfl))
  f152 := Tryz.func338.trans (congrArg some (by kernel_rfl))
  f161 := Tryz.func280.trans (congrArg some (by kernel_rfl))
  f197 := Tryz.func201.trans (congrArg some (by kernel_rfl))
  f217 := Tryz.func296.trans (congrArg some (by kernel_rfl))
  f224 := Tryz.func298.trans (congrArg some (by kernel_rfl))
  f225 := Tryz.func297.trans (congrArg some (by kernel_rfl))
  f227 := Tryz.func260.trans (congrArg some (by kernel_rfl))
  f228 := Tryz.func301.trans (congrArg some (by kernel_rfl))
  f231 := Tryz.func322.trans (congrArg some (by kernel_rfl))
  f233 := Tryz.func323.trans (congrArg some (by kernel_rfl))
  f235 := Tryz.func324.trans (congrArg some (by kernel_rfl))
  f260 := Tryz.func257.trans (congrArg some (by kernel_rfl))
  f266 := Tryz.func331.trans (congrArg some (by kernel_rfl))
  t0 := Tryz.underlying0
  a0 := Tryz.isAgg0
  z0 := Tryz.sizeOf0
  v0 := Tryz.zeroValue0
  t3 := Tryz.underlying3
  a3 := Tryz.isAgg3
  z3 := Tryz.sizeOf3
  v3 := Tryz.zeroValue3
  t4 := Tryz.underlying4
  a4 := Tryz.isAgg4
  z4 := Tryz.sizeOf4
  v4 := Tryz.zeroValue4
  t5 := Tryz.underlying5
  a5 := Tryz.isAgg5
  z5 := Tryz.sizeOf5
  v5 := Tryz.zeroValue5
  t9 := Tryz.underlying9
  a9 := Tryz.isAgg9
  z9 := Tryz.sizeOf9
  v9 := Tryz.zeroValue9
  t21 := Tryz.underlying21
  a21 := Tryz.isAgg21
  z21 := Tryz.sizeOf21
  v21 := Tryz.zeroValue21
  t46 := Tryz.underlying95
  a46 := Tryz.isAgg95
  z46 := Tryz.sizeOf95
  v46 := Tryz.zeroValue95
  t105 := Tryz.underlying237
  a105 := Tryz.isAgg237
  z105 := Tryz.sizeOf237
  v105 := Tryz.zeroValue237
  t116 := Tryz.underlying287
  a116 := Tryz.isAgg287
  z116 := Tryz.sizeOf287
  t117 := Tryz.underlying288
  a117 := Tryz.isAgg288
  z117 := Tryz.sizeOf288
  v117 := Tryz.zeroValue288
  t119 := Tryz.underlying320
  a119 := Tryz.isAgg320
  z119 := Tryz.sizeOf320
  t124 := Tryz.underlying291
  a124 := Tryz.isAgg291
  z124 := Tryz.sizeOf291
  v124 := Tryz.zeroValue291
  t138 := Tryz.underlying322
  a138 := Tryz.isAgg322
  z138 := Tryz.sizeOf322
  v138 := Tryz.zeroValue322
  t139 := Tryz.underlying323
  a139 := Tryz.isAgg323
  z139 := Tryz.sizeOf323
  v139 := Tryz.zeroValue323
  g3 := by kernel_rfl
  g4 := by kernel_rfl }
def Tryz.lays160_ren : Go.Shelf.Ren := ⟨fun | 160 => 279 | 232 => 259 | 231 => 322 | 227 => 260 | 234 => 261 | 233 => 323 | 236 => 262 | 235 => 324 | 228 => 301 | 271 => 302 | 151 => 303 | 197 => 201 | 120 => 337 | 152 => 338 | 260 => 257 | 137 => 282 | 119 => 353 | 224 => 298 | 225 => 297 | 217 => 296 | 266 => 331 | n => n, fun | 9 => 9 | 4 => 4 | 3 => 3 | 5 => 5 | 117 => 288 | 116 => 287 | 0 => 0 | 124 => 291 | 21 => 21 | 105 => 237 | 46 => 95 | 119 => 320 | 139 => 323 | 138 => 322 | n => n, fun | 3 => 1 | 4 => 2 | n => n⟩
theorem Tryz.lays160 : Go.Proofs.Lays.n160 Tryz.prog Tryz.lays160_ren := {
  mixed := by kernel_rfl
  f119 := Tryz.func353.trans (congrArg some (by kernel_rfl))
  f120 := Tryz.func337.trans (congrArg some (by kernel_rfl))
  f137 := Tryz.func282.trans (congrArg some (by kernel_rfl))
  f151 := Tryz.func303.trans (congrArg some (by kernel_rfl))
  f152 := Tryz.func338.trans (congrArg some (by kernel_rfl))
  f160 := Tryz.func279.trans (congrArg some (by kernel_rfl))
  f197 := Tryz.func201.trans (congrArg some (by kernel_rfl))
  f217 := Tryz.func296.trans (congrArg some (by kernel_rfl))
  f224 := Tryz.func298.trans (congrArg some (by kernel_rfl))
  f225 := Tryz.func297.trans (congrArg some (by kernel_rfl))
  f227 := Tryz.func260.trans (congrArg some (by kernel_rfl))
  f228 := Tryz.func301.trans (congrArg some (by kernel_rfl))
  f231 := Tryz.func322.trans (congrArg some (by kernel_rfl))
  f232 := Tryz.func259.trans (congrArg some (by kernel_rfl))
  f233 := Tryz.func323.trans (congrArg some (by kernel_rfl))
  f234 := Tryz.func261.trans (congrArg some (by kernel_rfl))
  f235 := Tryz.func324.trans (congrArg some (by kernel_rfl))
  f236 := Tryz.func262.trans (congrArg some (by kernel_rfl))
  f260 := Tryz.func257.trans (congrArg some (by kernel_rfl))
  f266 := Tryz.func331.trans (congrArg some (by kernel_rfl))
  f271 := Tryz.func302.trans (congrArg some (by kernel_rfl))
  t0 := Tryz.underlying0
  a0 := Tryz.isAgg0
  z0 := Tryz.sizeOf0
  v0 := Tryz.zeroValue0
  t3 := Tryz.underlying3
  a3 := Tryz.isAgg3
  z3 := Tryz.sizeOf3
  v3 := Tryz.zeroValue3
  t4 := Tryz.underlying4
  a4 := Tryz.isAgg4
  z4 := Tryz.sizeOf4
  v4 := Tryz.zeroValue4
  t5 := Tryz.underlying5
  a5 := Tryz.isAgg5
  z5 := Tryz.sizeOf5
  v5 := Tryz.zeroValue5
  t9 := Tryz.underlying9
  a9 := Tryz.isAgg9
  z9 := Tryz.sizeOf9
  v9 := Tryz.zeroValue9
  t21 := Tryz.underlying21
  a21 := Tryz.isAgg21
  z21 := Tryz.sizeOf21
  v21 := Tryz.zeroValue21
  t46 := Tryz.underlying95
  a46 := Tryz.isAgg95
  z46 := Tryz.sizeOf95
  v46 := Tryz.zeroValue95
  t105 := Tryz.underlying237
  a105 := Tryz.isAgg237
  z105 := Tryz.sizeOf237
  v105 := Tryz.zeroValue237
  t116 := Tryz.underlying287
  a116 := Tryz.isAgg287
  z116 := Tryz.sizeOf287
  t117 := Tryz.underlying288
  a117 := Tryz.isAgg288
  z117 := Tryz.sizeOf288
  v117 := Tryz.zeroValue288
  t119 := Tryz.underlying320
  a119 := Tryz.isAgg320
  z119 := Tryz.sizeOf320
  t124 := Tryz.underlying291
  a124 := Tryz.isAgg291
  z124 := Tryz.sizeOf291
  v124 := Tryz.zeroValue291
  t138 := Tryz.underlying322
  a138 := Tryz.isAgg322
  z138 := Tryz.sizeOf322
  v138 := Tryz.zeroValue322
  t139 := Tryz.underlying323
  a139 := Tryz.isAgg323
  z139 := Tryz.sizeOf323
  v139 := Tryz.zeroValue323
  g3 := by kernel_rfl
  g4 := by kernel_rfl }
def Tryz.lays137_ren : Go.Shelf.Ren := ⟨fun | 137 => 282 | 217 => 296 | 266 => 331 | n => n, fun | 9 => 9 | 5 => 5 | 3 => 3 | n => n, fun | n => n⟩
theorem Tryz.lays137 : Go.Proofs.Lays.n137 Tryz.prog Tryz.lays137_ren := {
  mixed := by kernel_rfl
  f137 := Tryz.func282.trans (congrArg some (by kernel_rfl))
  f217 := Tryz.func296.trans (congrArg some (by kernel_rfl))
  f266 := Tryz.func331.trans (congrArg some (by kernel_rfl))
  t3 := Tryz.underlying3
  a3 := Tryz.isAgg3
  z3 := Tryz.sizeOf3
  v3 := Tryz.zeroValue3
  t5 := Tryz.underlying5
  a5 := Tryz.isAgg5
  z5 := Tryz.sizeOf5
  v5 := Tryz.zeroValue5
  t9 := Tryz.underlying9
  a9 := Tryz.isAgg9
  z9 := Tryz.sizeOf9
  v9 := Tryz.zeroValue9 }
def Tryz.lays172_ren : Go.Shelf.Ren := ⟨fun | 172 => 309 | 244 => 342 | 245 => 343 | 247 => 354 | 279 => 355 | 280 => 356 | 281 => 357 | 282 => 358 | 287 => 364 | 316 => 365 | 171 => 202 | 205 => 366 | 321 => 367 | 322 => 368 | 243 => 258 | 246 => 300 | 283 => 333 | 284 => 334 | 285 => 335 | 286 => 336 | 129 => 98 | 317 => 349 | 318 => 350 | 319 => 351 | 320 => 352 | 337 => 362 | 338 => 363 | n => n, fun | 9 => 9 | 3 => 3 | 75 => 99 | 76 => 100 | 4 => 4 | 5 => 5 | 167 => 353 | 37 => 67 | 0 => 0 | 85 => 354 | 2 => 2 | 168 => 356 | 53 => 139 | 175 => 361 | 46 => 95 | 210 => 364 | 127 => 104 | 145 => 371 | 143 => 369 | 21 => 21 | 171 => 341 | 173 => 343 | 212 => 350 | 51 => 137 | 20 => 20 | 213 => 351 | 232 => 366 | 233 => 367 | 80 => 72 | n => n, fun | 15 => 4 | 16 => 5 | 17 => 3 | 18 => 6 | 19 => 7 | n => n⟩
theorem Tryz.lays172 : Go.Proofs.Lays.n172 Tryz.prog Tryz.lays172_ren := {
  mixed := by kernel_rfl
  f129 := Tryz.func98.trans (congrArg some (by kernel_rfl))
  f171 := Tryz.func202.trans (congrArg some (by kernel_rfl))
  f172 := Tryz.func309.trans (congrArg some (by kernel_rfl))
  f205 := Tryz.func366.trans (congrArg some (by kernel_rfl))
  f243 := Tryz.func258.trans (congrArg some (by kernel_rfl))
  f244 := Tryz.func342.trans (congrArg some (by kernel_rfl))
  f245 := Tryz.func343.trans (congrArg some (by kernel_rfl))
  f246 := Tryz.func300.trans (congrArg some (by kernel_rfl))
  f247 := Tryz.func354.trans (congrArg some (by kernel_rfl))
  f279 := Tryz.func355.trans (congrArg some (by kernel_rfl))
  f280 := Tryz.func356.trans (congrArg some (by kernel_rfl))
  f281 := Tryz.func357.trans (congrArg some (by kernel_rfl))
  f282 := Tryz.func358.trans (congrArg some (by kernel_rfl))
  f283 := Tryz.func333.trans (congrArg some (by kernel_rfl))
  f284 := Tryz.func334.trans (congrArg some (by kernel_rfl))
  f285 := Tryz.func335.trans (congrArg some (by kernel_rfl))
  f286 := Tryz.func336.trans (congrArg some (by kernel_rfl))
  f287 := Tryz.func364.trans (congrArg some (by kernel_rfl))
  f316 := Tryz.func365.trans (congrArg some (by kernel_rfl))
  f317 := Tryz.func349.trans (congrArg some (by kernel_rfl))
  f318 := Tryz.func350.trans (congrArg some (by kernel_rfl))
  f319 := Tryz.func351.trans (congrArg some (by kernel_rfl))
  f320 := Tryz.func352.trans (congrArg some (by kernel_rfl))
  f321 := Tryz.func367.trans (congrArg some (by kernel_rfl))
  f322 := Tryz.func368.trans (congrArg some (by kernel_rfl))
  f337 := Tryz.func362.trans (congrArg some (by kernel_rfl))
  f338 := Tryz.func363.trans (congrArg some (by kernel_rfl))
  t0 := Tryz.underlying0
  a0 := Tryz.isAgg0
  z0 := Tryz.sizeOf0
  v0 := Tryz.zeroValue0
  t2 := Tryz.underlying2
  a2 := Tryz.isAgg2
  z2 := Tryz.sizeOf2
  v2 := Tryz.zeroValue2
  t3 := Tryz.underlying3
  a3 := Tryz.isAgg3
  z3 := Tryz.sizeOf3
  v3 := Tryz.zeroValue3
  t4 := Tryz.underlying4
  a4 := Tryz.isAgg4
  z4 := Tryz.sizeOf4
  v4 := Tryz.zeroValue4
  t5 := Tryz.underlying5
  a5 := Tryz.isAgg5
  z5 := Tryz.sizeOf5
  v5 := Tryz.zeroValue5
  t9 := Tryz.underlying9
  a9 := Tryz.isAgg9
  z9 := Tryz.sizeOf9
  v9 := Tryz.zeroValue9
  t20 := Tryz.underlying20
  a20 := Tryz.isAgg20
  z20 := Tryz.sizeOf20
  v20 := Tryz.zeroValue20
  t21 := Tryz.underlying21
  a21 := Tryz.isAgg21
  z21 := Tryz.sizeOf21
  v21 := Tryz.zeroValue21
  t37 := Tryz.underlying67
  a37 := Tryz.isAgg67
  z37 := Tryz.sizeOf67
  v37 := Tryz.zeroValue67
  t46 := Tryz.underlying95
  a46 := Tryz.isAgg95
  z46 := Tryz.sizeOf95
  v46 := Tryz.zeroValue95
  t51 := Tryz.underlying137
  a51 := Tryz.isAgg137
  z51 := Tryz.sizeOf137
  v51 := Tryz.zeroValue137
  t53 := Tryz.underlying139
  a53 := Tryz.isAgg139
  z53 := Tryz.sizeOf139
  v53 := Tryz.zeroValue139
  t75 := Tryz.underlying99
  a75 := Tryz.isAgg99
  z75 := Tryz.sizeOf99
  v75 := Tryz.zeroValue99
  t76 := Tryz.underlying100
  a76 := Tryz.isAgg100
  z76 := Tryz.sizeOf100
  v76 := Tryz.zeroValue100
  t85 := Tryz.underlying354
  a85 := Tryz.isAgg354
  z85 := Tryz.sizeOf354
  v85 := Tryz.zeroValue354
  t127 := Tryz.underlying104
  a127 := Tryz.isAgg104
  z127 := Tryz.sizeOf104
  v127 := Tryz.zeroValue104
  t143 := Tryz.underlying369
  a143 := Tryz.isAgg369
  z143 := Tryz.sizeOf369
  v143 := Tryz.zeroValue369
  t145 := Tryz.underlying371
  a145 := Tryz.isAgg371
  z145 := Tryz.sizeOf371
  v145 := Tryz.zeroValue371
  t167 := Tryz.underlying353
  a167 := Tryz.isAgg353
  z167 := Tryz.sizeOf353
  v167 := Tryz.zeroValue353
  t168 := Tryz.underlying356
  a168 := Tryz.isAgg356
  z168 := Tryz.sizeOf356
  v168 := Tryz.zeroValue356
  t171 := Tryz.underlying341
  a171 := Tryz.isAgg341
  z171 := Tryz.sizeOf341
  v171 := Tryz.zeroValue341
  t173 := Tryz.underlying343
  a173 := Tryz.isAgg343
  z173 := Tryz.sizeOf343
  v173 := Tryz.zeroValue343
  t175 := Tryz.underlying361
  a175 := Tryz.isAgg361
  z175 := Tryz.sizeOf361
  v175 := Tryz.zeroValue361
  t210 := Tryz.underlying364
  a210 := Tryz.isAgg364
  z210 := Tryz.sizeOf364
  v210 := Tryz.zeroValue364
  t212 := Tryz.underlying350
  a212 := Tryz.isAgg350
  z212 := Tryz.sizeOf350
  v212 := Tryz.zeroValue350
  t213 := Tryz.underlying351
  a213 := Tryz.isAgg351
  z213 := Tryz.sizeOf351
  t232 := Tryz.underlying366
  a232 := Tryz.isAgg366
  z232 := Tryz.sizeOf366
  v232 := Tryz.zeroValue366
  t233 := Tryz.underlying367
  a233 := Tryz.isAgg367
  z233 := Tryz.sizeOf367
  v233 := Tryz.zeroValue367
  g15 := by kernel_rfl
  g16 := by kernel_rfl
  g17 := by kernel_rfl
  g18 := by kernel_rfl
  g19 := by kernel_rfl }
def Tryz.lays219_ren : Go.Shelf.Ren := ⟨fun | 219 => 256 | 217 => 296 | 225 => 297 | 224 => 298 | 267 => 299 | 266 => 331 | 314 => 332 | n => n, fun | 9 => 9 | 3 => 3 | 4 => 4 | 5 => 5 | 46 => 95 | 146 => 326 | 51 => 137 | n => n, fun | 1 => 0 | n => n⟩
theorem Tryz.lays219 : Go.Proofs.Lays.n219 Tryz.prog Tryz.lays219_ren := {
  mixed := by kernel_rfl
  f217 := Tryz.func296.trans (congrArg some (by kernel_rfl))
  f219 := Tryz.func256.trans (congrArg some (by kernel_rfl))
  f224 := Tryz.func298.trans (congrArg some (by kernel_rfl))
  f225 := Tryz.func297.trans (congrArg some (by kernel_rfl))
  f266 := Tryz.func331.trans (congrArg some (by kernel_rfl))
  f267 := Tryz.func299.trans (congrArg some (by kernel_rfl))
  f314 := Tryz.func332.trans (congrArg some (by kernel_rfl))
  t3 := Tryz.underlying3
  a3 := Tryz.isAgg3
  z3 := Tryz.sizeOf3
  v3 := Tryz.zeroValue3
  t4 := Tryz.underlying4
  a4 := Tryz.isAgg4
  z4 := Tryz.sizeOf4
  v4 := Tryz.zeroValue4
  t5 := Tryz.underlying5
  a5 := Tryz.isAgg5
  z5 := Tryz.sizeOf5
  v5 := Tryz.zeroValue5
  t9 := Tryz.underlying9
  a9 := Tryz.isAgg9
  z9 := Tryz.sizeOf9
  v9 := Tryz.zeroValue9
  t46 := Tryz.underlying95
  a46 := Tryz.isAgg95
  z46 := Tryz.sizeOf95
  v46 := Tryz.zeroValue95
  t51 := Tryz.underlying137
  a51 := Tryz.isAgg137
  z51 := Tryz.sizeOf137
  v51 := Tryz.zeroValue137
  t146 := Tryz.underlying326
  a146 := Tryz.isAgg326
  z146 := Tryz.sizeOf326
  v146 := Tryz.zeroValue326
  g1 := by kernel_rfl }
def Tryz.lays138_ren : Go.Shelf.Ren := ⟨fun | 138 => 199 | 195 => 254 | 218 => 255 | 143 => 200 | 219 => 256 | 217 => 296 | 225 => 297 | 224 => 298 | 267 => 299 | 266 => 331 | 314 => 332 | n => n, fun | 9 => 9 | 3 => 3 | 4 => 4 | 5 => 5 | 0 => 0 | 46 => 95 | 146 => 326 | 51 => 137 | n => n, fun | 1 => 0 | n => n⟩
theorem Tryz.lays138 : Go.Proofs.Lays.n138 Tryz.prog Tryz.lays138_ren := {
  mixed := by kernel_rfl
  f138 := Tryz.func199.trans (congrArg some (by kernel_rfl))
  f143 := Tryz.func200.trans (congrArg some (by kernel_rfl))
  f195 := Tryz.func254.trans (congrArg some (by kernel_rfl))
  f217 := Tryz.func296.trans (congrArg some (by kernel_rfl))
  f218 := Tryz.func255.trans (congrArg some (by kernel_rfl))
  f219 := Tryz.func256.trans (congrArg some (by kernel_rfl))
  f224 := Tryz.func298.trans (congrArg some (by kernel_rfl))
  f225 := Tryz.func297.trans (congrArg some (by kernel_rfl))
  f266 := Tryz.func331.trans (congrArg some (by kernel_rfl))
  f267 := Tryz.func299.trans (congrArg some (by kernel_rfl))
  f314 := Tryz.func332.trans (congrArg some (by kernel_rfl))
  t0 := Tryz.underlying0
  a0 := Tryz.isAgg0
  z0 := Tryz.sizeOf0
  v0 := Tryz.zeroValue0
  t3 := Tryz.underlying3
  a3 := Tryz.isAgg3
  z3 := Tryz.sizeOf3
  v3 := Tryz.zeroValue3
  t4 := Tryz.underlying4
  a4 := Tryz.isAgg4
  z4 := Tryz.sizeOf4
  v4 := Tryz.zeroValue4
  t5 := Tryz.underlying5
  a5 := Tryz.isAgg5
  z5 := Tryz.sizeOf5
  v5 := Tryz.zeroValue5
  t9 := Tryz.underlying9
  a9 := Tryz.isAgg9
  z9 := Tryz.sizeOf9
  v9 := Tryz.zeroValue9
  t46 := Tryz.underlying95
  a46 := Tryz.isAgg95
  z46 := Tryz.sizeOf95
  v46 := Tryz.zeroValue95
  t51 := Tryz.underlying137
  a51 := Tryz.isAgg137
  z51 := Tryz.sizeOf137
  v51 := Tryz.zeroValue137
  t146 := Tryz.underlying326
  a146 := Tryz.isAgg326
  z146 := Tryz.sizeOf326
  v146 := Tryz.zeroValue326
  g1 := by kernel_rfl }
end Go.Proofs
namespace Go.Proofs.YtfjeckcbnhohmaaGreatDoor
open Go.RowKit Go.AM

/-- Two texts, of no more than lim bytes. -/
noncomputable def FTT (f : List UInt8 → List UInt8 → PV) (pre : List UInt8 → List UInt8 → Prop) : List PV → Option PV := specOf (α := List UInt8 × List UInt8) (fun a => [str a.1, str a.2]) (fun a => a.1.length ≤ lim ∧ a.2.length ≤ lim ∧ pre a.1 a.2) (fun a => f a.1 a.2)
theorem ss_inj : ∀ a b : List UInt8 × List UInt8, [str a.1, str a.2] = [str b.1, str b.2] → a = b := by
  rintro ⟨a1, a2⟩ ⟨b1, b2⟩ e
  simp only [List.cons.injEq, and_true] at e
  rw [str_inj e.1, str_inj e.2]
theorem FTT_call (f : List UInt8 → List UInt8 → PV) (pre : List UInt8 → List UInt8 → Prop) (a b : List UInt8) (hp : Hp) (nx : Nat) (h : a.length ≤ lim) (h2 : b.length ≤ lim) (h3 : pre a b) (hf : (f a b).flat = true) : hPure false [] (FTT f pre) [str a, str b] hp nx = some (f a b, hp, nx) :=
  hPure_v rfl (specOf_eq (enc := fun a : List UInt8 × List UInt8 => [str a.1, str a.2]) (a := (a, b)) ss_inj ⟨h, h2, h3⟩) (.inl hf)
theorem FTT_inv {f : List UInt8 → List UInt8 → PV} {pre : List UInt8 → List UInt8 → Prop} {args : List PV} {r : PV} (h : FTT f pre args = some r) : ∃ a b, args = [str a, str b] ∧ a.length ≤ lim ∧ b.length ≤ lim ∧ pre a b ∧ r = f a b := by
  obtain ⟨⟨a, b⟩, rfl, ⟨h1, h2, h3⟩, rfl⟩ := specOf_inv h
  exact ⟨a, b, rfl, h1, h2, h3, rfl⟩
theorem intVarM : IntVar Tryz.prog 0 := by
  refine ⟨of_decide_eq_true (by kernel_rfl), #[.int .i64 0], 3, by kernel_rfl, rfl, by kernel_rfl, by kernel_rfl, by kernel_rfl⟩
def idxP (a b : List UInt8) : PV := int (Lib.index a b)
def cntP (a b : List UInt8) : PV := int (Lib.count a b)
theorem index_sound : SpecSound Tryz.prog 256 (hPure false [] (FTT idxP fun _ _ => True)) :=
  sound_scalarG ⟨_, Tryz.func256, by kernel_rfl, by kernel_rfl⟩ fun args r h => by
    obtain ⟨a, b, rfl, h1, h2, _, rfl⟩ := FTT_inv h
    unfold lim at h1 h2
    refine ⟨[.string ⟨a.toArray⟩, .string ⟨b.toArray⟩], rfl, by simp [lit], rfl, .int .i64 (Lib.index a b), fun w S => .v rfl, fun w S hg => ?_⟩
    obtain ⟨_, m, hm⟩ := hg 0 intVarM
    refine (Any.stringslite_Index Tryz.lays219 ⟨a.toArray⟩ ⟨b.toArray⟩ m w (by simp; omega) hm).mono fun e w' hh => ?_
    obtain ⟨rfl, rfl⟩ := hh
    exact ⟨by simp, Fr.refl _ _⟩
theorem sCount_sound : SpecSound Tryz.prog 199 (hPure false [] (FTT cntP fun _ b => 1 ≤ b.length)) :=
  sound_scalarG ⟨_, Tryz.func199, by kernel_rfl, by kernel_rfl⟩ fun args r h => by
    obtain ⟨a, b, rfl, h1, h2, h3, rfl⟩ := FTT_inv h
    unfold lim at h1 h2
    refine ⟨[.string ⟨a.toArray⟩, .string ⟨b.toArray⟩], rfl, by simp [lit], rfl, .int .i64 (Lib.count a b), fun w S => .v rfl, fun w S hg => ?_⟩
    obtain ⟨_, m, hm⟩ := hg 0 intVarM
    refine (Any.strings_Count_any Tryz.lays138 ⟨a.toArray⟩ ⟨b.toArray⟩ m w (by simp; omega) hm (by simpa using h3)).mono fun e w' hh => ?_
    obtain ⟨rfl, rfl⟩ := hh
    exact ⟨by simp [Lib.countB], Fr.refl _ _⟩

noncomputable abbrev Ci : Ctx := mkCtx Tryz.prog [(256, hPure false [] (FTT idxP fun _ _ => True))]
theorem goodi : AM.Good Ci (fun g => [256].contains g) := good_of mixed ⟨index_sound, fun _ => hPure_quiet _ _, trivial⟩
@[simp] theorem quieti : QuietIn Ci 256 := quietIn_of (by rfl) (hPure_quiet _ _)
theorem idx_call (a b : List UInt8) (hp : Hp) (nx : Nat) (h : a.length ≤ lim) (h2 : b.length ≤ lim) : hPure false [] (FTT idxP fun _ _ => True) [str a, str b] hp nx = some (int (Lib.index a b), hp, nx) := FTT_call _ _ a b hp nx h h2 trivial rfl
theorem sIndex_sound : SpecSound Tryz.prog 200 (hPure false [] (FTT idxP fun _ _ => True)) :=
  pureS (fn := Tryz.f200) goodi ⟨_, Tryz.func200, by kernel_rfl, rfl, by kernel_rfl⟩ false [] _ fun args r h => by
    obtain ⟨a, b, rfl, h1, h2, _, rfl⟩ := FTT_inv h
    exact ⟨by simp [Tryz.f200], _, evalPure_of rfl (by simp [idx_call, h1, h2, idxP, Tryz.f200]), up_of _⟩
noncomputable abbrev Ci2 : Ctx := mkCtx Tryz.prog [(200, hPure false [] (FTT idxP fun _ _ => True)), (199, hPure false [] (FTT cntP fun _ b => 1 ≤ b.length))]
theorem goodi2 : AM.Good Ci2 (fun g => [200].contains g) := good_of mixed ⟨sIndex_sound, fun _ => hPure_quiet _ _, sCount_sound, fun _ => hPure_quiet _ _, trivial⟩
def hasP (a b : List UInt8) : PV := boo (Lib.contains a b)
theorem contains_sound : SpecSound Tryz.prog 267 (hPure false [] (FTT hasP fun _ _ => True)) :=
  pureS (fn := Tryz.f267) goodi2 ⟨_, Tryz.func267, by kernel_rfl, rfl, by kernel_rfl⟩ false [] _ fun args r h => by
    obtain ⟨a, b, rfl, h1, h2, _, rfl⟩ := FTT_inv h
    exact ⟨by simp [Tryz.f267], _, evalPure_of rfl (by simp [idx_call, h1, h2, hasP, Lib.contains, Tryz.f267]), up_of _⟩
def cutP (a b : List UInt8) : PV := .tup [str (Lib.cut a b).1, str (Lib.cut a b).2.1, boo (Lib.cut a b).2.2]
set_option maxRecDepth 4000 in
theorem cut_eval (a b : List UInt8) (h1 : a.length ≤ lim) (h2 : b.length ≤ lim) : evalPure Ci Tryz.f325 [str a, str b] = some (cutP a b) := by
  refine evalPure_of rfl ?_
  unfold lim at h1 h2
  by_cases h : 0 ≤ Lib.index a b
  · have hr := Lib.index_room a b h
    have hc : Lib.cut a b = (a.take (Lib.index a b).toNat, a.drop ((Lib.index a b).toNat + b.length), true) := by unfold Lib.cut; rw [if_pos h]
    have w1 : IntKind.i64.wrap (Lib.index a b + b.length) = Lib.index a b + b.length := wrap_fit (by omega) (by omega)
    have e1 : (Lib.index a b + b.length).toNat = (Lib.index a b).toNat + b.length := by omega
    have e2 : 0 ≤ Lib.index a b + b.length := by omega
    have e3 : (Lib.index a b).toNat ≤ a.length := by omega
    have e4 : (Lib.index a b).toNat + b.length ≤ a.length := by omega
    simp [idx_call, lim, h1, h2, h, w1, e1, e2, e3, e4, cutP, hc, pureR, Tryz.f325]
    rw [List.take_of_length_le (by simp)]
  · have hc : Lib.cut a b = (a, [], false) := by unfold Lib.cut; rw [if_neg h]
    simp [idx_call, lim, h1, h2, h, cutP, hc, pureR, Tryz.f325]
theorem cut_sound : SpecSound Tryz.prog 325 (hPure false [] (FTT cutP fun _ _ => True)) :=
  pureS (fn := Tryz.f325) goodi ⟨_, Tryz.func325, by kernel_rfl, rfl, by kernel_rfl⟩ false [] _ fun args r h => by
    obtain ⟨a, b, rfl, h1, h2, _, rfl⟩ := FTT_inv h
    exact ⟨by simp [Tryz.f325], _, cut_eval a b h1 h2, up_of _⟩
def hpP (a b : List UInt8) : PV := boo (b.isPrefixOf a)
theorem prefix_take (a b : List UInt8) : (decide (b.length ≤ a.length) && (a.take b.length == b)) = b.isPrefixOf a := by
  rw [Bool.eq_iff_iff]
  simp only [Bool.and_eq_true, decide_eq_true_eq, beq_iff_eq, List.isPrefixOf_iff_prefix]
  constructor
  · rintro ⟨_, h⟩; exact List.prefix_iff_eq_take.2 h.symm
  · intro h; exact ⟨h.length_le, (List.prefix_iff_eq_take.1 h).symm⟩
noncomputable abbrev Cw0 : Ctx := mkCtx Tryz.prog []
theorem goodw0 : AM.Good Cw0 (fun g => ([] : List Nat).contains g) := good_of mixed trivial
set_option maxRecDepth 4000 in
theorem hasPrefix0_eval (a b : List UInt8) : evalPure Cw0 Tryz.f306 [str a, str b] = some (hpP a b) := by
  refine evalPure_of rfl ?_
  have hp := prefix_take a b
  by_cases h : b.length ≤ a.length
  · rw [decide_eq_true h, Bool.true_and] at hp
    simp [h, hpP, ← hp, Tryz.f306]
  · rw [decide_eq_false h, Bool.false_and] at hp
    have h' : ¬ ((b.length : Int) ≤ a.length) := by omega
    simp [h, h', hpP, ← hp, Tryz.f306]
theorem hasPrefix0_sound : SpecSound Tryz.prog 306 (hPure false [] (FTT hpP fun _ _ => True)) :=
  pureS (fn := Tryz.f306) goodw0 ⟨_, Tryz.func306, by kernel_rfl, rfl, by kernel_rfl⟩ false [] _ fun args r h => by
    obtain ⟨a, b, rfl, h1, h2, _, rfl⟩ := FTT_inv h
    exact ⟨by simp [Tryz.f306], _, hasPrefix0_eval a b, up_of _⟩
noncomputable abbrev Cw1 : Ctx := mkCtx Tryz.prog [(306, hPure false [] (FTT hpP fun _ _ => True)), (325, hPure false [] (FTT cutP fun _ _ => True))]
theorem goodw1 : AM.Good Cw1 (fun g => [306].contains g) := good_of mixed ⟨hasPrefix0_sound, fun _ => hPure_quiet _ _, cut_sound, fun _ => hPure_quiet _ _, trivial⟩
theorem hp_call (a b : List UInt8) (hp : Hp) (nx : Nat) (h : a.length ≤ lim) (h2 : b.length ≤ lim) : hPure false [] (FTT hpP fun _ _ => True) [str a, str b] hp nx = some (boo (b.isPrefixOf a), hp, nx) := FTT_call _ _ a b hp nx h h2 trivial rfl
theorem cut_call (a b : List UInt8) (hp : Hp) (nx : Nat) (h : a.length ≤ lim) (h2 : b.length ≤ lim) : hPure false [] (FTT cutP fun _ _ => True) [str a, str b] hp nx = some (.tup [str (Lib.cut a b).1, str (Lib.cut a b).2.1, boo (Lib.cut a b).2.2], hp, nx) := FTT_call _ _ a b hp nx h h2 trivial rfl
theorem hasPrefix_sound : SpecSound Tryz.prog 264 (hPure false [] (FTT hpP fun _ _ => True)) :=
  pureS (fn := Tryz.f264) goodw1 ⟨_, Tryz.func264, by kernel_rfl, rfl, by kernel_rfl⟩ false [] _ fun args r h => by
    obtain ⟨a, b, rfl, h1, h2, _, rfl⟩ := FTT_inv h
    exact ⟨by simp [Tryz.f264], _, evalPure_of rfl (by simp [hp_call, h1, h2, hpP, Tryz.f264]), up_of _⟩
theorem sCut_sound : SpecSound Tryz.prog 285 (hPure false [] (FTT cutP fun _ _ => True)) :=
  pureS (fn := Tryz.f285) goodw1 ⟨_, Tryz.func285, by kernel_rfl, rfl, by kernel_rfl⟩ false [] _ fun args r h => by
    obtain ⟨a, b, rfl, h1, h2, _, rfl⟩ := FTT_inv h
    exact ⟨by simp [Tryz.f285], _, evalPure_of rfl (by simp [cut_call, h1, h2, cutP, pureR, Tryz.f285]), up_of _⟩
def cpP (a b : List UInt8) : PV := .tup [str (if b.isPrefixOf a then a.drop b.length else a), boo (b.isPrefixOf a)]
set_option maxRecDepth 4000 in
theorem cutPrefix0_eval (a b : List UInt8) (h1 : a.length ≤ lim) (h2 : b.length ≤ lim) : evalPure Cw1 Tryz.f310 [str a, str b] = some (cpP a b) := by
  refine evalPure_of rfl ?_
  cases h : b.isPrefixOf a
  · simp [hp_call, h1, h2, h, cpP, pureR, Tryz.f310]
  · have hl := (List.isPrefixOf_iff_prefix.1 h).length_le
    simp [hp_call, h1, h2, h, hl, cpP, pureR, Tryz.f310]
    rw [List.take_of_length_le (by simp)]
theorem cutPrefix0_sound : SpecSound Tryz.prog 310 (hPure false [] (FTT cpP fun _ _ => True)) :=
  pureS (fn := Tryz.f310) goodw1 ⟨_, Tryz.func310, by kernel_rfl, rfl, by kernel_rfl⟩ false [] _ fun args r h => by
    obtain ⟨a, b, rfl, h1, h2, _, rfl⟩ := FTT_inv h
    exact ⟨by simp [Tryz.f310], _, cutPrefix0_eval a b h1 h2, up_of _⟩
noncomputable abbrev Cw2 : Ctx := mkCtx Tryz.prog [(310, hPure false [] (FTT cpP fun _ _ => True))]
theorem goodw2 : AM.Good Cw2 (fun g => ([] : List Nat).contains g) := good_of mixed ⟨cutPrefix0_sound, fun _ => hPure_quiet _ _, trivial⟩
theorem cp_call (a b : List UInt8) (hp : Hp) (nx : Nat) (h : a.length ≤ lim) (h2 : b.length ≤ lim) : hPure false [] (FTT cpP fun _ _ => True) [str a, str b] hp nx = some (.tup [str (if b.isPrefixOf a then a.drop b.length else a), boo (b.isPrefixOf a)], hp, nx) := FTT_call _ _ a b hp nx h h2 trivial rfl
theorem cutPrefix_sound : SpecSound Tryz.prog 270 (hPure false [] (FTT cpP fun _ _ => True)) :=
  pureS (fn := Tryz.f270) goodw2 ⟨_, Tryz.func270, by kernel_rfl, rfl, by kernel_rfl⟩ false [] _ fun args r h => by
    obtain ⟨a, b, rfl, h1, h2, _, rfl⟩ := FTT_inv h
    exact ⟨by simp [Tryz.f270], _, evalPure_of rfl (by simp [cp_call, h1, h2, cpP, pureR, Tryz.f270]), up_of _⟩
def tlP (a b : List UInt8) : PV := str (Lib.trimLeftB a (b.headD 0))
def tbP (a b : List UInt8) : PV := str (Lib.trimB a (b.headD 0))
def one7 (b : List UInt8) : Prop := ∃ c : UInt8, b = [c] ∧ c.toNat < 128
theorem trimLeft_sound : SpecSound Tryz.prog 280 (hPure false [] (FTT tlP fun _ b => one7 b)) :=
  sound_scalarG ⟨_, Tryz.func280, by kernel_rfl, by kernel_rfl⟩ fun args r h => by
    obtain ⟨a, b, rfl, h1, h2, ⟨c, rfl, hc⟩, rfl⟩ := FTT_inv h
    refine ⟨[.string ⟨a.toArray⟩, .string ⟨#[c]⟩], rfl, by simp [lit], rfl, .string ⟨(Lib.trimLeftB a c).toArray⟩, fun w S => .v rfl, fun w S _ => ?_⟩
    refine (Any.strings_TrimLeft_one Tryz.lays161 ⟨a.toArray⟩ c hc w).mono fun e w' hh => ?_
    obtain ⟨rfl, rfl⟩ := hh
    exact ⟨by simp, Fr.refl _ _⟩
theorem sTrim_sound : SpecSound Tryz.prog 279 (hPure false [] (FTT tbP fun _ b => one7 b)) :=
  sound_scalarG ⟨_, Tryz.func279, by kernel_rfl, by kernel_rfl⟩ fun args r h => by
    obtain ⟨a, b, rfl, h1, h2, ⟨c, rfl, hc⟩, rfl⟩ := FTT_inv h
    unfold lim at h1
    refine ⟨[.string ⟨a.toArray⟩, .string ⟨#[c]⟩], rfl, by simp [lit], rfl, .string ⟨(Lib.trimB a c).toArray⟩, fun w S => .v rfl, fun w S _ => ?_⟩
    refine (Any.strings_Trim_one Tryz.lays160 ⟨a.toArray⟩ c hc w (by simp; omega)).mono fun e w' hh => ?_
    obtain ⟨rfl, rfl | rfl⟩ := hh
    · exact ⟨by simp, Fr.refl _ _⟩
    · exact ⟨by simp, Fr.drew _ _⟩
/-- A text and a byte. -/
noncomputable def FSB (f : List UInt8 → UInt8 → PV) : List PV → Option PV := specOf (α := List UInt8 × UInt8) (fun a => [str a.1, byte a.2]) (fun a => a.1.length ≤ lim) (fun a => f a.1 a.2)
theorem sb_inj : ∀ a b : List UInt8 × UInt8, [str a.1, byte a.2] = [str b.1, byte b.2] → a = b := by
  rintro ⟨a1, a2⟩ ⟨b1, b2⟩ e
  simp only [List.cons.injEq, and_true] at e
  have h2 := pint_inj e.2
  have h3 : a2.toNat = b2.toNat := by omega
  rw [str_inj e.1, UInt8.toNat_inj.1 h3]
theorem FSB_call (f : List UInt8 → UInt8 → PV) (a : List UInt8) (c : UInt8) (hp : Hp) (nx : Nat) (h : a.length ≤ lim) (hf : (f a c).flat = true) : hPure false [] (FSB f) [str a, byte c] hp nx = some (f a c, hp, nx) :=
  hPure_v rfl (specOf_eq (enc := fun a : List UInt8 × UInt8 => [str a.1, byte a.2]) (a := (a, c)) sb_inj h) (.inl hf)
def ibP (a : List UInt8) (c : UInt8) : PV := int (Lib.indexByte a c)
theorem indexByte_sound : SpecSound Tryz.prog 282 (hPure false [] (FSB ibP)) :=
  sound_scalarG ⟨_, Tryz.func282, by kernel_rfl, by kernel_rfl⟩ fun args r h => by
    obtain ⟨⟨a, c⟩, rfl, h1, rfl⟩ := specOf_inv h
    refine ⟨[.string ⟨a.toArray⟩, .int .u8 c.toNat], rfl, by simp [lit], rfl, .int .i64 (Lib.indexByte a c), fun w S => .v rfl, fun w S _ => ?_⟩
    refine (Any.strings_IndexByte Tryz.lays137 ⟨a.toArray⟩ c.toNat w).mono fun e w' hh => ?_
    obtain ⟨rfl, rfl⟩ := hh
    exact ⟨by simp, Fr.refl _ _⟩
end Go.Proofs.YtfjeckcbnhohmaaGreatDoor
namespace Go.Proofs.YtfjeckcbnhohmaaGreatDoor
open Go.RowKit Go.AM

/-- A row of texts, the last k not laid yet. -/
def srow (done : List (List UInt8)) (k : Nat) : List (List PV) := done.map (fun p => [str p]) ++ List.replicate k [str []]
theorem srow_len (done : List (List UInt8)) (k : Nat) : (srow done k).length = done.length + k := by simp [srow]
theorem srow_set (done : List (List UInt8)) (k : Nat) (p : List UInt8) : (srow done (k + 1)).set done.length [str p] = srow (done ++ [p]) k := by
  unfold srow
  rw [List.set_append_right _ _ (by simp)]
  simp [List.replicate_succ]
theorem srow_get (done : List (List UInt8)) (k : Nat) : (srow done (k + 1))[done.length]? = some [str []] := by
  unfold srow
  rw [List.getElem?_append_right (by simp)]
  simp [List.replicate_succ]
theorem srow_full (done : List (List UInt8)) : srow done 0 = done.map fun p => [str p] := by simp [srow]
def splitL (s sep : List UInt8) : List (List UInt8) := Lib.split s sep
theorem splitK_hit {sep s : List UInt8} {i k : Nat} (h : Lib.index s sep = i) : Lib.splitK sep 0 (k + 1) s = s.take i :: Lib.splitK sep 0 k (s.drop (i + sep.length)) := by
  have h1 : ¬ (Lib.index s sep == -1) = true := by rw [beq_iff_eq]; omega
  rw [Lib.splitK, if_neg h1, h]
  simp
theorem count_len {s sep : List UInt8} (h : sep ≠ []) : Lib.count s sep ≤ s.length := by
  have := Lib.countB_le ⟨sep.toArray⟩ (by cases sep <;> simp_all) s.length ⟨s.toArray⟩ (by simp)
  simpa [Lib.countB] using this
theorem cnt_call (a b : List UInt8) (hp : Hp) (nx : Nat) (h : a.length ≤ lim) (h2 : b.length ≤ lim) (h3 : 1 ≤ b.length) : hPure false [] (FTT cntP fun _ b => 1 ≤ b.length) [str a, str b] hp nx = some (int (Lib.count a b), hp, nx) := FTT_call _ _ a b hp nx h h2 h3 rfl
def blkT (xs : List (List UInt8)) : Blk := ⟨9, 1, true, xs.map fun p => [str p]⟩
set_option maxRecDepth 8000 in
theorem genSplit_eval (s sep : List UInt8) (h1 : s.length ≤ lim) (h2 : sep.length ≤ lim) (h3 : 1 ≤ sep.length) :
    ∃ x hp nx, evalFunc Ci2 Tryz.f230 [str s, str sep, int 0, int (-1)] (fun _ => none) 0 = some (x, hp, nx) ∧ OwnR (some (blkT (splitL s sep))) x hp nx := by
  have hne : sep ≠ [] := by intro e; subst e; simp at h3
  have hcl := count_len (s := s) hne
  unfold lim at h1 h2
  refine evalFuncR_of rfl ?_
  have hse : (sep == []) = false := by simpa using hne
  have w1 : IntKind.i64.wrap ((Lib.count s sep : Int) + 1) = (Lib.count s sep : Int) + 1 := wrap_fit (by omega) (by omega)
  have w2 : IntKind.i64.wrap ((s.length : Int) + 1) = (s.length : Int) + 1 := wrap_fit (by omega) (by omega)
  have w3 : (if (s.length : Int) + 1 < (Lib.count s sep : Int) + 1 then (s.length : Int) + 1 else (Lib.count s sep : Int) + 1) = (Lib.count s sep : Int) + 1 := if_neg (by omega)
  have w4 : IntKind.i64.wrap ((Lib.count s sep : Int) + 1 - 1) = (Lib.count s sep : Int) := by rw [wrap_fit (by omega) (by omega)]; omega
  have w5 : IntKind.i64.wrap (Lib.count s sep : Int) = Lib.count s sep := wrap_fit (by omega) (by omega)
  have c1 : ((Lib.count s sep : Int) + 1).toNat = Lib.count s sep + 1 := by omega
  have c2 : 0 ≤ (Lib.count s sep : Int) + 1 := by omega
  have c3 : Lib.count s sep + 1 ≤ maxLen := by simp [maxLen]; omega
  have c4 : (Lib.count s sep + 1) * 16 ≤ 140737488355328 := by omega
  have hcc := fun hp nx => cnt_call s sep hp nx (by unfold lim; omega) (by unfold lim; omega) h3
  have hnl : ¬ s.length < Lib.count s sep := by omega
  have c5 : (Lib.count s sep : Int) + 1 ≤ (maxLen : Int) := by simp [maxLen]; omega
  simp [hse, hcc, w1, w2, hnl, w4, w5, makeSliceA, c1, c2, c5, c4]
  refine EvC_for (fun j σ hp nx => ∃ done cur, done.length = j ∧ σ 0 = str cur ∧ σ 1 = str sep ∧ σ 2 = int 0 ∧ σ 3 = int (Lib.count s sep) ∧ σ 9 = .own 0 0 (Lib.count s sep + 1) ∧ σ 10 = int j ∧
      hp 0 = some ⟨9, 1, true, srow done (Lib.count s sep + 1 - j)⟩ ∧ j + Lib.count cur sep = Lib.count s sep ∧ splitL s sep = done ++ splitL cur sep ∧ cur.length ≤ s.length) (Lib.count s sep)
    ⟨[], s, rfl, by simp, by simp, by simp, by simp [w5], by simp, by simp, by simp [srow], by simp, by simp, Nat.le_refl _⟩ ?_
  rintro j σ hp nx hj ⟨done, cur, hd, h0, g1, g2, g3, g9, g10, hb, hc, hs, hl⟩
  have hii : ∀ hp nx, hPure false [] (FTT idxP fun _ _ => True) [str cur, str sep] hp nx = some (int (Lib.index cur sep), hp, nx) := fun hp nx => idx_call cur sep hp nx (by unfold lim; omega) (by unfold lim; omega)
  by_cases hlt : j < Lib.count s sep
  · have hm : Lib.index cur sep ≠ -1 := fun e => by have := Lib.count_miss e; omega
    have hge : 0 ≤ Lib.index cur sep := by
      rcases Lib.index_spec cur sep with ⟨h, _⟩ | ⟨i, h, _⟩
      · exact absurd h hm
      · omega
    obtain ⟨i, hi⟩ : ∃ i : Nat, Lib.index cur sep = i := ⟨(Lib.index cur sep).toNat, by omega⟩
    have hr := Lib.index_room cur sep hge
    rw [hi] at hr hii
    have hch := Lib.count_hit hne hi
    have hsk : splitL cur sep = cur.take i :: splitL (cur.drop (i + sep.length)) sep := by
      unfold splitL Lib.split
      rw [hch, Nat.add_comm 1, splitK_hit hi]
    have k1 : ¬ ((i : Int) < 0) := by omega
    have k2 : IntKind.i64.wrap (i : Int) = i := wrap_fit (by omega) (by omega)
    have k3 : IntKind.i64.wrap ((i : Int) + sep.length) = (i : Int) + sep.length := wrap_fit (by omega) (by omega)
    have k4 : IntKind.i64.wrap ((j : Int) + 1) = (j : Int) + 1 := wrap_fit (by omega) (by omega)
    have k5 : ((i : Int) + sep.length).toNat = i + sep.length := by omega
    have k6 : i + sep.length ≤ cur.length := by omega
    have k7 : i ≤ cur.length := by omega
    have k8 : 0 ≤ (i : Int) + sep.length := by omega
    have k9 : j < Lib.count s sep + 1 := by omega
    have hq : Lib.count s sep + 1 - j = (Lib.count s sep - j) + 1 := by omega
    have hg := srow_get done (Lib.count s sep - j)
    rw [hd] at hg
    have hst := srow_set done (Lib.count s sep - j) (cur.take i)
    rw [hd] at hst
    rw [hq] at hb
    simp [h0, g1, g2, g3, g9, g10, hb, hlt, hii, k1, k2, k3, k4, k5, k6, k7, k8, k9, hg, hst]
    have ht : List.take (cur.length - (i + sep.length)) (List.drop (i + sep.length) cur) = List.drop (i + sep.length) cur := List.take_of_length_le (by simp)
    rw [ht]
    exact ⟨by omega, done ++ [cur.take i], by simp [hd], rfl, by omega, by rw [hs, hsk]; simp, by omega⟩
  · obtain rfl : j = Lib.count s sep := by omega
    have hz : Lib.count cur sep = 0 := by omega
    have hsk : splitL cur sep = [cur] := by unfold splitL Lib.split; rw [hz]; rfl
    have hq : Lib.count s sep + 1 - Lib.count s sep = 0 + 1 := by omega
    have hg := srow_get done 0
    have hst := srow_set done 0 cur
    rw [hd] at hg hst
    rw [hq] at hb
    simp [h0, g1, g2, g3, g9, g10, hb, hg, hst, w1, w5, c1, c2, OwnR, sliceA, Tryz.f230]
    rw [hs, hsk]
    exact ⟨0, ⟨by omega, by simp [blkT, hd]⟩, by simp [blkT, srow_full]⟩


noncomputable def FGs : List PV → Option (Option Blk) := specOf (α := List UInt8 × List UInt8) (fun a => [str a.1, str a.2, int 0, int (-1)]) (fun a => a.1.length ≤ lim ∧ a.2.length ≤ lim ∧ 1 ≤ a.2.length) (fun a => some (blkT (splitL a.1 a.2)))
noncomputable def FSp : List PV → Option (Option Blk) := specOf (α := List UInt8 × List UInt8) (fun a => [str a.1, str a.2]) (fun a => a.1.length ≤ lim ∧ a.2.length ≤ lim ∧ 1 ≤ a.2.length) (fun a => some (blkT (splitL a.1 a.2)))
theorem gs_inj : ∀ a b : List UInt8 × List UInt8, [str a.1, str a.2, int 0, int (-1)] = [str b.1, str b.2, int 0, int (-1)] → a = b := by
  rintro ⟨a1, a2⟩ ⟨b1, b2⟩ e
  simp only [List.cons.injEq, and_true] at e
  rw [str_inj e.1, str_inj e.2]
theorem genSplit_sound : SpecSound Tryz.prog 230 (hFresh [] FGs) :=
  hFresh_sound (fn := Tryz.f230) (code := _) goodi2 ⟨Tryz.func230, by kernel_rfl, rfl, by kernel_rfl⟩ [] _ fun args r h => by
    obtain ⟨⟨a, b⟩, rfl, ⟨h1, h2, h3⟩, rfl⟩ := specOf_inv h
    exact ⟨by simp [Tryz.f230], genSplit_eval a b h1 h2 h3⟩
theorem gs_call (a b : List UInt8) (hp : Hp) (nx : Nat) (h1 : a.length ≤ lim) (h2 : b.length ≤ lim) (h3 : 1 ≤ b.length) : hFresh [] FGs [str a, str b, int 0, int (-1)] hp nx = some (.own nx 0 (splitL a b).length, upd hp nx (some (blkT (splitL a b))), nx + 1) := by
  have e : FGs (normArgs [] [str a, str b, int 0, int (-1)]) = some (some (blkT (splitL a b))) := specOf_eq (enc := fun a : List UInt8 × List UInt8 => [str a.1, str a.2, int 0, int (-1)]) (a := (a, b)) gs_inj ⟨h1, h2, h3⟩
  simp [hFresh, e, blkT]
noncomputable abbrev Csp : Ctx := mkCtx Tryz.prog [(230, hFresh [] FGs)]
theorem goodsp : AM.Good Csp (fun g => ([] : List Nat).contains g) := good_of mixed ⟨genSplit_sound, by simp, trivial⟩
theorem split_sound : SpecSound Tryz.prog 165 (hFresh [] FSp) :=
  hFresh_sound (fn := Tryz.f165) (code := _) goodsp ⟨Tryz.func165, by kernel_rfl, rfl, by kernel_rfl⟩ [] _ fun args r h => by
    obtain ⟨⟨a, b⟩, rfl, ⟨h1, h2, h3⟩, rfl⟩ := specOf_inv h
    have hc := fun hp nx => gs_call a b hp nx h1 h2 h3
    exact ⟨by simp [Tryz.f165], evalFuncR_of rfl (by simp [hc, OwnR, blkT, Tryz.f165])⟩
theorem split_call (a b : List UInt8) (hp : Hp) (nx : Nat) (h1 : a.length ≤ lim) (h2 : b.length ≤ lim) (h3 : 1 ≤ b.length) : hFresh [] FSp [str a, str b] hp nx = some (.own nx 0 (splitL a b).length, upd hp nx (some (blkT (splitL a b))), nx + 1) := by
  have e : FSp (normArgs [] [str a, str b]) = some (some (blkT (splitL a b))) := specOf_eq (enc := fun a : List UInt8 × List UInt8 => [str a.1, str a.2]) (a := (a, b)) ss_inj ⟨h1, h2, h3⟩
  simp [hFresh, e, blkT]
end Go.Proofs.YtfjeckcbnhohmaaGreatDoor
namespace Go.Proofs.YtfjeckcbnhohmaaGreatDoor
open Go.RowKit Go.AM

def digB (c : UInt8) : Bool := pr 48 57 c
def digs (l : List UInt8) : Bool := l.all digB
/-- A decimal number without a needless 0. -/
def wholeB (l : List UInt8) : Bool := !(l == []) && !(decide (1 < l.length) && l.headD 0 == 48) && digs l
def openB (l : List UInt8) : Bool := l == [120] || l == [88] || l == [42]
def preC (c : UInt8) : Bool := pr 97 122 c || pr 65 90 c || pr 48 57 c || c == 45
def preB (l : List UInt8) : Bool := l.all preC && !(l == [])
theorem digs_drop {l : List UInt8} {k : Nat} (h : k < l.length) : digs (l.drop k) = (digB l[k] && digs (l.drop (k + 1))) := all_drop h
theorem pres_drop {l : List UInt8} {k : Nat} (h : k < l.length) : (l.drop k).all preC = (preC l[k] && (l.drop (k + 1)).all preC) := all_drop h

set_option maxRecDepth 4000 in
theorem allDigits_eval (l : List UInt8) (hl : l.length ≤ lim) : evalPure C0 Tryz.f341 [str l] = some (boo (digs l)) := by
  refine evalPure_of rfl ?_
  unfold lim at hl
  simp
  refine EvC_for (fun k σ hp nx => σ 0 = str l ∧ σ 5 = int l.length ∧ σ 6 = int k ∧ digs l = digs (l.drop k)) l.length ⟨by simp, by simp, by simp, by simp⟩ ?_
  rintro k σ hp nx hk ⟨h0, h5, h6, he⟩
  by_cases hlt : k < l.length
  · have hw : IntKind.i64.wrap ((k : Int) + 1) = (k : Int) + 1 := wrap_fit (by omega) (by omega)
    rw [digs_drop hlt] at he
    have ho := pr_out 48 57 l[k]
    simp only [Int.cast_ofNat_Int] at ho
    cases hc : digB l[k]
    · have he : digs l = false := by rw [he, hc]; rfl
      have hc' : pr 48 57 l[k] = false := hc
      simp [h0, h5, h6, hlt, he, ho, hc', Tryz.f341]
    · have hc' : pr 48 57 l[k] = true := hc
      simp [h0, h5, h6, hlt, ho, hc', hw]
      exact ⟨hlt, by rw [he, hc]; rfl⟩
  · obtain rfl : k = l.length := by omega
    have he : digs l = true := by rw [he, List.drop_length]; rfl
    simp [h0, h5, h6, he, Tryz.f341]
theorem allDigits_sound : SpecSound Tryz.prog 341 (hPure false [] (FS digs)) :=
  pureS (fn := Tryz.f341) good0 ⟨_, Tryz.func341, by kernel_rfl, rfl, by kernel_rfl⟩ false [] _ fun args r h => by
    obtain ⟨l, rfl, hp, rfl⟩ := specOf_inv h
    exact ⟨by simp [Tryz.f341], _, allDigits_eval l hp, up_of _⟩
noncomputable abbrev Cdg : Ctx := mkCtx Tryz.prog [(341, hPure false [] (FS digs))]
theorem gooddg : AM.Good Cdg (fun g => [341].contains g) := good_of mixed ⟨allDigits_sound, fun _ => hPure_quiet _ _, trivial⟩
set_option maxRecDepth 4000 in
theorem whole_eval (l : List UInt8) (hl : l.length ≤ lim) : evalPure Cdg Tryz.f308 [str l] = some (boo (wholeB l)) := by
  refine evalPure_of rfl ?_
  have hd := fun hp nx => FS_call digs l hp nx hl
  cases l with
  | nil => simp [wholeB, Tryz.f308]
  | cons c l =>
    by_cases h1 : 0 < l.length
    · have h1' : l ≠ [] := by intro e; subst e; simp at h1
      have h4 : (1 : Int) < (l.length : Int) + 1 := by omega
      by_cases h2 : c = 48
      · subst h2
        simp [hd, h1, h1', h4, wholeB, Tryz.f308]
      · have h3 : ((c.toNat : Int) == 48) = false := by
          rw [beq_eq_false_iff_ne]; intro e; apply h2; rw [← UInt8.toNat_inj]; simp; omega
        simp [hd, h1, h1', h2, h3, h4, wholeB, Tryz.f308]
    · have h1' : l = [] := by cases l <;> simp_all
      subst h1'
      simp [hd, wholeB, Tryz.f308]
theorem whole_sound : SpecSound Tryz.prog 308 (hPure false [] (FS wholeB)) :=
  pureS (fn := Tryz.f308) gooddg ⟨_, Tryz.func308, by kernel_rfl, rfl, by kernel_rfl⟩ false [] _ fun args r h => by
    obtain ⟨l, rfl, hp, rfl⟩ := specOf_inv h
    exact ⟨by simp [Tryz.f308], _, whole_eval l hp, up_of _⟩
set_option maxRecDepth 4000 in
theorem open_eval (l : List UInt8) : evalPure C0 Tryz.f215 [str l] = some (boo (openB l)) := by
  refine evalPure_of rfl ?_
  cases h1 : (l == [120])
  · cases h2 : (l == [88])
    · simp [h1, h2, openB, Tryz.f215]
    · simp [h1, h2, openB, Tryz.f215]
  · simp [h1, openB, Tryz.f215]
theorem open_sound : SpecSound Tryz.prog 215 (hPure false [] (FS openB)) :=
  pureS (fn := Tryz.f215) good0 ⟨_, Tryz.func215, by kernel_rfl, rfl, by kernel_rfl⟩ false [] _ fun args r h => by
    obtain ⟨l, rfl, hp, rfl⟩ := specOf_inv h
    exact ⟨by simp [Tryz.f215], _, open_eval l, up_of _⟩

/-- The number that digits spell. -/
def numB (l : List UInt8) : Int := ((Lib.decNat l).getD 0 : Nat)
theorem decFrom_some : ∀ (l : List UInt8) (a : Nat), digs l = true → ∃ n, Lib.decFrom a l = some n ∧ n < (a + 1) * 10 ^ l.length
  | [], a, _ => ⟨a, rfl, by simp⟩
  | c :: l, a, h => by
    simp only [digs, List.all_cons, Bool.and_eq_true] at h
    have hc : 48 ≤ c.toNat ∧ c.toNat ≤ 57 := by have := h.1; simpa [digB, pr] using this
    obtain ⟨n, h1, h2⟩ := decFrom_some l (a * 10 + (c.toNat - 48)) h.2
    refine ⟨n, ?_, ?_⟩
    · simp only [Lib.decFrom, Lib.digitVal, hc, and_self, if_true]
      exact h1
    · have h3 : a * 10 + (c.toNat - 48) + 1 ≤ (a + 1) * 10 := by omega
      calc n < (a * 10 + (c.toNat - 48) + 1) * 10 ^ l.length := h2
        _ ≤ (a + 1) * 10 * 10 ^ l.length := Nat.mul_le_mul_right _ h3
        _ = (a + 1) * 10 ^ (c :: l).length := by rw [List.length_cons, Nat.pow_succ, Nat.mul_assoc, Nat.mul_comm 10]
theorem whole_ne {l : List UInt8} (h : wholeB l = true) : l ≠ [] ∧ digs l = true := by
  simp only [wholeB, Bool.and_eq_true] at h
  exact ⟨by intro e; subst e; simp at h, h.2⟩
theorem atoi_whole {l : List UInt8} (h : wholeB l = true) : Lib.atoi l = some (numB l) := by
  obtain ⟨h1, h2⟩ := whole_ne h
  obtain ⟨n, h3, _⟩ := decFrom_some l 0 h2
  have h4 : Lib.decNat l = some n := by
    unfold Lib.decNat
    rw [if_neg (by simpa using h1)]
    exact h3
  cases l with
  | nil => exact absurd rfl h1
  | cons c l =>
    have hc : 48 ≤ c.toNat ∧ c.toNat ≤ 57 := by
      have := h2
      simp only [digs, List.all_cons, Bool.and_eq_true] at this
      simpa [digB, pr] using this.1
    have hn : numB (c :: l) = n := by unfold numB; rw [h4]; rfl
    rw [hn]
    have hx : ∀ d : UInt8, d.toNat < 48 → (c == d) = false := fun d hd => by
      rw [beq_eq_false_iff_ne]; intro e; subst e; omega
    unfold Lib.atoi
    simp only []
    rw [hx 45 (by decide), hx 43 (by decide), h4]
    rfl
/-- Atoi of a number of at most 18 digits. -/
noncomputable def FAt : List PV → Option PV := specOf (α := List UInt8) (fun l => [str l]) (fun l => l.length ≤ 18 ∧ wholeB l = true) (fun l => .tup [int (numB l), .v .nilIface])
theorem fr_bytes (w : World) (e : TypeId) (s : ByteArray) : Fr w (fun _ => False) (Lib.bytesWorld w e s) := by
  have h1 : ∀ (w1 : World) (a : Addr) (n k : Nat), k ≠ a.block → (w1.freeze a n).heap[k]? = w1.heap[k]? := by
    intro w1 a n k hk
    unfold World.freeze
    split
    · rfl
    · simp [Array.getElem?_modify, Ne.symm hk]
  have h2 : ∀ (w1 : World) (a : Addr) (n : Nat), (w1.freeze a n).heap.size = w1.heap.size := by
    intro w1 a n
    unfold World.freeze
    split <;> simp
  unfold Lib.bytesWorld
  refine ⟨rfl, rfl, rfl, ?_, ?_, fun k hk _ => ?_⟩
  · rw [h2]; simp
  · exact Nat.le_succ _
  · rw [h1 _ _ _ k (by simpa using Nat.ne_of_lt hk)]
    exact (Below.heap_alloc w.drew _ k hk)
@[simp] theorem get_nilI (σ : Nat → PV) : AM.get σ (.const .nilIface) = some (.v .nilIface) := rfl
theorem atoi_sound : SpecSound Tryz.prog 309 (hPure false [] FAt) :=
  sound_scalarG ⟨_, Tryz.func309, by kernel_rfl, by kernel_rfl⟩ fun args r h => by
    obtain ⟨l, rfl, ⟨h1, h2⟩, rfl⟩ := specOf_inv h
    refine ⟨[.string ⟨l.toArray⟩], rfl, by simp [lit], rfl, .tuple #[.int .i64 (numB l), .nilIface], fun w S => .tup rfl fun j pv u hj hu => ?_, fun w S _ => ?_⟩
    · match j, hj, hu with
      | 0, hj, hu => simp at hj hu; subst hj; subst hu; exact .v rfl
      | 1, hj, hu => simp at hj hu; subst hj; subst hu; exact .v rfl
      | j + 2, hj, hu => simp at hj
    refine (Any.strconv_Atoi Tryz.lays172 ⟨l.toArray⟩ (numB l) (by simpa using h1) (by simpa using atoi_whole h2) w).mono fun e w' hh => ?_
    obtain ⟨rfl, t, rfl⟩ := hh
    exact ⟨rfl, fr_bytes _ _ _⟩
theorem atoi_call (l : List UInt8) (hp : Hp) (nx : Nat) (h1 : l.length ≤ 18) (h2 : wholeB l = true) : hPure false [] FAt [str l] hp nx = some (.tup [int (numB l), .v .nilIface], hp, nx) :=
  hPure_v rfl (specOf_eq (enc := fun l : List UInt8 => [str l]) (a := l) (fun a b e => by simp only [List.cons.injEq, and_true] at e; exact str_inj e) ⟨h1, h2⟩) (.inl rfl)
/-- A number of a version, or none. -/
def vnum (l : List UInt8) : Option Int := if wholeB l = true ∧ l.length ≤ 6 then some (numB l) else none
def vnumP (l : List UInt8) : PV := .tup [int ((vnum l).getD 0), boo (vnum l).isSome]
noncomputable def FSP (f : List UInt8 → PV) : List PV → Option PV := specOf (α := List UInt8) (fun l => [str l]) (fun l => l.length ≤ lim) f
theorem FSP_call (f : List UInt8 → PV) (l : List UInt8) (hp : Hp) (nx : Nat) (h : l.length ≤ lim) (hf : (f l).flat = true) : hPure false [] (FSP f) [str l] hp nx = some (f l, hp, nx) :=
  hPure_v rfl (specOf_eq (enc := fun l : List UInt8 => [str l]) (a := l) (fun a b e => by simp only [List.cons.injEq, and_true] at e; exact str_inj e) h) (.inl hf)
noncomputable abbrev Cvn : Ctx := mkCtx Tryz.prog [(308, hPure false [] (FS wholeB)), (309, hPure false [] FAt)]
theorem goodvn : AM.Good Cvn (fun g => [308].contains g) := good_of mixed ⟨whole_sound, fun _ => hPure_quiet _ _, atoi_sound, fun _ => hPure_quiet _ _, trivial⟩
set_option maxRecDepth 4000 in
theorem versionNumber_eval (l : List UInt8) (hl : l.length ≤ lim) : evalPure Cvn Tryz.f269 [str l] = some (vnumP l) := by
  refine evalPure_of rfl ?_
  have hw := fun hp nx => FS_call wholeB l hp nx hl
  cases h1 : wholeB l
  · simp [hw, h1, vnumP, vnum, pureR, Tryz.f269]
  · by_cases h2 : l.length ≤ 6
    · have h3 : ¬ ((6 : Int) < l.length) := by omega
      have ha := fun hp nx => atoi_call l hp nx (by omega) h1
      simp [hw, h1, h2, h3, ha, nilIA, vnumP, vnum, pureR, Tryz.f269]
    · have h3 : (6 : Int) < l.length := by omega
      have h2' : 6 < l.length := by omega
      simp [hw, h1, h2, h2', h3, vnumP, vnum, pureR, Tryz.f269]
theorem versionNumber_sound : SpecSound Tryz.prog 269 (hPure false [] (FSP vnumP)) :=
  pureS (fn := Tryz.f269) goodvn ⟨_, Tryz.func269, by kernel_rfl, rfl, by kernel_rfl⟩ false [] _ fun args r h => by
    obtain ⟨l, rfl, hp, rfl⟩ := specOf_inv h
    exact ⟨by simp [Tryz.f269], _, versionNumber_eval l hp, up_of _⟩
end Go.Proofs.YtfjeckcbnhohmaaGreatDoor
namespace Go.Proofs.YtfjeckcbnhohmaaGreatDoor
open Go.RowKit Go.AM

@[simp] theorem ixArr_ref (P : Program) (hp : Hp) (t : TypeId) (id a b : Nat) (k : IntKind) (i : Int) (h : elemA P t = none) : indexAddrA P hp t (.ref id a b) (.v (.int k i)) = (arrA P t).bind fun me => (sizeA P me.2).bind fun n => if 0 ≤ i ∧ i < me.1 then some (.ref id a (b + i.toNat * n)) else none := by
  simp only [indexAddrA, h, indexArrA]
  cases arrA P t with
  | none => rfl
  | some me =>
    obtain ⟨m, e⟩ := me
    simp only [Option.bind_some]
    cases sizeA P e <;> rfl
@[simp] theorem ixArr_ptr (P : Program) (hp : Hp) (t : TypeId) (cs : List PV) (k : IntKind) (i : Int) (h : elemA P t = none) : indexAddrA P hp t (.ptr cs) (.v (.int k i)) = (arrA P t).bind fun me => (sizeA P me.2).bind fun n => if 0 ≤ i ∧ i < me.1 then some (.ptr (cs.drop (i.toNat * n))) else none := by
  simp only [indexAddrA, h, indexArrA]
  cases arrA P t with
  | none => rfl
  | some me =>
    obtain ⟨m, e⟩ := me
    simp only [Option.bind_some]
    cases sizeA P e <;> rfl
@[simp] theorem wrl0 : IntKind.i64.wrap 0 = 0 := wrap_fit (by decide) (by decide)
@[simp] theorem wrl1 : IntKind.i64.wrap 1 = 1 := wrap_fit (by decide) (by decide)
@[simp] theorem wrl2 : IntKind.i64.wrap 2 = 2 := wrap_fit (by decide) (by decide)
@[simp] theorem wrl3 : IntKind.i64.wrap 3 = 3 := wrap_fit (by decide) (by decide)
@[simp] theorem wrl4 : IntKind.i64.wrap 4 = 4 := wrap_fit (by decide) (by decide)
set_option maxRecDepth 4000 in
theorem isPre_eval (l : List UInt8) (hl : l.length ≤ lim) : evalPure C0 Tryz.f340 [str l] = some (boo (preB l)) := by
  refine evalPure_of rfl ?_
  unfold lim at hl
  simp
  refine EvC_for (fun k σ hp nx => σ 0 = str l ∧ σ 6 = int l.length ∧ σ 7 = int k ∧ l.all preC = (l.drop k).all preC) l.length ⟨by simp, by simp, by simp, by simp⟩ ?_
  rintro k σ hp nx hk ⟨h0, h5, h6, he⟩
  by_cases hlt : k < l.length
  · have hw : IntKind.i64.wrap ((k : Int) + 1) = (k : Int) + 1 := wrap_fit (by omega) (by omega)
    rw [pres_drop hlt] at he
    have ho : (decide ((97 : Int) ≤ l[k].toNat) && decide ((l[k].toNat : Int) ≤ 122) || decide ((65 : Int) ≤ l[k].toNat) && decide ((l[k].toNat : Int) ≤ 90) || decide ((48 : Int) ≤ l[k].toNat) && decide ((l[k].toNat : Int) ≤ 57) || ((l[k].toNat : Int) == 45)) = preC l[k] := by
      have e1 : ((l[k].toNat : Int) == 45) = (l[k] == 45) := by
        rw [Bool.eq_iff_iff]; simp [← UInt8.toNat_inj]; omega
      rw [e1, Bool.eq_iff_iff]
      simp [preC, pr, ← UInt8.toNat_inj]
      omega
    cases hc : preC l[k]
    · have he : l.all preC = false := by rw [he, hc]; rfl
      rw [hc] at ho
      simp [h0, h5, h6, hlt, ho, preB, he, -List.all_eq_true, -List.all_eq_false, Tryz.f340]
    · rw [hc] at ho
      simp [h0, h5, h6, hlt, ho, hw, -List.all_eq_true, -List.all_eq_false]
      exact ⟨hlt, by rw [he, hc]; rfl⟩
  · obtain rfl : k = l.length := by omega
    have he : l.all preC = true := by rw [he, List.drop_length]; rfl
    simp [h0, h5, h6, he, preB, -List.all_eq_true, Tryz.f340]
theorem isPre_sound : SpecSound Tryz.prog 340 (hPure false [] (FS preB)) :=
  pureS (fn := Tryz.f340) good0 ⟨_, Tryz.func340, by kernel_rfl, rfl, by kernel_rfl⟩ false [] _ fun args r h => by
    obtain ⟨l, rfl, hp, rfl⟩ := specOf_inv h
    exact ⟨by simp [Tryz.f340], _, isPre_eval l hp, up_of _⟩
theorem vwithin_sound : SpecSound Tryz.prog 339 (hPure false [] (F3 inB)) :=
  pureS (fn := Tryz.f339) good0 ⟨_, Tryz.func339, by kernel_rfl, rfl, by kernel_rfl⟩ false [] _ fun args r h => by
    obtain ⟨a, b, c, rfl, rfl⟩ := F3_inv h
    exact ⟨by simp [Tryz.f339], _, evalPure_of rfl (by simp [Tryz.f339, inB]), up_of _⟩

/-! ### versions -/
structure Ver where
  a : Int
  b : Int
  c : Int
  pre : List (List UInt8)
def encT (l : List (List UInt8)) : List (List PV) := l.map fun p => [str p]
theorem encT_inj {a b : List (List UInt8)} (h : encT a = encT b) : a = b := map_inj (fun x y e => by simp only [List.cons.injEq, and_true] at e; exact str_inj e) h
@[simp] theorem encT_length (l : List (List UInt8)) : (encT l).length = l.length := by simp [encT]
@[simp] theorem encT_nil : encT [] = [] := rfl
@[simp] theorem encT_take (l : List (List UInt8)) : (encT l).take l.length = encT l := List.take_of_length_le (by simp)
@[simp] theorem encT_cons (p : List UInt8) (l : List (List UInt8)) : encT (p :: l) = [str p] :: encT l := rfl
@[simp] theorem blkT_eq (l : List (List UInt8)) : blkT l = ⟨9, 1, true, encT l⟩ := rfl
@[simp] theorem encT_at {l : List (List UInt8)} {k : Nat} (h : k < (encT l).length) : (encT l)[k] = [str (l[k]'(by simpa using h))] := by simp [encT]
theorem encT_get {l : List (List UInt8)} {k : Nat} (h : k < l.length) : (encT l)[k]? = some [str l[k]] := by simp [encT, h]
def Ver.enc (v : Ver) : List PV := [int v.a, int v.b, int v.c, .sl 1 (encT v.pre)]
theorem venc_inj {a b : Ver} (h : a.enc = b.enc) : a = b := by
  cases a; cases b
  simp only [Ver.enc, List.cons.injEq, and_true] at h
  obtain ⟨h1, h2, h3, h4⟩ := h
  injection h4 with _ h4
  rw [pint_inj h1, pint_inj h2, pint_inj h3, encT_inj h4]
abbrev vpat : List (Option Nat) := [none, none, none, some 1]
def Ver.small (v : Ver) : Prop := v.pre.length ≤ lim ∧ ∀ p ∈ v.pre, p.length ≤ lim
def badPre (p : List UInt8) : Bool := decide (20 < p.length) || !preB p || (digs p && !wholeB p)
def chkV (v : Ver) : Int := if inB v.a 0 999999 = true ∧ inB v.b 0 999999 = true ∧ inB v.c 0 999999 = true then (if 10 < v.pre.length then 2 else if v.pre.any badPre then 3 else 0) else 1
noncomputable def FVr (f : Ver → PV) : List PV → Option PV := specOf (α := Ver) (fun v => [.agg v.enc]) Ver.small f
theorem FVr_call (f : Ver → PV) (v : Ver) (x : PV) (hp hp1 : Hp) (nx : Nat) (y : PV) (hf : freezeVals hp [x] = some ([y], hp1)) (hy : (Sh.g vpat).fix y = .agg v.enc) (h : v.small) (hfl : (f v).flat = true) : hPureN [.g vpat] (FVr f) [x] hp nx = some (f v, hp, nx) := by
  have e : FVr f (fixL [.g vpat] (normArgs [] [y])) = some (f v) := by
    show FVr f [(Sh.g vpat).fix y] = _
    rw [hy]
    exact specOf_eq (enc := fun v : Ver => [PV.agg v.enc]) (a := v) (fun a b e => by simp only [List.cons.injEq, and_true] at e; injection e with e; exact venc_inj e) h
  unfold hPureN hPure
  simp only [hf, e, hfl, true_or, if_true]
noncomputable abbrev Cckv : Ctx := mkCtx Tryz.prog [(339, hPure false [] (F3 inB)), (340, hPure false [] (FS preB)), (341, hPure false [] (FS digs)), (308, hPure false [] (FS wholeB))]
theorem goodckv : AM.Good Cckv (fun g => [339, 340, 341, 308].contains g) := good_of mixed ⟨vwithin_sound, fun _ => hPure_quiet _ _, isPre_sound, fun _ => hPure_quiet _ _, allDigits_sound, fun _ => hPure_quiet _ _, whole_sound, fun _ => hPure_quiet _ _, trivial⟩
@[simp] theorem quietckv1 : QuietIn Cckv 340 := quietIn_of (by rfl) (hPure_quiet _ _)
@[simp] theorem quietckv2 : QuietIn Cckv 341 := quietIn_of (by rfl) (hPure_quiet _ _)
@[simp] theorem quietckv3 : QuietIn Cckv 308 := quietIn_of (by rfl) (hPure_quiet _ _)
set_option maxRecDepth 8000 in
theorem checkVersion_eval (v : Ver) (h : v.small) : evalPure Cckv Tryz.f307 [.agg v.enc] = some (int (chkV v)) := by
  obtain ⟨a, b, c, pre⟩ := v
  obtain ⟨hl, hpl⟩ := h
  simp only at hl hpl
  unfold lim at hl
  refine evalPure_of rfl ?_
  simp [Ver.enc, buildSliceA, setElems, freezeParts]
  rw [EvC_loop_unfold]
  cases h1 : inB a 0 999999
  · simp [h1, chkV, Tryz.f307]
  simp [h1]
  rw [EvC_loop_unfold]
  cases h2 : inB b 0 999999
  · simp [h1, h2, chkV, Tryz.f307]
  simp [h2]
  rw [EvC_loop_unfold]
  cases h3 : inB c 0 999999
  · simp [h1, h2, h3, chkV, Tryz.f307]
  simp [h3]
  rw [EvC_loop_unfold]
  simp
  by_cases h4 : 10 < pre.length
  · have h4' : (10 : Int) < pre.length := by omega
    simp [h1, h2, h3, h4, h4', chkV, Tryz.f307]
  have h4' : ¬ (10 : Int) < pre.length := by omega
  simp [h4, h4']
  have hck : chkV ⟨a, b, c, pre⟩ = if pre.any badPre then 3 else 0 := by simp [chkV, h1, h2, h3, h4]
  rw [hck]
  refine EvC_for (fun k σ hp nx => σ 28 = .sl 1 (encT pre) ∧ σ 29 = int pre.length ∧ σ 30 = int k ∧ pre.any badPre = (pre.drop k).any badPre) pre.length ⟨by simp, by simp, by simp, by simp⟩ ?_
  rintro k σ hp nx hkk ⟨h28, h29, h30, he⟩
  by_cases hlt : k < pre.length
  · have hw : IntKind.i64.wrap ((k : Int) + 1) = (k : Int) + 1 := wrap_fit (by omega) (by omega)
    have hg := encT_get hlt
    rw [List.drop_eq_getElem_cons hlt, List.any_cons] at he
    have hpk := hpl _ (List.getElem_mem hlt)
    have f1 := fun hp nx => FS_call preB pre[k] hp nx hpk
    have f2 := fun hp nx => FS_call digs pre[k] hp nx hpk
    have f3 := fun hp nx => FS_call wholeB pre[k] hp nx hpk
    have hbp : badPre pre[k] = (decide (20 < pre[k].length) || !preB pre[k] || (digs pre[k] && !wholeB pre[k])) := rfl
    have hb1 : (decide ((20 : Int) < pre[k].length) || !preB pre[k] || digs pre[k] && !wholeB pre[k]) = badPre pre[k] := by
      rw [hbp]
      congr 2
      rw [Bool.eq_iff_iff]; simp; omega
    cases hc : badPre pre[k]
    · rw [hc] at hb1
      simp [h28, h29, h30, hlt, hg, f1, f2, f3, hb1, hw]
      exact ⟨hlt, by rw [he, hc]; rfl⟩
    · rw [hc] at hb1
      have he : pre.any badPre = true := by rw [he, hc]; rfl
      simp [h28, h29, h30, hlt, hg, f1, f2, f3, hb1, he, -List.any_eq_true, Tryz.f307]
  · obtain rfl : k = pre.length := by omega
    have he : pre.any badPre = false := by rw [he, List.drop_length]; rfl
    simp [h28, h29, h30, he, -List.any_eq_false, Tryz.f307]
theorem FVr_inv {f : Ver → PV} {args : List PV} {r : PV} (h : FVr f args = some r) : ∃ v : Ver, args = [.agg v.enc] ∧ v.small ∧ r = f v := specOf_inv h
theorem checkVersion_sound : SpecSound Tryz.prog 307 (hPureN [.g vpat] (FVr fun v => int (chkV v))) :=
  pureN_sound (fn := Tryz.f307) goodckv ⟨_, Tryz.func307, by kernel_rfl, rfl, by kernel_rfl⟩ _ _ fun args r h => by
    obtain ⟨v, rfl, hv, rfl⟩ := FVr_inv h
    exact ⟨by simp [Tryz.f307], _, checkVersion_eval v hv, Stands.refl _⟩
end Go.Proofs.YtfjeckcbnhohmaaGreatDoor
namespace Go.Proofs.YtfjeckcbnhohmaaGreatDoor
open Go.RowKit Go.AM

theorem splitK_mem (sep : List UInt8) : ∀ (k : Nat) (s p : List UInt8), p ∈ Lib.splitK sep 0 k s → p.length ≤ s.length
  | 0, s, p, h => by simp [Lib.splitK] at h; rw [h]; exact Nat.le_refl _
  | k + 1, s, p, h => by
    unfold Lib.splitK at h
    split at h
    · simp at h; rw [h]; exact Nat.le_refl _
    · rcases List.mem_cons.1 h with rfl | h
      · simp; omega
      · have := splitK_mem sep k _ p h
        simp at this; omega
theorem splitK_len (sep : List UInt8) : ∀ (k : Nat) (s : List UInt8), (Lib.splitK sep 0 k s).length ≤ k + 1
  | 0, s => by simp [Lib.splitK]
  | k + 1, s => by
    unfold Lib.splitK
    split
    · simp
    · have := splitK_len sep k (s.drop ((Lib.index s sep).toNat + sep.length))
      simp; omega
theorem splitL_mem {s sep p : List UInt8} (h : p ∈ splitL s sep) : p.length ≤ s.length := splitK_mem _ _ _ _ h
theorem splitL_len {s sep : List UInt8} (h : sep ≠ []) : (splitL s sep).length ≤ s.length + 1 := by
  have h1 := splitK_len sep (Lib.count s sep) s
  have h2 := count_len (s := s) h
  exact Nat.le_trans h1 (by omega)
theorem cut_le (s sep : List UInt8) : (Lib.cut s sep).1.length ≤ s.length ∧ (Lib.cut s sep).2.1.length ≤ s.length := by
  unfold Lib.cut
  split
  · simp; omega
  · simp
/-- A text, of less than lim bytes. -/
noncomputable def FSP1 (f : List UInt8 → PV) : List PV → Option PV := specOf (α := List UInt8) (fun l => [str l]) (fun l => l.length + 1 ≤ lim) f
theorem FSP1_call (f : List UInt8 → PV) (l : List UInt8) (hp : Hp) (nx : Nat) (h : l.length + 1 ≤ lim) : hPure false [] (FSP1 f) [str l] hp nx = some (f l, hp, nx) :=
  hPure_v rfl (specOf_eq (enc := fun l : List UInt8 => [str l]) (a := l) (fun a b e => by simp only [List.cons.injEq, and_true] at e; exact str_inj e) h) (.inr (by simp))
def ver0 : Ver := ⟨0, 0, 0, []⟩
def rdPre (t : List UInt8) : List (List UInt8) := if (Lib.cut t [45]).2.2 then splitL (Lib.cut t [45]).2.1 [46] else []
def rdV (t : List UInt8) : Option Ver := match splitL (Lib.cut t [45]).1 [46] with
  | [p0, p1, p2] => match vnum p0, vnum p1, vnum p2 with
    | some a, some b, some c => if chkV ⟨a, b, c, rdPre t⟩ = 0 then some ⟨a, b, c, rdPre t⟩ else none
    | _, _, _ => none
  | _ => none
def rdP (t : List UInt8) : PV := match rdV t with
  | some v => .tup [.agg v.enc, int 0]
  | none => .tup [.agg ver0.enc, int 10]
noncomputable abbrev Crv : Ctx := mkCtx Tryz.prog [(285, hPure false [] (FTT cutP fun _ _ => True)), (165, hFresh [] FSp), (269, hPure false [] (FSP vnumP)), (307, hPureN [.g vpat] (FVr fun v => int (chkV v)))]
theorem goodrv : AM.Good Crv (fun g => ([] : List Nat).contains g) := good_of mixed ⟨sCut_sound, by simp, split_sound, by simp, versionNumber_sound, by simp, checkVersion_sound, by simp, trivial⟩
theorem vnum_call (l : List UInt8) (hp : Hp) (nx : Nat) (h : l.length ≤ lim) : hPure false [] (FSP vnumP) [str l] hp nx = some (.tup [int ((vnum l).getD 0), boo (vnum l).isSome], hp, nx) := FSP_call vnumP l hp nx h rfl
theorem three {α : Type} {l : List α} (h : l.length = 3) : ∃ a b c, l = [a, b, c] := by
  match l, h with
  | [a, b, c], _ => exact ⟨a, b, c, rfl⟩
set_option maxRecDepth 8000 in
theorem readVersion_eval (t : List UInt8) (ht : t.length + 1 ≤ lim) : ∃ r0, evalPure Crv Tryz.f268 [str t] = some r0 ∧ Stands r0 (rdP t) := by
  refine evalPureF2_of (sh := .g vpat) rfl ?_
  have hcl := cut_le t [45]
  have hcut := fun hp nx => cut_call t [45] hp nx (by omega) (by decide)
  have hsp := fun hp nx => split_call (Lib.cut t [45]).1 [46] hp nx (by omega) (by decide) (by decide)
  have hsp2 := fun hp nx => split_call (Lib.cut t [45]).2.1 [46] hp nx (by omega) (by decide) (by decide)
  have hpl : ∀ p ∈ splitL (Lib.cut t [45]).1 [46], p.length ≤ lim := fun p hp => by have := splitL_mem hp; omega
  have hql : ∀ p ∈ splitL (Lib.cut t [45]).2.1 [46], p.length ≤ lim := fun p hp => by have := splitL_mem hp; omega
  have hqn : (splitL (Lib.cut t [45]).2.1 [46]).length ≤ lim := by have := splitL_len (s := (Lib.cut t [45]).2.1) (sep := [46]) (by simp); omega
  by_cases h3 : (splitL (Lib.cut t [45]).1 [46]).length = 3
  · obtain ⟨p0, p1, p2, hps⟩ := three h3
    rw [hps] at hsp hpl
    have hn0 := fun hp nx => vnum_call p0 hp nx (hpl p0 (by simp))
    have hn1 := fun hp nx => vnum_call p1 hp nx (hpl p1 (by simp))
    have hn2 := fun hp nx => vnum_call p2 hp nx (hpl p2 (by simp))
    simp [hcut, hsp]
    rw [EvC_loop_unfold]
    cases e0 : vnum p0 with
    | none =>
      rw [e0] at hn0
      simp [hn0, rdP, rdV, hps, e0, buildA, fillA, pureF2, ver0, Ver.enc, Tryz.f268]
    | some a =>
      rw [e0] at hn0
      simp [hn0]
      rw [EvC_loop_unfold]
      cases e1 : vnum p1 with
      | none =>
        rw [e1] at hn1
        simp [hn1, rdP, rdV, hps, e0, e1, buildA, fillA, pureF2, ver0, Ver.enc, Tryz.f268]
      | some b =>
        rw [e1] at hn1
        simp [hn1]
        rw [EvC_loop_unfold]
        cases e2 : vnum p2 with
        | none =>
          rw [e2] at hn2
          simp [hn2, rdP, rdV, hps, e0, e1, e2, buildA, fillA, pureF2, ver0, Ver.enc, Tryz.f268]
        | some c =>
          rw [e2] at hn2
          simp [hn2]
          rw [EvC_loop_unfold]
          simp [buildA, fillA]
          have hv1 : (⟨a, b, c, []⟩ : Ver).small := ⟨by simp, by simp⟩
          have hv2 : (⟨a, b, c, splitL (Lib.cut t [45]).2.1 [46]⟩ : Ver).small := ⟨hqn, hql⟩
          cases eh : (Lib.cut t [45]).2.2
          · have hck := fun hp nx => FVr_call (fun v => int (chkV v)) ⟨a, b, c, []⟩ (.agg [int a, int b, int c, .nil]) hp hp nx _ rfl rfl hv1 rfl
            by_cases hz : chkV ⟨a, b, c, []⟩ = 0
            · simp [hck, hz, rdP, rdV, rdPre, hps, e0, e1, e2, eh, pureF2, Ver.enc, Tryz.f268]
            · have hz' : (chkV ⟨a, b, c, []⟩ != 0) = true := by simpa using hz
              simp [hck, hz, hz', rdP, rdV, rdPre, hps, e0, e1, e2, eh, buildA, fillA, pureF2, ver0, Ver.enc, Tryz.f268]
          · have hck : ∀ (hp : Hp) (nx id n : Nat), hp id = some ⟨9, 1, true, encT (splitL (Lib.cut t [45]).2.1 [46])⟩ → n = (splitL (Lib.cut t [45]).2.1 [46]).length → hPureN [.g vpat] (FVr fun v => int (chkV v)) [.agg [int a, int b, int c, .own id 0 n]] hp nx = some (int (chkV ⟨a, b, c, splitL (Lib.cut t [45]).2.1 [46]⟩), hp, nx) := by
              intro hp nx id n hh hn
              subst hn
              exact FVr_call (fun v => int (chkV v)) ⟨a, b, c, splitL (Lib.cut t [45]).2.1 [46]⟩ _ hp (upd hp id none) nx (.agg [int a, int b, int c, .sl 1 (encT (splitL (Lib.cut t [45]).2.1 [46]))]) (by simp [hh]) rfl hv2 rfl
            by_cases hz : chkV ⟨a, b, c, splitL (Lib.cut t [45]).2.1 [46]⟩ = 0
            · simp [hsp2, hck, hz, rdP, rdV, rdPre, hps, e0, e1, e2, eh, pureF2, Ver.enc, Tryz.f268]
            · have hz' : (chkV ⟨a, b, c, splitL (Lib.cut t [45]).2.1 [46]⟩ != 0) = true := by simpa using hz
              simp [hsp2, hck, hz, hz', rdP, rdV, rdPre, hps, e0, e1, e2, eh, buildA, fillA, pureF2, ver0, Ver.enc, Tryz.f268]
  · have h3' : (((splitL (Lib.cut t [45]).1 [46]).length : Int) != 3) = true := by simp; omega
    have hr : rdV t = none := by
      unfold rdV
      split
      · rename_i e; rw [e] at h3; simp at h3
      · rfl
    simp [hcut, hsp, h3', h3, rdP, hr, buildA, fillA, pureF2, ver0, Ver.enc, Tryz.f268]
theorem readVersion_sound : SpecSound Tryz.prog 268 (hPure false [] (FSP1 rdP)) :=
  pureG (fn := Tryz.f268) goodrv ⟨_, Tryz.func268, by kernel_rfl, rfl, by kernel_rfl⟩ false [] _ fun args r h w S vs hz => by
    obtain ⟨l, rfl, hp, rfl⟩ := specOf_inv h
    obtain ⟨r0, h1, h2⟩ := readVersion_eval l hp
    exact ⟨_, r0, hz, by simp [Tryz.f268], h1, h2⟩
/-! ### partial versions -/
structure Part where
  n0 : Int
  n1 : Int
  n2 : Int
  has : Int
  pre : List (List UInt8)
def Part.enc (p : Part) : List PV := [int p.n0, int p.n1, int p.n2, int p.has, .sl 1 (encT p.pre)]
abbrev ppat : List (Option Nat) := [none, none, none, none, some 1]
def part0 : Part := ⟨0, 0, 0, 0, []⟩
/-- One more number of a partial version. -/
def Part.put (p : Part) (i : Nat) (n : Int) : Part := match i with
  | 0 => { p with n0 := n, has := p.has + 1 }
  | 1 => { p with n1 := n, has := p.has + 1 }
  | _ => { p with n2 := n, has := p.has + 1 }
def stepPart (p : Part) (i : Nat) (t : List UInt8) : Option Part := if (vnum t).isSome = true ∧ p.has = i then some (p.put i ((vnum t).getD 0)) else if openB t = true ∧ i ≠ 0 then some p else none
def foldPart : Part → Nat → List (List UInt8) → Option Part
  | p, _, [] => some p
  | p, i, t :: l => match stepPart p i t with
    | some q => foldPart q (i + 1) l
    | none => none
def rdPart (t : List UInt8) : Part × Bool := if Lib.contains t [45] = true then (match rdV t with
    | some v => (⟨v.a, v.b, v.c, 3, v.pre⟩, true)
    | none => (⟨0, 0, 0, 3, []⟩, false))
  else if 3 < (splitL t [46]).length then (part0, false) else match foldPart part0 0 (splitL t [46]) with
    | some p => (p, true)
    | none => (part0, false)
end Go.Proofs.YtfjeckcbnhohmaaGreatDoor
namespace Go.Proofs.YtfjeckcbnhohmaaGreatDoor
open Go.RowKit Go.AM

def rdPartP (t : List UInt8) : PV := .tup [.agg (rdPart t).1.enc, boo (rdPart t).2]
noncomputable abbrev Crpv : Ctx := mkCtx Tryz.prog [(267, hPure false [] (FTT hasP fun _ _ => True)), (268, hPure false [] (FSP1 rdP)), (165, hFresh [] FSp), (269, hPure false [] (FSP vnumP)), (215, hPure false [] (FS openB))]
theorem goodrp : AM.Good Crpv (fun g => [215].contains g) := good_of mixed ⟨contains_sound, by simp, readVersion_sound, by simp, split_sound, by simp, versionNumber_sound, by simp, open_sound, fun _ => hPure_quiet _ _, trivial⟩
@[simp] theorem quietrp : QuietIn Crpv 215 := quietIn_of (by rfl) (hPure_quiet _ _)
theorem has_call (a b : List UInt8) (hp : Hp) (nx : Nat) (h : a.length ≤ lim) (h2 : b.length ≤ lim) : hPure false [] (FTT hasP fun _ _ => True) [str a, str b] hp nx = some (boo (Lib.contains a b), hp, nx) := FTT_call _ _ a b hp nx h h2 trivial rfl
/-- A partial version's cells as they are made, its Pre nil. -/
def Part.raw (p : Part) : List PV := [int p.n0, int p.n1, int p.n2, int p.has, .nil]
theorem foldPart_drop {p : Part} {k : Nat} {l : List (List UInt8)} (h : k < l.length) : foldPart p k (l.drop k) = match stepPart p k l[k] with
    | some q => foldPart q (k + 1) (l.drop (k + 1))
    | none => none := by
  rw [List.drop_eq_getElem_cons h]
  rfl
set_option maxRecDepth 8000 in
theorem readPartial_eval (t : List UInt8) (ht : t.length + 1 ≤ lim) : ∃ r0, evalPure Crpv Tryz.f213 [str t] = some r0 ∧ Stands r0 (rdPartP t) := by
  refine evalPureF2_of (sh := .g ppat) rfl ?_
  have hcn := fun hp nx => has_call t [45] hp nx (by omega) (by decide)
  cases hc : Lib.contains t [45]
  · have hsp := fun hp nx => split_call t [46] hp nx (by omega) (by decide) (by decide)
    have hpl : ∀ p ∈ splitL t [46], p.length ≤ lim := fun p hp => by have := splitL_mem hp; omega
    by_cases h3 : 3 < (splitL t [46]).length
    · have h3' : (3 : Int) < (splitL t [46]).length := by omega
      simp [hcn, hc, hsp, h3, h3', rdPartP, rdPart, buildA, fillA, pureF2, part0, Part.enc, Tryz.f213]
    have h3' : ¬ (3 : Int) < (splitL t [46]).length := by omega
    simp [hcn, hc, hsp, h3, h3']
    obtain ⟨l, hl⟩ : ∃ l, splitL t [46] = l := ⟨_, rfl⟩
    rw [hl] at hpl h3
    have hrd : rdPart t = match foldPart part0 0 l with
      | some p => (p, true)
      | none => (part0, false) := by
      unfold rdPart
      rw [if_neg (by rw [hc]; simp), hl, if_neg h3]
      try rfl
    simp only [hl]
    refine EvC_for (fun k σ hp nx => ∃ p : Part, p.pre = [] ∧ σ 2 = .ref 0 0 0 ∧ σ 7 = .ref 2 0 0 ∧ σ 37 = .own 1 0 l.length ∧ σ 38 = int l.length ∧ σ 39 = int k ∧ p.has ≤ k ∧ 0 ≤ p.has ∧
        hp 0 = some ⟨196, 5, false, [part0.raw]⟩ ∧ hp 1 = some ⟨9, 1, true, encT l⟩ ∧ hp 2 = some ⟨196, 5, false, [p.raw]⟩ ∧ foldPart part0 0 l = foldPart p k (l.drop k)) l.length
      ⟨part0, rfl, by simp, by simp, by simp, by simp, by simp, by simp [part0], by simp [part0], by simp [part0, Part.raw], by simp, by simp [part0, Part.raw], by simp⟩ ?_
    rintro k σ hp nx hk ⟨p, hpp, h2, h7, h37, h38, h39, hh, hh0, b0, b1, b2, he⟩
    by_cases hlt : k < l.length
    · have hn := fun hp nx => vnum_call l[k] hp nx (hpl _ (List.getElem_mem hlt))
      have ho := fun hp nx => FS_call openB l[k] hp nx (hpl _ (List.getElem_mem hlt))
      have hw : IntKind.i64.wrap ((k : Int) + 1) = (k : Int) + 1 := wrap_fit (by omega) (by omega)
      have hw2 : IntKind.i64.wrap (p.has + 1) = p.has + 1 := wrap_fit (by omega) (by omega)
      rw [foldPart_drop hlt] at he
      have hk3 : k = 0 ∨ k = 1 ∨ k = 2 := by omega
      obtain ⟨n0, n1, n2, has, pre⟩ := p
      simp only at hpp hh hh0 hw2
      subst hpp
      cases hv : (vnum l[k]).isSome
      · cases hop : openB l[k]
        · have hs : stepPart ⟨n0, n1, n2, has, []⟩ k l[k] = none := by simp [stepPart, hv, hop]
          rw [hs] at he
          rw [he] at hrd
          simp [h2, h7, h37, h38, h39, b0, b1, b2, hlt, hn, ho, hv, hop, rdPartP, hrd, buildA, fillA, pureF2, part0, Part.raw, Part.enc, Tryz.f213]
        · by_cases hk0 : k = 0
          · subst hk0
            have hs : stepPart ⟨n0, n1, n2, has, []⟩ 0 l[0] = none := by simp [stepPart, hv]
            rw [hs] at he
            rw [he] at hrd
            simp [h2, h7, h37, h38, h39, b0, b1, b2, hlt, hn, ho, hv, hop, rdPartP, hrd, buildA, fillA, pureF2, part0, Part.raw, Part.enc, Tryz.f213]
          · have hs : stepPart ⟨n0, n1, n2, has, []⟩ k l[k] = some ⟨n0, n1, n2, has, []⟩ := by simp [stepPart, hv, hop, hk0]
            have hk0' : ((k : Int) == 0) = false := by simpa using hk0
            rw [hs] at he
            simp [h2, h7, h37, h38, h39, b0, b1, b2, hlt, hn, ho, hv, hop, hw, hk0', hk0]
            exact ⟨hlt, ⟨n0, n1, n2, has, []⟩, rfl, Int.le_trans hh (by omega), hh0, rfl, he⟩
      · by_cases hhk : has = k
        · have hs : stepPart ⟨n0, n1, n2, has, []⟩ k l[k] = some ((⟨n0, n1, n2, has, []⟩ : Part).put k ((vnum l[k]).getD 0)) := by simp [stepPart, hv, hhk]
          rw [hs] at he
          rcases hk3 with rfl | rfl | rfl
          · obtain rfl : has = 0 := by simpa using hhk
            have hlt' : (0 : Int) < (l.length : Int) := by omega
            simp [h2, h7, h37, h38, h39, b0, b1, b2, hlt, hlt', hn, ho, hv, hw, Part.raw]
            refine ⟨hlt, _, ?_, ?_, ?_, ?_, (by simpa using he)⟩ <;> simp [Part.put]
          · obtain rfl : has = 1 := by simpa using hhk
            have hlt' : (1 : Int) < (l.length : Int) := by omega
            simp [h2, h7, h37, h38, h39, b0, b1, b2, hlt, hlt', hn, ho, hv, hw, Part.raw]
            refine ⟨hlt, _, ?_, ?_, ?_, ?_, (by simpa using he)⟩ <;> simp [Part.put]
          · obtain rfl : has = 2 := by simpa using hhk
            have hlt' : (2 : Int) < (l.length : Int) := by omega
            simp [h2, h7, h37, h38, h39, b0, b1, b2, hlt, hlt', hn, ho, hv, hw, Part.raw]
            refine ⟨hlt, _, ?_, ?_, ?_, ?_, (by simpa using he)⟩ <;> simp [Part.put]
        · cases hop : openB l[k]
          · have hs : stepPart ⟨n0, n1, n2, has, []⟩ k l[k] = none := by simp [stepPart, hv, hop, hhk]
            have hhk' : (has == (k : Int)) = false := by simpa using hhk
            rw [hs] at he
            rw [he] at hrd
            simp [h2, h7, h37, h38, h39, b0, b1, b2, hlt, hn, ho, hv, hop, hhk', rdPartP, hrd, buildA, fillA, pureF2, part0, Part.raw, Part.enc, Tryz.f213]
          · by_cases hk0 : k = 0
            · subst hk0
              have hs : stepPart ⟨n0, n1, n2, has, []⟩ 0 l[0] = none := by simp [stepPart, hhk]; intro _; exact hhk
              have hhk' : (has == 0) = false := by simpa using hhk
              rw [hs] at he
              rw [he] at hrd
              simp [h2, h7, h37, h38, h39, b0, b1, b2, hlt, hn, ho, hv, hop, hhk', rdPartP, hrd, buildA, fillA, pureF2, part0, Part.raw, Part.enc, Tryz.f213]
            · have hs : stepPart ⟨n0, n1, n2, has, []⟩ k l[k] = some ⟨n0, n1, n2, has, []⟩ := by simp [stepPart, hv, hop, hk0, hhk]
              have hk0' : ((k : Int) == 0) = false := by simpa using hk0
              have hhk' : (has == (k : Int)) = false := by simpa using hhk
              rw [hs] at he
              simp [h2, h7, h37, h38, h39, b0, b1, b2, hlt, hn, ho, hv, hop, hw, hk0', hk0, hhk', Part.raw]
              exact ⟨hlt, ⟨n0, n1, n2, has, []⟩, rfl, Int.le_trans hh (by omega), hh0, ⟨rfl, rfl, rfl, rfl⟩, he⟩
    · obtain rfl : k = l.length := by omega
      rw [List.drop_length] at he
      simp only [foldPart] at he
      rw [he] at hrd
      simp [h2, h7, h37, h38, h39, b0, b1, b2, rdPartP, hrd, hpp, pureF2, Part.raw, Part.enc, Tryz.f213]
  · have hrv := fun hp nx => FSP1_call rdP t hp nx ht
    cases hr : rdV t with
    | none => simp [hcn, hc, hrv, rdP, hr, rdPartP, rdPart, buildA, fillA, pureF2, ver0, Ver.enc, Part.enc, Tryz.f213]
    | some v => simp [hcn, hc, hrv, rdP, hr, rdPartP, rdPart, buildA, fillA, pureF2, Ver.enc, Part.enc, Tryz.f213]
theorem readPartial_sound : SpecSound Tryz.prog 213 (hPure false [] (FSP1 rdPartP)) :=
  pureG (fn := Tryz.f213) goodrp ⟨_, Tryz.func213, by kernel_rfl, rfl, by kernel_rfl⟩ false [] _ fun args r h w S vs hz => by
    obtain ⟨l, rfl, hp, rfl⟩ := specOf_inv h
    obtain ⟨r0, h1, h2⟩ := readPartial_eval l hp
    exact ⟨_, r0, hz, by simp [Tryz.f213], h1, h2⟩
end Go.Proofs.YtfjeckcbnhohmaaGreatDoor
