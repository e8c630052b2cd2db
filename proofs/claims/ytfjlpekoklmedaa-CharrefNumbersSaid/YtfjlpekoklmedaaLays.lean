/- The shelf's layings at this seat's numbers, by hand: functions, types and variables of the toy of names, found by name. -/
import Derived.Shelf.Strings.BuilderRune
import Derived.Shelf.Strings.BuilderK
import Derived.Test.YtfjlpekoklmedaaProg
namespace Go.Proofs.Ytfjlpekoklmedaa
open Go Go.Proofs Go.Shelf
set_option maxRecDepth 100000
def shelfRen : Go.Shelf.Ren := ⟨fun | 0 => 0 | 1 => 1 | 2 => 2 | 99 => 30 | 138 => 110 | 143 => 113 | 165 => 99 | 166 => 36 | 169 => 37 | 195 => 111 | 206 => 40 | 217 => 115 | 218 => 112 | 219 => 114 | 224 => 117 | 225 => 116 | 240 => 45 | 241 => 100 | 266 => 119 | 267 => 118 | 276 => 48 | 277 => 101 | 314 => 120 | 347 => 80 | 348 => 81 | 349 => 82 | 350 => 83 | 351 => 84 | 352 => 85 | 353 => 86 | 354 => 87 | 355 => 88 | 356 => 89 | 357 => 90 | 358 => 91 | 359 => 92 | 360 => 93 | 361 => 94 | 362 => 95 | 366 => 121 | n => n, fun | 0 => 0 | 1 => 1 | 2 => 2 | 3 => 3 | 4 => 4 | 5 => 5 | 6 => 6 | 7 => 7 | 8 => 8 | 9 => 9 | 10 => 10 | 11 => 11 | 12 => 12 | 13 => 13 | 14 => 14 | 15 => 15 | 16 => 16 | 17 => 17 | 18 => 18 | 19 => 19 | 20 => 20 | 21 => 21 | 22 => 49 | 24 => 25 | 27 => 131 | 28 => 127 | 31 => 61 | 37 => 48 | 41 => 51 | 43 => 35 | 46 => 132 | 51 => 74 | 55 => 166 | 69 => 64 | 70 => 53 | 71 => 54 | 72 => 55 | 73 => 151 | 74 => 56 | 75 => 57 | 76 => 58 | 77 => 59 | 80 => 60 | 81 => 141 | 94 => 165 | 103 => 150 | 111 => 24 | 112 => 39 | 114 => 167 | 119 => 100 | 127 => 70 | 146 => 168 | 151 => 169 | 164 => 88 | 165 => 89 | 166 => 152 | 229 => 67 | 238 => 136 | 239 => 137 | 240 => 138 | 241 => 139 | 242 => 140 | 243 => 142 | 244 => 143 | 245 => 144 | 246 => 145 | 247 => 146 | 248 => 147 | 249 => 148 | n => n, fun | 1 => 0 | n => n⟩
theorem lays240 : Go.Proofs.Lays.n240 Try.prog shelfRen := {
  mixed := by kernel_rfl
  f240 := Try.func45.trans (congrArg some (by kernel_rfl))
  f276 := Try.func48.trans (congrArg some (by kernel_rfl))
  t0 := Try.underlying0
  a0 := Try.isAgg0
  z0 := Try.sizeOf0
  v0 := Try.zeroValue0
  t4 := Try.underlying4
  a4 := Try.isAgg4
  z4 := Try.sizeOf4
  v4 := Try.zeroValue4
  t9 := Try.underlying9
  a9 := Try.isAgg9
  z9 := Try.sizeOf9
  v9 := Try.zeroValue9
  t20 := Try.underlying20
  a20 := Try.isAgg20
  z20 := Try.sizeOf20
  v20 := Try.zeroValue20
  t70 := Try.underlying53
  a70 := Try.isAgg53
  z70 := Try.sizeOf53
  v70 := Try.zeroValue53
  t72 := Try.underlying55
  a72 := Try.isAgg55
  z72 := Try.sizeOf55
  v72 := Try.zeroValue55
  t164 := Try.underlying88
  a164 := Try.isAgg88
  z164 := Try.sizeOf88
  v164 := Try.zeroValue88 }
theorem lays169 : Go.Proofs.Lays.n169 Try.prog shelfRen := {
  mixed := by kernel_rfl
  f169 := Try.func37.trans (congrArg some (by kernel_rfl))
  t0 := Try.underlying0
  a0 := Try.isAgg0
  z0 := Try.sizeOf0
  v0 := Try.zeroValue0
  t3 := Try.underlying3
  a3 := Try.isAgg3
  z3 := Try.sizeOf3
  v3 := Try.zeroValue3
  t9 := Try.underlying9
  a9 := Try.isAgg9
  z9 := Try.sizeOf9
  v9 := Try.zeroValue9
  t37 := Try.underlying48
  a37 := Try.isAgg48
  z37 := Try.sizeOf48
  v37 := Try.zeroValue48
  t70 := Try.underlying53
  a70 := Try.isAgg53
  z70 := Try.sizeOf53
  v70 := Try.zeroValue53
  t72 := Try.underlying55
  a72 := Try.isAgg55
  z72 := Try.sizeOf55
  v72 := Try.zeroValue55
  t127 := Try.underlying70
  a127 := Try.isAgg70
  z127 := Try.sizeOf70
  v127 := Try.zeroValue70 }
theorem builderExtra : Builder.Extra Try.prog shelfRen := {
  sizeBuilder := by kernel_rfl
  liesBuilder := by kernel_rfl
  t5 := Try.underlying5
  a5 := Try.isAgg5
  z5 := Try.sizeOf5
  v5 := Try.zeroValue5
  infoByte := by kernel_rfl
  cellsByte := by kernel_rfl
  sizeByte := by kernel_rfl
  neB5 := by decide }
end Go.Proofs.Ytfjlpekoklmedaa
