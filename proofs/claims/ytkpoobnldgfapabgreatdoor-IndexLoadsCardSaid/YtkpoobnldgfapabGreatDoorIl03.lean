/- Part 3 of the proof: ShelfS StrKit. -/
import Derived.Test.YtkpoobnldgfapabGreatDoorIl01
import Derived.Shelf.Strings.BuilderK
import Derived.Shelf.Strings.OnBuilder
import Derived.Shelf.Strconv.Itoa3
import Derived.Shelf.Strconv.Itoa4
import Derived.Shelf.Strconv.ErrVarAll
import Derived.Shelf.Strconv.ErrVarParseInt
import Derived.Shelf.Strings.SplitShaped
import Derived.Shelf.Strings.Split
import Derived.Shelf.Strings.Prefix
import Derived.Shelf.Small.Wraps
import Derived.Shelf.Strings.Search1
import Derived.Shelf.Strings.Search2
import Derived.Ground.NamesProg
import Derived.Test.YtkpoobnldgfapabGreatDoorProg
import Derived.Lib.AppendIntMem
set_option linter.unusedVariables false
set_option linter.unusedSimpArgs false
namespace Go.Proofs
open Go.Shelf
def Tryz.lays169_ren : Go.Shelf.Ren := ⟨fun | 169 => 115 | n => n, fun | 70 => 156 | 9 => 9 | 0 => 0 | 72 => 159 | 37 => 157 | 127 => 223 | 3 => 3 | 5 => 5 | n => n, fun | n => n⟩
theorem Tryz.lays169 : Go.Proofs.Lays.n169 Tryz.prog Tryz.lays169_ren := {
  mixed := by kernel_rfl
  f169 := Tryz.func115.trans (congrArg some (by kernel_rfl))
  t0 := Tryz.underlying0
  a0 := Tryz.isAgg0
  z0 := Tryz.sizeOf0
  v0 := Tryz.zeroValue0
  t3 := Tryz.underlying3
  a3 := Tryz.isAgg3
  z3 := Tryz.sizeOf3
  v3 := Tryz.zeroValue3
  t9 := Tryz.underlying9
  a9 := Tryz.isAgg9
  z9 := Tryz.sizeOf9
  v9 := Tryz.zeroValue9
  t37 := Tryz.underlying157
  a37 := Tryz.isAgg157
  z37 := Tryz.sizeOf157
  v37 := Tryz.zeroValue157
  t70 := Tryz.underlying156
  a70 := Tryz.isAgg156
  z70 := Tryz.sizeOf156
  v70 := Tryz.zeroValue156
  t72 := Tryz.underlying159
  a72 := Tryz.isAgg159
  z72 := Tryz.sizeOf159
  v72 := Tryz.zeroValue159
  t127 := Tryz.underlying223
  a127 := Tryz.isAgg223
  z127 := Tryz.sizeOf223
  v127 := Tryz.zeroValue223 }
theorem Tryz.Builder_Extra_169 : Builder.Extra Tryz.prog Tryz.lays169_ren := {
  sizeBuilder := by kernel_rfl
  liesBuilder := by kernel_rfl
  t5 := Tryz.underlying5
  a5 := Tryz.isAgg5
  z5 := Tryz.sizeOf5
  v5 := Tryz.zeroValue5
  infoByte := by kernel_rfl
  cellsByte := by kernel_rfl
  sizeByte := by kernel_rfl
  neB5 := by decide }
def Tryz.lays156_ren : Go.Shelf.Ren := ⟨fun | 156 => 179 | 165 => 278 | 166 => 113 | 169 => 115 | 240 => 162 | 241 => 320 | 276 => 256 | 277 => 339 | n => n, fun | 31 => 88 | 9 => 9 | 3 => 3 | 4 => 4 | 0 => 0 | 20 => 20 | 72 => 159 | 76 => 45 | 70 => 156 | 37 => 157 | 75 => 44 | 127 => 223 | 164 => 196 | 5 => 5 | 80 => 70 | n => n, fun | n => n⟩
theorem Tryz.lays156 : Go.Proofs.Lays.n156 Tryz.prog Tryz.lays156_ren := {
  mixed := by kernel_rfl
  f156 := Tryz.func179.trans (congrArg some (by kernel_rfl))
  f165 := Tryz.func278.trans (congrArg some (by kernel_rfl))
  f166 := Tryz.func113.trans (congrArg some (by kernel_rfl))
  f169 := Tryz.func115.trans (congrArg some (by kernel_rfl))
  f240 := Tryz.func162.trans (congrArg some (by kernel_rfl))
  f241 := Tryz.func320.trans (congrArg some (by kernel_rfl))
  f276 := Tryz.func256.trans (congrArg some (by kernel_rfl))
  f277 := Tryz.func339.trans (congrArg some (by kernel_rfl))
  t0 := Tryz.underlying0
  a0 := Tryz.isAgg0
  z0 := Tryz.sizeOf0
  v0 := Tryz.zeroValue0
  t3 := Tryz.underlying3
  a3 := Tryz.isAgg3
  z3 := Tryz.sizeOf3
  v3 := Tryz.zeroValue3
  t4 := Tryz.underlying4
  a4 := Tryz.isAgg4
  z4 := Tryz.sizeOf4
  v4 := Tryz.zeroValue4
  t9 := Tryz.underlying9
  a9 := Tryz.isAgg9
  z9 := Tryz.sizeOf9
  v9 := Tryz.zeroValue9
  t20 := Tryz.underlying20
  a20 := Tryz.isAgg20
  z20 := Tryz.sizeOf20
  v20 := Tryz.zeroValue20
  t31 := Tryz.underlying88
  a31 := Tryz.isAgg88
  z31 := Tryz.sizeOf88
  v31 := Tryz.zeroValue88
  t37 := Tryz.underlying157
  a37 := Tryz.isAgg157
  z37 := Tryz.sizeOf157
  v37 := Tryz.zeroValue157
  t70 := Tryz.underlying156
  a70 := Tryz.isAgg156
  z70 := Tryz.sizeOf156
  v70 := Tryz.zeroValue156
  t72 := Tryz.underlying159
  a72 := Tryz.isAgg159
  z72 := Tryz.sizeOf159
  v72 := Tryz.zeroValue159
  t75 := Tryz.underlying44
  a75 := Tryz.isAgg44
  z75 := Tryz.sizeOf44
  v75 := Tryz.zeroValue44
  t76 := Tryz.underlying45
  a76 := Tryz.isAgg45
  z76 := Tryz.sizeOf45
  v76 := Tryz.zeroValue45
  t127 := Tryz.underlying223
  a127 := Tryz.isAgg223
  z127 := Tryz.sizeOf223
  v127 := Tryz.zeroValue223
  t164 := Tryz.underlying196
  a164 := Tryz.isAgg196
  z164 := Tryz.sizeOf196
  v164 := Tryz.zeroValue196 }
theorem Tryz.Builder_Extra_156 : Builder.Extra Tryz.prog Tryz.lays156_ren := {
  sizeBuilder := by kernel_rfl
  liesBuilder := by kernel_rfl
  t5 := Tryz.underlying5
  a5 := Tryz.isAgg5
  z5 := Tryz.sizeOf5
  v5 := Tryz.zeroValue5
  infoByte := by kernel_rfl
  cellsByte := by kernel_rfl
  sizeByte := by kernel_rfl
  neB5 := by decide }
def Tryz.laysM171_ren : Go.Shelf.Ren := ⟨fun | 171 => 114 | 243 => 163 | 246 => 249 | 283 => 308 | 284 => 309 | 285 => 310 | 286 => 311 | 129 => 215 | 317 => 334 | 318 => 335 | 319 => 336 | 320 => 337 | 337 => 342 | 338 => 343 | n => n, fun | 3 => 3 | 9 => 9 | 2 => 2 | 4 => 4 | 171 => 338 | 0 => 0 | 53 => 101 | 37 => 157 | 5 => 5 | 173 => 340 | 212 => 368 | 51 => 182 | 20 => 20 | 213 => 369 | 46 => 161 | 232 => 380 | 233 => 381 | n => n, fun | 17 => 4 | 18 => 7 | 19 => 8 | n => n⟩
theorem Tryz.laysM171 : Go.Proofs.LaysM.n171 Tryz.prog Tryz.laysM171_ren := {
  mixed := by kernel_rfl
  f129 := Tryz.func215.trans (congrArg some (by kernel_rfl))
  f171 := Tryz.func114.trans (congrArg some (by kernel_rfl))
  f243 := Tryz.func163.trans (congrArg some (by kernel_rfl))
  f246 := Tryz.func249.trans (congrArg some (by kernel_rfl))
  f283 := Tryz.func308.trans (congrArg some (by kernel_rfl))
  f284 := Tryz.func309.trans (congrArg some (by kernel_rfl))
  f285 := Tryz.func310.trans (congrArg some (by kernel_rfl))
  f286 := Tryz.func311.trans (congrArg some (by kernel_rfl))
  f317 := Tryz.func334.trans (congrArg some (by kernel_rfl))
  f318 := Tryz.func335.trans (congrArg some (by kernel_rfl))
  f319 := Tryz.func336.trans (congrArg some (by kernel_rfl))
  f320 := Tryz.func337.trans (congrArg some (by kernel_rfl))
  f337 := Tryz.func342.trans (congrArg some (by kernel_rfl))
  f338 := Tryz.func343.trans (congrArg some (by kernel_rfl))
  t0 := Tryz.underlying0
  a0 := Tryz.isAgg0
  z0 := Tryz.sizeOf0
  v0 := Tryz.zeroValue0
  t2 := Tryz.underlying2
  a2 := Tryz.isAgg2
  z2 := Tryz.sizeOf2
  v2 := Tryz.zeroValue2
  t3 := Tryz.underlying3
  a3 := Tryz.isAgg3
  z3 := Tryz.sizeOf3
  v3 := Tryz.zeroValue3
  t4 := Tryz.underlying4
  a4 := Tryz.isAgg4
  z4 := Tryz.sizeOf4
  v4 := Tryz.zeroValue4
  t5 := Tryz.underlying5
  a5 := Tryz.isAgg5
  z5 := Tryz.sizeOf5
  v5 := Tryz.zeroValue5
  t9 := Tryz.underlying9
  a9 := Tryz.isAgg9
  z9 := Tryz.sizeOf9
  v9 := Tryz.zeroValue9
  t20 := Tryz.underlying20
  a20 := Tryz.isAgg20
  z20 := Tryz.sizeOf20
  v20 := Tryz.zeroValue20
  t37 := Tryz.underlying157
  a37 := Tryz.isAgg157
  z37 := Tryz.sizeOf157
  v37 := Tryz.zeroValue157
  t46 := Tryz.underlying161
  a46 := Tryz.isAgg161
  z46 := Tryz.sizeOf161
  v46 := Tryz.zeroValue161
  t51 := Tryz.underlying182
  a51 := Tryz.isAgg182
  z51 := Tryz.sizeOf182
  v51 := Tryz.zeroValue182
  t53 := Tryz.underlying101
  a53 := Tryz.isAgg101
  z53 := Tryz.sizeOf101
  v53 := Tryz.zeroValue101
  t171 := Tryz.underlying338
  a171 := Tryz.isAgg338
  z171 := Tryz.sizeOf338
  v171 := Tryz.zeroValue338
  t173 := Tryz.underlying340
  a173 := Tryz.isAgg340
  z173 := Tryz.sizeOf340
  v173 := Tryz.zeroValue340
  t212 := Tryz.underlying368
  a212 := Tryz.isAgg368
  z212 := Tryz.sizeOf368
  v212 := Tryz.zeroValue368
  t213 := Tryz.underlying369
  a213 := Tryz.isAgg369
  z213 := Tryz.sizeOf369
  t232 := Tryz.underlying380
  a232 := Tryz.isAgg380
  z232 := Tryz.sizeOf380
  v232 := Tryz.zeroValue380
  t233 := Tryz.underlying381
  a233 := Tryz.isAgg381
  z233 := Tryz.sizeOf381
  v233 := Tryz.zeroValue381
  g17 := by kernel_rfl
  g18 := by kernel_rfl
  g19 := by kernel_rfl
  i0 := by kernel_rfl
  i2 := by kernel_rfl
  i3 := by kernel_rfl
  i4 := by kernel_rfl
  i5 := by kernel_rfl
  i9 := by kernel_rfl
  i20 := by kernel_rfl
  i37 := by kernel_rfl
  i46 := by kernel_rfl
  i51 := by kernel_rfl
  i53 := by kernel_rfl
  i171 := by kernel_rfl
  i173 := by kernel_rfl
  i212 := by kernel_rfl
  i232 := by kernel_rfl
  i233 := by kernel_rfl
  m17 := by kernel_rfl
  m18 := by kernel_rfl
  m19 := by kernel_rfl }
def Tryz.laysM173_ren : Go.Shelf.Ren := ⟨fun | 173 => 158 | 246 => 249 | 283 => 308 | 284 => 309 | 285 => 310 | 286 => 311 | 129 => 215 | 317 => 334 | 318 => 335 | 319 => 336 | 320 => 337 | 337 => 342 | 338 => 343 | n => n, fun | 2 => 2 | 3 => 3 | 9 => 9 | 4 => 4 | 171 => 338 | 0 => 0 | 53 => 101 | 37 => 157 | 5 => 5 | 173 => 340 | 212 => 368 | 51 => 182 | 20 => 20 | 213 => 369 | 46 => 161 | 232 => 380 | 233 => 381 | n => n, fun | 17 => 4 | 18 => 7 | 19 => 8 | n => n⟩
theorem Tryz.laysM173 : Go.Proofs.LaysM.n173 Tryz.prog Tryz.laysM173_ren := {
  mixed := by kernel_rfl
  f129 := Tryz.func215.trans (congrArg some (by kernel_rfl))
  f173 := Tryz.func158.trans (congrArg some (by kernel_rfl))
  f246 := Tryz.func249.trans (congrArg some (by kernel_rfl))
  f283 := Tryz.func308.trans (congrArg some (by kernel_rfl))
  f284 := Tryz.func309.trans (congrArg some (by kernel_rfl))
  f285 := Tryz.func310.trans (congrArg some (by kernel_rfl))
  f286 := Tryz.func311.trans (congrArg some (by kernel_rfl))
  f317 := Tryz.func334.trans (congrArg some (by kernel_rfl))
  f318 := Tryz.func335.trans (congrArg some (by kernel_rfl))
  f319 := Tryz.func336.trans (congrArg some (by kernel_rfl))
  f320 := Tryz.func337.trans (congrArg some (by kernel_rfl))
  f337 := Tryz.func342.trans (congrArg some (by kernel_rfl))
  f338 := Tryz.func343.trans (congrArg some (by kernel_rfl))
  t0 := Tryz.underlying0
  a0 := Tryz.isAgg0
  z0 := Tryz.sizeOf0
  v0 := Tryz.zeroValue0
  t2 := Tryz.underlying2
  a2 := Tryz.isAgg2
  z2 := Tryz.sizeOf2
  v2 := Tryz.zeroValue2
  t3 := Tryz.underlying3
  a3 := Tryz.isAgg3
  z3 := Tryz.sizeOf3
  v3 := Tryz.zeroValue3
  t4 := Tryz.underlying4
  a4 := Tryz.isAgg4
  z4 := Tryz.sizeOf4
  v4 := Tryz.zeroValue4
  t5 := Tryz.underlying5
  a5 := Tryz.isAgg5
  z5 := Tryz.sizeOf5
  v5 := Tryz.zeroValue5
  t9 := Tryz.underlying9
  a9 := Tryz.isAgg9
  z9 := Tryz.sizeOf9
  v9 := Tryz.zeroValue9
  t20 := Tryz.underlying20
  a20 := Tryz.isAgg20
  z20 := Tryz.sizeOf20
  v20 := Tryz.zeroValue20
  t37 := Tryz.underlying157
  a37 := Tryz.isAgg157
  z37 := Tryz.sizeOf157
  v37 := Tryz.zeroValue157
  t46 := Tryz.underlying161
  a46 := Tryz.isAgg161
  z46 := Tryz.sizeOf161
  v46 := Tryz.zeroValue161
  t51 := Tryz.underlying182
  a51 := Tryz.isAgg182
  z51 := Tryz.sizeOf182
  v51 := Tryz.zeroValue182
  t53 := Tryz.underlying101
  a53 := Tryz.isAgg101
  z53 := Tryz.sizeOf101
  v53 := Tryz.zeroValue101
  t171 := Tryz.underlying338
  a171 := Tryz.isAgg338
  z171 := Tryz.sizeOf338
  v171 := Tryz.zeroValue338
  t173 := Tryz.underlying340
  a173 := Tryz.isAgg340
  z173 := Tryz.sizeOf340
  v173 := Tryz.zeroValue340
  t212 := Tryz.underlying368
  a212 := Tryz.isAgg368
  z212 := Tryz.sizeOf368
  v212 := Tryz.zeroValue368
  t213 := Tryz.underlying369
  a213 := Tryz.isAgg369
  z213 := Tryz.sizeOf369
  t232 := Tryz.underlying380
  a232 := Tryz.isAgg380
  z232 := Tryz.sizeOf380
  v232 := Tryz.zeroValue380
  t233 := Tryz.underlying381
  a233 := Tryz.isAgg381
  z233 := Tryz.sizeOf381
  v233 := Tryz.zeroValue381
  g17 := by kernel_rfl
  g18 := by kernel_rfl
  g19 := by kernel_rfl
  i0 := by kernel_rfl
  i2 := by kernel_rfl
  i3 := by kernel_rfl
  i4 := by kernel_rfl
  i5 := by kernel_rfl
  i9 := by kernel_rfl
  i20 := by kernel_rfl
  i37 := by kernel_rfl
  i46 := by kernel_rfl
  i51 := by kernel_rfl
  i53 := by kernel_rfl
  i171 := by kernel_rfl
  i173 := by kernel_rfl
  i212 := by kernel_rfl
  i232 := by kernel_rfl
  i233 := by kernel_rfl
  m17 := by kernel_rfl
  m18 := by kernel_rfl
  m19 := by kernel_rfl }
def Tryz.laysC172_ren : Go.Shelf.Ren := ⟨fun | 172 => 112 | 244 => 160 | 245 => 161 | 247 => 248 | 279 => 252 | 280 => 253 | 281 => 254 | 282 => 255 | 287 => 307 | 316 => 313 | 171 => 114 | 205 => 314 | 321 => 332 | 322 => 333 | 243 => 163 | 246 => 249 | 283 => 308 | 284 => 309 | 285 => 310 | 286 => 311 | 129 => 215 | 317 => 334 | 318 => 335 | 319 => 336 | 320 => 337 | 337 => 342 | 338 => 343 | n => n, fun | 9 => 9 | 3 => 3 | 75 => 44 | 76 => 45 | 4 => 4 | 5 => 5 | 167 => 291 | 37 => 157 | 0 => 0 | 85 => 218 | 2 => 2 | 168 => 292 | 53 => 101 | 175 => 336 | 46 => 161 | 210 => 343 | 127 => 223 | 145 => 376 | 143 => 374 | 21 => 21 | 171 => 338 | 173 => 340 | 212 => 368 | 51 => 182 | 20 => 20 | 213 => 369 | 232 => 380 | 233 => 381 | 80 => 70 | n => n, fun | 15 => 1 | 16 => 2 | 17 => 4 | 18 => 7 | 19 => 8 | n => n⟩
theorem Tryz.laysC172 : Go.Proofs.LaysC.n172 Tryz.prog Tryz.laysC172_ren := {
  mixed := by kernel_rfl
  f129 := Tryz.func215.trans (congrArg some (by kernel_rfl))
  f171 := Tryz.func114.trans (congrArg some (by kernel_rfl))
  f172 := Tryz.func112.trans (congrArg some (by kernel_rfl))
  f205 := Tryz.func314.trans (congrArg some (by kernel_rfl))
  f243 := Tryz.func163.trans (congrArg some (by kernel_rfl))
  f244 := Tryz.func160.trans (congrArg some (by kernel_rfl))
  f245 := Tryz.func161.trans (congrArg some (by kernel_rfl))
  f246 := Tryz.func249.trans (congrArg some (by kernel_rfl))
  f247 := Tryz.func248.trans (congrArg some (by kernel_rfl))
  f279 := Tryz.func252.trans (congrArg some (by kernel_rfl))
  f280 := Tryz.func253.trans (congrArg some (by kernel_rfl))
  f281 := Tryz.func254.trans (congrArg some (by kernel_rfl))
  f282 := Tryz.func255.trans (congrArg some (by kernel_rfl))
  f283 := Tryz.func308.trans (congrArg some (by kernel_rfl))
  f284 := Tryz.func309.trans (congrArg some (by kernel_rfl))
  f285 := Tryz.func310.trans (congrArg some (by kernel_rfl))
  f286 := Tryz.func311.trans (congrArg some (by kernel_rfl))
  f287 := Tryz.func307.trans (congrArg some (by kernel_rfl))
  f316 := Tryz.func313.trans (congrArg some (by kernel_rfl))
  f317 := Tryz.func334.trans (congrArg some (by kernel_rfl))
  f318 := Tryz.func335.trans (congrArg some (by kernel_rfl))
  f319 := Tryz.func336.trans (congrArg some (by kernel_rfl))
  f320 := Tryz.func337.trans (congrArg some (by kernel_rfl))
  f321 := Tryz.func332.trans (congrArg some (by kernel_rfl))
  f322 := Tryz.func333.trans (congrArg some (by kernel_rfl))
  f337 := Tryz.func342.trans (congrArg some (by kernel_rfl))
  f338 := Tryz.func343.trans (congrArg some (by kernel_rfl))
  t0 := Tryz.underlying0
  a0 := Tryz.isAgg0
  z0 := Tryz.sizeOf0
  v0 := Tryz.zeroValue0
  t2 := Tryz.underlying2
  a2 := Tryz.isAgg2
  z2 := Tryz.sizeOf2
  v2 := Tryz.zeroValue2
  t3 := Tryz.underlying3
  a3 := Tryz.isAgg3
  z3 := Tryz.sizeOf3
  v3 := Tryz.zeroValue3
  t4 := Tryz.underlying4
  a4 := Tryz.isAgg4
  z4 := Tryz.sizeOf4
  v4 := Tryz.zeroValue4
  t5 := Tryz.underlying5
  a5 := Tryz.isAgg5
  z5 := Tryz.sizeOf5
  v5 := Tryz.zeroValue5
  t9 := Tryz.underlying9
  a9 := Tryz.isAgg9
  z9 := Tryz.sizeOf9
  v9 := Tryz.zeroValue9
  t20 := Tryz.underlying20
  a20 := Tryz.isAgg20
  z20 := Tryz.sizeOf20
  v20 := Tryz.zeroValue20
  t21 := Tryz.underlying21
  a21 := Tryz.isAgg21
  z21 := Tryz.sizeOf21
  v21 := Tryz.zeroValue21
  t37 := Tryz.underlying157
  a37 := Tryz.isAgg157
  z37 := Tryz.sizeOf157
  v37 := Tryz.zeroValue157
  t46 := Tryz.underlying161
  a46 := Tryz.isAgg161
  z46 := Tryz.sizeOf161
  v46 := Tryz.zeroValue161
  t51 := Tryz.underlying182
  a51 := Tryz.isAgg182
  z51 := Tryz.sizeOf182
  v51 := Tryz.zeroValue182
  t53 := Tryz.underlying101
  a53 := Tryz.isAgg101
  z53 := Tryz.sizeOf101
  v53 := Tryz.zeroValue101
  t75 := Tryz.underlying44
  a75 := Tryz.isAgg44
  z75 := Tryz.sizeOf44
  v75 := Tryz.zeroValue44
  t76 := Tryz.underlying45
  a76 := Tryz.isAgg45
  z76 := Tryz.sizeOf45
  v76 := Tryz.zeroValue45
  t85 := Tryz.underlying218
  a85 := Tryz.isAgg218
  z85 := Tryz.sizeOf218
  v85 := Tryz.zeroValue218
  t127 := Tryz.underlying223
  a127 := Tryz.isAgg223
  z127 := Tryz.sizeOf223
  v127 := Tryz.zeroValue223
  t143 := Tryz.underlying374
  a143 := Tryz.isAgg374
  z143 := Tryz.sizeOf374
  v143 := Tryz.zeroValue374
  t145 := Tryz.underlying376
  a145 := Tryz.isAgg376
  z145 := Tryz.sizeOf376
  v145 := Tryz.zeroValue376
  t167 := Tryz.underlying291
  a167 := Tryz.isAgg291
  z167 := Tryz.sizeOf291
  v167 := Tryz.zeroValue291
  t168 := Tryz.underlying292
  a168 := Tryz.isAgg292
  z168 := Tryz.sizeOf292
  v168 := Tryz.zeroValue292
  t171 := Tryz.underlying338
  a171 := Tryz.isAgg338
  z171 := Tryz.sizeOf338
  v171 := Tryz.zeroValue338
  t173 := Tryz.underlying340
  a173 := Tryz.isAgg340
  z173 := Tryz.sizeOf340
  v173 := Tryz.zeroValue340
  t175 := Tryz.underlying336
  a175 := Tryz.isAgg336
  z175 := Tryz.sizeOf336
  v175 := Tryz.zeroValue336
  t210 := Tryz.underlying343
  a210 := Tryz.isAgg343
  z210 := Tryz.sizeOf343
  v210 := Tryz.zeroValue343
  t212 := Tryz.underlying368
  a212 := Tryz.isAgg368
  z212 := Tryz.sizeOf368
  v212 := Tryz.zeroValue368
  t213 := Tryz.underlying369
  a213 := Tryz.isAgg369
  z213 := Tryz.sizeOf369
  t232 := Tryz.underlying380
  a232 := Tryz.isAgg380
  z232 := Tryz.sizeOf380
  v232 := Tryz.zeroValue380
  t233 := Tryz.underlying381
  a233 := Tryz.isAgg381
  z233 := Tryz.sizeOf381
  v233 := Tryz.zeroValue381
  g15 := by kernel_rfl
  g16 := by kernel_rfl
  g17 := by kernel_rfl
  g18 := by kernel_rfl
  g19 := by kernel_rfl
  t80 := Tryz.underlying70
  a80 := Tryz.isAgg70
  z80 := Tryz.sizeOf70
  v80 := Tryz.zeroValue70
  i0 := by kernel_rfl
  i2 := by kernel_rfl
  i3 := by kernel_rfl
  i4 := by kernel_rfl
  i5 := by kernel_rfl
  i9 := by kernel_rfl
  i20 := by kernel_rfl
  i21 := by kernel_rfl
  i37 := by kernel_rfl
  i46 := by kernel_rfl
  i51 := by kernel_rfl
  i53 := by kernel_rfl
  i75 := by kernel_rfl
  i76 := by kernel_rfl
  i80 := by kernel_rfl
  i85 := by kernel_rfl
  i127 := by kernel_rfl
  i143 := by kernel_rfl
  i145 := by kernel_rfl
  i167 := by kernel_rfl
  i168 := by kernel_rfl
  i171 := by kernel_rfl
  i173 := by kernel_rfl
  i175 := by kernel_rfl
  i210 := by kernel_rfl
  i212 := by kernel_rfl
  i232 := by kernel_rfl
  i233 := by kernel_rfl
  m15 := by kernel_rfl
  m16 := by kernel_rfl
  m17 := by kernel_rfl
  m18 := by kernel_rfl
  m19 := by kernel_rfl
  c0 := by kernel_rfl
  c2 := by kernel_rfl
  c3 := by kernel_rfl
  c4 := by kernel_rfl
  c5 := by kernel_rfl
  c9 := by kernel_rfl
  c20 := by kernel_rfl
  c21 := by kernel_rfl
  c37 := by kernel_rfl
  c46 := by kernel_rfl
  c51 := by kernel_rfl
  c53 := by kernel_rfl
  c75 := by kernel_rfl
  c76 := by kernel_rfl
  c80 := by kernel_rfl
  c85 := by kernel_rfl
  c127 := by kernel_rfl
  c143 := by kernel_rfl
  c145 := by kernel_rfl
  c167 := by kernel_rfl
  c168 := by kernel_rfl
  c171 := by kernel_rfl
  c173 := by kernel_rfl
  c175 := by kernel_rfl
  c210 := by kernel_rfl
  c212 := by kernel_rfl
  c213 := by kernel_rfl
  c232 := by kernel_rfl
  c233 := by kernel_rfl }
def Tryz.laysC174_ren : Go.Shelf.Ren := ⟨fun | 174 => 157 | 247 => 248 | 245 => 161 | 287 => 307 | 279 => 252 | 280 => 253 | 281 => 254 | 282 => 255 | 321 => 332 | 322 => 333 | 316 => 313 | 171 => 114 | 205 => 314 | 243 => 163 | 246 => 249 | 283 => 308 | 284 => 309 | 285 => 310 | 286 => 311 | 129 => 215 | 317 => 334 | 318 => 335 | 319 => 336 | 320 => 337 | 337 => 342 | 338 => 343 | n => n, fun | 9 => 9 | 3 => 3 | 2 => 2 | 75 => 44 | 85 => 218 | 4 => 4 | 167 => 291 | 5 => 5 | 53 => 101 | 175 => 336 | 46 => 161 | 168 => 292 | 37 => 157 | 0 => 0 | 210 => 343 | 21 => 21 | 127 => 223 | 145 => 376 | 143 => 374 | 171 => 338 | 173 => 340 | 212 => 368 | 51 => 182 | 20 => 20 | 213 => 369 | 232 => 380 | 233 => 381 | 80 => 70 | n => n, fun | 15 => 1 | 16 => 2 | 17 => 4 | 18 => 7 | 19 => 8 | n => n⟩
theorem Tryz.laysC174 : Go.Proofs.LaysC.n174 Tryz.prog Tryz.laysC174_ren := {
  mixed := by kernel_rfl
  f129 := Tryz.func215.trans (congrArg some (by kernel_rfl))
  f171 := Tryz.func114.trans (congrArg some (by kernel_rfl))
  f174 := Tryz.func157.trans (congrArg some (by kernel_rfl))
  f205 := Tryz.func314.trans (congrArg some (by kernel_rfl))
  f243 := Tryz.func163.trans (congrArg some (by kernel_rfl))
  f245 := Tryz.func161.trans (congrArg some (by kernel_rfl))
  f246 := Tryz.func249.trans (congrArg some (by kernel_rfl))
  f247 := Tryz.func248.trans (congrArg some (by kernel_rfl))
  f279 := Tryz.func252.trans (congrArg some (by kernel_rfl))
  f280 := Tryz.func253.trans (congrArg some (by kernel_rfl))
  f281 := Tryz.func254.trans (congrArg some (by kernel_rfl))
  f282 := Tryz.func255.trans (congrArg some (by kernel_rfl))
  f283 := Tryz.func308.trans (congrArg some (by kernel_rfl))
  f284 := Tryz.func309.trans (congrArg some (by kernel_rfl))
  f285 := Tryz.func310.trans (congrArg some (by kernel_rfl))
  f286 := Tryz.func311.trans (congrArg some (by kernel_rfl))
  f287 := Tryz.func307.trans (congrArg some (by kernel_rfl))
  f316 := Tryz.func313.trans (congrArg some (by kernel_rfl))
  f317 := Tryz.func334.trans (congrArg some (by kernel_rfl))
  f318 := Tryz.func335.trans (congrArg some (by kernel_rfl))
  f319 := Tryz.func336.trans (congrArg some (by kernel_rfl))
  f320 := Tryz.func337.trans (congrArg some (by kernel_rfl))
  f321 := Tryz.func332.trans (congrArg some (by kernel_rfl))
  f322 := Tryz.func333.trans (congrArg some (by kernel_rfl))
  f337 := Tryz.func342.trans (congrArg some (by kernel_rfl))
  f338 := Tryz.func343.trans (congrArg some (by kernel_rfl))
  t0 := Tryz.underlying0
  a0 := Tryz.isAgg0
  z0 := Tryz.sizeOf0
  v0 := Tryz.zeroValue0
  t2 := Tryz.underlying2
  a2 := Tryz.isAgg2
  z2 := Tryz.sizeOf2
  v2 := Tryz.zeroValue2
  t3 := Tryz.underlying3
  a3 := Tryz.isAgg3
  z3 := Tryz.sizeOf3
  v3 := Tryz.zeroValue3
  t4 := Tryz.underlying4
  a4 := Tryz.isAgg4
  z4 := Tryz.sizeOf4
  v4 := Tryz.zeroValue4
  t5 := Tryz.underlying5
  a5 := Tryz.isAgg5
  z5 := Tryz.sizeOf5
  v5 := Tryz.zeroValue5
  t9 := Tryz.underlying9
  a9 := Tryz.isAgg9
  z9 := Tryz.sizeOf9
  v9 := Tryz.zeroValue9
  t20 := Tryz.underlying20
  a20 := Tryz.isAgg20
  z20 := Tryz.sizeOf20
  v20 := Tryz.zeroValue20
  t21 := Tryz.underlying21
  a21 := Tryz.isAgg21
  z21 := Tryz.sizeOf21
  v21 := Tryz.zeroValue21
  t37 := Tryz.underlying157
  a37 := Tryz.isAgg157
  z37 := Tryz.sizeOf157
  v37 := Tryz.zeroValue157
  t46 := Tryz.underlying161
  a46 := Tryz.isAgg161
  z46 := Tryz.sizeOf161
  v46 := Tryz.zeroValue161
  t51 := Tryz.underlying182
  a51 := Tryz.isAgg182
  z51 := Tryz.sizeOf182
  v51 := Tryz.zeroValue182
  t53 := Tryz.underlying101
  a53 := Tryz.isAgg101
  z53 := Tryz.sizeOf101
  v53 := Tryz.zeroValue101
  t75 := Tryz.underlying44
  a75 := Tryz.isAgg44
  z75 := Tryz.sizeOf44
  v75 := Tryz.zeroValue44
  t85 := Tryz.underlying218
  a85 := Tryz.isAgg218
  z85 := Tryz.sizeOf218
  v85 := Tryz.zeroValue218
  t127 := Tryz.underlying223
  a127 := Tryz.isAgg223
  z127 := Tryz.sizeOf223
  v127 := Tryz.zeroValue223
  t143 := Tryz.underlying374
  a143 := Tryz.isAgg374
  z143 := Tryz.sizeOf374
  v143 := Tryz.zeroValue374
  t145 := Tryz.underlying376
  a145 := Tryz.isAgg376
  z145 := Tryz.sizeOf376
  v145 := Tryz.zeroValue376
  t167 := Tryz.underlying291
  a167 := Tryz.isAgg291
  z167 := Tryz.sizeOf291
  v167 := Tryz.zeroValue291
  t168 := Tryz.underlying292
  a168 := Tryz.isAgg292
  z168 := Tryz.sizeOf292
  v168 := Tryz.zeroValue292
  t171 := Tryz.underlying338
  a171 := Tryz.isAgg338
  z171 := Tryz.sizeOf338
  v171 := Tryz.zeroValue338
  t173 := Tryz.underlying340
  a173 := Tryz.isAgg340
  z173 := Tryz.sizeOf340
  v173 := Tryz.zeroValue340
  t175 := Tryz.underlying336
  a175 := Tryz.isAgg336
  z175 := Tryz.sizeOf336
  v175 := Tryz.zeroValue336
  t210 := Tryz.underlying343
  a210 := Tryz.isAgg343
  z210 := Tryz.sizeOf343
  v210 := Tryz.zeroValue343
  t212 := Tryz.underlying368
  a212 := Tryz.isAgg368
  z212 := Tryz.sizeOf368
  v212 := Tryz.zeroValue368
  t213 := Tryz.underlying369
  a213 := Tryz.isAgg369
  z213 := Tryz.sizeOf369
  t232 := Tryz.underlying380
  a232 := Tryz.isAgg380
  z232 := Tryz.sizeOf380
  v232 := Tryz.zeroValue380
  t233 := Tryz.underlying381
  a233 := Tryz.isAgg381
  z233 := Tryz.sizeOf381
  v233 := Tryz.zeroValue381
  g15 := by kernel_rfl
  g16 := by kernel_rfl
  g17 := by kernel_rfl
  g18 := by kernel_rfl
  g19 := by kernel_rfl
  t80 := Tryz.underlying70
  a80 := Tryz.isAgg70
  z80 := Tryz.sizeOf70
  v80 := Tryz.zeroValue70
  i0 := by kernel_rfl
  i2 := by kernel_rfl
  i3 := by kernel_rfl
  i4 := by kernel_rfl
  i5 := by kernel_rfl
  i9 := by kernel_rfl
  i20 := by kernel_rfl
  i21 := by kernel_rfl
  i37 := by kernel_rfl
  i46 := by kernel_rfl
  i51 := by kernel_rfl
  i53 := by kernel_rfl
  i75 := by kernel_rfl
  i80 := by kernel_rfl
  i85 := by kernel_rfl
  i127 := by kernel_rfl
  i143 := by kernel_rfl
  i145 := by kernel_rfl
  i167 := by kernel_rfl
  i168 := by kernel_rfl
  i171 := by kernel_rfl
  i173 := by kernel_rfl
  i175 := by kernel_rfl
  i210 := by kernel_rfl
  i212 := by kernel_rfl
  i232 := by kernel_rfl
  i233 := by kernel_rfl
  m15 := by kernel_rfl
  m16 := by kernel_rfl
  m17 := by kernel_rfl
  m18 := by kernel_rfl
  m19 := by kernel_rfl
  c0 := by kernel_rfl
  c2 := by kernel_rfl
  c3 := by kernel_rfl
  c4 := by kernel_rfl
  c5 := by kernel_rfl
  c9 := by kernel_rfl
  c20 := by kernel_rfl
  c21 := by kernel_rfl
  c37 := by kernel_rfl
  c46 := by kernel_rfl
  c51 := by kernel_rfl
  c53 := by kernel_rfl
  c75 := by kernel_rfl
  c80 := by kernel_rfl
  c85 := by kernel_rfl
  c127 := by kernel_rfl
  c143 := by kernel_rfl
  c145 := by kernel_rfl
  c167 := by kernel_rfl
  c168 := by kernel_rfl
  c171 := by kernel_rfl
  c173 := by kernel_rfl
  c175 := by kernel_rfl
  c210 := by kernel_rfl
  c212 := by kernel_rfl
  c213 := by kernel_rfl
  c232 := by kernel_rfl
  c233 := by kernel_rfl }
def Tryz.lays146_ren : Go.Shelf.Ren := ⟨fun | 146 => 109 | 221 => 156 | 268 => 245 | 138 => 246 | 143 => 247 | 195 => 304 | 197 => 251 | 218 => 305 | 219 => 306 | 260 => 312 | 217 => 328 | 225 => 329 | 224 => 330 | 267 => 331 | 266 => 340 | 314 => 341 | n => n, fun | 9 => 9 | 31 => 88 | 3 => 3 | 4 => 4 | 0 => 0 | 105 => 289 | 21 => 21 | 5 => 5 | 46 => 161 | 119 => 370 | 139 => 373 | 138 => 372 | 146 => 378 | 51 => 182 | n => n, fun | 1 => 3 | 3 => 5 | 4 => 6 | n => n⟩
theorem Tryz.lays146 : Go.Proofs.Lays.n146 Tryz.prog Tryz.lays146_ren := {
  mixed := by kernel_rfl
  f138 := Tryz.func246.trans (congrArg some (by kernel_rfl))
  f143 := Tryz.func247.trans (congrArg some (by kernel_rfl))
  f146 := Tryz.func109.trans (congrArg some (by kernel_rfl))
  f195 := Tryz.func304.trans (congrArg some (by kernel_rfl))
  f197 := Tryz.func251.trans (congrArg some (by kernel_rfl))
  f217 := Tryz.func328.trans (congrArg some (by kernel_rfl))
  f218 := Tryz.func305.trans (congrArg some (by kernel_rfl))
  f219 := Tryz.func306.trans (congrArg some (by kernel_rfl))
  f221 := Tryz.func156.trans (congrArg some (by kernel_rfl))
  f224 := Tryz.func330.trans (congrArg some (by kernel_rfl))
  f225 := Tryz.func329.trans (congrArg some (by kernel_rfl))
  f260 := Tryz.func312.trans (congrArg some (by kernel_rfl))
  f266 := Tryz.func340.trans (congrArg some (by kernel_rfl))
  f267 := Tryz.func331.trans (congrArg some (by kernel_rfl))
  f268 := Tryz.func245.trans (congrArg some (by kernel_rfl))
  f314 := Tryz.func341.trans (congrArg some (by kernel_rfl))
  t0 := Tryz.underlying0
  a0 := Tryz.isAgg0
  z0 := Tryz.sizeOf0
  v0 := Tryz.zeroValue0
  t3 := Tryz.underlying3
  a3 := Tryz.isAgg3
  z3 := Tryz.sizeOf3
  v3 := Tryz.zeroValue3
  t4 := Tryz.underlying4
  a4 := Tryz.isAgg4
  z4 := Tryz.sizeOf4
  v4 := Tryz.zeroValue4
  t5 := Tryz.underlying5
  a5 := Tryz.isAgg5
  z5 := Tryz.sizeOf5
  v5 := Tryz.zeroValue5
  t9 := Tryz.underlying9
  a9 := Tryz.isAgg9
  z9 := Tryz.sizeOf9
  v9 := Tryz.zeroValue9
  t21 := Tryz.underlying21
  a21 := Tryz.isAgg21
  z21 := Tryz.sizeOf21
  v21 := Tryz.zeroValue21
  t31 := Tryz.underlying88
  a31 := Tryz.isAgg88
  z31 := Tryz.sizeOf88
  v31 := Tryz.zeroValue88
  t46 := Tryz.underlying161
  a46 := Tryz.isAgg161
  z46 := Tryz.sizeOf161
  v46 := Tryz.zeroValue161
  t51 := Tryz.underlying182
  a51 := Tryz.isAgg182
  z51 := Tryz.sizeOf182
  v51 := Tryz.zeroValue182
  t105 := Tryz.underlying289
  a105 := Tryz.isAgg289
  z105 := Tryz.sizeOf289
  v105 := Tryz.zeroValue289
  t119 := Tryz.underlying370
  a119 := Tryz.isAgg370
  z119 := Tryz.sizeOf370
  t138 := Tryz.underlying372
  a138 := Tryz.isAgg372
  z138 := Tryz.sizeOf372
  v138 := Tryz.zeroValue372
  t139 := Tryz.underlying373
  a139 := Tryz.isAgg373
  z139 := Tryz.sizeOf373
  v139 := Tryz.zeroValue373
  t146 := Tryz.underlying378
  a146 := Tryz.isAgg378
  z146 := Tryz.sizeOf378
  v146 := Tryz.zeroValue378
  g1 := by kernel_rfl
  g3 := by kernel_rfl
  g4 := by kernel_rfl }
def Tryz.lays143_ren : Go.Shelf.Ren := ⟨fun | 143 => 247 | 219 => 306 | 217 => 328 | 225 => 329 | 224 => 330 | 267 => 331 | 266 => 340 | 314 => 341 | n => n, fun | 9 => 9 | 3 => 3 | 4 => 4 | 5 => 5 | 46 => 161 | 146 => 378 | 51 => 182 | n => n, fun | 1 => 3 | n => n⟩
theorem Tryz.lays143 : Go.Proofs.Lays.n143 Tryz.prog Tryz.lays143_ren := {
  mixed := by kernel_rfl
  f143 := Tryz.func247.trans (congrArg some (by kernel_rfl))
  f217 := Tryz.func328.trans (congrArg some (by kernel_rfl))
  f219 := Tryz.func306.trans (congrArg some (by kernel_rfl))
  f224 := Tryz.func330.trans (congrArg some (by kernel_rfl))
  f225 := Tryz.func329.trans (congrArg some (by kernel_rfl))
  f266 := Tryz.func340.trans (congrArg some (by kernel_rfl))
  f267 := Tryz.func331.trans (congrArg some (by kernel_rfl))
  f314 := Tryz.func341.trans (congrArg some (by kernel_rfl))
  t3 := Tryz.underlying3
  a3 := Tryz.isAgg3
  z3 := Tryz.sizeOf3
  v3 := Tryz.zeroValue3
  t4 := Tryz.underlying4
  a4 := Tryz.isAgg4
  z4 := Tryz.sizeOf4
  v4 := Tryz.zeroValue4
  t5 := Tryz.underlying5
  a5 := Tryz.isAgg5
  z5 := Tryz.sizeOf5
  v5 := Tryz.zeroValue5
  t9 := Tryz.underlying9
  a9 := Tryz.isAgg9
  z9 := Tryz.sizeOf9
  v9 := Tryz.zeroValue9
  t46 := Tryz.underlying161
  a46 := Tryz.isAgg161
  z46 := Tryz.sizeOf161
  v46 := Tryz.zeroValue161
  t51 := Tryz.underlying182
  a51 := Tryz.isAgg182
  z51 := Tryz.sizeOf182
  v51 := Tryz.zeroValue182
  t146 := Tryz.underlying378
  a146 := Tryz.isAgg378
  z146 := Tryz.sizeOf378
  v146 := Tryz.zeroValue378
  g1 := by kernel_rfl }
end Go.Proofs

namespace Go.Proofs.YtkpoobnldgfapabGreatDoor
open Go.RowKit Go.Shelf Go.Sort
abbrev bstr (l : List UInt8) : ByteArray := ⟨l.toArray⟩
theorem bstr_list (l : List UInt8) : (bstr l).data.toList = l := rfl
theorem bstr_size (l : List UInt8) : (bstr l).size = l.length := by show (l.toArray).size = l.length; simp
theorem keep_grow (w : World) (k : Nat) (os : Array Obj) : Keep Nb w (grow (w.drewN k) os) :=
  ⟨rfl, rfl, rfl, by show w.heap.size ≤ (w.heap ++ os).size; rw [Array.size_append]; omega, fun j hj _ => by
    show (w.heap ++ os)[j]? = _
    rw [Array.getElem?_append_left hj]⟩
structure LibW (w : World) : Prop where
  pow : Lib.TabIs Tryz.prog w "internal/strconv.uint64pow10" .u64 Lib.pow10Tab
  syn : ∃ tp p, w.var? Tryz.prog "strconv.ErrSyntax" = some #[.iface tp p]
  rng : ∃ tp p, w.var? Tryz.prog "strconv.ErrRange" = some #[.iface tp p]
  maxl : ∃ m : Int, w.cell? ⟨Tryz.lays146_ren.g 1, 0, none⟩ = some (.int .i64 m)
theorem var_keep {w w' : World} {name : String} {v : Array Value} (h : w.var? Tryz.prog name = some v) (k : Keep Nb w w') : w'.var? Tryz.prog name = some v := by
  unfold World.var? at *
  cases hg : (Tryz.prog).globalNamed name with
  | none => simp [hg] at h
  | some g =>
    simp only [hg, Option.bind_some] at h ⊢
    have hlt : g < w.heap.size := by
      rcases Nat.lt_or_ge g w.heap.size with h' | h'
      · exact h'
      · rw [Array.getElem?_eq_none h'] at h; simp at h
    rw [k.block g hlt (fun e => e)]
    exact h
theorem LibW.keep {w w' : World} (h : LibW w) (k : Keep Nb w w') : LibW w' := by
  refine ⟨Lib.tabBelow_of_tabIs h.pow _ (k.to_below (fun _ _ e => e)), ?_, ?_, ?_⟩
  · obtain ⟨tp, p, e⟩ := h.syn; exact ⟨tp, p, var_keep e k⟩
  · obtain ⟨tp, p, e⟩ := h.rng; exact ⟨tp, p, var_keep e k⟩
  · obtain ⟨m, e⟩ := h.maxl; exact ⟨m, k.cell e (fun e => e)⟩
theorem itoa_any (w : World) (hL : LibW w) (n : Int) (h0 : -9223372036854775808 ≤ n) (h1 : n ≤ 9223372036854775807) :
    Calls Tryz.prog 114 #[.int .i64 n] w fun e w' => e = .returned (.string (bstr (Lib.itoa n))) ∧ Keep Nb w w' := by
  refine Calls.mono (Any.strconv_Itoa Tryz.laysM171 n h0 h1 w hL.pow) ?_
  rintro e w' ⟨rfl, k, os, rfl⟩
  exact ⟨rfl, keep_grow w k os⟩
theorem formatInt_any (w : World) (hL : LibW w) (n : Int) (h0 : -9223372036854775808 ≤ n) (h1 : n ≤ 9223372036854775807) :
    Calls Tryz.prog 158 #[.int .i64 n, .int .i64 10] w fun e w' => e = .returned (.string (bstr (Lib.itoa n))) ∧ Keep Nb w w' := by
  refine Calls.mono (Any.strconv_FormatInt_10 Tryz.laysM173 n h0 h1 w hL.pow) ?_
  rintro e w' ⟨rfl, k, os, rfl⟩
  exact ⟨rfl, keep_grow w k os⟩
theorem atoi_any (w : World) (hL : LibW w) (s : ByteArray) (hs : s.size ≤ 281474976710656) :
    Calls Tryz.prog 112 #[.string s] w fun e w' => (∃ v, Lib.atoiAll s.data.toList = .ok v ∧ e = .returned (.tuple #[.int .i64 v, .nilIface]) ∨ (∀ v, Lib.atoiAll s.data.toList ≠ .ok v) ∧ ∃ t p, e = .returned (.tuple #[.int .i64 v, .iface t p])) ∧ Keep Nb w w' := by
  cases h : Lib.atoiAll s.data.toList with
  | ok v =>
    refine Calls.mono (Any.strconv_Atoi_ok Tryz.laysC172 s (by omega) v h w) ?_
    rintro e w' ⟨rfl, hw⟩
    refine ⟨⟨v, .inl ⟨rfl, rfl⟩⟩, ?_⟩
    rcases hw with rfl | ⟨t, rfl⟩
    · exact Keep.refl _ _
    · exact Keep.below (Lib.bytesWorld_below _ _ _)
  | range =>
    obtain ⟨tp, p, hv⟩ := hL.rng
    refine Calls.mono (Any.strconv_Atoi_range_var Tryz.laysC172 s hs h tp p w hv) ?_
    rintro e w' ⟨M, rfl, _, _, hb⟩
    exact ⟨⟨_, .inr ⟨fun v e => (by cases e), _, _, rfl⟩⟩, Keep.below hb⟩
  | _ =>
    obtain ⟨tp, p, hv⟩ := hL.syn
    refine Calls.mono (Any.strconv_Atoi_syntax_var Tryz.laysC172 s hs h tp p w hv) ?_
    rintro e w' ⟨M, rfl, _, _, hb⟩
    exact ⟨⟨_, .inr ⟨fun v e => (by cases e), _, _, rfl⟩⟩, Keep.below hb⟩
theorem parseInt_any (w : World) (hL : LibW w) (s : ByteArray) (hs : s.size ≤ 281474976710656) :
    Calls Tryz.prog 157 #[.string s, .int .i64 10, .int .i64 64] w fun e w' => (∃ v, Lib.parseIntB 64 s.data.toList = .ok v ∧ e = .returned (.tuple #[.int .i64 v, .nilIface]) ∨ (∀ v, Lib.parseIntB 64 s.data.toList ≠ .ok v) ∧ ∃ t p, e = .returned (.tuple #[.int .i64 v, .iface t p])) ∧ Keep Nb w w' := by
  cases h : Lib.parseIntB 64 s.data.toList with
  | ok v =>
    refine Calls.mono (Any.strconv_ParseInt_10_at64_ok Tryz.laysC174 s (by omega) v h w) ?_
    rintro e w' ⟨rfl, hw⟩
    refine ⟨⟨v, .inl ⟨rfl, rfl⟩⟩, ?_⟩
    rcases hw with rfl | ⟨t, rfl⟩
    · exact Keep.refl _ _
    · exact Keep.below (Lib.bytesWorld_below _ _ _)
  | range =>
    obtain ⟨tp, p, hv⟩ := hL.rng
    refine Calls.mono (Any.strconv_ParseInt_10_at64_range_var Tryz.laysC174 s hs h tp p w hv) ?_
    rintro e w' ⟨M, rfl, _, _, hb⟩
    exact ⟨⟨_, .inr ⟨fun v e => (by cases e), _, _, rfl⟩⟩, Keep.below hb⟩
  | _ =>
    obtain ⟨tp, p, hv⟩ := hL.syn
    refine Calls.mono (Any.strconv_ParseInt_10_at64_syntax_var Tryz.laysC174 s hs h tp p w hv) ?_
    rintro e w' ⟨M, rfl, _, _, hb⟩
    exact ⟨⟨_, .inr ⟨fun v e => (by cases e), _, _, rfl⟩⟩, Keep.below hb⟩
def strs (l : List ByteArray) : List Value := l.map Value.string
theorem split_any (w : World) (hL : LibW w) (s sep : ByteArray) (hs : s.size < 4294967281) (h1 : 1 ≤ sep.size) :
    Calls Tryz.prog 109 #[.string s, .string sep] w fun e w' => ∃ n c, e = .returned (.slice (some ⟨w.heap.size, 0, none⟩) n c) ∧ Sl (fun k => k = w.heap.size) w' 9 1 (some ⟨w.heap.size, 0, none⟩) n c (strs (Lib.splitB sep 0 (Lib.countB s sep) s)) ∧
      (Lib.splitB sep 0 (Lib.countB s sep) s).length = n ∧ Keep Nb w w' := by
  obtain ⟨m, hm⟩ := hL.maxl
  have hlen := Lib.splitB_all sep h1 0 _ s rfl
  refine Calls.mono (Any.strings_Split Tryz.lays146 (by kernel_rfl) s sep m w hs hm h1) ?_
  rintro e w' ⟨rfl, rfl⟩
  have hle := Lib.countB_le sep h1 s.size s (Nat.le_refl _)
  refine ⟨_, _, rfl, ?_, hlen, (Keep.refl Nb w).alloc _⟩
  refine ⟨⟨by simp [strs, hlen], .inr ⟨w.heap.size, _, _, rfl, Nat.zero_le _, heap_alloc_new w _, Nat.le_refl _, by simp only [maxLen]; omega, by simp [hlen], by
    rw [List.toList_toArray, List.take_of_length_le (by simp [hlen])]; rfl⟩⟩, fun a ha => by cases ha; rfl⟩
theorem sjoin_any (F : Nat → Prop) (w : World) (o : Option Addr) (n c : Nat) (xs : List ByteArray) (sep : ByteArray) (hS : Sl F w 9 1 o n c (strs xs)) (hN : n ≤ 1000000) (hl : (Lib.join (xs.map (·.data.toList)) sep.data.toList).length ≤ 140737488355328) :
    Calls Tryz.prog 179 #[.slice o n c, .string sep] w fun e w' => e = .returned (.string (bstr (Lib.join (xs.map (·.data.toList)) sep.data.toList))) ∧ Keep Nb w w' := by
  have hn : xs.length = n := by have := hS.len; simpa [strs] using this
  rcases Nat.eq_zero_or_pos n with h0 | h0
  · subst h0
    have hx : xs = [] := List.length_eq_zero_iff.1 hn
    subst hx
    refine Calls.mono (Any.strings_Join_none Tryz.lays156 Tryz.Builder_Extra_156 o c sep w) ?_
    rintro e w' ⟨rfl, rfl⟩
    exact ⟨rfl, Keep.refl _ _⟩
  · obtain ⟨g, rfl, _, hc, hrow⟩ := hS.pos h0
    subst hn
    refine Calls.mono (Any.strings_Join Tryz.lays156 Tryz.Builder_Extra_156 g 0 c xs sep w (fun j x hx => by
      rw [Nat.zero_add]
      exact hrow.cell (by simp [strs, hx])) hrow.lt (by omega) hc hl) ?_
    rintro e w' ⟨rfl, hb⟩
    exact ⟨rfl, Keep.below hb⟩
end Go.Proofs.YtkpoobnldgfapabGreatDoor

