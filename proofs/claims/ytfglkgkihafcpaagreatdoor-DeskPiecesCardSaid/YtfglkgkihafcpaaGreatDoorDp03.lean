/- Part 3 of the proof: ShelfS StrKit LibLaw DkDoes. -/
import Derived.Test.YtfglkgkihafcpaaGreatDoorDp01
import Derived.Test.YtfglkgkihafcpaaGreatDoorDp02
import Derived.Shelf.Strings.BuilderK
import Derived.Shelf.Strings.OnBuilder
import Derived.Shelf.Strconv.Itoa3
import Derived.Shelf.Strconv.Itoa4
import Derived.Shelf.Strconv.ErrVarAll
import Derived.Shelf.Strconv.ErrVarParseInt
import Derived.Shelf.Strings.SplitShaped
import Derived.Shelf.Strings.Split
import Derived.Shelf.Strings.Prefix
import Derived.Shelf.Small.Wraps
import Derived.Shelf.Strings.Search1
import Derived.Shelf.Strings.Search2
import Derived.Ground.NamesProg
import Derived.Test.YtfglkgkihafcpaaGreatDoorProg
import Derived.Lib.AppendIntMem
import Derived.Lib.LaidTab
import Derived.Lib.LaidIn
import Derived.Handed
import Derived.ChangeMaps
import Derived.Maps.Own
import Derived.StringKeys
set_option linter.unusedVariables false
set_option linter.unusedSimpArgs false
namespace Go.Proofs
open Go.Shelf
def Tryz.lays169_ren : Go.Shelf.Ren := ⟨fun | 169 => 13 | n => n, fun | 70 => 36 | 9 => 9 | 0 => 0 | 72 => 39 | 37 => 37 | 127 => 74 | 3 => 3 | 5 => 5 | n => n, fun | n => n⟩
theorem Tryz.lays169 : Go.Proofs.Lays.n169 Tryz.prog Tryz.lays169_ren := {
 mixed := by kernel_rfl
 f169 := Tryz.func13.trans (congrArg some (by kernel_rfl))
 t0 := Tryz.underlying0
 a0 := Tryz.isAgg0
 z0 := Tryz.sizeOf0
 v0 := Tryz.zeroValue0
 t3 := Tryz.underlying3
 a3 := Tryz.isAgg3
 z3 := Tryz.sizeOf3
 v3 := Tryz.zeroValue3
 t9 := Tryz.underlying9
 a9 := Tryz.isAgg9
 z9 := Tryz.sizeOf9
 v9 := Tryz.zeroValue9
 t37 := Tryz.underlying37
 a37 := Tryz.isAgg37
 z37 := Tryz.sizeOf37
 v37 := Tryz.zeroValue37
 t70 := Tryz.underlying36
 a70 := Tryz.isAgg36
 z70 := Tryz.sizeOf36
 v70 := Tryz.zeroValue36
 t72 := Tryz.underlying39
 a72 := Tryz.isAgg39
 z72 := Tryz.sizeOf39
 v72 := Tryz.zeroValue39
 t127 := Tryz.underlying74
 a127 := Tryz.isAgg74
 z127 := Tryz.sizeOf74
 v127 := Tryz.zeroValue74 }
theorem Tryz.Builder_Extra_169 : Builder.Extra Tryz.prog Tryz.lays169_ren := {
 sizeBuilder := by kernel_rfl
 liesBuilder := by kernel_rfl
 t5 := Tryz.underlying5
 a5 := Tryz.isAgg5
 z5 := Tryz.sizeOf5
 v5 := Tryz.zeroValue5
 infoByte := by kernel_rfl
 cellsByte := by kernel_rfl
 sizeByte := by kernel_rfl
 neB5 := by decide }
def Tryz.lays156_ren : Go.Shelf.Ren := ⟨fun | 156 => 134 | 165 => 168 | 166 => 11 | 169 => 13 | 240 => 23 | 241 => 197 | 276 => 55 | 277 => 212 | n => n, fun | 31 => 24 | 9 => 9 | 3 => 3 | 4 => 4 | 0 => 0 | 20 => 20 | 72 => 39 | 76 => 44 | 70 => 36 | 37 => 37 | 75 => 26 | 127 => 74 | 164 => 77 | 5 => 5 | 80 => 46 | n => n, fun | n => n⟩
theorem Tryz.lays156 : Go.Proofs.Lays.n156 Tryz.prog Tryz.lays156_ren := {
 mixed := by kernel_rfl
 f156 := Tryz.func134.trans (congrArg some (by kernel_rfl))
 f165 := Tryz.func168.trans (congrArg some (by kernel_rfl))
 f166 := Tryz.func11.trans (congrArg some (by kernel_rfl))
 f169 := Tryz.func13.trans (congrArg some (by kernel_rfl))
 f240 := Tryz.func23.trans (congrArg some (by kernel_rfl))
 f241 := Tryz.func197.trans (congrArg some (by kernel_rfl))
 f276 := Tryz.func55.trans (congrArg some (by kernel_rfl))
 f277 := Tryz.func212.trans (congrArg some (by kernel_rfl))
 t0 := Tryz.underlying0
 a0 := Tryz.isAgg0
 z0 := Tryz.sizeOf0
 v0 := Tryz.zeroValue0
 t3 := Tryz.underlying3
 a3 := Tryz.isAgg3
 z3 := Tryz.sizeOf3
 v3 := Tryz.zeroValue3
 t4 := Tryz.underlying4
 a4 := Tryz.isAgg4
 z4 := Tryz.sizeOf4
 v4 := Tryz.zeroValue4
 t9 := Tryz.underlying9
 a9 := Tryz.isAgg9
 z9 := Tryz.sizeOf9
 v9 := Tryz.zeroValue9
 t20 := Tryz.underlying20
 a20 := Tryz.isAgg20
 z20 := Tryz.sizeOf20
 v20 := Tryz.zeroValue20
 t31 := Tryz.underlying24
 a31 := Tryz.isAgg24
 z31 := Tryz.sizeOf24
 v31 := Tryz.zeroValue24
 t37 := Tryz.underlying37
 a37 := Tryz.isAgg37
 z37 := Tryz.sizeOf37
 v37 := Tryz.zeroValue37
 t70 := Tryz.underlying36
 a70 := Tryz.isAgg36
 z70 := Tryz.sizeOf36
 v70 := Tryz.zeroValue36
 t72 := Tryz.underlying39
 a72 := Tryz.isAgg39
 z72 := Tryz.sizeOf39
 v72 := Tryz.zeroValue39
 t75 := Tryz.underlying26
 a75 := Tryz.isAgg26
 z75 := Tryz.sizeOf26
 v75 := Tryz.zeroValue26
 t76 := Tryz.underlying44
 a76 := Tryz.isAgg44
 z76 := Tryz.sizeOf44
 v76 := Tryz.zeroValue44
 t127 := Tryz.underlying74
 a127 := Tryz.isAgg74
 z127 := Tryz.sizeOf74
 v127 := Tryz.zeroValue74
 t164 := Tryz.underlying77
 a164 := Tryz.isAgg77
 z164 := Tryz.sizeOf77
 v164 := Tryz.zeroValue77 }
theorem Tryz.Builder_Extra_156 : Builder.Extra Tryz.prog Tryz.lays156_ren := {
 sizeBuilder := by kernel_rfl
 liesBuilder := by kernel_rfl
 t5 := Tryz.underlying5
 a5 := Tryz.isAgg5
 z5 := Tryz.sizeOf5
 v5 := Tryz.zeroValue5
 infoByte := by kernel_rfl
 cellsByte := by kernel_rfl
 sizeByte := by kernel_rfl
 neB5 := by decide }
def Tryz.laysM171_ren : Go.Shelf.Ren := ⟨fun | 171 => 25 | 243 => 56 | 246 => 85 | 283 => 127 | 284 => 128 | 285 => 129 | 286 => 130 | 129 => 162 | 317 => 161 | 318 => 163 | 319 => 164 | 320 => 165 | 337 => 191 | 338 => 192 | n => n, fun | 3 => 3 | 9 => 9 | 2 => 2 | 4 => 4 | 171 => 182 | 0 => 0 | 53 => 53 | 37 => 37 | 5 => 5 | 173 => 185 | 212 => 222 | 51 => 56 | 20 => 20 | 213 => 223 | 46 => 60 | 232 => 283 | 233 => 284 | n => n, fun | 17 => 6 | 18 => 7 | 19 => 8 | n => n⟩
theorem Tryz.laysM171 : Go.Proofs.LaysM.n171 Tryz.prog Tryz.laysM171_ren := {
 mixed := by kernel_rfl
 f129 := Tryz.func162.trans (congrArg some (by kernel_rfl))
 f171 := Tryz.func25.trans (congrArg some (by kernel_rfl))
 f243 := Tryz.func56.trans (congrArg some (by kernel_rfl))
 f246 := Tryz.func85.trans (congrArg some (by kernel_rfl))
 f283 := Tryz.func127.trans (congrArg some (by kernel_rfl))
 f284 := Tryz.func128.trans (congrArg some (by kernel_rfl))
 f285 := Tryz.func129.trans (congrArg some (by kernel_rfl))
 f286 := Tryz.func130.trans (congrArg some (by kernel_rfl))
 f317 := Tryz.func161.trans (congrArg some (by kernel_rfl))
 f318 := Tryz.func163.trans (congrArg some (by kernel_rfl))
 f319 := Tryz.func164.trans (congrArg some (by kernel_rfl))
 f320 := Tryz.func165.trans (congrArg some (by kernel_rfl))
 f337 := Tryz.func191.trans (congrArg some (by kernel_rfl))
 f338 := Tryz.func192.trans (congrArg some (by kernel_rfl))
 t0 := Tryz.underlying0
 a0 := Tryz.isAgg0
 z0 := Tryz.sizeOf0
 v0 := Tryz.zeroValue0
 t2 := Tryz.underlying2
 a2 := Tryz.isAgg2
 z2 := Tryz.sizeOf2
 v2 := Tryz.zeroValue2
 t3 := Tryz.underlying3
 a3 := Tryz.isAgg3
 z3 := Tryz.sizeOf3
 v3 := Tryz.zeroValue3
 t4 := Tryz.underlying4
 a4 := Tryz.isAgg4
 z4 := Tryz.sizeOf4
 v4 := Tryz.zeroValue4
 t5 := Tryz.underlying5
 a5 := Tryz.isAgg5
 z5 := Tryz.sizeOf5
 v5 := Tryz.zeroValue5
 t9 := Tryz.underlying9
 a9 := Tryz.isAgg9
 z9 := Tryz.sizeOf9
 v9 := Tryz.zeroValue9
 t20 := Tryz.underlying20
 a20 := Tryz.isAgg20
 z20 := Tryz.sizeOf20
 v20 := Tryz.zeroValue20
 t37 := Tryz.underlying37
 a37 := Tryz.isAgg37
 z37 := Tryz.sizeOf37
 v37 := Tryz.zeroValue37
 t46 := Tryz.underlying60
 a46 := Tryz.isAgg60
 z46 := Tryz.sizeOf60
 v46 := Tryz.zeroValue60
 t51 := Tryz.underlying56
 a51 := Tryz.isAgg56
 z51 := Tryz.sizeOf56
 v51 := Tryz.zeroValue56
 t53 := Tryz.underlying53
 a53 := Tryz.isAgg53
 z53 := Tryz.sizeOf53
 v53 := Tryz.zeroValue53
 t171 := Tryz.underlying182
 a171 := Tryz.isAgg182
 z171 := Tryz.sizeOf182
 v171 := Tryz.zeroValue182
 t173 := Tryz.underlying185
 a173 := Tryz.isAgg185
 z173 := Tryz.sizeOf185
 v173 := Tryz.zeroValue185
 t212 := Tryz.underlying222
 a212 := Tryz.isAgg222
 z212 := Tryz.sizeOf222
 v212 := Tryz.zeroValue222
 t213 := Tryz.underlying223
 a213 := Tryz.isAgg223
 z213 := Tryz.sizeOf223
 t232 := Tryz.underlying283
 a232 := Tryz.isAgg283
 z232 := Tryz.sizeOf283
 v232 := Tryz.zeroValue283
 t233 := Tryz.underlying284
 a233 := Tryz.isAgg284
 z233 := Tryz.sizeOf284
 v233 := Tryz.zeroValue284
 g17 := by kernel_rfl
 g18 := by kernel_rfl
 g19 := by kernel_rfl
 i0 := by kernel_rfl
 i2 := by kernel_rfl
 i3 := by kernel_rfl
 i4 := by kernel_rfl
 i5 := by kernel_rfl
 i9 := by kernel_rfl
 i20 := by kernel_rfl
 i37 := by kernel_rfl
 i46 := by kernel_rfl
 i51 := by kernel_rfl
 i53 := by kernel_rfl
 i171 := by kernel_rfl
 i173 := by kernel_rfl
 i212 := by kernel_rfl
 i232 := by kernel_rfl
 i233 := by kernel_rfl
 m17 := by kernel_rfl
 m18 := by kernel_rfl
 m19 := by kernel_rfl }
def Tryz.laysC172_ren : Go.Shelf.Ren := ⟨fun | 172 => 49 | 244 => 80 | 245 => 81 | 247 => 114 | 279 => 115 | 280 => 116 | 281 => 117 | 282 => 118 | 287 => 153 | 316 => 154 | 171 => 25 | 205 => 155 | 321 => 189 | 322 => 190 | 243 => 56 | 246 => 85 | 283 => 127 | 284 => 128 | 285 => 129 | 286 => 130 | 129 => 162 | 317 => 161 | 318 => 163 | 319 => 164 | 320 => 165 | 337 => 191 | 338 => 192 | n => n, fun | 9 => 9 | 3 => 3 | 75 => 26 | 76 => 44 | 4 => 4 | 5 => 5 | 167 => 160 | 37 => 37 | 0 => 0 | 85 => 161 | 2 => 2 | 168 => 163 | 53 => 53 | 175 => 200 | 46 => 60 | 210 => 203 | 127 => 74 | 145 => 263 | 143 => 261 | 21 => 21 | 171 => 182 | 173 => 185 | 212 => 222 | 51 => 56 | 20 => 20 | 213 => 223 | 232 => 283 | 233 => 284 | 80 => 46 | n => n, fun | 15 => 4 | 16 => 5 | 17 => 6 | 18 => 7 | 19 => 8 | n => n⟩
theorem Tryz.laysC172 : Go.Proofs.LaysC.n172 Tryz.prog Tryz.laysC172_ren := {
 mixed := by kernel_rfl
 f129 := Tryz.func162.trans (congrArg some (by kernel_rfl))
 f171 := Tryz.func25.trans (congrArg some (by kernel_rfl))
 f172 := Tryz.func49.trans (congrArg some (by kernel_rfl))
 f205 := Tryz.func155.trans (congrArg some (by kernel_rfl))
 f243 := Tryz.func56.trans (congrArg some (by kernel_rfl))
 f244 := Tryz.func80.trans (congrArg some (by kernel_rfl))
 f245 := Tryz.func81.trans (congrArg some (by kernel_rfl))
 f246 := Tryz.func85.trans (congrArg some (by kernel_rfl))
 f247 := Tryz.func114.trans (congrArg some (by kernel_rfl))
 f279 := Tryz.func115.trans (congrArg some (by kernel_rfl))
 f280 := Tryz.func116.trans (congrArg some (by kernel_rfl))
 f281 := Tryz.func117.trans (congrArg some (by kernel_rfl))
 f282 := Tryz.func118.trans (congrArg some (by kernel_rfl))
 f283 := Tryz.func127.trans (congrArg some (by kernel_rfl))
 f284 := Tryz.func128.trans (congrArg some (by kernel_rfl))
 f285 := Tryz.func129.trans (congrArg some (by kernel_rfl))
 f286 := Tryz.func130.trans (congrArg some (by kernel_rfl))
 f287 := Tryz.func153.trans (congrArg some (by kernel_rfl))
 f316 := Tryz.func154.trans (congrArg some (by kernel_rfl))
 f317 := Tryz.func161.trans (congrArg some (by kernel_rfl))
 f318 := Tryz.func163.trans (congrArg some (by kernel_rfl))
 f319 := Tryz.func164.trans (congrArg some (by kernel_rfl))
 f320 := Tryz.func165.trans (congrArg some (by kernel_rfl))
 f321 := Tryz.func189.trans (congrArg some (by kernel_rfl))
 f322 := Tryz.func190.trans (congrArg some (by kernel_rfl))
 f337 := Tryz.func191.trans (congrArg some (by kernel_rfl))
 f338 := Tryz.func192.trans (congrArg some (by kernel_rfl))
 t0 := Tryz.underlying0
 a0 := Tryz.isAgg0
 z0 := Tryz.sizeOf0
 v0 := Tryz.zeroValue0
 t2 := Tryz.underlying2
 a2 := Tryz.isAgg2
 z2 := Tryz.sizeOf2
 v2 := Tryz.zeroValue2
 t3 := Tryz.underlying3
 a3 := Tryz.isAgg3
 z3 := Tryz.sizeOf3
 v3 := Tryz.zeroValue3
 t4 := Tryz.underlying4
 a4 := Tryz.isAgg4
 z4 := Tryz.sizeOf4
 v4 := Tryz.zeroValue4
 t5 := Tryz.underlying5
 a5 := Tryz.isAgg5
 z5 := Tryz.sizeOf5
 v5 := Tryz.zeroValue5
 t9 := Tryz.underlying9
 a9 := Tryz.isAgg9
 z9 := Tryz.sizeOf9
 v9 := Tryz.zeroValue9
 t20 := Tryz.underlying20
 a20 := Tryz.isAgg20
 z20 := Tryz.sizeOf20
 v20 := Tryz.zeroValue20
 t21 := Tryz.underlying21
 a21 := Tryz.isAgg21
 z21 := Tryz.sizeOf21
 v21 := Tryz.zeroValue21
 t37 := Tryz.underlying37
 a37 := Tryz.isAgg37
 z37 := Tryz.sizeOf37
 v37 := Tryz.zeroValue37
 t46 := Tryz.underlying60
 a46 := Tryz.isAgg60
 z46 := Tryz.sizeOf60
 v46 := Tryz.zeroValue60
 t51 := Tryz.underlying56
 a51 := Tryz.isAgg56
 z51 := Tryz.sizeOf56
 v51 := Tryz.zeroValue56
 t53 := Tryz.underlying53
 a53 := Tryz.isAgg53
 z53 := Tryz.sizeOf53
 v53 := Tryz.zeroValue53
 t75 := Tryz.underlying26
 a75 := Tryz.isAgg26
 z75 := Tryz.sizeOf26
 v75 := Tryz.zeroValue26
 t76 := Tryz.underlying44
 a76 := Tryz.isAgg44
 z76 := Tryz.sizeOf44
 v76 := Tryz.zeroValue44
 t85 := Tryz.underlying161
 a85 := Tryz.isAgg161
 z85 := Tryz.sizeOf161
 v85 := Tryz.zeroValue161
 t127 := Tryz.underlying74
 a127 := Tryz.isAgg74
 z127 := Tryz.sizeOf74
 v127 := Tryz.zeroValue74
 t143 := Tryz.underlying261
 a143 := Tryz.isAgg261
 z143 := Tryz.sizeOf261
 v143 := Tryz.zeroValue261
 t145 := Tryz.underlying263
 a145 := Tryz.isAgg263
 z145 := Tryz.sizeOf263
 v145 := Tryz.zeroValue263
 t167 := Tryz.underlying160
 a167 := Tryz.isAgg160
 z167 := Tryz.sizeOf160
 v167 := Tryz.zeroValue160
 t168 := Tryz.underlying163
 a168 := Tryz.isAgg163
 z168 := Tryz.sizeOf163
 v168 := Tryz.zeroValue163
 t171 := Tryz.underlying182
 a171 := Tryz.isAgg182
 z171 := Tryz.sizeOf182
 v171 := Tryz.zeroValue182
 t173 := Tryz.underlying185
 a173 := Tryz.isAgg185
 z173 := Tryz.sizeOf185
 v173 := Tryz.zeroValue185
 t175 := Tryz.underlying200
 a175 := Tryz.isAgg200
 z175 := Tryz.sizeOf200
 v175 := Tryz.zeroValue200
 t210 := Tryz.underlying203
 a210 := Tryz.isAgg203
 z210 := Tryz.sizeOf203
 v210 := Tryz.zeroValue203
 t212 := Tryz.underlying222
 a212 := Tryz.isAgg222
 z212 := Tryz.sizeOf222
 v212 := Tryz.zeroValue222
 t213 := Tryz.underlying223
 a213 := Tryz.isAgg223
 z213 := Tryz.sizeOf223
 t232 := Tryz.underlying283
 a232 := Tryz.isAgg283
 z232 := Tryz.sizeOf283
 v232 := Tryz.zeroValue283
 t233 := Tryz.underlying284
 a233 := Tryz.isAgg284
 z233 := Tryz.sizeOf284
 v233 := Tryz.zeroValue284
 g15 := by kernel_rfl
 g16 := by kernel_rfl
 g17 := by kernel_rfl
 g18 := by kernel_rfl
 g19 := by kernel_rfl
 t80 := Tryz.underlying46
 a80 := Tryz.isAgg46
 z80 := Tryz.sizeOf46
 v80 := Tryz.zeroValue46
 i0 := by kernel_rfl
 i2 := by kernel_rfl
 i3 := by kernel_rfl
 i4 := by kernel_rfl
 i5 := by kernel_rfl
 i9 := by kernel_rfl
 i20 := by kernel_rfl
 i21 := by kernel_rfl
 i37 := by kernel_rfl
 i46 := by kernel_rfl
 i51 := by kernel_rfl
 i53 := by kernel_rfl
 i75 := by kernel_rfl
 i76 := by kernel_rfl
 i80 := by kernel_rfl
 i85 := by kernel_rfl
 i127 := by kernel_rfl
 i143 := by kernel_rfl
 i145 := by kernel_rfl
 i167 := by kernel_rfl
 i168 := by kernel_rfl
 i171 := by kernel_rfl
 i173 := by kernel_rfl
 i175 := by kernel_rfl
 i210 := by kernel_rfl
 i212 := by kernel_rfl
 i232 := by kernel_rfl
 i233 := by kernel_rfl
 m15 := by kernel_rfl
 m16 := by kernel_rfl
 m17 := by kernel_rfl
 m18 := by kernel_rfl
 m19 := by kernel_rfl
 c0 := by kernel_rfl
 c2 := by kernel_rfl
 c3 := by kernel_rfl
 c4 := by kernel_rfl
 c5 := by kernel_rfl
 c9 := by kernel_rfl
 c20 := by kernel_rfl
 c21 := by kernel_rfl
 c37 := by kernel_rfl
 c46 := by kernel_rfl
 c51 := by kernel_rfl
 c53 := by kernel_rfl
 c75 := by kernel_rfl
 c76 := by kernel_rfl
 c80 := by kernel_rfl
 c85 := by kernel_rfl
 c127 := by kernel_rfl
 c143 := by kernel_rfl
 c145 := by kernel_rfl
 c167 := by kernel_rfl
 c168 := by kernel_rfl
 c171 := by kernel_rfl
 c173 := by kernel_rfl
 c175 := by kernel_rfl
 c210 := by kernel_rfl
 c212 := by kernel_rfl
 c213 := by kernel_rfl
 c232 := by kernel_rfl
 c233 := by kernel_rfl }
def Tryz.lays146_ren : Go.Shelf.Ren := ⟨fun | 146 => 142 | 221 => 175 | 268 => 206 | 138 => 207 | 143 => 53 | 195 => 219 | 197 => 52 | 218 => 220 | 219 => 84 | 260 => 83 | 217 => 123 | 225 => 124 | 224 => 125 | 267 => 126 | 266 => 159 | 314 => 160 | n => n, fun | 9 => 9 | 31 => 24 | 3 => 3 | 4 => 4 | 0 => 0 | 105 => 103 | 21 => 21 | 5 => 5 | 46 => 60 | 119 => 177 | 139 => 180 | 138 => 179 | 146 => 219 | 51 => 56 | n => n, fun | 1 => 3 | 3 => 1 | 4 => 2 | n => n⟩
theorem Tryz.lays146 : Go.Proofs.Lays.n146 Tryz.prog Tryz.lays146_ren := {
 mixed := by kernel_rfl
 f138 := Tryz.func207.trans (congrArg some (by kernel_rfl))
 f143 := Tryz.func53.trans (congrArg some (by kernel_rfl))
 f146 := Tryz.func142.trans (congrArg some (by kernel_rfl))
 f195 := Tryz.func219.trans (congrArg some (by kernel_rfl))
 f197 := Tryz.func52.trans (congrArg some (by kernel_rfl))
 f217 := Tryz.func123.trans (congrArg some (by kernel_rfl))
 f218 := Tryz.func220.trans (congrArg some (by kernel_rfl))
 f219 := Tryz.func84.trans (congrArg some (by kernel_rfl))
 f221 := Tryz.func175.trans (congrArg some (by kernel_rfl))
 f224 := Tryz.func125.trans (congrArg some (by kernel_rfl))
 f225 := Tryz.func124.trans (congrArg some (by kernel_rfl))
 f260 := Tryz.func83.trans (congrArg some (by kernel_rfl))
 f266 := Tryz.func159.trans (congrArg some (by kernel_rfl))
 f267 := Tryz.func126.trans (congrArg some (by kernel_rfl))
 f268 := Tryz.func206.trans (congrArg some (by kernel_rfl))
 f314 := Tryz.func160.trans (congrArg some (by kernel_rfl))
 t0 := Tryz.underlying0
 a0 := Tryz.isAgg0
 z0 := Tryz.sizeOf0
 v0 := Tryz.zeroValue0
 t3 := Tryz.underlying3
 a3 := Tryz.isAgg3
 z3 := Tryz.sizeOf3
 v3 := Tryz.zeroValue3
 t4 := Tryz.underlying4
 a4 := Tryz.isAgg4
 z4 := Tryz.sizeOf4
 v4 := Tryz.zeroValue4
 t5 := Tryz.underlying5
 a5 := Tryz.isAgg5
 z5 := Tryz.sizeOf5
 v5 := Tryz.zeroValue5
 t9 := Tryz.underlying9
 a9 := Tryz.isAgg9
 z9 := Tryz.sizeOf9
 v9 := Tryz.zeroValue9
 t21 := Tryz.underlying21
 a21 := Tryz.isAgg21
 z21 := Tryz.sizeOf21
 v21 := Tryz.zeroValue21
 t31 := Tryz.underlying24
 a31 := Tryz.isAgg24
 z31 := Tryz.sizeOf24
 v31 := Tryz.zeroValue24
 t46 := Tryz.underlying60
 a46 := Tryz.isAgg60
 z46 := Tryz.sizeOf60
 v46 := Tryz.zeroValue60
 t51 := Tryz.underlying56
 a51 := Tryz.isAgg56
 z51 := Tryz.sizeOf56
 v51 := Tryz.zeroValue56
 t105 := Tryz.underlying103
 a105 := Tryz.isAgg103
 z105 := Tryz.sizeOf103
 v105 := Tryz.zeroValue103
 t119 := Tryz.underlying177
 a119 := Tryz.isAgg177
 z119 := Tryz.sizeOf177
 t138 := Tryz.underlying179
 a138 := Tryz.isAgg179
 z138 := Tryz.sizeOf179
 v138 := Tryz.zeroValue179
 t139 := Tryz.underlying180
 a139 := Tryz.isAgg180
 z139 := Tryz.sizeOf180
 v139 := Tryz.zeroValue180
 t146 := Tryz.underlying219
 a146 := Tryz.isAgg219
 z146 := Tryz.sizeOf219
 v146 := Tryz.zeroValue219
 g1 := by kernel_rfl
 g3 := by kernel_rfl
 g4 := by kernel_rfl }
def Tryz.lays143_ren : Go.Shelf.Ren := ⟨fun | 143 => 53 | 219 => 84 | 217 => 123 | 225 => 124 | 224 => 125 | 267 => 126 | 266 => 159 | 314 => 160 | n => n, fun | 9 => 9 | 3 => 3 | 4 => 4 | 5 => 5 | 46 => 60 | 146 => 219 | 51 => 56 | n => n, fun | 1 => 3 | n => n⟩
theorem Tryz.lays143 : Go.Proofs.Lays.n143 Tryz.prog Tryz.lays143_ren := {
 mixed := by kernel_rfl
 f143 := Tryz.func53.trans (congrArg some (by kernel_rfl))
 f217 := Tryz.func123.trans (congrArg some (by kernel_rfl))
 f219 := Tryz.func84.trans (congrArg some (by kernel_rfl))
 f224 := Tryz.func125.trans (congrArg some (by kernel_rfl))
 f225 := Tryz.func124.trans (congrArg some (by kernel_rfl))
 f266 := Tryz.func159.trans (congrArg some (by kernel_rfl))
 f267 := Tryz.func126.trans (congrArg some (by kernel_rfl))
 f314 := Tryz.func160.trans (congrArg some (by kernel_rfl))
 t3 := Tryz.underlying3
 a3 := Tryz.isAgg3
 z3 := Tryz.sizeOf3
 v3 := Tryz.zeroValue3
 t4 := Tryz.underlying4
 a4 := Tryz.isAgg4
 z4 := Tryz.sizeOf4
 v4 := Tryz.zeroValue4
 t5 := Tryz.underlying5
 a5 := Tryz.isAgg5
 z5 := Tryz.sizeOf5
 v5 := Tryz.zeroValue5
 t9 := Tryz.underlying9
 a9 := Tryz.isAgg9
 z9 := Tryz.sizeOf9
 v9 := Tryz.zeroValue9
 t46 := Tryz.underlying60
 a46 := Tryz.isAgg60
 z46 := Tryz.sizeOf60
 v46 := Tryz.zeroValue60
 t51 := Tryz.underlying56
 a51 := Tryz.isAgg56
 z51 := Tryz.sizeOf56
 v51 := Tryz.zeroValue56
 t146 := Tryz.underlying219
 a146 := Tryz.isAgg219
 z146 := Tryz.sizeOf219
 v146 := Tryz.zeroValue219
 g1 := by kernel_rfl }
def Tryz.lays102_ren : Go.Shelf.Ren := ⟨fun | 102 => 10 | 209 => 22 | 207 => 54 | n => n, fun | 9 => 9 | 4 => 4 | 3 => 3 | n => n, fun | n => n⟩
theorem Tryz.lays102 : Go.Proofs.Lays.n102 Tryz.prog Tryz.lays102_ren := {
 mixed := by kernel_rfl
 f102 := Tryz.func10.trans (congrArg some (by kernel_rfl))
 f207 := Tryz.func54.trans (congrArg some (by kernel_rfl))
 f209 := Tryz.func22.trans (congrArg some (by kernel_rfl))
 t3 := Tryz.underlying3
 a3 := Tryz.isAgg3
 z3 := Tryz.sizeOf3
 v3 := Tryz.zeroValue3
 t4 := Tryz.underlying4
 a4 := Tryz.isAgg4
 z4 := Tryz.sizeOf4
 v4 := Tryz.zeroValue4
 t9 := Tryz.underlying9
 a9 := Tryz.isAgg9
 z9 := Tryz.sizeOf9
 v9 := Tryz.zeroValue9 }
def Tryz.lays121_ren : Go.Shelf.Ren := ⟨fun | 121 => 87 | 214 => 133 | n => n, fun | 4 => 4 | 9 => 9 | n => n, fun | n => n⟩
theorem Tryz.lays121 : Go.Proofs.Lays.n121 Tryz.prog Tryz.lays121_ren := {
 mixed := by kernel_rfl
 f121 := Tryz.func87.trans (congrArg some (by kernel_rfl))
 f214 := Tryz.func133.trans (congrArg some (by kernel_rfl))
 t4 := Tryz.underlying4
 a4 := Tryz.isAgg4
 z4 := Tryz.sizeOf4
 v4 := Tryz.zeroValue4
 t9 := Tryz.underlying9
 a9 := Tryz.isAgg9
 z9 := Tryz.sizeOf9
 v9 := Tryz.zeroValue9 }
end Go.Proofs

namespace Go.Proofs.YtfglkgkihafcpaaGreatDoor
open Go.RowKit Go.Shelf Go.Sort
abbrev bstr (l : List UInt8) : ByteArray := ⟨l.toArray⟩
theorem bstr_list (l : List UInt8) : (bstr l).data.toList = l := rfl
theorem bstr_size (l : List UInt8) : (bstr l).size = l.length := by show (l.toArray).size = l.length; simp
theorem keep_grow (w : World) (k : Nat) (os : Array Obj) : Keep Nb w (grow (w.drewN k) os) :=
 ⟨rfl, rfl, rfl, by show w.heap.size ≤ (w.heap ++ os).size; rw [Array.size_append]; omega, fun j hj _ => by
  show (w.heap ++ os)[j]? = _
  rw [Array.getElem?_append_left hj]⟩
structure LibW (w : World) : Prop where
 pow : Lib.TabIs Tryz.prog w "internal/strconv.uint64pow10" .u64 Lib.pow10Tab
 syn : ∃ tp p, w.var? Tryz.prog "strconv.ErrSyntax" = some #[.iface tp p]
 rng : ∃ tp p, w.var? Tryz.prog "strconv.ErrRange" = some #[.iface tp p]
 maxl : ∃ m : Int, w.cell? ⟨Tryz.lays146_ren.g 1, 0, none⟩ = some (.int .i64 m)
theorem var_keep {w w' : World} {name : String} {v : Array Value} (h : w.var? Tryz.prog name = some v) (k : Keep Nb w w') : w'.var? Tryz.prog name = some v := by
 unfold World.var? at *
 cases hg : (Tryz.prog).globalNamed name with
 | none => simp [hg] at h
 | some g =>
  simp only [hg, Option.bind_some] at h ⊢
  have hlt : g < w.heap.size := by
   rcases Nat.lt_or_ge g w.heap.size with h' | h'
   ·exact h'
   ·rw [Array.getElem?_eq_none h'] at h; simp at h
  rw [k.block g hlt (fun e => e)]
  exact h
theorem LibW.keep {w w' : World} (h : LibW w) (k : Keep Nb w w') : LibW w' := by
 refine ⟨Lib.tabBelow_of_tabIs h.pow _ (k.to_below (fun _ _ e => e)), ?_, ?_, ?_⟩
 ·obtain ⟨tp, p, e⟩ := h.syn; exact ⟨tp, p, var_keep e k⟩
 ·obtain ⟨tp, p, e⟩ := h.rng; exact ⟨tp, p, var_keep e k⟩
 ·obtain ⟨m, e⟩ := h.maxl; exact ⟨m, k.cell e (fun e => e)⟩
theorem itoa_any (w : World) (hL : LibW w) (n : Int) (h0 : -9223372036854775808 ≤ n) (h1 : n ≤ 9223372036854775807) :
  Calls Tryz.prog 25 #[.int .i64 n] w fun e w' => e = .returned (.string (bstr (Lib.itoa n))) ∧ Keep Nb w w' := by
 refine Calls.mono (Any.strconv_Itoa Tryz.laysM171 n h0 h1 w hL.pow) ?_
 rintro e w' ⟨rfl, k, os, rfl⟩
 exact ⟨rfl, keep_grow w k os⟩
theorem atoi_any (w : World) (hL : LibW w) (s : ByteArray) (hs : s.size ≤ 281474976710656) :
  Calls Tryz.prog 49 #[.string s] w fun e w' => (∃ v, Lib.atoiAll s.data.toList = .ok v ∧ e = .returned (.tuple #[.int .i64 v, .nilIface]) ∨ (∀ v, Lib.atoiAll s.data.toList ≠ .ok v) ∧ ∃ t p, e = .returned (.tuple #[.int .i64 v, .iface t p])) ∧ Keep Nb w w' := by
 cases h : Lib.atoiAll s.data.toList with
 | ok v =>
  refine Calls.mono (Any.strconv_Atoi_ok Tryz.laysC172 s (by omega) v h w) ?_
  rintro e w' ⟨rfl, hw⟩
  refine ⟨⟨v, .inl ⟨rfl, rfl⟩⟩, ?_⟩
  rcases hw with rfl | ⟨t, rfl⟩
  ·exact Keep.refl _ _
  ·exact Keep.below (Lib.bytesWorld_below _ _ _)
 | range =>
  obtain ⟨tp, p, hv⟩ := hL.rng
  refine Calls.mono (Any.strconv_Atoi_range_var Tryz.laysC172 s hs h tp p w hv) ?_
  rintro e w' ⟨M, rfl, _, _, hb⟩
  exact ⟨⟨_, .inr ⟨fun v e => (by cases e), _, _, rfl⟩⟩, Keep.below hb⟩
 | _ =>
  obtain ⟨tp, p, hv⟩ := hL.syn
  refine Calls.mono (Any.strconv_Atoi_syntax_var Tryz.laysC172 s hs h tp p w hv) ?_
  rintro e w' ⟨M, rfl, _, _, hb⟩
  exact ⟨⟨_, .inr ⟨fun v e => (by cases e), _, _, rfl⟩⟩, Keep.below hb⟩
def strs (l : List ByteArray) : List Value := l.map Value.string
theorem split_any (w : World) (hL : LibW w) (s sep : ByteArray) (hs : s.size < 4294967281) (h1 : 1 ≤ sep.size) :
  Calls Tryz.prog 142 #[.string s, .string sep] w fun e w' => ∃ n c, e = .returned (.slice (some ⟨w.heap.size, 0, none⟩) n c) ∧ Sl (fun k => k = w.heap.size) w' 9 1 (some ⟨w.heap.size, 0, none⟩) n c (strs (Lib.splitB sep 0 (Lib.countB s sep) s)) ∧
   (Lib.splitB sep 0 (Lib.countB s sep) s).length = n ∧ Keep Nb w w' := by
 obtain ⟨m, hm⟩ := hL.maxl
 have hlen := Lib.splitB_all sep h1 0 _ s rfl
 refine Calls.mono (Any.strings_Split Tryz.lays146 (by kernel_rfl) s sep m w hs hm h1) ?_
 rintro e w' ⟨rfl, rfl⟩
 have hle := Lib.countB_le sep h1 s.size s (Nat.le_refl _)
 refine ⟨_, _, rfl, ?_, hlen, (Keep.refl Nb w).alloc _⟩
 refine ⟨⟨by simp [strs, hlen], .inr ⟨w.heap.size, _, _, rfl, Nat.zero_le _, heap_alloc_new w _, Nat.le_refl _, by simp only [maxLen]; omega, by simp [hlen], by
  rw [List.toList_toArray, List.take_of_length_le (by simp [hlen])]; rfl⟩⟩, fun a ha => by cases ha; rfl⟩
theorem sjoin_any (F : Nat → Prop) (w : World) (o : Option Addr) (n c : Nat) (xs : List ByteArray) (sep : ByteArray) (hS : Sl F w 9 1 o n c (strs xs)) (hN : n ≤ 1000000) (hl : (Lib.join (xs.map (·.data.toList)) sep.data.toList).length ≤ 140737488355328) :
  Calls Tryz.prog 134 #[.slice o n c, .string sep] w fun e w' => e = .returned (.string (bstr (Lib.join (xs.map (·.data.toList)) sep.data.toList))) ∧ Keep Nb w w' := by
 have hn : xs.length = n := by have := hS.len; simpa [strs] using this
 rcases Nat.eq_zero_or_pos n with h0 | h0
 ·subst h0
  have hx : xs = [] := List.length_eq_zero_iff.1 hn
  subst hx
  refine Calls.mono (Any.strings_Join_none Tryz.lays156 Tryz.Builder_Extra_156 o c sep w) ?_
  rintro e w' ⟨rfl, rfl⟩
  exact ⟨rfl, Keep.refl _ _⟩
 ·obtain ⟨g, rfl, _, hc, hrow⟩ := hS.pos h0
  subst hn
  refine Calls.mono (Any.strings_Join Tryz.lays156 Tryz.Builder_Extra_156 g 0 c xs sep w (fun j x hx => by
   rw [Nat.zero_add]
   exact hrow.cell (by simp [strs, hx])) hrow.lt (by omega) hc hl) ?_
  rintro e w' ⟨rfl, hb⟩
  exact ⟨rfl, Keep.below hb⟩
end Go.Proofs.YtfglkgkihafcpaaGreatDoor

namespace Go.Proofs.YtfglkgkihafcpaaGreatDoor
open Go.ChangeShapes Go.WideShapes Go.RowKit
abbrev laidL : List (String × DataW Unit) := [("math/bits.deBruijn32tab", Rows.laid_math_bits_deBruijn32tab), ("math/bits.deBruijn64tab", Rows.laid_math_bits_deBruijn64tab), ("internal/strconv.uint64pow10", Rows.laid_internal_strconv_uint64pow10), ("unicode/utf8.acceptRanges", Rows.laid_unicode_utf8_acceptRanges), ("errors.errorType", Rows.laid_errors_errorType), ("strconv.ErrRange", Rows.laid_strconv_ErrRange), ("strconv.ErrSyntax", Rows.laid_strconv_ErrSyntax), ("unicode/utf8.first", Rows.laid_unicode_utf8_first)]
abbrev laidD : List (String × DataW Unit) := [("math/bits.deBruijn32tab", Rows.laid_math_bits_deBruijn32tab), ("math/bits.deBruijn64tab", Rows.laid_math_bits_deBruijn64tab), ("internal/strconv.uint64pow10", Rows.laid_internal_strconv_uint64pow10), ("unicode/utf8.acceptRanges", Rows.laid_unicode_utf8_acceptRanges), ("strconv.ErrRange", Rows.laid_strconv_ErrRange), ("strconv.ErrSyntax", Rows.laid_strconv_ErrSyntax), ("unicode/utf8.first", Rows.laid_unicode_utf8_first)]
theorem laid_at {P : Program} {W : World} : ∀ {l : List (String × DataW Unit)} {ps : List MemPlace}, DataW.LaidVars P W l ps → ∀ {n : String} {d : DataW Unit}, (n, d) ∈ l →
  ∃ g t cs fuel p, P.globalNamed n = some g ∧ (P.globals[g]?).map (·.type) = some t ∧ W.var? P n = some cs ∧ DataW.trod (fun _ => ()) P W 0 (fun _ => true) false fuel t cs.toList = some (d, p)
 | [], _, _, _, _, hm => by cases hm
 | (n', d') :: r, ps, h, n, d, hm => by
  obtain ⟨g, t, cs, fuel, p, q, h1, h2, h3, h4, h5, _⟩ := h
  rcases List.mem_cons.1 hm with e | hm
  ·cases e
   exact ⟨g, t, cs, fuel, p, h1, h2, h3, h4⟩
  ·exact laid_at h5 hm
theorem int_of_shape {P : Program} {w : World} {g : Nat} {t : TypeId} {zero : Array Value} (h : w.ShapedOpen P) (hg : g < P.globals.size)
  (h0 : ((begin P (fun _ _ => 0) default).world.heap[g]?).bind Obj.row? = some (zero, t)) (hz : zero.size = 1)
  (hb : P.buildable t = true) (hc : P.cellTypes P.depth t = some [t]) (hu : P.underlying t = some (.int .i64)) : ∃ m : Int, w.cell? ⟨g, 0, none⟩ = some (.int .i64 m) := by
 obtain ⟨cs, hh, hs, hr⟩ := h.1 g zero t hg h0
 obtain ⟨ts, hts, _, hall⟩ := hr hb
 rw [hc] at hts
 cases hts
 have h1 : 0 < cs.size := by omega
 obtain ⟨u, hu', hok⟩ := hall 0 cs[0] (by simp [h1])
 have : u = t := by simpa using hu'.symm
 subst this
 have hcell : w.cell? ⟨g, 0, none⟩ = some cs[0] := by simp [World.cell?, hh, h1]
 rw [hcell]
 unfold Cell.ok at hok
 rw [hu] at hok
 cases hv : cs[0] <;> rw [hv] at hok <;> first | (rename_i k z; simp at hok; obtain ⟨rfl, _⟩ := hok; exact ⟨_, rfl⟩) | (rename_i k z; simp at hok; obtain rfl := hok; exact ⟨_, rfl⟩) | simp at hok
theorem tab_pow : (Rows.laid_internal_strconv_uint64pow10 : DataW Unit) = Lib.tabData .u64 Lib.pow10Tab := by
 unfold Rows.laid_internal_strconv_uint64pow10 Lib.tabData Lib.pow10Tab
 rfl
theorem glob_syn : Tryz.prog.globalNamed "strconv.ErrSyntax" = some 4 := by kernel_rfl
theorem glob_rng : Tryz.prog.globalNamed "strconv.ErrRange" = some 5 := by kernel_rfl
theorem glob_pow : Tryz.prog.globalNamed "internal/strconv.uint64pow10" = some 6 := by kernel_rfl
set_option maxRecDepth 100000 in
/-- WHAT THE CONDITION GIVES A WALK. -/
theorem lib_laidD {W : World} (hsh : W.ShapedOpen Tryz.prog) (h : laidMet Tryz.prog laidD W) : LibW W := by
 obtain ⟨ps, hv, _, _⟩ := h
 have sent : ∀ (n : String) (x d : DataW Unit) (nm : String) (g : Nat), x = .iface nm d → (n, x) ∈ laidD → Tryz.prog.globalNamed n = some g → (Tryz.prog.globals[g]?).map (·.type) = some 26 → ∃ tp p, W.var? Tryz.prog n = some #[.iface tp p] := by
  intro n x d nm g hx hm hg hty
  obtain ⟨g', t, cs, fuel, p, h1, h2, h3, h4⟩ := laid_at hv hm
  obtain rfl := Option.some.inj (hg.symm.trans h1)
  obtain rfl := Option.some.inj (hty.symm.trans h2)
  rw [hx] at h4
  obtain ⟨_, u, v, hc, _, _⟩ := iface_of_trod Tryz.underlying26 h4
  exact ⟨u, v, by rw [h3]; congr 1; exact Array.toList_inj.1 (by rw [hc])⟩
 refine ⟨?_, sent "strconv.ErrSyntax" Rows.laid_strconv_ErrSyntax _ _ _ rfl ?_ glob_syn (by kernel_rfl), sent "strconv.ErrRange" Rows.laid_strconv_ErrRange _ _ _ rfl ?_ glob_rng (by kernel_rfl), ?_⟩
 ·obtain ⟨g, t, cs, fuel, p, h1, h2, h3, h4⟩ := laid_at hv (n := "internal/strconv.uint64pow10") (d := Rows.laid_internal_strconv_uint64pow10) (.tail _ (.tail _ (.head _)))
  rw [tab_pow] at h4
  obtain rfl := Option.some.inj (glob_pow.symm.trans h1)
  obtain ⟨t0, n0, e0, hty, ht, he, hce, hct⟩ : ∃ t0 n0 e0, (Tryz.prog.globals[6]?).map (·.type) = some t0 ∧ Tryz.prog.underlying t0 = some (.array n0 e0) ∧ Tryz.prog.underlying e0 = some (.int .u64) ∧ Tryz.prog.cellsOf e0 = 1 ∧ Tryz.prog.cellsOf t0 = n0 :=
   ⟨222, 20, 53, by kernel_rfl, by kernel_rfl, by kernel_rfl, by kernel_rfl, by kernel_rfl⟩
  obtain rfl := Option.some.inj (hty.symm.trans h2)
  unfold Lib.TabIs
  rw [h3]
  congr 1
  exact Array.toList_inj.1 (by rw [Lib.cells_of_tab ht he hce hct h4])
 ·exact .tail _ (.tail _ (.tail _ (.tail _ (.tail _ (.head _)))))
 ·exact .tail _ (.tail _ (.tail _ (.tail _ (.head _))))
 ·exact int_of_shape hsh (g := Tryz.lays146_ren.g 1) (t := 3) (zero := #[.int .i64 0]) (of_decide_eq_true (by kernel_rfl)) (by kernel_rfl) rfl (by kernel_rfl) (by kernel_rfl) (by kernel_rfl)
theorem lib_laid {W : World} (hsh : W.ShapedOpen Tryz.prog) (h : laidMetH Tryz.prog laidL W) : LibW W :=
 lib_laidD hsh (show laidMet Tryz.prog laidD W ∧ handlesMet Tryz.prog [("errors.errorType", Rows.laid_errors_errorType)] W from h).1
theorem lib_err {W : World} (h : laidMetH Tryz.prog laidL W) : ErrT W :=
 door_laid (show laidMetH Tryz.prog [("errors.errorType", Rows.laid_errors_errorType)] W from ⟨laidMet_nil _ _, (show laidMet Tryz.prog laidD W ∧ handlesMet Tryz.prog [("errors.errorType", Rows.laid_errors_errorType)] W from h).2⟩)
noncomputable def lowW : Nat := (World.holding Tryz.prog default ⟨#[], #[], []⟩).heap.size
def flatLits : DataW Unit → Array Value
 | .agg l => (l.flatMap fun | .lit (.int k z) => [Value.int k z] | .agg [.lit (.int k z), .lit (.int k' z')] => [Value.int k z, Value.int k' z'] | _ => []).toArray
 | _ => #[]
noncomputable def libWorld (os : Os) : World :=
 let w0 := World.holding Tryz.prog os ⟨#[.cells #[.string ⟨#[118, 97, 108, 117, 101, 32, 111, 117, 116, 32, 111, 102, 32, 114, 97, 110, 103, 101]⟩] 263, .cells #[.string ⟨#[105, 110, 118, 97, 108, 105, 100, 32, 115, 121, 110, 116, 97, 120]⟩] 263], #[], []⟩
 let put (h : Array Obj) (g : Nat) (cs : Array Value) : Array Obj := h.modify g fun
  | .cells _ t frozen => .cells cs t frozen
  | o => o
 let h0 := put w0.heap 0 #[.iface 206 (.agg #[.pointer (some ⟨9, 26, none⟩)])]
 let h1 := put h0 5 #[.iface 261 (.pointer (some ⟨lowW, 0, none⟩))]
 let h2 := put h1 4 #[.iface 261 (.pointer (some ⟨lowW + 1, 0, none⟩))]
 let h3 := put h2 6 (flatLits Rows.laid_internal_strconv_uint64pow10)
 let h4 := put h3 1 (flatLits Rows.laid_unicode_utf8_first)
 let h5 := put h4 2 (flatLits Rows.laid_unicode_utf8_acceptRanges)
 let h6 := put h5 7 (flatLits Rows.laid_math_bits_deBruijn32tab)
 let h7 := put h6 8 (flatLits Rows.laid_math_bits_deBruijn64tab)
 { w0 with heap := h7 }
set_option maxRecDepth 1000000 in
theorem libWorld_laid (os : Os) (args : Array Value) : LaidIn Tryz.prog ((libWorld os).forCall (fun _ _ => 0) ⟨#[], args, []⟩).memory laidD [7, 8, 6, 2, 5, lowW, 4, lowW + 1, 1] :=
 LaidIn.of_run [7, 8, 6, 2, 5, lowW, 4, lowW + 1, 1] 10 (by kernel_rfl) (by kernel_rfl) (by kernel_rfl) (by kernel_rfl)
set_option maxRecDepth 1000000 in
theorem libWorld_met (os : Os) (args : Array Value) : laidMetH Tryz.prog laidL ((libWorld os).forCall (fun _ _ => 0) ⟨#[], args, []⟩).memory :=
 laidMetH_of_parts (l := laidL) (libWorld_laid os args).met (by kernel_rfl)
end Go.Proofs.YtfglkgkihafcpaaGreatDoor

namespace Go.Proofs.YtfglkgkihafcpaaGreatDoor
open Go.RowKit Go.Maps
def encS (l : List UInt8) : Value := .string (bstr l)
def DS (l : List UInt8) : Prop := l.length ≤ 100000
theorem encS_enc {P : Program} {k : TypeId} (hk : P.underlying k = some .string) : Enc P k encS DS :=
 ⟨string_keyed hk, fun {a} ha => ⟨_, Go.WideMaps.keyOf_string_mk hk (by rw [bstr_size]; exact Nat.le_trans ha (by decide))⟩, fun {a b} h => by
  simp only [encS, Value.string.injEq] at h
  have := congrArg (fun s : ByteArray => s.data.toList) h
  simpa using this⟩
theorem wpList_ins {P : Program} {w : World} {ops : Array Oper} {rest : List Oper} {o : Oper} {a : Act} {Q : Exit → Act → World → Prop} {k : TypeId} (hk : P.underlying k = some .string) {b : Nat} {ml : List (List UInt8 × Value)} (hM : MapAt encS DS w b ml)
  (hg : o.guard = none) {m x v : Operand} {t e : TypeId} (ht : P.underlying t = some (.map k e)) (hop : o.op = Op.insert t m x v) {key : List UInt8} {vv : Value} (hD : DS key) (hm : a.eval m = .map (some b)) (hx : a.eval x = encS key) (hv : a.eval v = vv)
  (h : ∀ w', MapAt encS DS w' b (mset ml key vv) → Keep (fun i => i = b) w w' → wpList P ops Q rest (a.put o.dst undef) w') : wpList P ops Q (o :: rest) a w := by
 obtain ⟨w', hrun, h1, h2⟩ := hM.store (encS_enc hk) ht (a := key) hD vv
 refine wpList_plain hg fun K' hK' => ?_
 unfold Oper.wp
 simp [execOp, hop, hm, hx, hv, hrun, Result.andThen]
 exact hK' _ _ (h w' h1 h2)
def mv (db f : Nat) : Value := .func (.func f) #[.pointer (some ⟨db, 0, none⟩)] #[]
def deskTab (db : Nat) : List (List UInt8 × Value) :=
 mset (mset (mset (mset (mset (mset (mset (mset (mset (mset (mset (mset (mset (mset (mset [] [97, 100, 100] (mv db 57)) [98, 108, 111, 99, 107, 115] (mv db 58)) [98, 114, 105, 100, 103, 101, 115] (mv db 59)) [99, 117, 116, 115] (mv db 60)) [100, 114, 111, 112] (mv db 61)) [101, 100, 103, 101, 115] (mv db 62)) [104, 101, 108, 112] (mv db 63)) [110, 111, 100, 101, 115] (mv db 8)) [112, 97, 105, 114, 115] (mv db 64)) [114, 101, 108, 111, 97, 100] (mv db 65)) [115, 112, 108, 105, 116, 115] (mv db 66)) [116, 104, 114, 105, 99, 101] (mv db 67)) [116, 119, 105, 99, 101] (mv db 68)) [119, 97, 121, 115] (mv db 69)) [119, 104, 111, 108, 101] (mv db 70)
theorem zero_fn (w : World) : (zeroValue 35).run Tryz.prog w = .ok .nilFunc w := by kernel_rfl
set_option maxRecDepth 100000 in
set_option maxHeartbeats 1000000 in
theorem ddoes_any (w : World) (db : Nat) (nm : List UInt8) (hnm : nm.length ≤ 100000) :
  Calls Tryz.prog 28 #[.pointer (some ⟨db, 0, none⟩), .string (bstr nm)] w fun e w' => e = .returned ((mget (deskTab db) nm).getD .nilFunc) ∧ Keep Nb w w' := by
 have hmm := @run_makeMap Tryz.prog
 obtain ⟨X, hX⟩ : ∃ X, w.heap.size = X := ⟨_, rfl⟩
 obtain ⟨w0, hw0⟩ : ∃ w0, w.alloc (.map #[] 0) = w0 := ⟨_, rfl⟩
 have HM : Hid (MapAt encS DS w0 X []) := Lib.hid (by rw [← hw0, ← hX]; exact MapAt.made _ _ w)
 have HK : Hid (Keep (fun k => k = X) w w0) := Lib.hid (by rw [← hw0]; exact (Keep.refl _ w).alloc _)
 obtain ⟨v, hv⟩ : ∃ v, (mget (deskTab db) nm).getD .nilFunc = v := ⟨_, rfl⟩
 rw [hv]
 have HV := Lib.hid hv
 clear hv
 have hLT := Lib.hid (Nat.le_of_eq hX)
 go_enter Tryz.func28, Tryz.ntmps28
 go_wp2_with (refine wpList_ins Tryz.underlying9 HM.out rfl Tryz.underlying110 rfl (by unfold DS; simp) rfl rfl rfl ?_; rintro w1 hM1 hK1; replace HM := Lib.hid hM1; replace HK := Lib.hid (HK.out.trans' hK1 (fun _ _ e => e) (fun _ _ e => e)); clear hM1 hK1)
 have hl : (Instr.lookup 110 (.map (some X)) (.string (bstr nm)) false).run Tryz.prog w1 = .ok ((mget (deskTab db) nm).getD .nilFunc) w1 := HM.out.look (encS_enc Tryz.underlying9) Tryz.underlying110 (zero_fn w1) (a := nm) hnm false
 have HK2 : Hid (Keep Nb w w1) := Lib.hid ((Keep.refl Nb w).trans' HK.out (fun _ _ e => e) (fun j hj e => by have := hLT.out; show False; omega))
 rw [HV.out] at hl
 rw [hl]
 clear HM HK
 go_wp2_with fail
 go_ret
 exact ⟨rfl, HK2.out⟩
end Go.Proofs.YtfglkgkihafcpaaGreatDoor

