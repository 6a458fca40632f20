/- A part of the proofs about the chapter of the vaults; it states no condition of its own. -/
import Derived.Test.YtominlgikchnmaaGreatDoorB15
import Derived.Test.YtominlgikchnmaaGreatDoorB26
import Derived.Shelf.Strings.BuilderK
import Derived.Shelf.LaysM
import Derived.Shelf.Strconv.Itoa3
import Derived.Shelf.LaysC
import Derived.Shelf.Strconv.AtoiAll
import Derived.Shelf.Strings.Split
import Derived.Test.YtominlgikchnmaaGreatDoorProg
import Derived.Lib.Split
import Derived.Lib.SplitLaws
import Derived.Lib.ItoaNum
import Derived.Lib.AtoiAll
import Derived.Test.YtominlgikchnmaaGreatDoorRows
import Derived.Lib.AtoiTie
import Derived.Lib.LaidTab
import Derived.Deep.DeepLaidRun
import Derived.Shelf.Vars
import Derived.HandedShaped
import Derived.LaidHandle
import Derived.Stop.Joined
set_option linter.unusedVariables false
set_option linter.unusedSimpArgs false
/- The library contracts of the shelf, laid at this program (strings.Builder, strings.Split, strconv.Itoa, strconv.Atoi). -/
namespace Go.Proofs
open Go.Shelf
def Tryz.lays169_ren : Go.Shelf.Ren := ⟨fun | 169 => 36 | n => n, fun | 70 => 76 | 9 => 9 | 0 => 0 | 72 => 79 | 37 => 77 | 127 => 115 | 3 => 3 | 5 => 5 | n => n, fun | n => n⟩
theorem Tryz.Builder_Extra_169 : Builder.Extra Tryz.prog Tryz.lays169_ren := {
 sizeBuilder := by kernel_rfl
 liesBuilder := by kernel_rfl
 t5 := Tryz.underlying5
 a5 := Tryz.isAgg5
 z5 := Tryz.sizeOf5
 v5 := Tryz.zeroValue5
 infoByte := by kernel_rfl
 cellsByte := by kernel_rfl
 sizeByte := by kernel_rfl
 neB5 := by decide }
def Tryz.laysM171_ren : Go.Shelf.Ren := ⟨fun | 171 => 35 | 243 => 64 | 246 => 88 | 283 => 101 | 284 => 102 | 285 => 103 | 286 => 104 | 129 => 117 | 317 => 116 | 318 => 118 | 319 => 119 | 320 => 120 | 337 => 129 | 338 => 130 | n => n, fun | 3 => 3 | 9 => 9 | 2 => 2 | 4 => 4 | 171 => 144 | 0 => 0 | 53 => 71 | 37 => 77 | 5 => 5 | 173 => 147 | 212 => 162 | 51 => 163 | 20 => 20 | 213 => 164 | 46 => 110 | 232 => 184 | 233 => 185 | n => n, fun | 17 => 0 | 18 => 6 | 19 => 7 | n => n⟩
theorem Tryz.laysM171 : Go.Proofs.LaysM.n171 Tryz.prog Tryz.laysM171_ren := {
 mixed := by kernel_rfl
 f129 := Tryz.func117.trans (congrArg some (by kernel_rfl))
 f171 := Tryz.func35.trans (congrArg some (by kernel_rfl))
 f243 := Tryz.func64.trans (congrArg some (by kernel_rfl))
 f246 := Tryz.func88.trans (congrArg some (by kernel_rfl))
 f283 := Tryz.func101.trans (congrArg some (by kernel_rfl))
 f284 := Tryz.func102.trans (congrArg some (by kernel_rfl))
 f285 := Tryz.func103.trans (congrArg some (by kernel_rfl))
 f286 := Tryz.func104.trans (congrArg some (by kernel_rfl))
 f317 := Tryz.func116.trans (congrArg some (by kernel_rfl))
 f318 := Tryz.func118.trans (congrArg some (by kernel_rfl))
 f319 := Tryz.func119.trans (congrArg some (by kernel_rfl))
 f320 := Tryz.func120.trans (congrArg some (by kernel_rfl))
 f337 := Tryz.func129.trans (congrArg some (by kernel_rfl))
 f338 := Tryz.func130.trans (congrArg some (by kernel_rfl))
 t0 := Tryz.underlying0
 a0 := Tryz.isAgg0
 z0 := Tryz.sizeOf0
 v0 := Tryz.zeroValue0
 t2 := Tryz.underlying2
 a2 := Tryz.isAgg2
 z2 := Tryz.sizeOf2
 v2 := Tryz.zeroValue2
 t3 := Tryz.underlying3
 a3 := Tryz.isAgg3
 z3 := Tryz.sizeOf3
 v3 := Tryz.zeroValue3
 t4 := Tryz.underlying4
 a4 := Tryz.isAgg4
 z4 := Tryz.sizeOf4
 v4 := Tryz.zeroValue4
 t5 := Tryz.underlying5
 a5 := Tryz.isAgg5
 z5 := Tryz.sizeOf5
 v5 := Tryz.zeroValue5
 t9 := Tryz.underlying9
 a9 := Tryz.isAgg9
 z9 := Tryz.sizeOf9
 v9 := Tryz.zeroValue9
 t20 := Tryz.underlying20
 a20 := Tryz.isAgg20
 z20 := Tryz.sizeOf20
 v20 := Tryz.zeroValue20
 t37 := Tryz.underlying77
 a37 := Tryz.isAgg77
 z37 := Tryz.sizeOf77
 v37 := Tryz.zeroValue77
 t46 := Tryz.underlying110
 a46 := Tryz.isAgg110
 z46 := Tryz.sizeOf110
 v46 := Tryz.zeroValue110
 t51 := Tryz.underlying163
 a51 := Tryz.isAgg163
 z51 := Tryz.sizeOf163
 v51 := Tryz.zeroValue163
 t53 := Tryz.underlying71
 a53 := Tryz.isAgg71
 z53 := Tryz.sizeOf71
 v53 := Tryz.zeroValue71
 t171 := Tryz.underlying144
 a171 := Tryz.isAgg144
 z171 := Tryz.sizeOf144
 v171 := Tryz.zeroValue144
 t173 := Tryz.underlying147
 a173 := Tryz.isAgg147
 z173 := Tryz.sizeOf147
 v173 := Tryz.zeroValue147
 t212 := Tryz.underlying162
 a212 := Tryz.isAgg162
 z212 := Tryz.sizeOf162
 v212 := Tryz.zeroValue162
 t213 := Tryz.underlying164
 a213 := Tryz.isAgg164
 z213 := Tryz.sizeOf164
 t232 := Tryz.underlying184
 a232 := Tryz.isAgg184
 z232 := Tryz.sizeOf184
 v232 := Tryz.zeroValue184
 t233 := Tryz.underlying185
 a233 := Tryz.isAgg185
 z233 := Tryz.sizeOf185
 v233 := Tryz.zeroValue185
 g17 := by kernel_rfl
 g18 := by kernel_rfl
 g19 := by kernel_rfl
 i0 := by kernel_rfl
 i2 := by kernel_rfl
 i3 := by kernel_rfl
 i4 := by kernel_rfl
 i5 := by kernel_rfl
 i9 := by kernel_rfl
 i20 := by kernel_rfl
 i37 := by kernel_rfl
 i46 := by kernel_rfl
 i51 := by kernel_rfl
 i53 := by kernel_rfl
 i171 := by kernel_rfl
 i173 := by kernel_rfl
 i212 := by kernel_rfl
 i232 := by kernel_rfl
 i233 := by kernel_rfl
 m17 := by kernel_rfl
 m18 := by kernel_rfl
 m19 := by kernel_rfl }
def Tryz.laysC172_ren : Go.Shelf.Ren := ⟨fun | 172 => 69 | 244 => 94 | 245 => 95 | 247 => 109 | 279 => 110 | 280 => 111 | 281 => 112 | 282 => 113 | 287 => 126 | 316 => 127 | 171 => 35 | 205 => 128 | 321 => 133 | 322 => 134 | 243 => 64 | 246 => 88 | 283 => 101 | 284 => 102 | 285 => 103 | 286 => 104 | 129 => 117 | 317 => 116 | 318 => 118 | 319 => 119 | 320 => 120 | 337 => 129 | 338 => 130 | n => n, fun | 9 => 9 | 3 => 3 | 75 => 81 | 76 => 82 | 4 => 4 | 5 => 5 | 167 => 153 | 37 => 77 | 0 => 0 | 85 => 154 | 2 => 2 | 168 => 156 | 53 => 71 | 175 => 166 | 46 => 110 | 210 => 170 | 127 => 115 | 145 => 183 | 143 => 181 | 21 => 21 | 171 => 144 | 173 => 147 | 212 => 162 | 51 => 163 | 20 => 20 | 213 => 164 | 232 => 184 | 233 => 185 | 80 => 86 | n => n, fun | 15 => 2 | 16 => 3 | 17 => 0 | 18 => 6 | 19 => 7 | n => n⟩
theorem Tryz.laysC172 : Go.Proofs.LaysC.n172 Tryz.prog Tryz.laysC172_ren := {
 mixed := by kernel_rfl
 f129 := Tryz.func117.trans (congrArg some (by kernel_rfl))
 f171 := Tryz.func35.trans (congrArg some (by kernel_rfl))
 f172 := Tryz.func69.trans (congrArg some (by kernel_rfl))
 f205 := Tryz.func128.trans (congrArg some (by kernel_rfl))
 f243 := Tryz.func64.trans (congrArg some (by kernel_rfl))
 f244 := Tryz.func94.trans (congrArg some (by kernel_rfl))
 f245 := Tryz.func95.trans (congrArg some (by kernel_rfl))
 f246 := Tryz.func88.trans (congrArg some (by kernel_rfl))
 f247 := Tryz.func109.trans (congrArg some (by kernel_rfl))
 f279 := Tryz.func110.trans (congrArg some (by kernel_rfl))
 f280 := Tryz.func111.trans (congrArg some (by kernel_rfl))
 f281 := Tryz.func112.trans (congrArg some (by kernel_rfl))
 f282 := Tryz.func113.trans (congrArg some (by kernel_rfl))
 f283 := Tryz.func101.trans (congrArg some (by kernel_rfl))
 f284 := Tryz.func102.trans (congrArg some (by kernel_rfl))
 f285 := Tryz.func103.trans (congrArg some (by kernel_rfl))
 f286 := Tryz.func104.trans (congrArg some (by kernel_rfl))
 f287 := Tryz.func126.trans (congrArg some (by kernel_rfl))
 f316 := Tryz.func127.trans (congrArg some (by kernel_rfl))
 f317 := Tryz.func116.trans (congrArg some (by kernel_rfl))
 f318 := Tryz.func118.trans (congrArg some (by kernel_rfl))
 f319 := Tryz.func119.trans (congrArg some (by kernel_rfl))
 f320 := Tryz.func120.trans (congrArg some (by kernel_rfl))
 f321 := Tryz.func133.trans (congrArg some (by kernel_rfl))
 f322 := Tryz.func134.trans (congrArg some (by kernel_rfl))
 f337 := Tryz.func129.trans (congrArg some (by kernel_rfl))
 f338 := Tryz.func130.trans (congrArg some (by kernel_rfl))
 t0 := Tryz.underlying0
 a0 := Tryz.isAgg0
 z0 := Tryz.sizeOf0
 v0 := Tryz.zeroValue0
 t2 := Tryz.underlying2
 a2 := Tryz.isAgg2
 z2 := Tryz.sizeOf2
 v2 := Tryz.zeroValue2
 t3 := Tryz.underlying3
 a3 := Tryz.isAgg3
 z3 := Tryz.sizeOf3
 v3 := Tryz.zeroValue3
 t4 := Tryz.underlying4
 a4 := Tryz.isAgg4
 z4 := Tryz.sizeOf4
 v4 := Tryz.zeroValue4
 t5 := Tryz.underlying5
 a5 := Tryz.isAgg5
 z5 := Tryz.sizeOf5
 v5 := Tryz.zeroValue5
 t9 := Tryz.underlying9
 a9 := Tryz.isAgg9
 z9 := Tryz.sizeOf9
 v9 := Tryz.zeroValue9
 t20 := Tryz.underlying20
 a20 := Tryz.isAgg20
 z20 := Tryz.sizeOf20
 v20 := Tryz.zeroValue20
 t21 := Tryz.underlying21
 a21 := Tryz.isAgg21
 z21 := Tryz.sizeOf21
 v21 := Tryz.zeroValue21
 t37 := Tryz.underlying77
 a37 := Tryz.isAgg77
 z37 := Tryz.sizeOf77
 v37 := Tryz.zeroValue77
 t46 := Tryz.underlying110
 a46 := Tryz.isAgg110
 z46 := Tryz.sizeOf110
 v46 := Tryz.zeroValue110
 t51 := Tryz.underlying163
 a51 := Tryz.isAgg163
 z51 := Tryz.sizeOf163
 v51 := Tryz.zeroValue163
 t53 := Tryz.underlying71
 a53 := Tryz.isAgg71
 z53 := Tryz.sizeOf71
 v53 := Tryz.zeroValue71
 t75 := Tryz.underlying81
 a75 := Tryz.isAgg81
 z75 := Tryz.sizeOf81
 v75 := Tryz.zeroValue81
 t76 := Tryz.underlying82
 a76 := Tryz.isAgg82
 z76 := Tryz.sizeOf82
 v76 := Tryz.zeroValue82
 t85 := Tryz.underlying154
 a85 := Tryz.isAgg154
 z85 := Tryz.sizeOf154
 v85 := Tryz.zeroValue154
 t127 := Tryz.underlying115
 a127 := Tryz.isAgg115
 z127 := Tryz.sizeOf115
 v127 := Tryz.zeroValue115
 t143 := Tryz.underlying181
 a143 := Tryz.isAgg181
 z143 := Tryz.sizeOf181
 v143 := Tryz.zeroValue181
 t145 := Tryz.underlying183
 a145 := Tryz.isAgg183
 z145 := Tryz.sizeOf183
 v145 := Tryz.zeroValue183
 t167 := Tryz.underlying153
 a167 := Tryz.isAgg153
 z167 := Tryz.sizeOf153
 v167 := Tryz.zeroValue153
 t168 := Tryz.underlying156
 a168 := Tryz.isAgg156
 z168 := Tryz.sizeOf156
 v168 := Tryz.zeroValue156
 t171 := Tryz.underlying144
 a171 := Tryz.isAgg144
 z171 := Tryz.sizeOf144
 v171 := Tryz.zeroValue144
 t173 := Tryz.underlying147
 a173 := Tryz.isAgg147
 z173 := Tryz.sizeOf147
 v173 := Tryz.zeroValue147
 t175 := Tryz.underlying166
 a175 := Tryz.isAgg166
 z175 := Tryz.sizeOf166
 v175 := Tryz.zeroValue166
 t210 := Tryz.underlying170
 a210 := Tryz.isAgg170
 z210 := Tryz.sizeOf170
 v210 := Tryz.zeroValue170
 t212 := Tryz.underlying162
 a212 := Tryz.isAgg162
 z212 := Tryz.sizeOf162
 v212 := Tryz.zeroValue162
 t213 := Tryz.underlying164
 a213 := Tryz.isAgg164
 z213 := Tryz.sizeOf164
 t232 := Tryz.underlying184
 a232 := Tryz.isAgg184
 z232 := Tryz.sizeOf184
 v232 := Tryz.zeroValue184
 t233 := Tryz.underlying185
 a233 := Tryz.isAgg185
 z233 := Tryz.sizeOf185
 v233 := Tryz.zeroValue185
 g15 := by kernel_rfl
 g16 := by kernel_rfl
 g17 := by kernel_rfl
 g18 := by kernel_rfl
 g19 := by kernel_rfl
 t80 := Tryz.underlying86
 a80 := Tryz.isAgg86
 z80 := Tryz.sizeOf86
 v80 := Tryz.zeroValue86
 i0 := by kernel_rfl
 i2 := by kernel_rfl
 i3 := by kernel_rfl
 i4 := by kernel_rfl
 i5 := by kernel_rfl
 i9 := by kernel_rfl
 i20 := by kernel_rfl
 i21 := by kernel_rfl
 i37 := by kernel_rfl
 i46 := by kernel_rfl
 i51 := by kernel_rfl
 i53 := by kernel_rfl
 i75 := by kernel_rfl
 i76 := by kernel_rfl
 i80 := by kernel_rfl
 i85 := by kernel_rfl
 i127 := by kernel_rfl
 i143 := by kernel_rfl
 i145 := by kernel_rfl
 i167 := by kernel_rfl
 i168 := by kernel_rfl
 i171 := by kernel_rfl
 i173 := by kernel_rfl
 i175 := by kernel_rfl
 i210 := by kernel_rfl
 i212 := by kernel_rfl
 i232 := by kernel_rfl
 i233 := by kernel_rfl
 m15 := by kernel_rfl
 m16 := by kernel_rfl
 m17 := by kernel_rfl
 m18 := by kernel_rfl
 m19 := by kernel_rfl
 c0 := by kernel_rfl
 c2 := by kernel_rfl
 c3 := by kernel_rfl
 c4 := by kernel_rfl
 c5 := by kernel_rfl
 c9 := by kernel_rfl
 c20 := by kernel_rfl
 c21 := by kernel_rfl
 c37 := by kernel_rfl
 c46 := by kernel_rfl
 c51 := by kernel_rfl
 c53 := by kernel_rfl
 c75 := by kernel_rfl
 c76 := by kernel_rfl
 c80 := by kernel_rfl
 c85 := by kernel_rfl
 c127 := by kernel_rfl
 c143 := by kernel_rfl
 c145 := by kernel_rfl
 c167 := by kernel_rfl
 c168 := by kernel_rfl
 c171 := by kernel_rfl
 c173 := by kernel_rfl
 c175 := by kernel_rfl
 c210 := by kernel_rfl
 c212 := by kernel_rfl
 c213 := by kernel_rfl
 c232 := by kernel_rfl
 c233 := by kernel_rfl }
def Tryz.lays146_ren : Go.Shelf.Ren := ⟨fun | 146 => 40 | 221 => 68 | 268 => 91 | 138 => 92 | 143 => 93 | 195 => 105 | 197 => 106 | 218 => 107 | 219 => 108 | 260 => 121 | 217 => 122 | 225 => 123 | 224 => 124 | 267 => 125 | 266 => 131 | 314 => 132 | n => n, fun | 9 => 9 | 31 => 35 | 3 => 3 | 4 => 4 | 0 => 0 | 105 => 150 | 21 => 21 | 5 => 5 | 46 => 110 | 119 => 173 | 139 => 176 | 138 => 175 | 146 => 177 | 51 => 163 | n => n, fun | 1 => 1 | 3 => 4 | 4 => 5 | n => n⟩
theorem Tryz.lays146 : Go.Proofs.Lays.n146 Tryz.prog Tryz.lays146_ren := {
 mixed := by kernel_rfl
 f138 := Tryz.func92.trans (congrArg some (by kernel_rfl))
 f143 := Tryz.func93.trans (congrArg some (by kernel_rfl))
 f146 := Tryz.func40.trans (congrArg some (by kernel_rfl))
 f195 := Tryz.func105.trans (congrArg some (by kernel_rfl))
 f197 := Tryz.func106.trans (congrArg some (by kernel_rfl))
 f217 := Tryz.func122.trans (congrArg some (by kernel_rfl))
 f218 := Tryz.func107.trans (congrArg some (by kernel_rfl))
 f219 := Tryz.func108.trans (congrArg some (by kernel_rfl))
 f221 := Tryz.func68.trans (congrArg some (by kernel_rfl))
 f224 := Tryz.func124.trans (congrArg some (by kernel_rfl))
 f225 := Tryz.func123.trans (congrArg some (by kernel_rfl))
 f260 := Tryz.func121.trans (congrArg some (by kernel_rfl))
 f266 := Tryz.func131.trans (congrArg some (by kernel_rfl))
 f267 := Tryz.func125.trans (congrArg some (by kernel_rfl))
 f268 := Tryz.func91.trans (congrArg some (by kernel_rfl))
 f314 := Tryz.func132.trans (congrArg some (by kernel_rfl))
 t0 := Tryz.underlying0
 a0 := Tryz.isAgg0
 z0 := Tryz.sizeOf0
 v0 := Tryz.zeroValue0
 t3 := Tryz.underlying3
 a3 := Tryz.isAgg3
 z3 := Tryz.sizeOf3
 v3 := Tryz.zeroValue3
 t4 := Tryz.underlying4
 a4 := Tryz.isAgg4
 z4 := Tryz.sizeOf4
 v4 := Tryz.zeroValue4
 t5 := Tryz.underlying5
 a5 := Tryz.isAgg5
 z5 := Tryz.sizeOf5
 v5 := Tryz.zeroValue5
 t9 := Tryz.underlying9
 a9 := Tryz.isAgg9
 z9 := Tryz.sizeOf9
 v9 := Tryz.zeroValue9
 t21 := Tryz.underlying21
 a21 := Tryz.isAgg21
 z21 := Tryz.sizeOf21
 v21 := Tryz.zeroValue21
 t31 := Tryz.underlying35
 a31 := Tryz.isAgg35
 z31 := Tryz.sizeOf35
 v31 := Tryz.zeroValue35
 t46 := Tryz.underlying110
 a46 := Tryz.isAgg110
 z46 := Tryz.sizeOf110
 v46 := Tryz.zeroValue110
 t51 := Tryz.underlying163
 a51 := Tryz.isAgg163
 z51 := Tryz.sizeOf163
 v51 := Tryz.zeroValue163
 t105 := Tryz.underlying150
 a105 := Tryz.isAgg150
 z105 := Tryz.sizeOf150
 v105 := Tryz.zeroValue150
 t119 := Tryz.underlying173
 a119 := Tryz.isAgg173
 z119 := Tryz.sizeOf173
 t138 := Tryz.underlying175
 a138 := Tryz.isAgg175
 z138 := Tryz.sizeOf175
 v138 := Tryz.zeroValue175
 t139 := Tryz.underlying176
 a139 := Tryz.isAgg176
 z139 := Tryz.sizeOf176
 v139 := Tryz.zeroValue176
 t146 := Tryz.underlying177
 a146 := Tryz.isAgg177
 z146 := Tryz.sizeOf177
 v146 := Tryz.zeroValue177
 g1 := by kernel_rfl
 g3 := by kernel_rfl
 g4 := by kernel_rfl }
def Tryz.lays240_ren : Go.Shelf.Ren := ⟨fun | 240 => 63 | 276 => 87 | n => n, fun | 0 => 0 | 37 => 77 | 4 => 4 | 9 => 9 | 20 => 20 | 70 => 76 | 72 => 79 | 164 => 134 | n => n, fun | n => n⟩
theorem Tryz.lays240 : Go.Proofs.Lays.n240 Tryz.prog Tryz.lays240_ren := {
 mixed := by kernel_rfl
 f240 := Tryz.func63.trans (congrArg some (by kernel_rfl))
 f276 := Tryz.func87.trans (congrArg some (by kernel_rfl))
 t0 := Tryz.underlying0
 a0 := Tryz.isAgg0
 z0 := Tryz.sizeOf0
 v0 := Tryz.zeroValue0
 t4 := Tryz.underlying4
 a4 := Tryz.isAgg4
 z4 := Tryz.sizeOf4
 v4 := Tryz.zeroValue4
 t9 := Tryz.underlying9
 a9 := Tryz.isAgg9
 z9 := Tryz.sizeOf9
 v9 := Tryz.zeroValue9
 t20 := Tryz.underlying20
 a20 := Tryz.isAgg20
 z20 := Tryz.sizeOf20
 v20 := Tryz.zeroValue20
 t70 := Tryz.underlying76
 a70 := Tryz.isAgg76
 z70 := Tryz.sizeOf76
 v70 := Tryz.zeroValue76
 t72 := Tryz.underlying79
 a72 := Tryz.isAgg79
 z72 := Tryz.sizeOf79
 v72 := Tryz.zeroValue79
 t164 := Tryz.underlying134
 a164 := Tryz.isAgg134
 z164 := Tryz.sizeOf134
 v164 := Tryz.zeroValue134
}
theorem Tryz.Builder_X72_240 : Builder.X72 Tryz.prog Tryz.lays240_ren := {
 sizeBuilder := by kernel_rfl
 liesBuilder := by kernel_rfl
}
end Go.Proofs

/- Plain: texts as lists of bytes; the parts of a text, numbers as texts. Nothing here names the program. -/
namespace Go.Proofs.YtominlgikchnmaaGreatDoor
open Go
abbrev By := List UInt8
def tx (l : By) : ByteArray := ⟨l.toArray⟩
theorem tx_size (l : By) : (tx l).size = l.length := by simp [tx, ByteArray.size]
theorem tx_list (l : By) : (tx l).data.toList = l := by simp [tx]
theorem tx_of (s : ByteArray) : tx s.data.toList = s := by simp [tx]
theorem tx_append (a b : By) : tx a ++ tx b = tx (a ++ b) := by
 apply ByteArray.ext
 simp [tx, ByteArray.data_append]
theorem tx_extract (l : By) (a b : Nat) : (tx l).extract a b = tx ((l.take b).drop a) := by
 apply ByteArray.ext
 simp [tx, ByteArray.data_extract, List.extract_eq_take_drop, List.drop_take]
theorem tx_get (l : By) (i : Nat) : (tx l)[i]? = l[i]? := by
 show (if h : i < (tx l).size then some ((tx l)[i]) else none) = _
 by_cases h : i < l.length
 ·rw [dif_pos (by rw [tx_size]; exact h), List.getElem?_eq_getElem h]
  rfl
 ·rw [dif_neg (by rw [tx_size]; exact h), List.getElem?_eq_none (by omega)]

def cutL (c : UInt8) : By → List By
 | [] => [[]]
 | x :: r => if x = c then [] :: cutL c r else match cutL c r with
  | [] => [[x]]
  | p :: ps => (x :: p) :: ps
theorem cutL_ne (c : UInt8) (s : By) : cutL c s ≠ [] := by
 cases s with
 | nil => simp [cutL]
 | cons x r =>
  rw [cutL]
  split
  ·simp
  ·split <;> simp
theorem cutL_none (c : UInt8) : ∀ {s : By}, c ∉ s → cutL c s = [s]
 | [], _ => rfl
 | x :: r, h => by
  rw [cutL, if_neg (fun e => h (by simp [e])), cutL_none c (fun e => h (List.mem_cons_of_mem _ e))]
theorem cutL_app (c : UInt8) : ∀ {a : By} (r : By), c ∉ a → cutL c (a ++ c :: r) = a :: cutL c r
 | [], r, _ => by simp [cutL]
 | x :: a, r, h => by
  rw [List.cons_append, cutL, if_neg (fun e => h (by simp [e])), cutL_app c r (fun e => h (List.mem_cons_of_mem _ e))]
theorem cut_step (c : UInt8) {s : By} {from_ i : Nat} (h1 : from_ ≤ i) (h2 : s[i]? = some c) (h3 : c ∉ (s.take i).drop from_) : cutL c (s.drop from_) = (s.take i).drop from_ :: cutL c (s.drop (i + 1)) := by
 have hi := (List.getElem?_eq_some_iff.1 h2).1
 have e : s.drop from_ = (s.take i).drop from_ ++ c :: s.drop (i + 1) := by
  have : s = s.take i ++ c :: s.drop (i + 1) := by
   have hc := (List.getElem?_eq_some_iff.1 h2).2
   rw [← hc, List.getElem_cons_drop hi, List.take_append_drop]
  conv => lhs; rw [this]
  rw [List.drop_append_of_le_length (by simp; omega)]
 rw [e, cutL_app c _ h3]
theorem index_app (c : UInt8) : ∀ {a : By} (r : By), c ∉ a → Lib.index (a ++ c :: r) [c] = (a.length : Int)
 | [], r, _ => by simp [Lib.index, List.isPrefixOf]
 | x :: a, r, h => by
  have h1 : ¬ c = x := fun e => h (by simp [e])
  have h2 := index_app c (a := a) r (fun e => h (List.mem_cons_of_mem _ e))
  have h3 : ¬ ((a.length : Int) = -1) := by omega
  simp [Lib.index, List.isPrefixOf, h1, h2, h3]
theorem first_of (c : UInt8) : ∀ {s : By}, c ∈ s → ∃ a r, s = a ++ c :: r ∧ c ∉ a
 | x :: s, h => by
  by_cases hx : x = c
  ·exact ⟨[], s, by simp [hx], by simp⟩
  ·have : c ∈ s := by
    rcases List.mem_cons.1 h with e | e
    ·exact absurd e.symm hx
    ·exact e
   obtain ⟨a, r, e, h1⟩ := first_of c this
   refine ⟨x :: a, r, by simp [e], fun hm => ?_⟩
   rcases List.mem_cons.1 hm with e | e
   ·exact hx e.symm
   ·exact h1 e
theorem split_cut (c : UInt8) : ∀ (n : Nat) (s : By), s.count c = n → Lib.splitK [c] 0 n s = cutL c s
 | 0, s, h => by rw [Lib.splitK, cutL_none c (List.count_eq_zero.1 h)]
 | n + 1, s, h => by
  obtain ⟨a, r, rfl, h1⟩ := first_of c (List.count_pos_iff.1 (show 0 < s.count c by omega))
  have h0 : a.count c = 0 := List.count_eq_zero.2 h1
  have hc : r.count c = n := by
   rw [List.count_append, List.count_cons_self, h0] at h
   omega
  have h3 : ¬ ((a.length : Int) = -1) := by omega
  rw [cutL_app c r h1, Lib.splitK, index_app c r h1, ← split_cut c n r hc]
  simp [h3]
theorem split_tx (c : UInt8) (l : By) : Lib.splitB (tx [c]) 0 (Lib.countB (tx l) (tx [c])) (tx l) = (cutL c l).map tx := by
 have hcount : Lib.countB (tx l) (tx [c]) = l.count c := by
  show Lib.count (tx l).data.toList (tx [c]).data.toList = _
  rw [tx_list, tx_list, Lib.count_one]
 have h := Lib.splitB_data (tx [c]) 0 (Lib.countB (tx l) (tx [c])) (tx l)
 rw [tx_list, tx_list, hcount, split_cut c _ l rfl] at h
 rw [hcount, ← h, List.map_map]
 conv => lhs; rw [← List.map_id (Lib.splitB _ _ _ _)]
 exact List.map_congr_left fun s _ => (tx_of s).symm
end Go.Proofs.YtominlgikchnmaaGreatDoor

/- Plain: numbers as texts. -/
namespace Go.Proofs.YtominlgikchnmaaGreatDoor
open Go
def numR (m : Nat) (s : By) : Option Int := if s.length < 1 ∨ m < s.length ∨ (s.head? = some 48 ∧ 1 < s.length) then none else (Lib.decFrom 0 s).map fun (n : Nat) => (n : Int)
theorem u8_of (n : Nat) (h : n < 10) : (UInt8.ofNat (48 + n)).toNat = 48 + n := by
 simp [UInt8.toNat_ofNat']
 omega
theorem dig_of (n : Nat) (h : n < 10) : Lib.digitVal (UInt8.ofNat (48 + n)) = some n := by
 unfold Lib.digitVal
 rw [u8_of n h, if_pos (by omega)]
 congr 1
 omega
theorem dec_app : ∀ (a b : By) (n : Nat), Lib.decFrom n (a ++ b) = (Lib.decFrom n a).bind fun m => Lib.decFrom m b
 | [], _, _ => rfl
 | x :: a, b, n => by
  simp only [List.cons_append, Lib.decFrom]
  cases Lib.digitVal x with
  | none => rfl
  | some d => exact dec_app a b _
theorem dec_digits (u : Nat) : Lib.decFrom 0 (Lib.decDigits u) = some u := by
 induction u using Nat.strongRecOn with
 | ind u ih =>
  rw [Lib.decDigits]
  split
  ·rename_i h
   simp only [Lib.decFrom, dig_of u h]
   simp
  ·rename_i h
   rw [dec_app, ih (u / 10) (by omega)]
   simp only [Option.bind_some, Lib.decFrom, dig_of (u % 10) (by omega)]
   congr 1
   omega
theorem digits_ne (u : Nat) : Lib.decDigits u ≠ [] := by
 rw [Lib.decDigits]
 split <;> simp
theorem digits_head (u : Nat) : (Lib.decDigits u).head? = some 48 → u = 0 := by
 induction u using Nat.strongRecOn with
 | ind u ih =>
  rw [Lib.decDigits]
  split
  ·rename_i h
   intro e
   simp only [List.head?_cons, Option.some.injEq] at e
   have := congrArg UInt8.toNat e
   rw [u8_of u h] at this
   simp at this
   omega
  ·rename_i h
   intro e
   have h2 := ih (u / 10) (by omega)
   rw [List.head?_append] at e
   cases hd : (Lib.decDigits (u / 10)).head? with
   | none => exact absurd (List.head?_eq_none_iff.1 hd) (digits_ne _)
   | some b =>
    rw [hd] at e h2
    simp only [Option.some_or] at e
    have := h2 e
    omega
theorem digits_zero : Lib.decDigits 0 = [48] := by rw [Lib.decDigits]; rfl
theorem dig_inv {b : UInt8} {d : Nat} (h : Lib.digitVal b = some d) : d < 10 ∧ b = UInt8.ofNat (48 + d) := by
 unfold Lib.digitVal at h
 split at h
 ·cases h
  rename_i h
  refine ⟨by omega, ?_⟩
  rw [show 48 + (b.toNat - 48) = b.toNat by omega]
  simp
 ·cases h
theorem digits_of : ∀ (k : Nat) (s : By) (n : Nat), s.length = k → s ≠ [] → (s.head? = some 48 → s.length = 1) → Lib.decFrom 0 s = some n → Lib.decDigits n = s
 | 0, s, n, hk, hs, _, _ => absurd (List.eq_nil_of_length_eq_zero hk) hs
 | k + 1, s, n, hk, hs, hh, h => by
  obtain ⟨t, b, rfl⟩ : ∃ t b, s = t ++ [b] := ⟨s.dropLast, s.getLast hs, (List.dropLast_concat_getLast hs).symm⟩
  rw [dec_app] at h
  obtain ⟨m, h1, h2⟩ := Option.bind_eq_some_iff.1 h
  simp only [Lib.decFrom] at h2
  cases hd : Lib.digitVal b with
  | none => rw [hd] at h2; cases h2
  | some d =>
   rw [hd] at h2
   simp only [Option.some.injEq] at h2
   subst h2
   obtain ⟨h3, rfl⟩ := dig_inv hd
   by_cases ht : t = []
   ·subst ht
    simp only [Lib.decFrom, Option.some.injEq] at h1
    subst h1
    rw [Nat.zero_mul, Nat.zero_add, Lib.decDigits, dif_pos h3]
    rfl
   ·have hl : 0 < t.length := List.length_pos_iff.2 ht
    have hth : t.head? ≠ some 48 := fun e => by
     have := hh (by rw [List.head?_append, e]; rfl)
     exact ht (by simpa using this)
    have ih := digits_of k t m (by simpa using hk) ht (fun e => absurd e hth) h1
    have hm : m ≠ 0 := fun e => by
     subst e
     rw [digits_zero] at ih
     exact hth (by rw [← ih]; rfl)
    rw [Lib.decDigits, dif_neg (by omega), show (m * 10 + d) / 10 = m by omega, show (m * 10 + d) % 10 = d by omega, ih]
theorem numR_some {m : Nat} {s : By} {n : Int} (h : numR m s = some n) : 0 ≤ n ∧ s = Lib.itoa n ∧ 1 ≤ s.length ∧ s.length ≤ m := by
 unfold numR at h
 split at h
 ·cases h
 ·rename_i hc
  obtain ⟨u, h1, rfl⟩ := Option.map_eq_some_iff.1 h
  have h2 := digits_of s.length s u rfl (by intro e; subst e; simp at hc) (fun e => by
   by_cases hl : 1 < s.length
   ·exact absurd (.inr (.inr ⟨e, hl⟩)) hc
   ·omega) h1
  refine ⟨by omega, ?_, by omega, by omega⟩
  rw [Lib.itoa, if_neg (by omega), Int.toNat_natCast, h2]
theorem numR_itoa {m : Nat} {n : Int} (h0 : 0 ≤ n) (hl : (Lib.itoa n).length ≤ m) : numR m (Lib.itoa n) = some n := by
 rw [Lib.itoa, if_neg (by omega)] at hl ⊢
 have h1 : 0 < (Lib.decDigits n.toNat).length := List.length_pos_iff.2 (digits_ne _)
 unfold numR
 rw [if_neg]
 ·rw [dec_digits, Option.map_some]
  congr 1
  omega
 ·rintro (h | h | ⟨h, h2⟩)
  ·omega
  ·omega
  ·have := digits_head _ h
   rw [this, digits_zero] at h2
   simp at h2
theorem atoi_itoa {n : Int} (h0 : 0 ≤ n) (hl : (Lib.itoa n).length ≤ 18) : Lib.atoiAll (Lib.itoa n) = .ok n := by
 rw [Lib.atoiAll_short _ hl]
 rw [Lib.itoa, if_neg (by omega)] at hl ⊢
 cases hd : Lib.decDigits n.toNat with
 | nil => exact absurd hd (digits_ne _)
 | cons b r =>
  have h1 := dec_digits n.toNat
  rw [hd] at h1
  have hb : ∃ d, Lib.digitVal b = some d := by
   simp only [Lib.decFrom] at h1
   cases hv : Lib.digitVal b with
   | none => rw [hv] at h1; cases h1
   | some d => exact ⟨d, rfl⟩
  obtain ⟨d, hb⟩ := hb
  obtain ⟨h3, rfl⟩ := dig_inv hb
  have h45 : (UInt8.ofNat (48 + d) == 45) = false := by
   rw [beq_eq_false_iff_ne]
   intro e
   have := congrArg UInt8.toNat e
   rw [u8_of d h3] at this
   simp at this
   omega
  have h43 : (UInt8.ofNat (48 + d) == 43) = false := by
   rw [beq_eq_false_iff_ne]
   intro e
   have := congrArg UInt8.toNat e
   rw [u8_of d h3] at this
   simp at this
   omega
  simp only [Lib.atoi, h45, h43, Bool.false_eq_true, if_false, Lib.decNat, List.isEmpty_cons, h1, Option.map_some, Lib.NumEnd.ofOption]
  congr 1
  omega
def numP (m : Nat) (s : By) : Option Int := match Lib.atoiAll s with
 | .ok x => if 0 ≤ x ∧ s.length ≤ m ∧ Lib.itoa x = s then some x else none
 | _ => none
theorem numP_eq {m : Nat} (hm : m ≤ 18) (s : By) : numP m s = numR m s := by
 cases hr : numR m s with
 | some n =>
  obtain ⟨h0, h1, h2, h3⟩ := numR_some hr
  unfold numP
  rw [h1, atoi_itoa h0 (by rw [← h1]; omega)]
  simp only
  rw [if_pos ⟨h0, by rw [← h1]; exact h3, trivial⟩]
 | none =>
  unfold numP
  split
  ·rename_i x hx
   split
   ·rename_i hc
    obtain ⟨c1, c2, c3⟩ := hc
    have := numR_itoa (m := m) c1 (by rw [c3]; exact c2)
    rw [c3, hr] at this
    cases this
   ·rfl
  ·rfl
end Go.Proofs.YtominlgikchnmaaGreatDoor

/- Calls of the library that turn nothing of ours: strconv.Itoa, strconv.Atoi, strings.Split. (Vm) -/
namespace Go.Proofs.YtominlgikchnmaaGreatDoor.Vm
open Go Go.Proofs Go.RowKit
theorem VC_lib {P : Program} {f : Nat} {args : List VV} {M : Mem} {Q : VV → Mem → Prop} (h : ∀ (G : Ghost) (w : World) (K : Nat → Option Nat) (rargs : Array Value), Inv G w K M → ArgsOk w K M rargs args →
  Calls P f rargs w fun e w' => ∃ rv r, e = .returned rv ∧ Below w.heap.size w w' ∧ Q r M ∧ RepV w' K M.H rv r ∧ Cl M.H.length r) : VC P f args M Q := by
 intro G w K rargs hI ha
 refine callsIn_wide.2 ((h G w K rargs hI ha).mono ?_)
 rintro e w' ⟨rv, r, rfl, hb, hq, hr, hc⟩
 obtain ⟨hE, hI'⟩ := step_made hI (w' := w') ⟨hb.os, hb.tape, hb.output, hb.size⟩ hb.block
 exact ⟨rv, r, K, M, rfl, hq, hr, hc, hE, hI'⟩
theorem args1 {w : World} {K : Nat → Option Nat} {M : Mem} {rargs : Array Value} {x : VV} (h : ArgsOk w K M rargs [x]) : ∃ v, rargs = #[v] ∧ RepV w K M.H v x := by
 obtain ⟨l⟩ := rargs
 obtain ⟨h1, h2⟩ := h.rep
 match l, h1, h2 with
 | [v], _, h2 => exact ⟨v, rfl, h2 0 v x rfl rfl⟩
theorem args2 {w : World} {K : Nat → Option Nat} {M : Mem} {rargs : Array Value} {x y : VV} (h : ArgsOk w K M rargs [x, y]) : ∃ v u, rargs = #[v, u] ∧ RepV w K M.H v x ∧ RepV w K M.H u y := by
 obtain ⟨l⟩ := rargs
 obtain ⟨h1, h2⟩ := h.rep
 match l, h1, h2 with
 | [v, u], _, h2 => exact ⟨v, u, rfl, h2 0 v x rfl rfl, h2 1 u y rfl rfl⟩
theorem below_grow (w : World) (k : Nat) (os : Array Obj) : Below w.heap.size w (Sort.grow (w.drewN k) os) :=
 ⟨rfl, rfl, rfl, by show w.heap.size ≤ (w.heap ++ os).size; simp, fun i hi => by
  show (w.heap ++ os)[i]? = _
  rw [Array.getElem?_append_left hi]⟩
theorem itoa_v {n : Int} (h0 : -9223372036854775808 ≤ n) (h1 : n ≤ 9223372036854775807) (M : Mem) : VC Tryz.prog 35 [.p (.int .i64 n)] M (fun r M' => M' = M ∧ r = .p (.str (tx (Lib.itoa n)))) := by
 refine VC_lib fun G w K rargs hI ha => ?_
 obtain ⟨v, rfl, hv⟩ := args1 ha
 obtain rfl := rep_int hv
 obtain ⟨⟨t, z, hp⟩, _⟩ := G.lz.at hI.old
 have hp := LzF_some hp
 refine (Any.strconv_Itoa Tryz.laysM171 n h0 h1 w ?_).mono ?_
 ·have hg := Tryz.laysM171.m17
  unfold Lib.TabIs World.var?
  rw [hg, show Tryz.laysM171_ren.g 17 = 0 from rfl]
  simp only [Option.bind_some, hp]
 ·rintro e w' ⟨rfl, k, os, rfl⟩
  exact ⟨_, _, rfl, below_grow w k os, ⟨rfl, rfl⟩, .p _ _ (.str _), cl_p _ _⟩
def atoiV (s : By) : Int × Bool := match Lib.atoiAll s with
 | .ok x => (x, true)
 | .syntax => (0, false)
 | .range => (Lib.atoiSat s, false)
theorem cell0 {w : World} {g : Nat} {vs : Array Value} {t : TypeId} {z : Nat × Nat} {e : Value} (h : w.heap[g]? = some (.cells vs t z)) (h0 : vs[0]? = some e) : w.cell? ⟨g, 0, none⟩ = some e := by
 simp [World.cell?, h, h0]
theorem atoi_v {s : By} (hs : s.length ≤ 281474976710656) (M : Mem) : VC Tryz.prog 69 [.p (.str (tx s))] M (fun r M' => M' = M ∧ r = .tup [.p (.int .i64 (atoiV s).1), .p (.ifc (atoiV s).2)]) := by
 refine VC_lib fun G w K rargs hI ha => ?_
 obtain ⟨v, rfl, hv⟩ := args1 ha
 obtain rfl := rep_str hv
 obtain ⟨-, -, he⟩ := G.lz.at hI.old
 have hsz : (tx s).size = s.length := tx_size s
 have herr : ∀ g ∈ [2, 3], ∃ e, w.cell? ⟨g, 0, none⟩ = some e ∧ (e = .nilIface ∨ ∃ a b, e = .iface a b) := fun g hg => by
  obtain ⟨vs, t, z, e, h1, h2, h3⟩ := he g hg
  exact ⟨e, cell0 (LzF_some h1) h2, h3⟩
 have tupR : ∀ (w' : World) (x : Int) (u : Value) (b : Bool), (u = .nilIface ∧ b = true ∨ ∃ t v, u = .iface t v ∧ b = false) → RepV w' K M.H (.tuple #[.int .i64 x, u]) (.tup [.p (.int .i64 x), .p (.ifc b)]) := fun w' x u b hu => by
  refine .tup _ _ rfl fun i v c hv hc => ?_
  match i, hv, hc with
  | 0, hv, hc => simp at hv hc; subst hv hc; exact .p _ _ (.int _ _)
  | 1, hv, hc =>
   simp at hv hc
   subst hv hc
   rcases hu with ⟨rfl, rfl⟩ | ⟨t, v, rfl, rfl⟩
   ·exact .p _ _ .ifn
   ·exact .p _ _ (.ifs _ _)
 have tupC : ∀ (x : Int) (b : Bool), Cl M.H.length (.tup [.p (.int .i64 x), .p (.ifc b)]) := fun x b r hr => by simp [refs, refsL] at hr
 have hl : (tx s).data.toList = s := tx_list s
 cases h : Lib.atoiAll s with
 | ok x =>
  have ha : atoiV s = (x, true) := by unfold atoiV; rw [h]
  rw [ha]
  refine (Any.strconv_Atoi_ok Tryz.laysC172 (tx s) (by omega) x (by rw [hl]; exact h) w).mono ?_
  rintro e w' ⟨rfl, hw⟩
  refine ⟨_, _, rfl, ?_, ⟨rfl, rfl⟩, tupR w' x .nilIface true (.inl ⟨rfl, rfl⟩), tupC _ _⟩
  rcases hw with rfl | ⟨t, rfl⟩
  ·exact Below.refl _ _
  ·exact Lib.bytesWorld_below _ _ _
 | «syntax» =>
  have ha : atoiV s = (0, false) := by unfold atoiV; rw [h]
  rw [ha]
  obtain ⟨e, h1, h2⟩ := herr 2 (by simp)
  refine (Any.strconv_Atoi_syntax Tryz.laysC172 (tx s) (by omega) (by rw [hl]; exact h) e w h1 h2).mono ?_
  rintro e w' ⟨N, rfl, _, _, hb⟩
  exact ⟨_, _, rfl, hb, ⟨rfl, rfl⟩, tupR w' 0 _ false (.inr ⟨_, _, rfl, rfl⟩), tupC _ _⟩
 | range =>
  have ha : atoiV s = (Lib.atoiSat s, false) := by unfold atoiV; rw [h]
  rw [ha]
  obtain ⟨e, h1, h2⟩ := herr 3 (by simp)
  refine (Any.strconv_Atoi_range Tryz.laysC172 (tx s) (by omega) (by rw [hl]; exact h) e w h1 h2).mono ?_
  rintro e w' ⟨N, rfl, _, _, hb⟩
  rw [hl]
  exact ⟨_, _, rfl, hb, ⟨rfl, rfl⟩, tupR w' _ _ false (.inr ⟨_, _, rfl, rfl⟩), tupC _ _⟩
def strsV (l : List By) : List (List PV) := l.map fun p => [.str (tx p)]
theorem split_v {l : By} {c : UInt8} (hs : l.length < 4294967281) (M : Mem) : VC Tryz.prog 40 [.p (.str (tx l)), .p (.str (tx [c]))] M (fun r M' => M' = M ∧ r = .p (.sl 1 (strsV (cutL c l)))) := by
 refine VC_lib fun G w K rargs hI ha => ?_
 obtain ⟨v, u, rfl, hv, hu⟩ := args2 ha
 obtain rfl := rep_str hv
 obtain rfl := rep_str hu
 obtain ⟨-, hm, -⟩ := G.lz.at hI.old
 obtain ⟨vs, t, z, m, h1, h2⟩ := hm
 have hi9 : (Tryz.prog.info? (Tryz.lays146_ren.t 9)).map (fun i => (i.zero, i.size, i.bytes)) = some (some (.string ByteArray.empty), 1, 16) := by kernel_rfl
 refine (Any.strings_Split Tryz.lays146 hi9 (tx l) (tx [c]) m w (by rw [tx_size]; exact hs) (cell0 (LzF_some h1) h2) (by rw [tx_size]; exact Nat.le_refl _)).mono ?_
 rintro e w' ⟨rfl, rfl⟩
 have hlen : Lib.countB (tx l) (tx [c]) + 1 = (strsV (cutL c l)).length := by
  have := congrArg List.length (split_tx c l)
  rw [Lib.splitB_all (tx [c]) (by rw [tx_size]; exact Nat.le_refl _) 0 _ (tx l) rfl] at this
  simpa [strsV] using this
 have hle := Lib.countB_le (tx [c]) (by rw [tx_size]; exact Nat.le_refl _) _ (tx l) (Nat.le_refl _)
 rw [tx_size] at hle
 have hnew := heap_alloc_new w (.cells ((Lib.splitB (tx [c]) 0 (Lib.countB (tx l) (tx [c])) (tx l)).map Value.string).toArray (Tryz.lays146_ren.t 9))
 rw [split_tx] at hnew ⊢
 rw [hlen]
 refine ⟨_, _, rfl, (Below.refl _ w).alloc (Nat.le_refl _) _, ⟨rfl, rfl⟩, .p _ _ (.sl _ _ 1 w.heap.size 0 _ (fun i _ => Value.string (tx ((cutL c l).getD i []))) (Nat.le_refl _) (by rw [← hlen]; unfold maxLen; omega) (fun x hx => ?_) (fun _ => rfl) (fun i x j u hx hu => ?_) (fun i x j u hx hu => ?_) fun i x j u hx hu => ?_), cl_p _ _⟩
 ·obtain ⟨p, _, rfl⟩ := List.mem_map.1 hx
  rfl
 ·intro k o hk hb
  have := (hI.blk k _ (List.getElem?_eq_some_iff.1 hk).1 hb).1
  omega
 ·unfold strsV at hx
  rw [List.getElem?_map] at hx
  obtain ⟨p, hp, rfl⟩ := Option.map_eq_some_iff.1 hx
  have hj : j = 0 := by have := (List.getElem?_eq_some_iff.1 hu).1; simpa using this
  subst hj
  rw [List.getD_eq_getElem?_getD, hp]
  rw [Lib.cell_of_heap hnew]
  simp [hp]
 ·unfold strsV at hx
  rw [List.getElem?_map] at hx
  obtain ⟨p, hp, rfl⟩ := Option.map_eq_some_iff.1 hx
  have hj : j = 0 := by have := (List.getElem?_eq_some_iff.1 hu).1; simpa using this
  subst hj
  simp at hu
  subst hu
  rw [List.getD_eq_getElem?_getD, hp]
  exact .str _
end Go.Proofs.YtominlgikchnmaaGreatDoor.Vm

/- Texts in the machine on values: what the operations give. (Vm) -/
namespace Go.Proofs.YtominlgikchnmaaGreatDoor.Vm
open Go Go.Proofs
abbrev vs (l : By) : VV := .p (.str (tx l))
abbrev strsW (l : List By) : VV := .p (.sl 1 (strsV l))
section
variable (t : Nat) (a b : By)
theorem str_eq : ((tx a).toList == (tx b).toList) = decide (a = b) := by
 rw [ByteArray.toList_eq, ByteArray.toList_eq, tx_list, tx_list]
 by_cases h : a = b
 ·subst h; simp
 ·simp [h]
theorem v_addS (h : a.length + b.length ≤ 9223372036854775807) : vbin T .add t (vs a) (vs b) = some (vs (a ++ b)) := by
 have h1 : Op.stringOp .add (tx a) (tx b) = .pure (.string (tx (a ++ b))) := by
  unfold Op.stringOp
  simp only
  rw [if_neg, tx_append]
  ·rfl
  ·rw [tx_size, tx_size, show IntKind.i64.max = 9223372036854775807 from rfl]
   omega
 show (pureOf (Op.stringOp .add (tx a) (tx b))).map ofValue = _
 rw [h1]
 rfl
theorem v_eqS : vbin T .eql t (vs a) (vs b) = some (vb (decide (a = b))) := by
 show some (vb ((tx a).toList == (tx b).toList)) = _
 rw [str_eq]
theorem v_neS : vbin T .neq t (vs a) (vs b) = some (vb (!decide (a = b))) := by
 show some (vb (!((tx a).toList == (tx b).toList))) = _
 rw [str_eq]
end
theorem strs_at {l : List By} {i : Nat} {x : By} (h : l[i]? = some x) : (strsV l)[i]? = some [.str (tx x)] := by simp [strsV, h]
theorem strs_len (l : List By) : (strsV l).length = l.length := by simp [strsV]
theorem strs_take (l : List By) (n : Nat) : (strsV l).take n = strsV (l.take n) := by simp [strsV, List.map_take]
theorem strs_drop (l : List By) (n : Nat) : (strsV l).drop n = strsV (l.drop n) := by simp [strsV, List.map_drop]
end Go.Proofs.YtominlgikchnmaaGreatDoor.Vm

/- A law whose row lists package variables: what is known of them where it begins. (Vm) -/
namespace Go.Proofs.YtominlgikchnmaaGreatDoor.Vm
open Go Go.Proofs Go.ChangeShapes Go.WideShapes Go.ChangeAt Go.RowKit
theorem laid_mem {P : Program} {w : World} {n : String} {d : DataW Unit} : ∀ {l : List (String × DataW Unit)} {ps : List MemPlace}, DataW.LaidVars P w l ps → (n, d) ∈ l → ∃ g t cs fuel p, P.globalNamed n = some g ∧ (P.globals[g]?).map (·.type) = some t ∧ w.var? P n = some cs ∧ DataW.trod (fun _ => ()) P w 0 (fun _ => true) false fuel t cs.toList = some (d, p)
 | [], _, _, h => by cases h
 | (n', d') :: r, ps, hl, h => by
  obtain ⟨g, t, cs, fuel, p, q, h1, h2, h3, h4, h5, _⟩ := hl
  rcases List.mem_cons.1 h with e | e
  ·cases e
   exact ⟨g, t, cs, fuel, p, h1, h2, h3, h4⟩
  ·exact laid_mem h5 e
theorem var_heap {P : Program} {w : World} {n : String} {g : Nat} {cs : Array Value} (hg : P.globalNamed n = some g) (h : w.var? P n = some cs) : ∃ t z, w.heap[g]? = some (.cells cs t z) := by
 unfold World.var? at h
 rw [hg] at h
 simp only [Option.bind_some] at h
 split at h
 ·rename_i c t z hh
  cases h
  exact ⟨t, z, hh⟩
 ·cases h
theorem LzF_in {w : World} {g : Nat} {o : Obj} (hg : g ∈ LzG) (h : w.heap[g]? = some o) : LzF w g = some o := by
 unfold LzF
 rw [if_pos hg, h]
theorem heap_lt {w : World} {g : Nat} {o : Obj} (h : w.heap[g]? = some o) : g < w.heap.size := (Array.getElem?_eq_some_iff.1 h).1
theorem cell_heap {w : World} {g : Nat} {v : Value} (h : w.cell? ⟨g, 0, none⟩ = some v) : ∃ vs t z, w.heap[g]? = some (.cells vs t z) ∧ vs[0]? = some v := by
 unfold World.cell? at h
 simp only at h
 split at h
 ·rename_i cs t z hh
  refine ⟨cs, t, z, hh, ?_⟩
  simpa using h
 ·cases h
theorem lz_of {W : World} {l : List (String × DataW Unit)} (hl : laidMet Tryz.prog l W) (hsh : W.ShapedOpen Tryz.prog)
  (h1 : ("internal/strconv.uint64pow10", Lib.tabData .u64 Lib.pow10Tab) ∈ l)
  (h2 : ∃ n d, ("strconv.ErrSyntax", .iface n d) ∈ l) (h3 : ∃ n d, ("strconv.ErrRange", .iface n d) ∈ l) : Lz W.heap.size W (fun _ => False) := by
 obtain ⟨ps, hl, _⟩ := hl
 have a1 : ∃ t z, W.heap[0]? = some (.cells (Lib.pow10Tab.map fun n => Value.int .u64 n).toArray t z) := by
  obtain ⟨g, t, cs, fuel, p, e1, e2, e3, e4⟩ := laid_mem hl h1
  obtain rfl : g = 0 := (Option.some.inj ((show Tryz.prog.globalNamed "internal/strconv.uint64pow10" = some 0 by kernel_rfl).symm.trans e1)).symm
  obtain ⟨t', z, hh⟩ := var_heap e1 e3
  obtain rfl : t = 162 := (Option.some.inj ((show (Tryz.prog.globals[0]?).map (·.type) = some 162 by kernel_rfl).symm.trans e2)).symm
  have := Lib.cells_of_tab Tryz.underlying162 Tryz.underlying71 (by kernel_rfl) (by kernel_rfl) e4
  refine ⟨t', z, ?_⟩
  rw [hh, ← this, Array.toArray_toList]
 have a2 : ∀ s g, Tryz.prog.globalNamed s = some g → (Tryz.prog.globals[g]?).map (·.type) = some 81 → (∃ n d, (s, .iface n d) ∈ l) → ∃ vs t z e, W.heap[g]? = some (.cells vs t z) ∧ vs[0]? = some e ∧ (e = Value.nilIface ∨ ∃ a b, e = .iface a b) := by
  rintro s g hg ht ⟨n, d, hm⟩
  obtain ⟨g', t, cs, fuel, p, e1, e2, e3, e4⟩ := laid_mem hl hm
  obtain rfl := Option.some.inj (hg.symm.trans e1)
  obtain rfl := Option.some.inj (ht.symm.trans e2)
  obtain ⟨t', z, hh⟩ := var_heap e1 e3
  obtain ⟨_, u, v, hc, _⟩ := iface_of_trod Tryz.underlying81 e4
  exact ⟨cs, t', z, .iface u v, hh, by rw [← Array.getElem?_toList, hc]; rfl, .inr ⟨u, v, rfl⟩⟩
 have a3 : ∃ vs t z m, W.heap[1]? = some (.cells vs t z) ∧ vs[0]? = some (.int .i64 m) := by
  obtain ⟨m, hm⟩ := cell_of_shapedOpen_int (g := 1) (t := 3) (k := .i64) (zero := #[.int .i64 0]) hsh (of_decide_eq_true (by kernel_rfl)) (by kernel_rfl) rfl (by kernel_rfl) (by kernel_rfl) Tryz.underlying3
  obtain ⟨vs, t, z, h, h0⟩ := cell_heap hm
  exact ⟨vs, t, z, m, h, h0⟩
 have a4 := a2 "strconv.ErrSyntax" 2 (by kernel_rfl) (by kernel_rfl) h2
 have a5 := a2 "strconv.ErrRange" 3 (by kernel_rfl) (by kernel_rfl) h3
 obtain ⟨t1, z1, b1⟩ := a1
 obtain ⟨v3, t3, z3, m3, b3, c3⟩ := a3
 obtain ⟨v4, t4, z4, e4, b4, c4, d4⟩ := a4
 obtain ⟨v5, t5, z5, e5, b5, c5, d5⟩ := a5
 refine ⟨fun g hg => ⟨?_, fun e => e⟩, ⟨t1, z1, LzF_in (by decide) b1⟩, ⟨v3, t3, z3, m3, LzF_in (by decide) b3, c3⟩, fun g hg => ?_⟩
 ·simp only [LzG, List.mem_cons, List.not_mem_nil, or_false] at hg
  rcases hg with rfl | rfl | rfl | rfl
  ·exact heap_lt b1
  ·exact heap_lt b3
  ·exact heap_lt b4
  ·exact heap_lt b5
 ·simp only [List.mem_cons, List.not_mem_nil, or_false] at hg
  rcases hg with rfl | rfl
  ·exact ⟨v4, t4, z4, e4, LzF_in (by decide) b4, c4, d4⟩
  ·exact ⟨v5, t5, z5, e5, LzF_in (by decide) b5, c5, d5⟩
theorem handed_laid {H : Type} {enc : TypeId × Value → H} {a : Assume} {C : Checked} {os : Os} {f : FuncId} {fn : Func} {s : ChangeSpec} {conds : List PathCond} {apart fresh handsOn again : Bool} {l : List (String × DataW Unit)}
  (own : ownKnob C.prog.godebug = none) (started : os.Started) (noInit : C.prog.inits.idxOf? f = none) (hfn : C.prog.funcs[f]? = some fn)
  (witness : ∃ (w : World) (tape : Tape) (i : Input), w.os = os ∧ (w.forCall tape i).Shaped C.prog ∧ i.vars = [] ∧ Input.okWide C.prog (w.forCall tape i) .any w.heap.size f i ∧
    ((s.pre enc C.prog fn conds apart (w.forCall tape i).memory i.args ∧ laidMetH C.prog l (w.forCall tape i).memory) ∧ sizedMet enc C.prog fn (OpenSpec.ofChange s) apart (w.forCall tape i).memory i.args) ∧ a.holds C.prog (lone (Frame.enter C.prog f i.args .normal) [] (w.forCall tape i)))
  (contract : ∀ (W : World) (base : Nat) (args : Array Value) (ds gs : List (DataW H)) (before : List MemPlace),
    (∀ (j : Nat) t v, fn.params[j]? = some t → args[j]? = some v → Value.okWide C.prog W .any base t v) →
    DataW.Whole enc C.prog fn.params.toList s.vars apart W args.toList ds gs before →
    laidMetH C.prog l W → W.ShapedOpen C.prog →
    Calls C.prog f args W fun e W' => ∃ v, e = .returned v ∧ s.post enc C.prog fn apart fresh handsOn again W args v W') :
  ReturnsInHanded a C os f .any (fun w args => (s.pre enc C.prog fn conds apart w args ∧ laidMetH C.prog l w) ∧ sizedMet enc C.prog fn (OpenSpec.ofChange s) apart w args) (s.post enc C.prog fn apart fresh handsOn again) := by
 refine returnsInHanded_of_calls own started noInit witness ?_
 intro w tape i _ hsh _ hok hpre hholds
 obtain ⟨_, _, _, fn', hfn', _, _, _, _, hval⟩ := hok
 have e : fn' = fn := Option.some.inj (hfn'.symm.trans hfn)
 subst e
 obtain ⟨⟨⟨ds, gs, before, hw, hc⟩, hx⟩, hz⟩ := hpre
 have hw' := DataW.Whole.of_heap (w' := w.forCall tape i) (by rfl) hw
 refine (contract (w.forCall tape i) w.heap.size i.args ds gs before hval hw' (laidMetH.of_heap (w := (w.forCall tape i).memory) (by rfl) hx) hsh).mono fun e W' ⟨v, he, hp⟩ => ?_
 subst he
 exact ChangeSpec.post_blind hp
theorem ok_str : okT Tryz.prog 1 9 = true := by kernel_rfl
set_option maxRecDepth 100000 in
theorem rd_str : Rd 9 (fun u => ∃ s : By, u = vs s ∧ s.length ≤ maxLen) := by
 refine ⟨⟨by kernel_rfl, of_decide_eq_true (by kernel_rfl)⟩, fun H enc W b0 v d ps hv h => ?_⟩
 obtain ⟨u, h1, h2⟩ := arg_str Tryz.underlying9 ok_str hv h
 obtain ⟨s, ys, he, hw, h3⟩ := h1.str_inv Tryz.underlying9
 cases he
 refine ⟨_, ⟨s.data.toList, ?_, ?_⟩, h2, rfl⟩
 ·show VV.p (.str s) = .p (.str (tx s.data.toList))
  rw [tx_of]
 ·exact hw
theorem ok_u8 : okT Tryz.prog 1 5 = true := by kernel_rfl
set_option maxRecDepth 100000 in
theorem rd_u8 : Rd 5 (fun u => ∃ c : Int, u = .p (.int .u8 c)) := by
 refine ⟨⟨by kernel_rfl, of_decide_eq_true (by kernel_rfl)⟩, fun H enc W b0 v d ps hv h => ?_⟩
 obtain ⟨u, h1, h2⟩ := arg_int Tryz.underlying5 ok_u8 hv h
 obtain ⟨n, ys, he, hw, h3⟩ := h1.int_inv Tryz.underlying5
 cases he
 exact ⟨_, ⟨n, rfl⟩, h2, rfl⟩
def numsC : List (DataW Unit) → List Value
 | [] => []
 | .lit (.int k n) :: r => .int k n :: numsC r
 | .agg l :: r => numsC2 l ++ numsC r
 | _ :: r => numsC r
where numsC2 : List (DataW Unit) → List Value
 | [] => []
 | .lit (.int k n) :: r => .int k n :: numsC2 r
 | _ :: r => numsC2 r
def cellsC : DataW Unit → Array Value
 | .agg l => (numsC l).toArray
 | _ => #[]
def txC : DataW Unit → ByteArray
 | .iface _ (.ptr (.agg [.lit (.string s)])) => ⟨s.toArray⟩
 | _ => ⟨#[]⟩
end Go.Proofs.YtominlgikchnmaaGreatDoor.Vm

/- A world in which the listed variables hold what the row says. (Vm) -/
namespace Go.Proofs.YtominlgikchnmaaGreatDoor.Vm
open Go Go.Proofs Go.ChangeShapes Go.WideShapes Go.ChangeAt Go.RowKit
noncomputable def laidWorld (os : Os) : World :=
 let N := (World.settled Tryz.prog os).heap.size
 let w0 := World.holding Tryz.prog os ⟨#[.cells #[.string (txC Rows.laid_strconv_ErrSyntax)] 183, .cells #[.string (txC Rows.laid_strconv_ErrRange)] 183], #[], []⟩
 let put (h : Array Obj) (g : Nat) (cs : Array Value) : Array Obj := h.modify g fun
  | .cells _ t frozen => .cells cs t frozen
  | o => o
 { w0 with heap := put (put (put (put (put (put (put w0.heap 2 #[.iface 181 (.pointer (some ⟨N, 0, none⟩))])
   3 #[.iface 181 (.pointer (some ⟨N + 1, 0, none⟩))])
   0 (cellsC Rows.laid_internal_strconv_uint64pow10)) 4 (cellsC Rows.laid_unicode_utf8_first)) 5 (cellsC Rows.laid_unicode_utf8_acceptRanges))
   6 (cellsC Rows.laid_math_bits_deBruijn32tab)) 7 (cellsC Rows.laid_math_bits_deBruijn64tab) }
set_option maxRecDepth 100000 in
theorem laid_met (os : Os) (args : Array Value) : laidMet Tryz.prog Rows.vaultTapeRow.laid ((laidWorld os).forCall (fun _ _ => 0) ⟨#[], args, []⟩).memory :=
 laidMet_of_run3 10 (by kernel_rfl) (by kernel_rfl) (by kernel_rfl)
set_option maxRecDepth 100000 in
theorem laid_shaped (os : Os) (args : Array Value) : ((laidWorld os).forCall (fun _ _ => 0) ⟨#[], args, []⟩).Shaped Tryz.prog :=
 World.shaped_of_RefB (by kernel_rfl) (by kernel_rfl)
theorem laid_pow : Rows.laid_internal_strconv_uint64pow10 = Lib.tabData (H := Unit) .u64 Lib.pow10Tab := by kernel_rfl
theorem lz_law {W : World} (h : laidMetH Tryz.prog Rows.vaultTapeRow.laid W) (hsh : W.ShapedOpen Tryz.prog) : Lz W.heap.size W (fun _ => False) := by
 have h' : laidMet Tryz.prog Rows.vaultTapeRow.laid W := h
 refine lz_of h' hsh ?_ (?_ : ∃ n d, _) (?_ : ∃ n d, _)
 ·rw [← laid_pow]
  exact List.Mem.tail _ (List.Mem.tail _ (List.Mem.head _))
 ·exact ⟨_, _, List.Mem.tail _ (List.Mem.tail _ (List.Mem.tail _ (List.Mem.tail _ (List.Mem.tail _ (List.Mem.head _)))))⟩
 ·exact ⟨_, _, List.Mem.tail _ (List.Mem.tail _ (List.Mem.tail _ (List.Mem.tail _ (List.Mem.head _))))⟩
end Go.Proofs.YtominlgikchnmaaGreatDoor.Vm
