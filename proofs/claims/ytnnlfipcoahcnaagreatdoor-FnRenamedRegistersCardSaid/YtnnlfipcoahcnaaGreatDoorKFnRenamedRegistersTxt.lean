/- Contracts of library functions on texts. -/
import Derived.Test.YtnnlfipcoahcnaaGreatDoorKFnRenamedRegistersOpr
import Derived.Shelf.Strings.OnBuilder
import Derived.Shelf.Strconv.Itoa3
import Derived.Shelf.Strings.Split
import Derived.Shelf.Strings.Cut
import Derived.Shelf.Strconv.AtoiAll
import Derived.Shelf.LaysM
import Derived.Shelf.LaysC
import Derived.Lib.SmallJoins
import Derived.Test.YtnnlfipcoahcnaaGreatDoorKFnRenamedRegistersWMore
import Derived.Test.YtnnlfipcoahcnaaGreatDoorProg
import Derived.KernelRfl
namespace Go.Proofs.YtnnlfipcoahcnaaGreatDoor.Hand
open Go.RowKit Go.Shelf Go.Proofs Go.Proofs.YtnnlfipcoahcnaaGreatDoor.Frame Go.Proofs.YtnnlfipcoahcnaaGreatDoorW.PrintLast
open Go.Proofs.YtnnlfipcoahcnaaGreatDoorW.PrintWords hiding mn mx
set_option linter.unusedVariables false
set_option linter.unusedSimpArgs false
def joinL_ren : Go.Shelf.Ren := ⟨fun | 156 => 99 | 165 => 125 | 166 => 126 | 169 => 127 | 240 => 152 | 241 => 153 | 276 => 167 | 277 => 168 | n => n, fun | 31 => 64 | 9 => 9 | 3 => 3 | 4 => 4 | 0 => 0 | 20 => 20 | 72 => 134 | 76 => 112 | 70 => 132 | 37 => 22 | 75 => 111 | 127 => 154 | 164 => 170 | 5 => 5 | 80 => 56 | n => n, fun | n => n⟩
theorem joinL : Go.Proofs.Lays.n156 Tryz.prog joinL_ren := {
 mixed := by kernel_rfl
 f156 := Tryz.func99.trans (congrArg some (by kernel_rfl))
 f165 := Tryz.func125.trans (congrArg some (by kernel_rfl))
 f166 := Tryz.func126.trans (congrArg some (by kernel_rfl))
 f169 := Tryz.func127.trans (congrArg some (by kernel_rfl))
 f240 := Tryz.func152.trans (congrArg some (by kernel_rfl))
 f241 := Tryz.func153.trans (congrArg some (by kernel_rfl))
 f276 := Tryz.func167.trans (congrArg some (by kernel_rfl))
 f277 := Tryz.func168.trans (congrArg some (by kernel_rfl))
 t0 := Tryz.underlying0
 a0 := Tryz.isAgg0
 z0 := Tryz.sizeOf0
 v0 := Tryz.zeroValue0
 t3 := Tryz.underlying3
 a3 := Tryz.isAgg3
 z3 := Tryz.sizeOf3
 v3 := Tryz.zeroValue3
 t4 := Tryz.underlying4
 a4 := Tryz.isAgg4
 z4 := Tryz.sizeOf4
 v4 := Tryz.zeroValue4
 t9 := Tryz.underlying9
 a9 := Tryz.isAgg9
 z9 := Tryz.sizeOf9
 v9 := Tryz.zeroValue9
 t20 := Tryz.underlying20
 a20 := Tryz.isAgg20
 z20 := Tryz.sizeOf20
 v20 := Tryz.zeroValue20
 t31 := Tryz.underlying64
 a31 := Tryz.isAgg64
 z31 := Tryz.sizeOf64
 v31 := Tryz.zeroValue64
 t37 := Tryz.underlying22
 a37 := Tryz.isAgg22
 z37 := Tryz.sizeOf22
 v37 := Tryz.zeroValue22
 t70 := Tryz.underlying132
 a70 := Tryz.isAgg132
 z70 := Tryz.sizeOf132
 v70 := Tryz.zeroValue132
 t72 := Tryz.underlying134
 a72 := Tryz.isAgg134
 z72 := Tryz.sizeOf134
 v72 := Tryz.zeroValue134
 t75 := Tryz.underlying111
 a75 := Tryz.isAgg111
 z75 := Tryz.sizeOf111
 v75 := Tryz.zeroValue111
 t76 := Tryz.underlying112
 a76 := Tryz.isAgg112
 z76 := Tryz.sizeOf112
 v76 := Tryz.zeroValue112
 t127 := Tryz.underlying154
 a127 := Tryz.isAgg154
 z127 := Tryz.sizeOf154
 v127 := Tryz.zeroValue154
 t164 := Tryz.underlying170
 a164 := Tryz.isAgg170
 z164 := Tryz.sizeOf170
 v164 := Tryz.zeroValue170 }
def itoaL_ren : Go.Shelf.Ren := ⟨fun | 171 => 81 | 243 => 114 | 246 => 139 | 283 => 157 | 284 => 158 | 285 => 159 | 286 => 160 | 129 => 179 | 317 => 180 | 318 => 181 | 319 => 182 | 320 => 183 | 337 => 192 | 338 => 193 | n => n, fun | 3 => 3 | 9 => 9 | 2 => 2 | 4 => 4 | 171 => 158 | 0 => 0 | 53 => 52 | 37 => 22 | 5 => 5 | 173 => 161 | 212 => 183 | 51 => 139 | 20 => 20 | 213 => 184 | 46 => 124 | 232 => 202 | 233 => 203 | n => n, fun | 17 => 3 | 18 => 6 | 19 => 7 | n => n⟩
theorem itoaL : Go.Proofs.Lays.n171 Tryz.prog itoaL_ren := {
 mixed := by kernel_rfl
 f129 := Tryz.func179.trans (congrArg some (by kernel_rfl))
 f171 := Tryz.func81.trans (congrArg some (by kernel_rfl))
 f243 := Tryz.func114.trans (congrArg some (by kernel_rfl))
 f246 := Tryz.func139.trans (congrArg some (by kernel_rfl))
 f283 := Tryz.func157.trans (congrArg some (by kernel_rfl))
 f284 := Tryz.func158.trans (congrArg some (by kernel_rfl))
 f285 := Tryz.func159.trans (congrArg some (by kernel_rfl))
 f286 := Tryz.func160.trans (congrArg some (by kernel_rfl))
 f317 := Tryz.func180.trans (congrArg some (by kernel_rfl))
 f318 := Tryz.func181.trans (congrArg some (by kernel_rfl))
 f319 := Tryz.func182.trans (congrArg some (by kernel_rfl))
 f320 := Tryz.func183.trans (congrArg some (by kernel_rfl))
 f337 := Tryz.func192.trans (congrArg some (by kernel_rfl))
 f338 := Tryz.func193.trans (congrArg some (by kernel_rfl))
 t0 := Tryz.underlying0
 a0 := Tryz.isAgg0
 z0 := Tryz.sizeOf0
 v0 := Tryz.zeroValue0
 t2 := Tryz.underlying2
 a2 := Tryz.isAgg2
 z2 := Tryz.sizeOf2
 v2 := Tryz.zeroValue2
 t3 := Tryz.underlying3
 a3 := Tryz.isAgg3
 z3 := Tryz.sizeOf3
 v3 := Tryz.zeroValue3
 t4 := Tryz.underlying4
 a4 := Tryz.isAgg4
 z4 := Tryz.sizeOf4
 v4 := Tryz.zeroValue4
 t5 := Tryz.underlying5
 a5 := Tryz.isAgg5
 z5 := Tryz.sizeOf5
 v5 := Tryz.zeroValue5
 t9 := Tryz.underlying9
 a9 := Tryz.isAgg9
 z9 := Tryz.sizeOf9
 v9 := Tryz.zeroValue9
 t20 := Tryz.underlying20
 a20 := Tryz.isAgg20
 z20 := Tryz.sizeOf20
 v20 := Tryz.zeroValue20
 t37 := Tryz.underlying22
 a37 := Tryz.isAgg22
 z37 := Tryz.sizeOf22
 v37 := Tryz.zeroValue22
 t46 := Tryz.underlying124
 a46 := Tryz.isAgg124
 z46 := Tryz.sizeOf124
 v46 := Tryz.zeroValue124
 t51 := Tryz.underlying139
 a51 := Tryz.isAgg139
 z51 := Tryz.sizeOf139
 v51 := Tryz.zeroValue139
 t53 := Tryz.underlying52
 a53 := Tryz.isAgg52
 z53 := Tryz.sizeOf52
 v53 := Tryz.zeroValue52
 t171 := Tryz.underlying158
 a171 := Tryz.isAgg158
 z171 := Tryz.sizeOf158
 v171 := Tryz.zeroValue158
 t173 := Tryz.underlying161
 a173 := Tryz.isAgg161
 z173 := Tryz.sizeOf161
 v173 := Tryz.zeroValue161
 t212 := Tryz.underlying183
 a212 := Tryz.isAgg183
 z212 := Tryz.sizeOf183
 v212 := Tryz.zeroValue183
 t213 := Tryz.underlying184
 a213 := Tryz.isAgg184
 z213 := Tryz.sizeOf184
 t232 := Tryz.underlying202
 a232 := Tryz.isAgg202
 z232 := Tryz.sizeOf202
 v232 := Tryz.zeroValue202
 t233 := Tryz.underlying203
 a233 := Tryz.isAgg203
 z233 := Tryz.sizeOf203
 v233 := Tryz.zeroValue203
 g17 := by kernel_rfl
 g18 := by kernel_rfl
 g19 := by kernel_rfl }
def splitL_ren : Go.Shelf.Ren := ⟨fun | 147 => 40 | 221 => 93 | 268 => 117 | 138 => 118 | 143 => 119 | 195 => 140 | 197 => 141 | 218 => 142 | 219 => 122 | 260 => 161 | 217 => 148 | 225 => 149 | 224 => 150 | 267 => 151 | 266 => 165 | 314 => 166 | n => n, fun | 9 => 9 | 3 => 3 | 31 => 64 | 4 => 4 | 0 => 0 | 105 => 145 | 21 => 21 | 5 => 5 | 46 => 124 | 119 => 185 | 139 => 188 | 138 => 187 | 146 => 140 | 51 => 139 | n => n, fun | 1 => 0 | 3 => 4 | 4 => 5 | n => n⟩
theorem splitL : Go.Proofs.LaysM.n147 Tryz.prog splitL_ren := {
 mixed := by kernel_rfl
 f138 := Tryz.func118.trans (congrArg some (by kernel_rfl))
 f143 := Tryz.func119.trans (congrArg some (by kernel_rfl))
 f147 := Tryz.func40.trans (congrArg some (by kernel_rfl))
 f195 := Tryz.func140.trans (congrArg some (by kernel_rfl))
 f197 := Tryz.func141.trans (congrArg some (by kernel_rfl))
 f217 := Tryz.func148.trans (congrArg some (by kernel_rfl))
 f218 := Tryz.func142.trans (congrArg some (by kernel_rfl))
 f219 := Tryz.func122.trans (congrArg some (by kernel_rfl))
 f221 := Tryz.func93.trans (congrArg some (by kernel_rfl))
 f224 := Tryz.func150.trans (congrArg some (by kernel_rfl))
 f225 := Tryz.func149.trans (congrArg some (by kernel_rfl))
 f260 := Tryz.func161.trans (congrArg some (by kernel_rfl))
 f266 := Tryz.func165.trans (congrArg some (by kernel_rfl))
 f267 := Tryz.func151.trans (congrArg some (by kernel_rfl))
 f268 := Tryz.func117.trans (congrArg some (by kernel_rfl))
 f314 := Tryz.func166.trans (congrArg some (by kernel_rfl))
 t0 := Tryz.underlying0
 a0 := Tryz.isAgg0
 z0 := Tryz.sizeOf0
 v0 := Tryz.zeroValue0
 t3 := Tryz.underlying3
 a3 := Tryz.isAgg3
 z3 := Tryz.sizeOf3
 v3 := Tryz.zeroValue3
 t4 := Tryz.underlying4
 a4 := Tryz.isAgg4
 z4 := Tryz.sizeOf4
 v4 := Tryz.zeroValue4
 t5 := Tryz.underlying5
 a5 := Tryz.isAgg5
 z5 := Tryz.sizeOf5
 v5 := Tryz.zeroValue5
 t9 := Tryz.underlying9
 a9 := Tryz.isAgg9
 z9 := Tryz.sizeOf9
 v9 := Tryz.zeroValue9
 t21 := Tryz.underlying21
 a21 := Tryz.isAgg21
 z21 := Tryz.sizeOf21
 v21 := Tryz.zeroValue21
 t31 := Tryz.underlying64
 a31 := Tryz.isAgg64
 z31 := Tryz.sizeOf64
 v31 := Tryz.zeroValue64
 t46 := Tryz.underlying124
 a46 := Tryz.isAgg124
 z46 := Tryz.sizeOf124
 v46 := Tryz.zeroValue124
 t51 := Tryz.underlying139
 a51 := Tryz.isAgg139
 z51 := Tryz.sizeOf139
 v51 := Tryz.zeroValue139
 t105 := Tryz.underlying145
 a105 := Tryz.isAgg145
 z105 := Tryz.sizeOf145
 v105 := Tryz.zeroValue145
 t119 := Tryz.underlying185
 a119 := Tryz.isAgg185
 z119 := Tryz.sizeOf185
 t138 := Tryz.underlying187
 a138 := Tryz.isAgg187
 z138 := Tryz.sizeOf187
 v138 := Tryz.zeroValue187
 t139 := Tryz.underlying188
 a139 := Tryz.isAgg188
 z139 := Tryz.sizeOf188
 v139 := Tryz.zeroValue188
 t146 := Tryz.underlying140
 a146 := Tryz.isAgg140
 z146 := Tryz.sizeOf140
 v146 := Tryz.zeroValue140
 g1 := by kernel_rfl
 g3 := by kernel_rfl
 g4 := by kernel_rfl
 i0 := by kernel_rfl
 i3 := by kernel_rfl
 i4 := by kernel_rfl
 i5 := by kernel_rfl
 i9 := by kernel_rfl
 i21 := by kernel_rfl
 i31 := by kernel_rfl
 i46 := by kernel_rfl
 i51 := by kernel_rfl
 i105 := by kernel_rfl
 i138 := by kernel_rfl
 i139 := by kernel_rfl
 i146 := by kernel_rfl
 m1 := by kernel_rfl
 s1_3 := fun w h => Go.Proofs.cell_of_shapedOpen_int (zero := #[.int .i64 0]) (t := 3) h (of_decide_eq_true (by kernel_rfl)) (by kernel_rfl) rfl (by kernel_rfl) (by kernel_rfl) Tryz.underlying3
 m3 := by kernel_rfl
 m4 := by kernel_rfl }
def cutL_ren : Go.Shelf.Ren := ⟨fun | 145 => 44 | 220 => 95 | 219 => 122 | 217 => 148 | 225 => 149 | 224 => 150 | 267 => 151 | 266 => 165 | 314 => 166 | n => n, fun | 9 => 9 | 4 => 4 | 59 => 69 | 3 => 3 | 5 => 5 | 46 => 124 | 146 => 140 | 51 => 139 | n => n, fun | 1 => 0 | n => n⟩
theorem cutL : Go.Proofs.Lays.n145 Tryz.prog cutL_ren := {
 mixed := by kernel_rfl
 f145 := Tryz.func44.trans (congrArg some (by kernel_rfl))
 f217 := Tryz.func148.trans (congrArg some (by kernel_rfl))
 f219 := Tryz.func122.trans (congrArg some (by kernel_rfl))
 f220 := Tryz.func95.trans (congrArg some (by kernel_rfl))
 f224 := Tryz.func150.trans (congrArg some (by kernel_rfl))
 f225 := Tryz.func149.trans (congrArg some (by kernel_rfl))
 f266 := Tryz.func165.trans (congrArg some (by kernel_rfl))
 f267 := Tryz.func151.trans (congrArg some (by kernel_rfl))
 f314 := Tryz.func166.trans (congrArg some (by kernel_rfl))
 t3 := Tryz.underlying3
 a3 := Tryz.isAgg3
 z3 := Tryz.sizeOf3
 v3 := Tryz.zeroValue3
 t4 := Tryz.underlying4
 a4 := Tryz.isAgg4
 z4 := Tryz.sizeOf4
 v4 := Tryz.zeroValue4
 t5 := Tryz.underlying5
 a5 := Tryz.isAgg5
 z5 := Tryz.sizeOf5
 v5 := Tryz.zeroValue5
 t9 := Tryz.underlying9
 a9 := Tryz.isAgg9
 z9 := Tryz.sizeOf9
 v9 := Tryz.zeroValue9
 t46 := Tryz.underlying124
 a46 := Tryz.isAgg124
 z46 := Tryz.sizeOf124
 v46 := Tryz.zeroValue124
 t51 := Tryz.underlying139
 a51 := Tryz.isAgg139
 z51 := Tryz.sizeOf139
 v51 := Tryz.zeroValue139
 t59 := Tryz.underlying69
 a59 := Tryz.isAgg69
 z59 := Tryz.sizeOf69
 v59 := Tryz.zeroValue69
 t146 := Tryz.underlying140
 a146 := Tryz.isAgg140
 z146 := Tryz.sizeOf140
 v146 := Tryz.zeroValue140
 g1 := by kernel_rfl }
def atoiL_ren : Go.Shelf.Ren := ⟨fun | 172 => 94 | 244 => 120 | 245 => 121 | 247 => 143 | 279 => 144 | 280 => 145 | 281 => 146 | 282 => 147 | 287 => 162 | 316 => 163 | 171 => 81 | 205 => 164 | 321 => 184 | 322 => 185 | 243 => 114 | 246 => 139 | 283 => 157 | 284 => 158 | 285 => 159 | 286 => 160 | 129 => 179 | 317 => 180 | 318 => 181 | 319 => 182 | 320 => 183 | 337 => 192 | 338 => 193 | n => n, fun | 9 => 9 | 3 => 3 | 75 => 111 | 76 => 112 | 4 => 4 | 5 => 5 | 167 => 148 | 37 => 22 | 0 => 0 | 85 => 149 | 2 => 2 | 168 => 151 | 53 => 52 | 175 => 163 | 46 => 124 | 210 => 167 | 127 => 154 | 145 => 192 | 143 => 190 | 21 => 21 | 171 => 158 | 173 => 161 | 212 => 183 | 51 => 139 | 20 => 20 | 213 => 184 | 232 => 202 | 233 => 203 | 80 => 56 | n => n, fun | 15 => 1 | 16 => 2 | 17 => 3 | 18 => 6 | 19 => 7 | n => n⟩
theorem atoiL : Go.Proofs.LaysC.n172 Tryz.prog atoiL_ren := {
 mixed := by kernel_rfl
 f129 := Tryz.func179.trans (congrArg some (by kernel_rfl))
 f171 := Tryz.func81.trans (congrArg some (by kernel_rfl))
 f172 := Tryz.func94.trans (congrArg some (by kernel_rfl))
 f205 := Tryz.func164.trans (congrArg some (by kernel_rfl))
 f243 := Tryz.func114.trans (congrArg some (by kernel_rfl))
 f244 := Tryz.func120.trans (congrArg some (by kernel_rfl))
 f245 := Tryz.func121.trans (congrArg some (by kernel_rfl))
 f246 := Tryz.func139.trans (congrArg some (by kernel_rfl))
 f247 := Tryz.func143.trans (congrArg some (by kernel_rfl))
 f279 := Tryz.func144.trans (congrArg some (by kernel_rfl))
 f280 := Tryz.func145.trans (congrArg some (by kernel_rfl))
 f281 := Tryz.func146.trans (congrArg some (by kernel_rfl))
 f282 := Tryz.func147.trans (congrArg some (by kernel_rfl))
 f283 := Tryz.func157.trans (congrArg some (by kernel_rfl))
 f284 := Tryz.func158.trans (congrArg some (by kernel_rfl))
 f285 := Tryz.func159.trans (congrArg some (by kernel_rfl))
 f286 := Tryz.func160.trans (congrArg some (by kernel_rfl))
 f287 := Tryz.func162.trans (congrArg some (by kernel_rfl))
 f316 := Tryz.func163.trans (congrArg some (by kernel_rfl))
 f317 := Tryz.func180.trans (congrArg some (by kernel_rfl))
 f318 := Tryz.func181.trans (congrArg some (by kernel_rfl))
 f319 := Tryz.func182.trans (congrArg some (by kernel_rfl))
 f320 := Tryz.func183.trans (congrArg some (by kernel_rfl))
 f321 := Tryz.func184.trans (congrArg some (by kernel_rfl))
 f322 := Tryz.func185.trans (congrArg some (by kernel_rfl))
 f337 := Tryz.func192.trans (congrArg some (by kernel_rfl))
 f338 := Tryz.func193.trans (congrArg some (by kernel_rfl))
 t0 := Tryz.underlying0
 a0 := Tryz.isAgg0
 z0 := Tryz.sizeOf0
 v0 := Tryz.zeroValue0
 t2 := Tryz.underlying2
 a2 := Tryz.isAgg2
 z2 := Tryz.sizeOf2
 v2 := Tryz.zeroValue2
 t3 := Tryz.underlying3
 a3 := Tryz.isAgg3
 z3 := Tryz.sizeOf3
 v3 := Tryz.zeroValue3
 t4 := Tryz.underlying4
 a4 := Tryz.isAgg4
 z4 := Tryz.sizeOf4
 v4 := Tryz.zeroValue4
 t5 := Tryz.underlying5
 a5 := Tryz.isAgg5
 z5 := Tryz.sizeOf5
 v5 := Tryz.zeroValue5
 t9 := Tryz.underlying9
 a9 := Tryz.isAgg9
 z9 := Tryz.sizeOf9
 v9 := Tryz.zeroValue9
 t20 := Tryz.underlying20
 a20 := Tryz.isAgg20
 z20 := Tryz.sizeOf20
 v20 := Tryz.zeroValue20
 t21 := Tryz.underlying21
 a21 := Tryz.isAgg21
 z21 := Tryz.sizeOf21
 v21 := Tryz.zeroValue21
 t37 := Tryz.underlying22
 a37 := Tryz.isAgg22
 z37 := Tryz.sizeOf22
 v37 := Tryz.zeroValue22
 t46 := Tryz.underlying124
 a46 := Tryz.isAgg124
 z46 := Tryz.sizeOf124
 v46 := Tryz.zeroValue124
 t51 := Tryz.underlying139
 a51 := Tryz.isAgg139
 z51 := Tryz.sizeOf139
 v51 := Tryz.zeroValue139
 t53 := Tryz.underlying52
 a53 := Tryz.isAgg52
 z53 := Tryz.sizeOf52
 v53 := Tryz.zeroValue52
 t75 := Tryz.underlying111
 a75 := Tryz.isAgg111
 z75 := Tryz.sizeOf111
 v75 := Tryz.zeroValue111
 t76 := Tryz.underlying112
 a76 := Tryz.isAgg112
 z76 := Tryz.sizeOf112
 v76 := Tryz.zeroValue112
 t85 := Tryz.underlying149
 a85 := Tryz.isAgg149
 z85 := Tryz.sizeOf149
 v85 := Tryz.zeroValue149
 t127 := Tryz.underlying154
 a127 := Tryz.isAgg154
 z127 := Tryz.sizeOf154
 v127 := Tryz.zeroValue154
 t143 := Tryz.underlying190
 a143 := Tryz.isAgg190
 z143 := Tryz.sizeOf190
 v143 := Tryz.zeroValue190
 t145 := Tryz.underlying192
 a145 := Tryz.isAgg192
 z145 := Tryz.sizeOf192
 v145 := Tryz.zeroValue192
 t167 := Tryz.underlying148
 a167 := Tryz.isAgg148
 z167 := Tryz.sizeOf148
 v167 := Tryz.zeroValue148
 t168 := Tryz.underlying151
 a168 := Tryz.isAgg151
 z168 := Tryz.sizeOf151
 v168 := Tryz.zeroValue151
 t171 := Tryz.underlying158
 a171 := Tryz.isAgg158
 z171 := Tryz.sizeOf158
 v171 := Tryz.zeroValue158
 t173 := Tryz.underlying161
 a173 := Tryz.isAgg161
 z173 := Tryz.sizeOf161
 v173 := Tryz.zeroValue161
 t175 := Tryz.underlying163
 a175 := Tryz.isAgg163
 z175 := Tryz.sizeOf163
 v175 := Tryz.zeroValue163
 t210 := Tryz.underlying167
 a210 := Tryz.isAgg167
 z210 := Tryz.sizeOf167
 v210 := Tryz.zeroValue167
 t212 := Tryz.underlying183
 a212 := Tryz.isAgg183
 z212 := Tryz.sizeOf183
 v212 := Tryz.zeroValue183
 t213 := Tryz.underlying184
 a213 := Tryz.isAgg184
 z213 := Tryz.sizeOf184
 t232 := Tryz.underlying202
 a232 := Tryz.isAgg202
 z232 := Tryz.sizeOf202
 v232 := Tryz.zeroValue202
 t233 := Tryz.underlying203
 a233 := Tryz.isAgg203
 z233 := Tryz.sizeOf203
 v233 := Tryz.zeroValue203
 g15 := by kernel_rfl
 g16 := by kernel_rfl
 g17 := by kernel_rfl
 g18 := by kernel_rfl
 g19 := by kernel_rfl
 t80 := Tryz.underlying56
 a80 := Tryz.isAgg56
 z80 := Tryz.sizeOf56
 v80 := Tryz.zeroValue56
 i0 := by kernel_rfl
 i2 := by kernel_rfl
 i3 := by kernel_rfl
 i4 := by kernel_rfl
 i5 := by kernel_rfl
 i9 := by kernel_rfl
 i20 := by kernel_rfl
 i21 := by kernel_rfl
 i37 := by kernel_rfl
 i46 := by kernel_rfl
 i51 := by kernel_rfl
 i53 := by kernel_rfl
 i75 := by kernel_rfl
 i76 := by kernel_rfl
 i80 := by kernel_rfl
 i85 := by kernel_rfl
 i127 := by kernel_rfl
 i143 := by kernel_rfl
 i145 := by kernel_rfl
 i167 := by kernel_rfl
 i168 := by kernel_rfl
 i171 := by kernel_rfl
 i173 := by kernel_rfl
 i175 := by kernel_rfl
 i210 := by kernel_rfl
 i212 := by kernel_rfl
 i232 := by kernel_rfl
 i233 := by kernel_rfl
 m15 := by kernel_rfl
 m16 := by kernel_rfl
 m17 := by kernel_rfl
 m18 := by kernel_rfl
 m19 := by kernel_rfl
 c0 := by kernel_rfl
 c2 := by kernel_rfl
 c3 := by kernel_rfl
 c4 := by kernel_rfl
 c5 := by kernel_rfl
 c9 := by kernel_rfl
 c20 := by kernel_rfl
 c21 := by kernel_rfl
 c37 := by kernel_rfl
 c46 := by kernel_rfl
 c51 := by kernel_rfl
 c53 := by kernel_rfl
 c75 := by kernel_rfl
 c76 := by kernel_rfl
 c80 := by kernel_rfl
 c85 := by kernel_rfl
 c127 := by kernel_rfl
 c143 := by kernel_rfl
 c145 := by kernel_rfl
 c167 := by kernel_rfl
 c168 := by kernel_rfl
 c171 := by kernel_rfl
 c173 := by kernel_rfl
 c175 := by kernel_rfl
 c210 := by kernel_rfl
 c212 := by kernel_rfl
 c213 := by kernel_rfl
 c232 := by kernel_rfl
 c233 := by kernel_rfl }
theorem extraJ : Builder.Extra Tryz.prog joinL_ren := {
 sizeBuilder := by kernel_rfl
 liesBuilder := by kernel_rfl
 t5 := Tryz.underlying5
 a5 := Tryz.isAgg5
 z5 := Tryz.sizeOf5
 v5 := Tryz.zeroValue5
 infoByte := by kernel_rfl
 cellsByte := by kernel_rfl
 sizeByte := by kernel_rfl
 neB5 := by decide }
theorem cell_lit {w : World} {a : Addr} {x : Value} (h : w.cell? a = some x) : a.spot = none ∧ a.block < w.heap.size := by
 unfold World.cell? at h
 split at h
 ·rename_i hh
  split at h
  ·cases h
  ·rename_i hs
   exact ⟨by simpa using hs, (Array.getElem?_eq_some_iff.1 hh).1⟩
 ·cases h
/-- texts with another between them -/
def strings_Join.f (l0 : List ByteArray) (a1 : ByteArray) : Option ByteArray := if l0.length ≤ 100000000 ∧ (Lib.join (l0.map (·.data.toList)) a1.data.toList).length ≤ 1000000000 then some ⟨(Lib.join (l0.map (·.data.toList)) a1.data.toList).toArray⟩ else none
theorem strings_Join.calls {w0 ws : World} {P0 : Nat → Prop} (A0 : Option Addr) (c0 : Nat) (n0 : Nat) (l0 : List ByteArray) (a1 : ByteArray) (Z : Below w0.heap.size w0 ws) (hF : Fr w0 ws P0 [] ws) (R0 : Stable ws P0 (fun w => Kd.C Kd.string w A0 n0 l0)) (hc0 : n0 ≤ c0) (r_1 : ByteArray) (h : strings_Join.f l0 a1 = some r_1) :
  Calls Tryz.prog 99 #[.slice A0 n0 c0, .string a1] ws (Post1 w0 ws P0 (fun (_ : Unit) => .string r_1) (fun (_ : Unit) => [])) := by
 have hC := R0 ws (KeptB.refl _ _)
 obtain rfl := hC.1
 unfold strings_Join.f at h
 by_cases hc : l0.length ≤ 100000000 ∧ (Lib.join (l0.map (·.data.toList)) a1.data.toList).length ≤ 1000000000
 rotate_left
 ·rw [if_neg hc] at h
  cases h
 rw [if_pos hc] at h
 obtain rfl := Option.some.inj h
 rcases Nat.eq_zero_or_pos l0.length with h0 | h0
 ·obtain rfl := List.eq_nil_of_length_eq_zero h0
  refine (Any.strings_Join_none joinL extraJ A0 c0 a1 ws).mono ?_
  rintro e w' ⟨rfl, rfl⟩
  exact ⟨(), rfl, hF⟩
 ·obtain ⟨ad, rfl, hx⟩ := hC.2.2 h0
  have hcell : ∀ (j : Nat) x, l0[j]? = some x → ws.cell? (ad.add j) = some (.string x) := fun j x hj => by
   obtain ⟨cs, k1, k2, k3⟩ := hx _ _ hj
   have k2' : cs = [Value.string x] := k2
   subst k2'
   have := k3 0 _ rfl
   have h1 : Kd.string.sz = 1 := rfl
   rw [h1, Nat.mul_one, Nat.add_zero] at this
   exact this
  obtain ⟨b, o, sp⟩ := ad
  have h00 := hcell 0 l0[0] (List.getElem?_eq_getElem h0)
  rw [Addr.add_zero'] at h00
  have hsp := cell_lit h00
  obtain ⟨rfl, hb⟩ := hsp
  refine (Any.strings_Join joinL extraJ b o c0 l0 a1 ws (fun j x hj => by have := hcell j x hj; rwa [Addr.add_lit] at this) hb (by omega) hc0 (by omega)).mono ?_
  rintro e w' ⟨rfl, hB⟩
  exact ⟨(), rfl, hF.below hB⟩

/-- What the library's variables hold. -/
def GP (w : World) : Prop := (∃ m, w.cell? ⟨splitL_ren.g 1, 0, none⟩ = some (.int .i64 m)) ∧ (∃ ev, w.cell? ⟨atoiL_ren.g 15, 0, none⟩ = some ev ∧ (ev = .nilIface ∨ ∃ te pe, ev = .iface te pe)) ∧ (∃ ev, w.cell? ⟨atoiL_ren.g 16, 0, none⟩ = some ev ∧ (ev = .nilIface ∨ ∃ te pe, ev = .iface te pe))
theorem GP_below {w W : World} (h : GP w) (hb : Below w.heap.size w W) : GP W := by
 have key : ∀ {g : Nat} {v : Value}, w.cell? ⟨g, 0, none⟩ = some v → W.cell? ⟨g, 0, none⟩ = some v := fun {g v} hv => by
  have hl : g < w.heap.size := (cell_lit hv).2
  unfold World.cell? at hv ⊢
  have := hb.block g hl
  simp only at hv ⊢
  rw [this]
  exact hv
 obtain ⟨⟨m, h1⟩, ⟨e2, h2, k2⟩, ⟨e3, h3, k3⟩⟩ := h
 exact ⟨⟨m, key h1⟩, ⟨e2, key h2, k2⟩, ⟨e3, key h3, k3⟩⟩
/-- a number below 100 as text -/
def strconv_Itoa.f (a0 : Int) : Option ByteArray := if 0 ≤ a0 ∧ a0 < 100 then some ⟨(Lib.decDigits a0.toNat).toArray⟩ else none
theorem strconv_Itoa.calls {w0 ws : World} {P0 : Nat → Prop} (a0 : Int) (Z : Below w0.heap.size w0 ws) (hF : Fr w0 ws P0 [] ws) (r_1 : ByteArray) (h : strconv_Itoa.f a0 = some r_1) :
  Calls Tryz.prog 81 #[.int .i64 a0] ws (Post1 w0 ws P0 (fun (_ : Unit) => .string r_1) (fun (_ : Unit) => [])) := by
 unfold strconv_Itoa.f at h
 by_cases hc : 0 ≤ a0 ∧ a0 < 100
 rotate_left
 ·rw [if_neg hc] at h
  cases h
 rw [if_pos hc] at h
 obtain rfl := Option.some.inj h
 obtain ⟨i, rfl⟩ := Int.eq_ofNat_of_zero_le hc.1
 refine (Any.strconv_Itoa_small itoaL i (by omega) ws).mono ?_
 rintro e w' ⟨rfl, rfl⟩
 exact ⟨(), rfl, hF⟩

/-- a text cut at another, into so many at most -/
def strings_SplitN.f (a0 a1 : ByteArray) (a2 : Int) : Option (List ByteArray) := if a0.size < 4294967281 ∧ 1 ≤ a1.size ∧ 1 ≤ a2 ∧ a2 ≤ 9223372036854775807 then some (Lib.splitB a1 0 (min a2.toNat (a0.size + 1) - 1) a0) else none
theorem strings_SplitN.calls {w0 ws : World} {P0 : Nat → Prop} (a0 : ByteArray) (a1 : ByteArray) (a2 : Int) (Z : Below w0.heap.size w0 ws) (hF : Fr w0 ws P0 [] ws) (GW : Stable ws P0 GP) (r_1 : List ByteArray) (h : strings_SplitN.f a0 a1 a2 = some r_1) :
  Calls Tryz.prog 40 #[.string a0, .string a1, .int .i64 a2] ws (Post1 w0 ws P0 (fun ((A_1, c_1) : Option Addr × Nat) => .slice A_1 r_1.length c_1) (fun ((A_1, c_1) : Option Addr × Nat) => [row Kd.string 9 (.slice A_1 r_1.length c_1) r_1])) := by
 unfold strings_SplitN.f at h
 by_cases hc : a0.size < 4294967281 ∧ 1 ≤ a1.size ∧ 1 ≤ a2 ∧ a2 ≤ 9223372036854775807
 rotate_left
 ·rw [if_neg hc] at h
  cases h
 rw [if_pos hc] at h
 obtain rfl := Option.some.inj h
 obtain ⟨h1, h2, h3, h4⟩ := hc
 obtain ⟨n, rfl⟩ := Int.eq_ofNat_of_zero_le (show 0 ≤ a2 by omega)
 obtain ⟨⟨m, hm⟩, _⟩ := GW ws (KeptB.refl _ _)
 refine (Any.strings_SplitN { splitL with } splitL.i9 a0 a1 n m ws h1 hm h2 (by omega) (by omega)).mono ?_
 rintro e w' ⟨rfl, rfl⟩
 rw [Int.toNat_natCast]
 have hle := Lib.splitB_length_le a1 0 (min n (a0.size + 1) - 1) a0
 generalize Lib.splitB a1 0 (min n (a0.size + 1) - 1) a0 = ps at hle ⊢
 have hN : ps.length ≤ min n (a0.size + 1) := by omega
 have hM : min n (a0.size + 1) ≤ 4294967281 := by omega
 generalize min n (a0.size + 1) = M at hN hM ⊢
 refine ⟨(some ⟨ws.heap.size, 0, none⟩, M), rfl, ?_⟩
 have hcell : (ws.alloc (.cells (Lib.cellsOf ps M) (splitL_ren.t 9))).heap[ws.heap.size]? = some (.cells (Lib.cellsOf ps M) 9 (0, 0)) := by
  unfold World.alloc
  exact Array.getElem?_push_size
 refine hF.row_new (ok := fun _ => True) (Kd.R_of_own (v := .slice (some ⟨ws.heap.size, 0, none⟩) ps.length M) ⟨by simp [encs], .inr ⟨ws.heap.size, M, Lib.cellsOf ps M, rfl, Nat.le_refl _, hcell, hN, ?_, ?_, ?_⟩⟩ (fun _ _ => trivial)) (below_alloc (Below.refl _ _) _)
 ·have : maxLen = 9223372036854775807 := rfl
  omega
 ·rw [Lib.cellsOf_size hN, Nat.mul_one]
 ·have e : (Lib.cellsOf ps M).toList = ps.map Value.string ++ List.replicate (M - ps.length) (Value.string ByteArray.empty) := by simp [Lib.cellsOf]
  rw [Nat.mul_one, e, List.take_append_of_le_length (by simp), List.take_of_length_le (by simp)]
  rfl

/-- a text cut at another's first place -/
def strings_Cut.f (a0 a1 : ByteArray) : Option (ByteArray × ByteArray × Bool) := if a0.size < 4294967281 then some (⟨(Lib.cut a0.data.toList a1.data.toList).1.toArray⟩, ⟨(Lib.cut a0.data.toList a1.data.toList).2.1.toArray⟩, (Lib.cut a0.data.toList a1.data.toList).2.2) else none
theorem strings_Cut.calls {w0 ws : World} {P0 : Nat → Prop} (a0 : ByteArray) (a1 : ByteArray) (Z : Below w0.heap.size w0 ws) (hF : Fr w0 ws P0 [] ws) (GW : Stable ws P0 GP) (r_1 : ByteArray) (r_2 : ByteArray) (r_3 : Bool) (h : strings_Cut.f a0 a1 = some (r_1, r_2, r_3)) :
  Calls Tryz.prog 44 #[.string a0, .string a1] ws (Post1 w0 ws P0 (fun (_ : Unit) => .tuple #[.string r_1, .string r_2, .bool r_3]) (fun (_ : Unit) => [])) := by
 unfold strings_Cut.f at h
 by_cases hc : a0.size < 4294967281
 rotate_left
 ·rw [if_neg hc] at h
  cases h
 rw [if_pos hc] at h
 simp only [Option.some.injEq, Prod.mk.injEq] at h
 obtain ⟨rfl, rfl, rfl⟩ := h
 obtain ⟨⟨m, hm⟩, _⟩ := GW ws (KeptB.refl _ _)
 refine (Any.strings_Cut cutL a0 a1 m ws hc hm).mono ?_
 rintro e w' ⟨rfl, n, rfl⟩
 exact ⟨(), rfl, hF.drewN n⟩

/-- the number of a text; 0, or the greatest or least one, where there is none -/
def strconv_Atoi.f (a0 : ByteArray) : Option Int := if a0.size ≤ 281474976710656 then some (match Lib.atoiAll a0.data.toList with
 | .ok v => v
 | .range => Lib.atoiSat a0.data.toList
 | _ => 0) else none
theorem strconv_Atoi.calls {w0 ws : World} {P0 : Nat → Prop} (a0 : ByteArray) (Z : Below w0.heap.size w0 ws) (hF : Fr w0 ws P0 [] ws) (GW : Stable ws P0 GP) (r_1 : Int) (h : strconv_Atoi.f a0 = some r_1) :
  Calls Tryz.prog 94 #[.string a0] ws (Post1 w0 ws P0 (fun (E_1 : Value) => .tuple #[.int .i64 r_1, E_1]) (fun (_ : Value) => [])) := by
 unfold strconv_Atoi.f at h
 by_cases hc : a0.size ≤ 281474976710656
 rotate_left
 ·rw [if_neg hc] at h
  cases h
 rw [if_pos hc] at h
 obtain rfl := Option.some.inj h
 obtain ⟨_, ⟨ev1, hv1, he1⟩, ⟨ev2, hv2, he2⟩⟩ := GW ws (KeptB.refl _ _)
 cases hN : Lib.atoiAll a0.data.toList with
 | ok v =>
  refine (Any.strconv_Atoi_ok atoiL a0 (by omega) v hN ws).mono ?_
  rintro e w' ⟨rfl, rfl | ⟨t, rfl⟩⟩
  ·exact ⟨_, rfl, hF⟩
  ·exact ⟨_, rfl, hF.below (Joins.below_bytesWorld _ _ _ _ (Nat.le_refl _))⟩
 | range =>
  refine (Any.strconv_Atoi_range atoiL a0 hc hN ev2 ws hv2 he2).mono ?_
  rintro e w' ⟨N, rfl, _, _, hB⟩
  exact ⟨_, rfl, hF.below hB⟩
 | _ =>
  refine (Any.strconv_Atoi_syntax atoiL a0 hc hN ev1 ws hv1 he1).mono ?_
  rintro e w' ⟨N, rfl, _, _, hB⟩
  exact ⟨_, rfl, hF.below hB⟩
end Go.Proofs.YtnnlfipcoahcnaaGreatDoor.Hand
