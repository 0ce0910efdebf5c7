/- Texts of a claim, merged. -/
import Derived.Shelf.SlGeneric
import Derived.Shelf.Strings.Split
import Derived.Shelf.Strings.OnBuilder
import Derived.Shelf.GgClosure.StringsRunes
import Derived.Shelf.Strings.Runes
import Derived.Shelf.Sort.Plain
import Derived.Shelf.Slices.In.SortNone
import Derived.Shelf.Slices.CompactI
import Derived.Shelf.Slices.CompactS
import Derived.Shelf.SlSortCmp.NoneTotal
import Derived.Ground.NamesProg
import Derived.Ground.Names2Prog
import Derived.Ground.GgwProg
import Derived.Ground.SlsfProg
import Derived.Test.YtmfiaecglndldaaGreatDoorProg
import Derived.WalkKit
import Derived.ProofKit
import Derived.StillTail
import Derived.Laws.StructEq
import Derived.Lib.AppendZeros
import Derived.Lib.Bytealg
import Derived.Laws.Externs
import Derived.Lib.ConvBytes
set_option linter.unusedVariables false
set_option linter.unusedSimpArgs false
section
namespace Go.Proofs
open Go.Shelf
def Tryz.laySplit_ren : Go.Shelf.Ren := ⟨fun | 146 => 85 | 221 => 113 | 268 => 136 | 138 => 137 | 143 => 138 | 195 => 167 | 197 => 168 | 218 => 169 | 219 => 170 | 260 => 188 | 217 => 171 | 225 => 143 | 224 => 142 | 267 => 189 | 266 => 190 | 314 => 195 | n => n, fun | 9 => 9 | 31 => 30 | 3 => 3 | 4 => 4 | 0 => 0 | 105 => 201 | 21 => 21 | 5 => 5 | 46 => 126 | 119 => 220 | 139 => 223 | 138 => 222 | 146 => 224 | 51 => 173 | n => n, fun | 1 => 0 | 3 => 1 | 4 => 2 | n => n⟩
theorem Tryz.laySplit : Go.Proofs.Lays.n146 Tryz.prog Tryz.laySplit_ren := {
  mixed := by kernel_rfl
  f138 := Tryz.func137.trans (congrArg some (by kernel_rfl))
  f143 := Tryz.func138.trans (congrArg some (by kernel_rfl))
  f146 := Tryz.func85.trans (congrArg some (by kernel_rfl))
  f195 := Tryz.func167.trans (congrArg some (by kernel_rfl))
  f197 := Tryz.func168.trans (congrArg some (by kernel_rfl))
  f217 := Tryz.func171.trans (congrArg some (by kernel_rfl))
  f218 := Tryz.func169.trans (congrArg some (by kernel_rfl))
  f219 := Tryz.func170.trans (congrArg some (by kernel_rfl))
  f221 := Tryz.func113.trans (congrArg some (by kernel_rfl))
  f224 := Tryz.func142.trans (congrArg some (by kernel_rfl))
  f225 := Tryz.func143.trans (congrArg some (by kernel_rfl))
  f260 := Tryz.func188.trans (congrArg some (by kernel_rfl))
  f266 := Tryz.func190.trans (congrArg some (by kernel_rfl))
  f267 := Tryz.func189.trans (congrArg some (by kernel_rfl))
  f268 := Tryz.func136.trans (congrArg some (by kernel_rfl))
  f314 := Tryz.func195.trans (congrArg some (by kernel_rfl))
  t0 := Tryz.underlying0
  a0 := Tryz.isAgg0
  z0 := Tryz.sizeOf0
  v0 := Tryz.zeroValue0
  t3 := Tryz.underlying3
  a3 := Tryz.isAgg3
  z3 := Tryz.sizeOf3
  v3 := Tryz.zeroValue3
  t4 := Tryz.underlying4
  a4 := Tryz.isAgg4
  z4 := Tryz.sizeOf4
  v4 := Tryz.zeroValue4
  t5 := Tryz.underlying5
  a5 := Tryz.isAgg5
  z5 := Tryz.sizeOf5
  v5 := Tryz.zeroValue5
  t9 := Tryz.underlying9
  a9 := Tryz.isAgg9
  z9 := Tryz.sizeOf9
  v9 := Tryz.zeroValue9
  t21 := Tryz.underlying21
  a21 := Tryz.isAgg21
  z21 := Tryz.sizeOf21
  v21 := Tryz.zeroValue21
  t31 := Tryz.underlying30
  a31 := Tryz.isAgg30
  z31 := Tryz.sizeOf30
  v31 := Tryz.zeroValue30
  t46 := Tryz.underlying126
  a46 := Tryz.isAgg126
  z46 := Tryz.sizeOf126
  v46 := Tryz.zeroValue126
  t51 := Tryz.underlying173
  a51 := Tryz.isAgg173
  z51 := Tryz.sizeOf173
  v51 := Tryz.zeroValue173
  t105 := Tryz.underlying201
  a105 := Tryz.isAgg201
  z105 := Tryz.sizeOf201
  v105 := Tryz.zeroValue201
  t119 := Tryz.underlying220
  a119 := Tryz.isAgg220
  z119 := Tryz.sizeOf220
  t138 := Tryz.underlying222
  a138 := Tryz.isAgg222
  z138 := Tryz.sizeOf222
  v138 := Tryz.zeroValue222
  t139 := Tryz.underlying223
  a139 := Tryz.isAgg223
  z139 := Tryz.sizeOf223
  v139 := Tryz.zeroValue223
  t146 := Tryz.underlying224
  a146 := Tryz.isAgg224
  z146 := Tryz.sizeOf224
  v146 := Tryz.zeroValue224
  g1 := by kernel_rfl
  g3 := by kernel_rfl
  g4 := by kernel_rfl }
def Tryz.layJoin_ren : Go.Shelf.Ren := ⟨fun | 156 => 89 | 165 => 116 | 166 => 117 | 169 => 118 | 240 => 144 | 241 => 145 | 276 => 172 | 277 => 173 | n => n, fun | 31 => 30 | 9 => 9 | 3 => 3 | 4 => 4 | 0 => 0 | 20 => 20 | 72 => 157 | 76 => 161 | 70 => 155 | 37 => 35 | 75 => 160 | 127 => 184 | 164 => 203 | 5 => 5 | 80 => 163 | n => n, fun | n => n⟩
theorem Tryz.layJoin : Go.Proofs.Lays.n156 Tryz.prog Tryz.layJoin_ren := {
  mixed := by kernel_rfl
  f156 := Tryz.func89.trans (congrArg some (by kernel_rfl))
  f165 := Tryz.func116.trans (congrArg some (by kernel_rfl))
  f166 := Tryz.func117.trans (congrArg some (by kernel_rfl))
  f169 := Tryz.func118.trans (congrArg some (by kernel_rfl))
  f240 := Tryz.func144.trans (congrArg some (by kernel_rfl))
  f241 := Tryz.func145.trans (congrArg some (by kernel_rfl))
  f276 := Tryz.func172.trans (congrArg some (by kernel_rfl))
  f277 := Tryz.func173.trans (congrArg some (by kernel_rfl))
  t0 := Tryz.underlying0
  a0 := Tryz.isAgg0
  z0 := Tryz.sizeOf0
  v0 := Tryz.zeroValue0
  t3 := Tryz.underlying3
  a3 := Tryz.isAgg3
  z3 := Tryz.sizeOf3
  v3 := Tryz.zeroValue3
  t4 := Tryz.underlying4
  a4 := Tryz.isAgg4
  z4 := Tryz.sizeOf4
  v4 := Tryz.zeroValue4
  t9 := Tryz.underlying9
  a9 := Tryz.isAgg9
  z9 := Tryz.sizeOf9
  v9 := Tryz.zeroValue9
  t20 := Tryz.underlying20
  a20 := Tryz.isAgg20
  z20 := Tryz.sizeOf20
  v20 := Tryz.zeroValue20
  t31 := Tryz.underlying30
  a31 := Tryz.isAgg30
  z31 := Tryz.sizeOf30
  v31 := Tryz.zeroValue30
  t37 := Tryz.underlying35
  a37 := Tryz.isAgg35
  z37 := Tryz.sizeOf35
  v37 := Tryz.zeroValue35
  t70 := Tryz.underlying155
  a70 := Tryz.isAgg155
  z70 := Tryz.sizeOf155
  v70 := Tryz.zeroValue155
  t72 := Tryz.underlying157
  a72 := Tryz.isAgg157
  z72 := Tryz.sizeOf157
  v72 := Tryz.zeroValue157
  t75 := Tryz.underlying160
  a75 := Tryz.isAgg160
  z75 := Tryz.sizeOf160
  v75 := Tryz.zeroValue160
  t76 := Tryz.underlying161
  a76 := Tryz.isAgg161
  z76 := Tryz.sizeOf161
  v76 := Tryz.zeroValue161
  t127 := Tryz.underlying184
  a127 := Tryz.isAgg184
  z127 := Tryz.sizeOf184
  v127 := Tryz.zeroValue184
  t164 := Tryz.underlying203
  a164 := Tryz.isAgg203
  z164 := Tryz.sizeOf203
  v164 := Tryz.zeroValue203 }
def Tryz.layCF_ren : Go.Shelf.Ren := ⟨fun | 17 => 86 | 15 => 114 | 20 => 139 | n => n, fun | 9 => 9 | 23 => 122 | 4 => 4 | 3 => 3 | 0 => 0 | 21 => 21 | n => n, fun | n => n⟩
theorem Tryz.layCF : Go.Proofs.LaysGw.n17 Tryz.prog Tryz.layCF_ren := {
  mixed := by kernel_rfl
  f15 := Tryz.func114.trans (congrArg some (by kernel_rfl))
  f17 := Tryz.func86.trans (congrArg some (by kernel_rfl))
  f20 := Tryz.func139.trans (congrArg some (by kernel_rfl))
  t0 := Tryz.underlying0
  a0 := Tryz.isAgg0
  z0 := Tryz.sizeOf0
  v0 := Tryz.zeroValue0
  i0 := by kernel_rfl
  t3 := Tryz.underlying3
  a3 := Tryz.isAgg3
  z3 := Tryz.sizeOf3
  v3 := Tryz.zeroValue3
  i3 := by kernel_rfl
  t4 := Tryz.underlying4
  a4 := Tryz.isAgg4
  z4 := Tryz.sizeOf4
  v4 := Tryz.zeroValue4
  i4 := by kernel_rfl
  t9 := Tryz.underlying9
  a9 := Tryz.isAgg9
  z9 := Tryz.sizeOf9
  v9 := Tryz.zeroValue9
  i9 := by kernel_rfl
  t21 := Tryz.underlying21
  a21 := Tryz.isAgg21
  z21 := Tryz.sizeOf21
  v21 := Tryz.zeroValue21
  i21 := by kernel_rfl
  t23 := Tryz.underlying122
  a23 := Tryz.isAgg122
  z23 := Tryz.sizeOf122
  v23 := Tryz.zeroValue122
  i23 := by kernel_rfl }
def Tryz.layIB_ren : Go.Shelf.Ren := ⟨fun | 137 => 140 | 217 => 171 | 266 => 190 | n => n, fun | 9 => 9 | 5 => 5 | 3 => 3 | n => n, fun | n => n⟩
theorem Tryz.layIB : Go.Proofs.Lays.n137 Tryz.prog Tryz.layIB_ren := {
  mixed := by kernel_rfl
  f137 := Tryz.func140.trans (congrArg some (by kernel_rfl))
  f217 := Tryz.func171.trans (congrArg some (by kernel_rfl))
  f266 := Tryz.func190.trans (congrArg some (by kernel_rfl))
  t3 := Tryz.underlying3
  a3 := Tryz.isAgg3
  z3 := Tryz.sizeOf3
  v3 := Tryz.zeroValue3
  t5 := Tryz.underlying5
  a5 := Tryz.isAgg5
  z5 := Tryz.sizeOf5
  v5 := Tryz.zeroValue5
  t9 := Tryz.underlying9
  a9 := Tryz.isAgg9
  z9 := Tryz.sizeOf9
  v9 := Tryz.zeroValue9 }
def Tryz.laySS_ren : Go.Shelf.Ren := ⟨fun | 190 => 53 | 125 => 92 | 258 => 91 | 128 => 128 | 129 => 129 | 302 => 119 | 303 => 120 | 304 => 121 | 305 => 122 | 306 => 123 | 307 => 124 | 308 => 125 | 309 => 126 | 310 => 127 | 333 => 146 | 329 => 147 | 330 => 148 | 334 => 149 | 335 => 150 | 336 => 151 | 344 => 174 | n => n, fun | 31 => 30 | 9 => 9 | 3 => 3 | 46 => 126 | 0 => 0 | 51 => 173 | 53 => 136 | 4 => 4 | 183 => 166 | 182 => 165 | 131 => 170 | 5 => 5 | 218 => 185 | 222 => 189 | 228 => 205 | 229 => 206 | n => n, fun | n => n⟩
theorem Tryz.laySS : Go.Proofs.Lays.n190 Tryz.prog Tryz.laySS_ren := {
  mixed := by kernel_rfl
  f125 := Tryz.func92.trans (congrArg some (by kernel_rfl))
  f128 := Tryz.func128.trans (congrArg some (by kernel_rfl))
  f129 := Tryz.func129.trans (congrArg some (by kernel_rfl))
  f190 := Tryz.func53.trans (congrArg some (by kernel_rfl))
  f258 := Tryz.func91.trans (congrArg some (by kernel_rfl))
  f302 := Tryz.func119.trans (congrArg some (by kernel_rfl))
  f303 := Tryz.func120.trans (congrArg some (by kernel_rfl))
  f304 := Tryz.func121.trans (congrArg some (by kernel_rfl))
  f305 := Tryz.func122.trans (congrArg some (by kernel_rfl))
  f306 := Tryz.func123.trans (congrArg some (by kernel_rfl))
  f307 := Tryz.func124.trans (congrArg some (by kernel_rfl))
  f308 := Tryz.func125.trans (congrArg some (by kernel_rfl))
  f309 := Tryz.func126.trans (congrArg some (by kernel_rfl))
  f310 := Tryz.func127.trans (congrArg some (by kernel_rfl))
  f329 := Tryz.func147.trans (congrArg some (by kernel_rfl))
  f330 := Tryz.func148.trans (congrArg some (by kernel_rfl))
  f333 := Tryz.func146.trans (congrArg some (by kernel_rfl))
  f334 := Tryz.func149.trans (congrArg some (by kernel_rfl))
  f335 := Tryz.func150.trans (congrArg some (by kernel_rfl))
  f336 := Tryz.func151.trans (congrArg some (by kernel_rfl))
  f344 := Tryz.func174.trans (congrArg some (by kernel_rfl))
  t0 := Tryz.underlying0
  a0 := Tryz.isAgg0
  z0 := Tryz.sizeOf0
  v0 := Tryz.zeroValue0
  t3 := Tryz.underlying3
  a3 := Tryz.isAgg3
  z3 := Tryz.sizeOf3
  v3 := Tryz.zeroValue3
  t4 := Tryz.underlying4
  a4 := Tryz.isAgg4
  z4 := Tryz.sizeOf4
  v4 := Tryz.zeroValue4
  t5 := Tryz.underlying5
  a5 := Tryz.isAgg5
  z5 := Tryz.sizeOf5
  v5 := Tryz.zeroValue5
  t9 := Tryz.underlying9
  a9 := Tryz.isAgg9
  z9 := Tryz.sizeOf9
  v9 := Tryz.zeroValue9
  t31 := Tryz.underlying30
  a31 := Tryz.isAgg30
  z31 := Tryz.sizeOf30
  v31 := Tryz.zeroValue30
  t46 := Tryz.underlying126
  a46 := Tryz.isAgg126
  z46 := Tryz.sizeOf126
  v46 := Tryz.zeroValue126
  t51 := Tryz.underlying173
  a51 := Tryz.isAgg173
  z51 := Tryz.sizeOf173
  v51 := Tryz.zeroValue173
  t53 := Tryz.underlying136
  a53 := Tryz.isAgg136
  z53 := Tryz.sizeOf136
  v53 := Tryz.zeroValue136
  t131 := Tryz.underlying170
  a131 := Tryz.isAgg170
  z131 := Tryz.sizeOf170
  v131 := Tryz.zeroValue170
  t182 := Tryz.underlying165
  a182 := Tryz.isAgg165
  z182 := Tryz.sizeOf165
  v182 := Tryz.zeroValue165
  t183 := Tryz.underlying166
  a183 := Tryz.isAgg166
  z183 := Tryz.sizeOf166
  v183 := Tryz.zeroValue166
  t218 := Tryz.underlying185
  a218 := Tryz.isAgg185
  z218 := Tryz.sizeOf185
  v218 := Tryz.zeroValue185
  t222 := Tryz.underlying189
  a222 := Tryz.isAgg189
  z222 := Tryz.sizeOf189
  v222 := Tryz.zeroValue189
  t228 := Tryz.underlying205
  a228 := Tryz.isAgg205
  z228 := Tryz.sizeOf205
  v228 := Tryz.zeroValue205
  t229 := Tryz.underlying206
  a229 := Tryz.isAgg206
  z229 := Tryz.sizeOf206
  v229 := Tryz.zeroValue206 }
def Tryz.laySI_ren : Go.Shelf.Ren := ⟨fun | 189 => 99 | 125 => 92 | 257 => 132 | 128 => 128 | 129 => 129 | 294 => 157 | 295 => 158 | 296 => 159 | 297 => 160 | 298 => 161 | 299 => 162 | 216 => 163 | 300 => 164 | 301 => 165 | 328 => 185 | 329 => 147 | 330 => 148 | 331 => 186 | 332 => 187 | 215 => 134 | 343 => 194 | n => n, fun | 28 => 52 | 3 => 3 | 46 => 126 | 0 => 0 | 51 => 173 | 53 => 136 | 4 => 4 | 183 => 166 | 182 => 165 | 131 => 170 | 5 => 5 | 9 => 9 | 218 => 185 | 222 => 189 | 228 => 205 | 229 => 206 | n => n, fun | n => n⟩
theorem Tryz.laySI : Go.Proofs.Lays.n189 Tryz.prog Tryz.laySI_ren := {
  mixed := by kernel_rfl
  f125 := Tryz.func92.trans (congrArg some (by kernel_rfl))
  f128 := Tryz.func128.trans (congrArg some (by kernel_rfl))
  f129 := Tryz.func129.trans (congrArg some (by kernel_rfl))
  f189 := Tryz.func99.trans (congrArg some (by kernel_rfl))
  f215 := Tryz.func134.trans (congrArg some (by kernel_rfl))
  f216 := Tryz.func163.trans (congrArg some (by kernel_rfl))
  f257 := Tryz.func132.trans (congrArg some (by kernel_rfl))
  f294 := Tryz.func157.trans (congrArg some (by kernel_rfl))
  f295 := Tryz.func158.trans (congrArg some (by kernel_rfl))
  f296 := Tryz.func159.trans (congrArg some (by kernel_rfl))
  f297 := Tryz.func160.trans (congrArg some (by kernel_rfl))
  f298 := Tryz.func161.trans (congrArg some (by kernel_rfl))
  f299 := Tryz.func162.trans (congrArg some (by kernel_rfl))
  f300 := Tryz.func164.trans (congrArg some (by kernel_rfl))
  f301 := Tryz.func165.trans (congrArg some (by kernel_rfl))
  f328 := Tryz.func185.trans (congrArg some (by kernel_rfl))
  f329 := Tryz.func147.trans (congrArg some (by kernel_rfl))
  f330 := Tryz.func148.trans (congrArg some (by kernel_rfl))
  f331 := Tryz.func186.trans (congrArg some (by kernel_rfl))
  f332 := Tryz.func187.trans (congrArg some (by kernel_rfl))
  f343 := Tryz.func194.trans (congrArg some (by kernel_rfl))
  t0 := Tryz.underlying0
  a0 := Tryz.isAgg0
  z0 := Tryz.sizeOf0
  v0 := Tryz.zeroValue0
  t3 := Tryz.underlying3
  a3 := Tryz.isAgg3
  z3 := Tryz.sizeOf3
  v3 := Tryz.zeroValue3
  t4 := Tryz.underlying4
  a4 := Tryz.isAgg4
  z4 := Tryz.sizeOf4
  v4 := Tryz.zeroValue4
  t5 := Tryz.underlying5
  a5 := Tryz.isAgg5
  z5 := Tryz.sizeOf5
  v5 := Tryz.zeroValue5
  t9 := Tryz.underlying9
  a9 := Tryz.isAgg9
  z9 := Tryz.sizeOf9
  v9 := Tryz.zeroValue9
  t28 := Tryz.underlying52
  a28 := Tryz.isAgg52
  z28 := Tryz.sizeOf52
  v28 := Tryz.zeroValue52
  t46 := Tryz.underlying126
  a46 := Tryz.isAgg126
  z46 := Tryz.sizeOf126
  v46 := Tryz.zeroValue126
  t51 := Tryz.underlying173
  a51 := Tryz.isAgg173
  z51 := Tryz.sizeOf173
  v51 := Tryz.zeroValue173
  t53 := Tryz.underlying136
  a53 := Tryz.isAgg136
  z53 := Tryz.sizeOf136
  v53 := Tryz.zeroValue136
  t131 := Tryz.underlying170
  a131 := Tryz.isAgg170
  z131 := Tryz.sizeOf170
  v131 := Tryz.zeroValue170
  t182 := Tryz.underlying165
  a182 := Tryz.isAgg165
  z182 := Tryz.sizeOf165
  v182 := Tryz.zeroValue165
  t183 := Tryz.underlying166
  a183 := Tryz.isAgg166
  z183 := Tryz.sizeOf166
  v183 := Tryz.zeroValue166
  t218 := Tryz.underlying185
  a218 := Tryz.isAgg185
  z218 := Tryz.sizeOf185
  v218 := Tryz.zeroValue185
  t222 := Tryz.underlying189
  a222 := Tryz.isAgg189
  z222 := Tryz.sizeOf189
  v222 := Tryz.zeroValue189
  t228 := Tryz.underlying205
  a228 := Tryz.isAgg205
  z228 := Tryz.sizeOf205
  v228 := Tryz.zeroValue205
  t229 := Tryz.underlying206
  a229 := Tryz.isAgg206
  z229 := Tryz.sizeOf206
  v229 := Tryz.zeroValue206 }
def Tryz.layCS_ren : Go.Shelf.Ren := ⟨fun | 194 => 54 | n => n, fun | 31 => 30 | 9 => 9 | 3 => 3 | 4 => 4 | 0 => 0 | n => n, fun | n => n⟩
theorem Tryz.layCS : Go.Proofs.Lays.n194 Tryz.prog Tryz.layCS_ren := {
  mixed := by kernel_rfl
  f194 := Tryz.func54.trans (congrArg some (by kernel_rfl))
  t0 := Tryz.underlying0
  a0 := Tryz.isAgg0
  z0 := Tryz.sizeOf0
  v0 := Tryz.zeroValue0
  t3 := Tryz.underlying3
  a3 := Tryz.isAgg3
  z3 := Tryz.sizeOf3
  v3 := Tryz.zeroValue3
  t4 := Tryz.underlying4
  a4 := Tryz.isAgg4
  z4 := Tryz.sizeOf4
  v4 := Tryz.zeroValue4
  t9 := Tryz.underlying9
  a9 := Tryz.isAgg9
  z9 := Tryz.sizeOf9
  v9 := Tryz.zeroValue9
  t31 := Tryz.underlying30
  a31 := Tryz.isAgg30
  z31 := Tryz.sizeOf30
  v31 := Tryz.zeroValue30 }
def Tryz.layCI_ren : Go.Shelf.Ren := ⟨fun | 20 => 100 | n => n, fun | 22 => 52 | 3 => 3 | 4 => 4 | 0 => 0 | n => n, fun | n => n⟩
theorem Tryz.layCI : Go.Proofs.Lays2.n20 Tryz.prog Tryz.layCI_ren := {
  mixed := by kernel_rfl
  f20 := Tryz.func100.trans (congrArg some (by kernel_rfl))
  t0 := Tryz.underlying0
  a0 := Tryz.isAgg0
  z0 := Tryz.sizeOf0
  v0 := Tryz.zeroValue0
  t3 := Tryz.underlying3
  a3 := Tryz.isAgg3
  z3 := Tryz.sizeOf3
  v3 := Tryz.zeroValue3
  t4 := Tryz.underlying4
  a4 := Tryz.isAgg4
  z4 := Tryz.sizeOf4
  v4 := Tryz.zeroValue4
  t22 := Tryz.underlying52
  a22 := Tryz.isAgg52
  z22 := Tryz.sizeOf52
  v22 := Tryz.zeroValue52
  i3 := by kernel_rfl }
def Tryz.laySK_ren : Go.Shelf.Ren := ⟨fun | 6 => 131 | 15 => 92 | 14 => 156 | 28 => 128 | 29 => 129 | 20 => 177 | 21 => 178 | 22 => 179 | 23 => 180 | 24 => 181 | 25 => 182 | 26 => 183 | 27 => 184 | 46 => 191 | 47 => 147 | 48 => 148 | 49 => 192 | 50 => 193 | 57 => 196 | n => n, fun | 22 => 131 | 24 => 84 | 25 => 133 | 3 => 3 | 39 => 126 | 0 => 0 | 53 => 173 | 55 => 136 | 4 => 4 | 46 => 166 | 45 => 165 | 50 => 170 | 5 => 5 | 9 => 9 | 66 => 185 | 70 => 189 | 76 => 205 | 77 => 206 | n => n, fun | n => n⟩
theorem Tryz.laySK : Go.Proofs.SlLaysF0.n6 Tryz.prog Tryz.laySK_ren := {
  mixed := by kernel_rfl
  f6 := ⟨Tryz.f131.name, by decide, Tryz.func131.trans (congrArg some (by kernel_rfl))⟩
  f14 := ⟨Tryz.f156.name, by decide, Tryz.func156.trans (congrArg some (by kernel_rfl))⟩
  f15 := Tryz.func92.trans (congrArg some (by kernel_rfl))
  f20 := ⟨Tryz.f177.name, by decide, Tryz.func177.trans (congrArg some (by kernel_rfl))⟩
  f21 := ⟨Tryz.f178.name, by decide, Tryz.func178.trans (congrArg some (by kernel_rfl))⟩
  f22 := ⟨Tryz.f179.name, by decide, Tryz.func179.trans (congrArg some (by kernel_rfl))⟩
  f23 := ⟨Tryz.f180.name, by decide, Tryz.func180.trans (congrArg some (by kernel_rfl))⟩
  f24 := ⟨Tryz.f181.name, by decide, Tryz.func181.trans (congrArg some (by kernel_rfl))⟩
  f25 := ⟨Tryz.f182.name, by decide, Tryz.func182.trans (congrArg some (by kernel_rfl))⟩
  f26 := ⟨Tryz.f183.name, by decide, Tryz.func183.trans (congrArg some (by kernel_rfl))⟩
  f27 := ⟨Tryz.f184.name, by decide, Tryz.func184.trans (congrArg some (by kernel_rfl))⟩
  f28 := Tryz.func128.trans (congrArg some (by kernel_rfl))
  f29 := Tryz.func129.trans (congrArg some (by kernel_rfl))
  f46 := ⟨Tryz.f191.name, by decide, Tryz.func191.trans (congrArg some (by kernel_rfl))⟩
  f47 := Tryz.func147.trans (congrArg some (by kernel_rfl))
  f48 := Tryz.func148.trans (congrArg some (by kernel_rfl))
  f49 := ⟨Tryz.f192.name, by decide, Tryz.func192.trans (congrArg some (by kernel_rfl))⟩
  f50 := ⟨Tryz.f193.name, by decide, Tryz.func193.trans (congrArg some (by kernel_rfl))⟩
  f57 := ⟨Tryz.f196.name, by decide, Tryz.func196.trans (congrArg some (by kernel_rfl))⟩
  t0 := Tryz.underlying0
  a0 := Tryz.isAgg0
  z0 := Tryz.sizeOf0
  v0 := Tryz.zeroValue0
  t3 := Tryz.underlying3
  a3 := Tryz.isAgg3
  z3 := Tryz.sizeOf3
  v3 := Tryz.zeroValue3
  t4 := Tryz.underlying4
  a4 := Tryz.isAgg4
  z4 := Tryz.sizeOf4
  v4 := Tryz.zeroValue4
  t5 := Tryz.underlying5
  a5 := Tryz.isAgg5
  z5 := Tryz.sizeOf5
  v5 := Tryz.zeroValue5
  t9 := Tryz.underlying9
  a9 := Tryz.isAgg9
  z9 := Tryz.sizeOf9
  v9 := Tryz.zeroValue9
  t22 := Tryz.underlying131
  a22 := Tryz.isAgg131
  z22 := Tryz.sizeOf131
  v22 := Tryz.zeroValue131
  t25 := Tryz.underlying133
  a25 := Tryz.isAgg133
  z25 := Tryz.sizeOf133
  v25 := Tryz.zeroValue133
  t39 := Tryz.underlying126
  a39 := Tryz.isAgg126
  z39 := Tryz.sizeOf126
  v39 := Tryz.zeroValue126
  t45 := Tryz.underlying165
  a45 := Tryz.isAgg165
  z45 := Tryz.sizeOf165
  v45 := Tryz.zeroValue165
  t46 := Tryz.underlying166
  a46 := Tryz.isAgg166
  z46 := Tryz.sizeOf166
  v46 := Tryz.zeroValue166
  t50 := Tryz.underlying170
  a50 := Tryz.isAgg170
  z50 := Tryz.sizeOf170
  v50 := Tryz.zeroValue170
  t53 := Tryz.underlying173
  a53 := Tryz.isAgg173
  z53 := Tryz.sizeOf173
  v53 := Tryz.zeroValue173
  t55 := Tryz.underlying136
  a55 := Tryz.isAgg136
  z55 := Tryz.sizeOf136
  v55 := Tryz.zeroValue136
  t66 := Tryz.underlying185
  a66 := Tryz.isAgg185
  z66 := Tryz.sizeOf185
  v66 := Tryz.zeroValue185
  t70 := Tryz.underlying189
  a70 := Tryz.isAgg189
  z70 := Tryz.sizeOf189
  v70 := Tryz.zeroValue189
  t76 := Tryz.underlying205
  a76 := Tryz.isAgg205
  z76 := Tryz.sizeOf205
  v76 := Tryz.zeroValue205
  t77 := Tryz.underlying206
  a77 := Tryz.isAgg206
  z77 := Tryz.sizeOf206
  v77 := Tryz.zeroValue206 }
end Go.Proofs
end
section
namespace Go.E
open Go
abbrev Env := List (Nat × Value)
def gt : Env → Nat → Option Value
  | [], _ => none
  | (k, v) :: L, t => bif Nat.beq k t then some v else gt L t
def ev (L : Env) : Operand → Option Value
  | .tmp t => gt L t
  | .const v => some v
  | .global g => some (.pointer (some ⟨g, 0, none⟩))
  | .func f => some (.func (.func f) #[] #[])
def evl (L : Env) : List Operand → Option (List Value)
  | [] => some []
  | x :: xs => match ev L x, evl L xs with
    | some v, some vs => some (v :: vs)
    | _, _ => none
/-- The size of a frame, and what it has deferred. -/
structure Sz where
  n : Nat
  d : List Deferred
structure Fr (n : Sz) (a : Act) (L : Env) : Prop where
  size : a.tmps.size = n.n
  defers : a.defers = n.d
  get : ∀ t v, gt L t = some v → a.tmps[t]? = some v
theorem gt_cons {k t : Nat} {v : Value} {L : Env} : gt ((k, v) :: L) t = if k = t then some v else gt L t := by
  show (bif Nat.beq k t then some v else gt L t) = _
  by_cases h : k = t
  · subst h; simp
  · have : Nat.beq k t = false := by
      cases hb : Nat.beq k t with
      | true => exact absurd (Nat.eq_of_beq_eq_true hb) h
      | false => rfl
    rw [this, if_neg h]; rfl
theorem Fr.eval {n : Sz} {a : Act} {L : Env} (h : Fr n a L) {x : Operand} {v : Value} (hx : ev L x = some v) : a.eval x = v := by
  cases x with
  | tmp t => simp only [ev] at hx; have := h.get t v hx; simp [Act.eval, Array.getD_eq_getD_getElem?, this]
  | const u => simp only [ev, Option.some.injEq] at hx; simpa [Act.eval] using hx
  | func f => simp only [ev, Option.some.injEq] at hx; simpa [Act.eval] using hx
  | _ => simp only [ev, Option.some.injEq] at hx; simpa [Act.eval] using hx
theorem Fr.put {n : Sz} {a : Act} {L : Env} (h : Fr n a L) {d : Nat} {v : Value} (hd : Nat.blt d n.n = true) : Fr n (a.put (some d) v) ((d, v) :: L) := by
  have hd' : d < n.n := by simpa [Nat.blt_eq] using hd
  refine ⟨by simp [Act.put, h.size], by simp [Act.put, h.defers], fun t u ht => ?_⟩
  rw [gt_cons] at ht
  by_cases e : d = t
  · subst e
    rw [if_pos rfl] at ht
    cases ht
    simp [Act.put, h.size, hd']
  · rw [if_neg e] at ht
    have := h.get t u ht
    simp only [Act.put]
    rw [Array.getElem?_setIfInBounds_ne e]
    exact this
def Sub (L' L : Env) : Prop := ∀ t v, gt L' t = some v → gt L t = some v
theorem Sub.refl (L : Env) : Sub L L := fun _ _ h => h
theorem Sub.nil (L : Env) : Sub [] L := fun _ _ h => by cases h
theorem Sub.cons {t : Nat} {v : Value} {L' L : Env} (hg : gt L t = some v) (h : Sub L' L) : Sub ((t, v) :: L') L := fun t' u hu => by
  rw [gt_cons] at hu
  by_cases e : t = t'
  · subst e; rw [if_pos rfl] at hu; cases hu; exact hg
  · rw [if_neg e] at hu; exact h t' u hu
theorem Sub.int {t : Nat} {k : IntKind} {x y : Int} {L' L : Env} (hg : gt L t = some (.int k x)) (he : x = y) (h : Sub L' L) : Sub ((t, .int k y) :: L') L := .cons (he ▸ hg) h
theorem Fr.sub {n : Sz} {a : Act} {L L' : Env} (h : Fr n a L) (hs : Sub L' L) : Fr n a L' := ⟨h.size, h.defers, fun t v ht => h.get t v (hs t v ht)⟩
/-- Code, from every frame that has these slots. -/
def W (P : Program) (n : Sz) (c : Code) (Q : Exit → Act → World → Prop) (L : Env) (w : World) : Prop := ∀ a, Fr n a L → c.wp P Q a w
/-- A list of operations. -/
def S (P : Program) (n : Sz) (ops : Array Oper) (Q : Exit → Act → World → Prop) (l : List Oper) (L : Env) (w : World) : Prop := ∀ a, Fr n a L → wpList P ops Q l a w
/-- A post at an exit. -/
def At (n : Sz) (Q : Exit → Act → World → Prop) (e : Exit) (L : Env) (w : World) : Prop := ∀ a, Fr n a L → Q e a w
def seqQ (P : Program) (y : Code) (Q : Exit → Act → World → Prop) : Exit → Act → World → Prop := Exit.then (y.wp P Q) Q
def cutQ {σ : Type} (n : Sz) (I : σ → Env) (R : σ → World → Prop) (Q : Exit → Act → World → Prop) : Exit → Act → World → Prop :=
  Exit.then (fun a w => ∃ s, Fr n a (I s) ∧ R s w) Q
def loopQ {σ : Type} (n : Sz) (I : σ → Env) (R : σ → World → Prop) (μ : σ → Nat) (x : σ) (Q : Exit → Act → World → Prop) : Exit → Act → World → Prop :=
  Exit.then (fun a w => ∃ s, Fr n a (I s) ∧ R s w ∧ μ s < μ x) Q
section
variable {P : Program} {n : Sz} {Q : Exit → Act → World → Prop} {L : Env} {w : World} {x y c : Code}
theorem W.sub {L' : Env} (h : W P n c Q L' w) (hs : Sub L' L) : W P n c Q L w := fun a fr => h a (fr.sub hs)
theorem S.sub {ops : Array Oper} {l : List Oper} {L' : Env} (h : S P n ops Q l L' w) (hs : Sub L' L) : S P n ops Q l L w := fun a fr => h a (fr.sub hs)
theorem W_seq (h : W P n x (seqQ P y Q) L w) : W P n (.seq x y) Q L w := fun a fr => wp_seq (h a fr)
theorem W_skip (h : At n Q .normal L w) : W P n .skip Q L w := fun a fr => wp_skip (h a fr)
theorem W_ret (h : At n Q .ret L w) : W P n .ret Q L w := fun a fr => wp_ret (h a fr)
theorem W_exit {id : Nat} (h : At n Q (.exit id) L w) : W P n (.exit id) Q L w := fun a fr => wp_exit (h a fr)
theorem W_block {id : Nat} (h : W P n c (Exit.inBlock id Q) L w) : W P n (.block id c) Q L w := fun a fr => wp_block (h a fr)
theorem W_region {id : Nat} {l : List Oper} (h : S P n l.toArray Q l L w) : W P n (.region id l.toArray false) Q L w := fun a fr => wp_region_lit (h a fr)
theorem W_seqr {id : Nat} {l : List Oper} (h : S P n l.toArray (seqQ P y Q) l L w) : W P n (.seq (.region id l.toArray false) y) Q L w := W_seq (W_region h)
theorem W_cond {t : Operand} {b : Bool} (hc : ev L t = some (.bool b)) (ht : b = true → W P n x Q L w) (hf : b = false → W P n y Q L w) : W P n (.cond t x y) Q L w :=
  fun a fr => wp_cond_split (fr.eval hc) (fun e => ht e a fr) (fun e => hf e a fr)
theorem W_if {t : Operand} {p : Prop} [Decidable p] (hc : ev L t = some (.bool (decide p))) (ht : p → W P n x Q L w) (hf : ¬ p → W P n y Q L w) : W P n (.cond t x y) Q L w :=
  W_cond hc (fun e => ht (of_decide_eq_true e)) (fun e => hf (of_decide_eq_false e))
theorem W_ifn {t : Operand} {p : Prop} [Decidable p] (hc : ev L t = some (.bool (!decide p))) (ht : ¬ p → W P n x Q L w) (hf : p → W P n y Q L w) : W P n (.cond t x y) Q L w :=
  W_cond hc (fun e => ht (by simpa using e)) (fun e => hf (by simpa using e))
theorem W_true {t : Operand} (hc : ev L t = some (.bool true)) (h : W P n x Q L w) : W P n (.cond t x y) Q L w := fun a fr => wp_cond_true (fr.eval hc) (h a fr)
theorem W_false {t : Operand} (hc : ev L t = some (.bool false)) (h : W P n y Q L w) : W P n (.cond t x y) Q L w := fun a fr => wp_cond_false (fr.eval hc) (h a fr)
theorem W_loop {σ : Type} (I : σ → Env) (R : σ → World → Prop) (μ : σ → Nat) (x0 : σ) (hs : Sub (I x0) L) (hR : R x0 w)
    (round : ∀ s w, R s w → W P n c (loopQ n I R μ s Q) (I s) w) : W P n (.loop c) Q L w := by
  intro a fr b k cs
  have key : ∀ m s a w, μ s = m → Fr n a (I s) → R s w →
      ∃ e a' w', Q e a' w' ∧ Arrives P (lone (b.at a (.code c :: .inLoop c :: k)) cs w) b k cs e a' w' := by
    intro m
    induction m using Nat.strongRecOn with
    | _ m ih =>
      intro s a w hm fr hR
      obtain ⟨e, a₁, w₁, hq, harr⟩ := round s w hR a fr b (.inLoop c :: k) cs
      cases e with
      | normal =>
        obtain ⟨s', fr', hR', hlt⟩ := hq
        obtain ⟨e₂, a₂, w₂, hq₂, harr₂⟩ := ih (μ s') (hm ▸ hlt) s' a₁ w₁ rfl fr' hR'
        exact ⟨e₂, a₂, w₂, hq₂, .of_steps (Steps.trans harr (.one step_inLoop)) harr₂⟩
      | exit id => exact ⟨_, a₁, w₁, hq, .pass (x := .inLoop c) rfl (fun _ _ => .inl (by simp)) harr⟩
      | goto l => exact ⟨_, a₁, w₁, hq, .pass (x := .inLoop c) rfl (fun _ _ => .inl (by simp)) harr⟩
      | ret => exact ⟨_, a₁, w₁, hq, .pass (x := .inLoop c) rfl (fun _ _ => .inl (by simp)) harr⟩
      | panic ch => exact ⟨_, a₁, w₁, hq, .pass (x := .inLoop c) rfl (fun _ _ => .inl (by simp)) harr⟩
      | outgrown => exact ⟨_, a₁, w₁, hq, .pass (x := .inLoop c) rfl (fun _ _ => .inl (by simp)) harr⟩
  obtain ⟨e, a', w', hq, harr⟩ := key _ x0 a w rfl (fr.sub hs) hR
  exact ⟨e, a', w', hq, .of_steps (.one step_loop) harr⟩
/-- The ways through the first part meet again. -/
theorem W_cut {σ : Type} (I : σ → Env) (R : σ → World → Prop) (h1 : W P n x (cutQ n I R Q) L w) (h2 : ∀ s w, R s w → W P n y Q (I s) w) : W P n (.seq x y) Q L w :=
  fun a fr => wp_seq (wp_mono (h1 a fr) fun e a' w' q => by
    cases e with
    | normal => obtain ⟨s, fr', hR⟩ := q; exact h2 s w' hR a' fr'
    | exit id => exact q
    | goto l => exact q
    | ret => exact q
    | panic ch => exact q
    | outgrown => exact q)
theorem At_seq (h : W P n y Q L w) : At n (seqQ P y Q) .normal L w := h
theorem At_cut {σ : Type} {I : σ → Env} {R : σ → World → Prop} (s : σ) (hs : Sub (I s) L) (hR : R s w) : At n (cutQ n I R Q) .normal L w := fun _ fr => ⟨s, fr.sub hs, hR⟩
theorem At_round {σ : Type} {I : σ → Env} {R : σ → World → Prop} {μ : σ → Nat} {s0 : σ} (s : σ) (hs : Sub (I s) L) (hR : R s w) (hm : μ s < μ s0) : At n (loopQ n I R μ s0 Q) .normal L w :=
  fun _ fr => ⟨s, fr.sub hs, hR, hm⟩
theorem At_block {id : Nat} (h : At n Q .normal L w) : At n (Exit.inBlock id Q) .normal L w := h
theorem At_exit {id : Nat} (h : At n Q .normal L w) : At n (Exit.inBlock id Q) (.exit id) L w := fun a fr => by simpa [Exit.inBlock] using h a fr
theorem At_exit_ne {id id' : Nat} (hne : Nat.beq id' id = false) (h : At n Q (.exit id') L w) : At n (Exit.inBlock id Q) (.exit id') L w := fun a fr => by
  have : id' ≠ id := fun e => by subst e; simp at hne
  simpa [Exit.inBlock, this] using h a fr
theorem At_seq_exit {id : Nat} (h : At n Q (.exit id) L w) : At n (seqQ P y Q) (.exit id) L w := h
theorem At_loop_exit {σ : Type} {I : σ → Env} {R : σ → World → Prop} {μ : σ → Nat} {s0 : σ} {id : Nat} (h : At n Q (.exit id) L w) : At n (loopQ n I R μ s0 Q) (.exit id) L w := h
theorem At_seq_ret (h : At n Q .ret L w) : At n (seqQ P y Q) .ret L w := h
theorem At_cut_ret {σ : Type} {I : σ → Env} {R : σ → World → Prop} (h : At n Q .ret L w) : At n (cutQ n I R Q) .ret L w := h
theorem At_loop_ret {σ : Type} {I : σ → Env} {R : σ → World → Prop} {μ : σ → Nat} {s0 : σ} (h : At n Q .ret L w) : At n (loopQ n I R μ s0 Q) .ret L w := h
theorem At_block_ret {id : Nat} (h : At n Q .ret L w) : At n (Exit.inBlock id Q) .ret L w := h
end
/-! ### Contracts -/
def Callable (P : Program) (f : FuncId) : Prop := ∃ fn c, P.funcs[f]? = some fn ∧ (fn.name == "runtime.NumGoroutine") = false ∧ fn.body = some c
def Rq (R : Value → World → Prop) : Ending → World → Prop := fun e w' => ∃ v, e = .returned v ∧ R v w'
/-- The call returns a value as told. -/
def Ok (P : Program) (f : FuncId) (args : List Value) (w : World) (R : Value → World → Prop) : Prop :=
  Callable P f ∧ Calls P f args.toArray w (Rq R)
theorem Ok.mono {P : Program} {f : FuncId} {args : List Value} {w : World} {R R' : Value → World → Prop} (h : Ok P f args w R) (hr : ∀ v w', R v w' → R' v w') : Ok P f args w R' :=
  ⟨h.1, h.2.mono fun _ w' ⟨v, he, hv⟩ => ⟨v, he, hr v w' hv⟩⟩
def argEnv : Nat → List Value → Env
  | _, [] => []
  | k, v :: l => (k, v) :: argEnv (k + 1) l
theorem gt_argEnv : ∀ (l : List Value) (k t : Nat) (v : Value), gt (argEnv k l) t = some v → k ≤ t ∧ l[t - k]? = some v
  | [], _, _, _, h => by cases h
  | u :: l, k, t, v, h => by
    simp only [argEnv, gt_cons] at h
    by_cases e : k = t
    · subst e; rw [if_pos rfl] at h; cases h; simp
    · rw [if_neg e] at h
      have ⟨h1, h2⟩ := gt_argEnv l (k + 1) t v h
      refine ⟨by omega, ?_⟩
      have : t - k = (t - (k + 1)) + 1 := by omega
      rw [this, List.getElem?_cons_succ]
      exact h2
def bodyQ (P : Program) (fn : Func) (R : Value → World → Prop) : Exit → Act → World → Prop := bodyPost P fn (Rq R)
theorem Ok_enter {P : Program} {f : FuncId} {fn : Func} {c : Code} {args : List Value} {w : World} {R : Value → World → Prop} {n : Nat} (L : Env)
    (hf : P.funcs[f]? = some fn) (hname : (fn.name == "runtime.NumGoroutine") = false) (hb : fn.body = some c) (hn : fn.ntmps = n) (hk : Nat.ble args.length n = true) (hL : argEnv 0 args = L)
    (h : W P ⟨n, []⟩ c (bodyQ P fn R) L w) : Ok P f args w R := by
  refine ⟨⟨fn, c, hf, hname, hb⟩, calls_of_wp hf hb ?_⟩
  have hk' : args.length ≤ n := by simpa [Nat.ble_eq] using hk
  refine h _ ⟨?_, rfl, ?_⟩
  · simp [hn]; omega
  · intro t v ht
    subst hL
    have ⟨_, h2⟩ := gt_argEnv args 0 t v ht
    simp only [Nat.sub_zero] at h2
    have hlt : t < args.length := (List.getElem?_eq_some_iff.1 h2).1
    simp only [List.size_toArray]
    rw [Array.getElem?_append_left (by simpa using hlt)]
    simpa using h2
def resultOf : List ResultVar → Env → Option Value
  | [.tmp t], L => gt L t
  | [.tmp t, .tmp u], L => match gt L t, gt L u with | some a, some b => some (.tuple #[a, b]) | _, _ => none
  | [.tmp t, .tmp u, .tmp s], L => match gt L t, gt L u, gt L s with | some a, some b, some c => some (.tuple #[a, b, c]) | _, _, _ => none
  | _, _ => none
theorem results_of {P : Program} {fn : Func} {n : Sz} {a : Act} {L : Env} {w : World} {l : List ResultVar} {v : Value} (fr : Fr n a L) (hl : fn.results = l.toArray) (h : resultOf l L = some v) :
    (results fn a.tmps).run P w = .ok v w := by
  unfold resultOf at h
  split at h
  · rename_i t; rw [results_tmp hl]; have := fr.get t v h; simp [Array.getD_eq_getD_getElem?, this]
  · rename_i t u
    split at h
    · rename_i x y h1 h2; cases h
      rw [results_tmp2 hl]; have e1 := fr.get t x h1; have e2 := fr.get u y h2; simp [Array.getD_eq_getD_getElem?, e1, e2]
    · cases h
  · rename_i t u s
    split at h
    · rename_i x y z h1 h2 h3; cases h
      rw [results_tmp3 hl]; have e1 := fr.get t x h1; have e2 := fr.get u y h2; have e3 := fr.get s z h3; simp [Array.getD_eq_getD_getElem?, e1, e2, e3]
    · cases h
  · cases h
theorem At_body {P : Program} {fn : Func} {R : Value → World → Prop} {n : Nat} {L : Env} {w : World} {l : List ResultVar} {v : Value} (hl : fn.results = l.toArray) (h : resultOf l L = some v) (hR : R v w) : At ⟨n, []⟩ (bodyQ P fn R) .ret L w :=
  fun _ fr => ⟨fr.defers, v, results_of fr hl h, v, rfl, hR⟩
/-! ### Operations -/
section
variable {P : Program} {n : Sz} {ops : Array Oper} {Q : Exit → Act → World → Prop} {L : Env} {w : World} {rest : List Oper}
  {d : Nat} {ty : TypeId} {pos : String} {af : Array Edge}
def Rho (L : Env) (ρ : Operand → Value) : Prop := ∀ x u, ev L x = some u → ρ x = u
theorem Fr.rho {a : Act} (fr : Fr n a L) : Rho L a.eval := fun _ _ h => fr.eval h
theorem Rho.map {ρ : Operand → Value} (h : Rho L ρ) : ∀ (l : List Operand) (vs : List Value), evl L l = some vs → l.map ρ = vs
  | [], vs, e => by simp only [evl, Option.some.injEq] at e; simpa using e
  | x :: l, vs, e => by
    unfold evl at e
    split at e
    · rename_i v us h1 h2; cases e; simp [h x v h1, Rho.map h l us h2]
    · cases e
theorem S_nil (h : At n Q .normal L w) : S P n ops Q [] L w := fun a fr => h a fr
theorem S_seqnil {y : Code} (h : W P n y Q L w) : S P n ops (seqQ P y Q) [] L w := fun a fr => h a fr
theorem S_op {o : Oper} (hg : o.guard = none) (h : ∀ a, Fr n a L → o.wp P a w (wpList P ops Q rest) Q) : S P n ops Q (o :: rest) L w :=
  fun a fr => by
    unfold wpList
    rw [if_pos (by simp [Region.wanted, hg])]
    exact .inl (h a fr)
theorem S_value {o : Oper} {v : Value} {w' : World} (hg : o.guard = none) (hd : o.dst = some d) (hn : Nat.blt d n.n = true)
    (hrun : ∀ ρ, Rho L ρ → (execOp ρ o).run P w = .ok (.value v) w') (h : S P n ops Q rest ((d, v) :: L) w') : S P n ops Q (o :: rest) L w :=
  S_op hg fun a fr => by
    unfold Oper.wp
    rw [hrun _ fr.rho]
    show wpList P ops Q rest (a.put o.dst v) w'
    rw [hd]
    exact h _ (fr.put hn)
theorem S_value0 {o : Oper} {v : Value} {w' : World} (hg : o.guard = none) (hd : o.dst = none)
    (hrun : ∀ ρ, Rho L ρ → (execOp ρ o).run P w = .ok (.value v) w') (h : S P n ops Q rest L w') : S P n ops Q (o :: rest) L w :=
  S_op hg fun a fr => by
    unfold Oper.wp
    rw [hrun _ fr.rho]
    show wpList P ops Q rest (a.put o.dst v) w'
    rw [hd]
    exact h _ fr
theorem S_effect {o : Oper} {w' : World} (hg : o.guard = none) (hd : o.dst = none)
    (hrun : ∀ ρ, Rho L ρ → (execOp ρ o).run P w = .ok .skip w') (h : S P n ops Q rest L w') : S P n ops Q (o :: rest) L w :=
  S_op hg fun a fr => by
    unfold Oper.wp
    rw [hrun _ fr.rho]
    show wpList P ops Q rest (a.put o.dst undef) w'
    rw [hd]
    exact h _ fr
/-- An operation under a guard that says yes. -/
theorem S_guarded {dst : Option Tmp} {op : Op} {j : Nat} {want b : Bool} {t : Nat} (hj : ((ops[j]?).bind (·.dst)) = some t) (hb : gt L t = some (.bool b)) (hw : b = want)
    (h : S P n ops Q (⟨dst, op, ty, pos, af, none⟩ :: rest) L w) : S P n ops Q (⟨dst, op, ty, pos, af, some (j, want)⟩ :: rest) L w := fun a fr => by
  have h1 := h a fr
  simp only [wpList] at h1 ⊢
  have hy : yielded ops a.tmps j = some b := by simp [yielded, hj, fr.get t _ hb]
  have hwant : Region.wanted ⟨dst, op, ty, pos, af, some (j, want)⟩ (yielded ops a.tmps) = true := by simp [Region.wanted, hy, hw]
  rw [if_pos hwant]
  have h0 : Region.wanted ⟨dst, op, ty, pos, af, none⟩ (yielded ops a.tmps) = true := by simp [Region.wanted]
  rw [if_pos h0] at h1
  exact h1
/-- An operation under a guard that says no. -/
theorem S_unwanted {op : Op} {j : Nat} {want b : Bool} {t : Nat} (hj : ((ops[j]?).bind (·.dst)) = some t) (hb : gt L t = some (.bool b)) (hw : b = !want) (hn : Nat.blt d n.n = true)
    (h : S P n ops Q rest ((d, undef) :: L) w) : S P n ops Q (⟨some d, op, ty, pos, af, some (j, want)⟩ :: rest) L w := fun a fr => by
  simp only [wpList]
  have hy : yielded ops a.tmps j = some b := by simp [yielded, hj, fr.get t _ hb]
  have hwant : Region.wanted ⟨some d, op, ty, pos, af, some (j, want)⟩ (yielded ops a.tmps) = false := by simp [Region.wanted, hy, hw]
  rw [hwant]
  exact h _ (fr.put hn)
/-- The guard itself was passed over. -/
theorem S_unwanted2 {op : Op} {j : Nat} {want : Bool} {t : Nat} (hj : ((ops[j]?).bind (·.dst)) = some t) (hb : gt L t = some undef) (hn : Nat.blt d n.n = true)
    (h : S P n ops Q rest ((d, undef) :: L) w) : S P n ops Q (⟨some d, op, ty, pos, af, some (j, want)⟩ :: rest) L w := fun a fr => by
  simp only [wpList]
  have hy : yielded ops a.tmps j = none := by simp [yielded, hj, fr.get t _ hb, undef]
  have hwant : Region.wanted ⟨some d, op, ty, pos, af, some (j, want)⟩ (yielded ops a.tmps) = false := by simp [Region.wanted, hy]
  rw [hwant]
  exact h _ (fr.put hn)
end
end Go.E
namespace Go.E
open Go
def nth : List Value → Nat → Option Value
  | [], _ => none
  | v :: _, 0 => some v
  | _ :: l, i + 1 => nth l i
theorem nth_eq : ∀ (l : List Value) (i : Nat), nth l i = l[i]?
  | [], _ => rfl
  | _ :: _, 0 => rfl
  | _ :: l, i + 1 => by simpa [nth] using nth_eq l i
def cmpI : BinOp → Int → Int → Option Bool
  | .eql, a, b => some (decide (a = b))
  | .neq, a, b => some (!decide (a = b))
  | .lss, a, b => some (decide (a < b))
  | .leq, a, b => some (decide (a ≤ b))
  | .gtr, a, b => some (decide (b < a))
  | .geq, a, b => some (decide (b ≤ a))
  | _, _, _ => none
def sameK : IntKind → IntKind → Bool
  | .i8, .i8 | .i16, .i16 | .i32, .i32 | .i64, .i64 | .u8, .u8 | .u16, .u16 | .u32, .u32 | .u64, .u64 => true
  | _, _ => false
theorem sameK_eq : ∀ {a b : IntKind}, sameK a b = true → a = b
  | .i8, .i8, _ => rfl | .i16, .i16, _ => rfl | .i32, .i32, _ => rfl | .i64, .i64, _ => rfl
  | .u8, .u8, _ => rfl | .u16, .u16, _ => rfl | .u32, .u32, _ => rfl | .u64, .u64, _ => rfl
/-- What an operation yields that only computes. -/
def pu (L : Env) : Op → Option Value
  | .move x => ev L x
  | .assign x => ev L x
  | .extract x i => match ev L x with
    | some (.tuple vs) => nth vs.toList i
    | _ => none
  | .binOp op _ x y _ => match ev L x, ev L y with
    | some (.int k a), some (.int k' b) => bif sameK k k' then (match cmpI op a b with | some r => some (.bool r) | none => none) else none
    | _, _ => none
  | .unOp .not _ x => match ev L x with
    | some (.bool b) => some (.bool (!b))
    | _ => none
  | .makeFunc fn first captured => match evl L first.toList, evl L captured.toList with
    | some a, some b => some (.func fn a.toArray b.toArray)
    | _, _ => none
  | .pick c a b => match ev L c with
    | some (.bool true) => ev L a
    | some (.bool false) => ev L b
    | _ => none
  | _ => none
section
variable {P : Program} {n : Sz} {ops : Array Oper} {Q : Exit → Act → World → Prop} {L : Env} {w : World} {rest : List Oper}
  {d : Nat} {ty : TypeId} {pos : String} {af : Array Edge}
theorem run_intCmp {op : BinOp} {t : TypeId} {x y : Operand} {k : IntKind} {a b : Int} {r : Bool} (h : cmpI op a b = some r) :
    (do eqGuard op t x y (.int k a) (.int k b); binOp op t (.int k a) (.int k b)).run P w = .ok (.bool r) w := by
  cases op <;> simp only [cmpI, Option.some.injEq, reduceCtorEq] at h <;> subst h <;>
    simp [eqGuard, binOp, Op.intCmp, GT.gt, GE.ge, bne, BEq.beq]
theorem pu_run {op : Op} {v : Value} {dst : Option Tmp} (h : pu L op = some v) (ρ : Operand → Value) (hρ : Rho L ρ) :
    (execOp ρ ⟨dst, op, ty, pos, af, none⟩).run P w = .ok (.value v) w := by
  unfold pu at h
  split at h
  · rename_i x; simp [execOp, hρ x v h]
  · rename_i x; simp [execOp, hρ x v h]
  · rename_i x i
    split at h
    · rename_i vs hx
      rw [nth_eq] at h
      have h' : vs[i]? = some v := by simpa using h
      simp [execOp, hρ x _ hx, Instr.extract, h']
    · cases h
  · rename_i op t x y t'
    split at h
    · rename_i k a k' b hx hy
      cases hk : sameK k k' with
      | false => rw [hk] at h; cases h
      | true =>
        rw [hk] at h
        obtain rfl := sameK_eq hk
        simp only [cond_true] at h
        split at h
        · rename_i r hr
          cases h
          have := run_intCmp (P := P) (w := w) (t := t) (x := x) (y := y) (k := k) hr
          simp only [execOp, hρ x _ hx, hρ y _ hy]
          simp only [Sem.run_bind] at this ⊢
          rw [this]
          rfl
        · cases h
    · cases h
  · rename_i t x
    split at h
    · rename_i b hx; cases h; simp [execOp, hρ x _ hx, Op.unary]
    · cases h
  · rename_i fn first captured
    split at h
    · rename_i a b h1 h2
      cases h
      have e1 := hρ.map _ _ h1
      have e2 := hρ.map _ _ h2
      have f1 : first.map ρ = a.toArray := by apply Array.ext'; simpa using e1
      have f2 : captured.map ρ = b.toArray := by apply Array.ext'; simpa using e2
      simp [execOp, Instr.makeFunc, f1, f2]
    · cases h
  · rename_i c a b
    split at h
    · rename_i hc; simp [execOp, hρ c _ hc, hρ a _ h, asBool]
    · rename_i hc; simp [execOp, hρ c _ hc, hρ b _ h, asBool]
    · cases h
  · cases h
def puStep (n : Sz) (o : Oper) (L : Env) : Option Env :=
  match o with
  | ⟨some d, op, _, _, _, none⟩ => match pu L op with
    | some v => bif Nat.blt d n.n then some ((d, v) :: L) else none
    | none => none
  | _ => none
def puK (n : Sz) : Nat → List Oper → Env → Option (List Oper × Env)
  | 0, l, L => some (l, L)
  | k + 1, o :: l, L => match puStep n o L with
    | some L' => puK n k l L'
    | none => none
  | _ + 1, [], _ => none
theorem S_puStep {o : Oper} {L' : Env} (h : puStep n o L = some L') (hS : S P n ops Q rest L' w) : S P n ops Q (o :: rest) L w := by
  unfold puStep at h
  split at h
  · rename_i d op t ps aft
    split at h
    · rename_i v hv
      cases hd : Nat.blt d n.n with
      | false => rw [hd] at h; cases h
      | true => rw [hd] at h; cases h; exact S_value rfl rfl hd (pu_run hv) hS
    · cases h
  · cases h
/-- Some operations at once that only compute. -/
theorem S_pu : ∀ (k : Nat) {l l' : List Oper} {L L' : Env} (_ : puK n k l L = some (l', L')) (_ : S P n ops Q l' L' w), S P n ops Q l L w
  | 0, l, l', L, L', h, hS => by simp only [puK, Option.some.injEq, Prod.mk.injEq] at h; obtain ⟨rfl, rfl⟩ := h; exact hS
  | k + 1, [], l', L, L', h, hS => by simp only [puK, reduceCtorEq] at h
  | k + 1, o :: l, l', L, L', h, hS => by
    simp only [puK] at h
    split at h
    · rename_i L1 h1; exact S_puStep h1 (S_pu k h hS)
    · cases h
theorem S_pz (k : Nat) {l : List Oper} {L L' : Env} {y : Code} (h : puK n k l L = some ([], L')) (hW : W P n y Q L' w) : S P n ops (seqQ P y Q) l L w := S_pu k h (S_seqnil hW)
theorem W_p {id : Nat} {l l' : List Oper} {L L' : Env} {y : Code} (k : Nat) (h : puK n k l L = some (l', L')) (hS : S P n l.toArray (seqQ P y Q) l' L' w) : W P n (.seq (.region id l.toArray false) y) Q L w := W_seqr (S_pu k h hS)
theorem W_pz {id : Nat} {l : List Oper} {L L' : Env} {y : Code} (k : Nat) (h : puK n k l L = some ([], L')) (hW : W P n y Q L' w) : W P n (.seq (.region id l.toArray false) y) Q L w := W_seqr (S_pz k h hW)
/-! ### Integers -/
theorem wrap64 {x : Int} (h1 : -9223372036854775808 ≤ x) (h2 : x ≤ 9223372036854775807) : IntKind.i64.wrap x = x := by
  simp only [IntKind.wrap, IntKind.bits, IntKind.signed, Bool.true_and, decide_eq_true_eq, ge_iff_le]
  split <;> omega
theorem wrapU8 {x : Int} (h1 : 0 ≤ x) (h2 : x < 256) : IntKind.u8.wrap x = x := by
  simp only [IntKind.wrap, IntKind.bits, IntKind.signed, Bool.false_and, Bool.false_eq_true, if_false]
  omega
theorem wrapU8' {x : Int} : IntKind.u8.wrap x = x % 256 := by
  simp only [IntKind.wrap, IntKind.bits, IntKind.signed, Bool.false_and, Bool.false_eq_true, if_false]
  omega
def arI : BinOp → Int → Int → Option Int
  | .add, a, b => some (a + b)
  | .sub, a, b => some (a - b)
  | .mul, a, b => some (a * b)
  | _, _, _ => none
/-- A call of a function of the program. -/
theorem run_call {f : FuncId} {args : List Operand} {vs : List Value} {at_ : Array TypeId} {dst : Option Tmp} (hc : Callable P f) (ha : evl L args = some vs) (ρ : Operand → Value) (hρ : Rho L ρ) :
    (execOp ρ ⟨dst, .call ⟨.value (.func f), args.toArray, at_⟩, ty, pos, af, none⟩).run P w = .ok (.enter f vs.toArray) w := by
  obtain ⟨fn, c, h1, h2, h3⟩ := hc
  have e0 : ρ (.func f) = .func (.func f) #[] #[] := hρ _ _ rfl
  have e1 := hρ.map _ _ ha
  have h2' : ¬ fn.name = "runtime.NumGoroutine" := by simpa using h2
  simp [execOp, resolve, e0, Deferred.ofValue, e1, invoke, callFunc, h1, h2', h3]
theorem S_call {f : FuncId} {args : List Operand} {vs : List Value} {at_ : Array TypeId} {R : Value → World → Prop} (ha : evl L args = some vs) (hn : Nat.blt d n.n = true) (hok : Ok P f vs w R)
    (h : ∀ v w', R v w' → S P n ops Q rest ((d, v) :: L) w') : S P n ops Q (⟨some d, .call ⟨.value (.func f), args.toArray, at_⟩, ty, pos, af, none⟩ :: rest) L w :=
  S_op rfl fun a fr => by
    unfold Oper.wp
    rw [run_call hok.1 ha _ fr.rho]
    refine hok.2.mono fun e w' ⟨v, he, hv⟩ => ?_
    subst he
    exact h v w' hv _ (fr.put hn)
/-! ### '&&' and '||' of what only computes -/
/-- The operations under one guard, as if the guard said yes; their slots must be new. -/
def puG (n : Sz) (j : Nat) (want : Bool) (L0 : Env) : Nat → List Oper → Env → Option (List Oper × Env)
  | 0, l, L => some (l, L)
  | k + 1, ⟨some d, op, ty, pos, af, some (j', want')⟩ :: l, L =>
    bif Nat.beq j j' && (want == want') && (gt L0 d).isNone then
      match puStep n ⟨some d, op, ty, pos, af, none⟩ L with
      | some L' => puG n j want L0 k l L'
      | none => none
    else none
  | _ + 1, _, _ => none
theorem S_group_yes {j : Nat} {want : Bool} {t : Nat} {L0 : Env} (hj : ((ops[j]?).bind (·.dst)) = some t) : ∀ (k : Nat) {l l' : List Oper} {L L' : Env}, gt L t = some (.bool want) → gt L0 t = some (.bool want) → puG n j want L0 k l L = some (l', L') →
    S P n ops Q l' L' w → S P n ops Q l L w := by
  intro k
  induction k with
  | zero => intro l l' L L' _ _ h hS; simp only [puG, Option.some.injEq, Prod.mk.injEq] at h; obtain ⟨rfl, rfl⟩ := h; exact hS
  | succ k ih =>
    intro l l' L L' hb h0 h hS
    match l, h with
    | [], h => cases h
    | ⟨none, _, _, _, _, _⟩ :: l, h => cases h
    | ⟨some d, op, ty, pos, af, none⟩ :: l, h => cases h
    | ⟨some d, op, ty, pos, af, some (j', want')⟩ :: l, h =>
      simp only [puG] at h
      cases hc : (Nat.beq j j' && (want == want') && (gt L0 d).isNone) with
      | false => rw [hc] at h; cases h
      | true =>
        rw [hc] at h
        simp only [Bool.and_eq_true, Option.isNone_iff_eq_none] at hc
        obtain ⟨⟨c1, c2⟩, c3⟩ := hc
        obtain rfl := Nat.eq_of_beq_eq_true c1
        obtain rfl : want = want' := by simpa using c2
        simp only [cond_true] at h
        split at h
        · rename_i L1 h1
          refine S_guarded hj hb rfl (S_puStep h1 (ih ?_ h0 h hS))
          simp only [puStep] at h1
          split at h1
          · rename_i v hv
            cases hd : Nat.blt d n.n with
            | false => rw [hd] at h1; cases h1
            | true =>
              rw [hd] at h1; cases h1
              rw [gt_cons]
              by_cases e : d = t
              · subst e; rw [h0] at c3; cases c3
              · rw [if_neg e]; exact hb
          · cases h1
        · cases h
theorem S_group_no {j : Nat} {want : Bool} {t : Nat} {L0 : Env} (hj : ((ops[j]?).bind (·.dst)) = some t) : ∀ (k : Nat) {l l' : List Oper} {L L' M : Env}, Sub L0 M → gt L0 t = some (.bool (!want)) → puG n j want L0 k l L = some (l', L') →
    (∀ M', Sub L0 M' → S P n ops Q l' M' w) → S P n ops Q l M w := by
  intro k
  induction k with
  | zero => intro l l' L L' M hM _ h hS; simp only [puG, Option.some.injEq, Prod.mk.injEq] at h; obtain ⟨rfl, rfl⟩ := h; exact hS M hM
  | succ k ih =>
    intro l l' L L' M hM h0 h hS
    match l, h with
    | [], h => cases h
    | ⟨none, _, _, _, _, _⟩ :: l, h => cases h
    | ⟨some d, op, ty, pos, af, none⟩ :: l, h => cases h
    | ⟨some d, op, ty, pos, af, some (j', want')⟩ :: l, h =>
      simp only [puG] at h
      cases hc : (Nat.beq j j' && (want == want') && (gt L0 d).isNone) with
      | false => rw [hc] at h; cases h
      | true =>
        rw [hc] at h
        simp only [Bool.and_eq_true, Option.isNone_iff_eq_none] at hc
        obtain ⟨⟨c1, c2⟩, c3⟩ := hc
        obtain rfl := Nat.eq_of_beq_eq_true c1
        obtain rfl : want = want' := by simpa using c2
        simp only [cond_true] at h
        split at h
        · rename_i L1 h1
          have hd : Nat.blt d n.n = true := by
            simp only [puStep] at h1
            split at h1
            · cases hd : Nat.blt d n.n with
              | false => rw [hd] at h1; cases h1
              | true => rfl
            · cases h1
          refine S_unwanted hj (hM t _ h0) rfl hd (ih (fun t' v hv => ?_) h0 h hS)
          rw [gt_cons]
          by_cases e : d = t'
          · subst e; rw [hv] at c3; cases c3
          · rw [if_neg e]; exact hM t' v hv
        · cases h
theorem Sub.both {t : Nat} {v : Value} {L L' : Env} (h : Sub L L') : Sub ((t, v) :: L) ((t, v) :: L') := fun t' u hu => by
  rw [gt_cons] at hu ⊢
  by_cases e : t = t'
  · rw [if_pos e] at hu ⊢; exact hu
  · rw [if_neg e] at hu ⊢; exact h t' u hu
theorem puG_sub {j : Nat} {want : Bool} {L0 : Env} : ∀ (k : Nat) {l l' : List Oper} {L L' : Env}, Sub L0 L → puG n j want L0 k l L = some (l', L') → Sub L0 L' := by
  intro k
  induction k with
  | zero => intro l l' L L' hM h; simp only [puG, Option.some.injEq, Prod.mk.injEq] at h; obtain ⟨rfl, rfl⟩ := h; exact hM
  | succ k ih =>
    intro l l' L L' hM h
    match l, h with
    | [], h => cases h
    | ⟨none, _, _, _, _, _⟩ :: l, h => cases h
    | ⟨some d, op, ty, pos, af, none⟩ :: l, h => cases h
    | ⟨some d, op, ty, pos, af, some (j', want')⟩ :: l, h =>
      simp only [puG] at h
      cases hc : (Nat.beq j j' && (want == want') && (gt L0 d).isNone) with
      | false => rw [hc] at h; cases h
      | true =>
        rw [hc] at h
        simp only [Bool.and_eq_true, Option.isNone_iff_eq_none] at hc
        obtain ⟨⟨c1, c2⟩, c3⟩ := hc
        simp only [cond_true] at h
        split at h
        · rename_i L1 h1
          refine ih ?_ h
          simp only [puStep] at h1
          split at h1
          · rename_i v hv
            cases hd : Nat.blt d n.n with
            | false => rw [hd] at h1; cases h1
            | true =>
              rw [hd] at h1; cases h1
              intro t' u hu
              rw [gt_cons]
              by_cases e : d = t'
              · subst e; rw [hu] at c3; cases c3
              · rw [if_neg e]; exact hM t' u hu
          · cases h1
        · cases h
theorem Sub.ev {L M : Env} (hM : Sub L M) {x : Operand} {v : Value} (hx : ev L x = some v) : ev M x = some v := by
  cases x with
  | tmp t => exact hM t v hx
  | const _ => exact hx
  | func _ => exact hx
  | _ => exact hx
/-- The group under a guard, then the pick of two bools: the first under the guard. -/
theorem S_pickT (k j : Nat) {t : Nat} {b r s : Bool} {c x y : Operand} {l l' : List Oper} {L1 : Env} (hj : ((ops[j]?).bind (·.dst)) = some t) (hb : gt L t = some (.bool b))
    (hg : puG n j true L k l L = some (⟨some d, .pick c x y, ty, pos, af, none⟩ :: l', L1)) (hc : ev L c = some (.bool b)) (hx : ev L1 x = some (.bool r)) (hy : ev L y = some (.bool s)) (hn : Nat.blt d n.n = true)
    (h : S P n ops Q l' ((d, .bool (bif b then r else s)) :: L) w) : S P n ops Q l L w := by
  have hsub : Sub L L1 := puG_sub k (Sub.refl L) hg
  cases b with
  | true =>
    refine S_group_yes (L0 := L) hj k hb hb hg ?_
    refine S_value rfl rfl hn (v := .bool r) (w' := w) (fun ρ hρ => by simp [execOp, hρ c _ (Sub.ev hsub hc), hρ x _ hx, asBool]) ?_
    exact S.sub h hsub.both
  | false =>
    refine S_group_no (L0 := L) (want := true) hj k (Sub.refl L) hb hg fun M hM => ?_
    refine S_value rfl rfl hn (v := .bool s) (w' := w) (fun ρ hρ => by simp [execOp, hρ c _ (Sub.ev hM hc), hρ y _ (Sub.ev hM hy), asBool]) ?_
    exact S.sub h hM.both
theorem S_pickF (k j : Nat) {t : Nat} {b r s : Bool} {c x y : Operand} {l l' : List Oper} {L1 : Env} (hj : ((ops[j]?).bind (·.dst)) = some t) (hb : gt L t = some (.bool b))
    (hg : puG n j false L k l L = some (⟨some d, .pick c x y, ty, pos, af, none⟩ :: l', L1)) (hc : ev L c = some (.bool b)) (hx : ev L x = some (.bool r)) (hy : ev L1 y = some (.bool s)) (hn : Nat.blt d n.n = true)
    (h : S P n ops Q l' ((d, .bool (bif b then r else s)) :: L) w) : S P n ops Q l L w := by
  have hsub : Sub L L1 := puG_sub k (Sub.refl L) hg
  cases b with
  | false =>
    refine S_group_yes (L0 := L) hj k hb hb hg ?_
    refine S_value rfl rfl hn (v := .bool s) (w' := w) (fun ρ hρ => by simp [execOp, hρ c _ (Sub.ev hsub hc), hρ y _ hy, asBool]) ?_
    exact S.sub h hsub.both
  | true =>
    refine S_group_no (L0 := L) (want := false) hj k (Sub.refl L) hb hg fun M hM => ?_
    refine S_value rfl rfl hn (v := .bool r) (w' := w) (fun ρ hρ => by simp [execOp, hρ c _ (Sub.ev hM hc), hρ x _ (Sub.ev hM hx), asBool]) ?_
    exact S.sub h hM.both
theorem dec_and {p q : Prop} [Decidable p] [Decidable q] : (bif decide p then decide q else false) = decide (p ∧ q) := by by_cases hp : p <;> simp [hp]
theorem dec_or {p q : Prop} [Decidable p] [Decidable q] : (bif decide p then true else decide q) = decide (p ∨ q) := by by_cases hp : p <;> simp [hp]
/-- 'a && b', both decided propositions. -/
theorem S_and (k j : Nat) {t : Nat} {p q : Prop} [Decidable p] [Decidable q] {c x : Operand} {l l' : List Oper} {L1 : Env} (hj : ((ops[j]?).bind (·.dst)) = some t) (hb : gt L t = some (.bool (decide p)))
    (hg : puG n j true L k l L = some (⟨some d, .pick c x (.const (.bool false)), ty, pos, af, none⟩ :: l', L1)) (hc : ev L c = some (.bool (decide p))) (hx : ev L1 x = some (.bool (decide q))) (hn : Nat.blt d n.n = true)
    (h : S P n ops Q l' ((d, .bool (decide (p ∧ q))) :: L) w) : S P n ops Q l L w :=
  S_pickT k j hj hb hg hc hx rfl hn (by rw [dec_and]; exact h)
theorem S_or (k j : Nat) {t : Nat} {p q : Prop} [Decidable p] [Decidable q] {c y : Operand} {l l' : List Oper} {L1 : Env} (hj : ((ops[j]?).bind (·.dst)) = some t) (hb : gt L t = some (.bool (decide p)))
    (hg : puG n j false L k l L = some (⟨some d, .pick c (.const (.bool true)) y, ty, pos, af, none⟩ :: l', L1)) (hc : ev L c = some (.bool (decide p))) (hy : ev L1 y = some (.bool (decide q))) (hn : Nat.blt d n.n = true)
    (h : S P n ops Q l' ((d, .bool (decide (p ∨ q))) :: L) w) : S P n ops Q l L w :=
  S_pickF k j hj hb hg hc rfl hy hn (by rw [dec_or]; exact h)
end
end Go.E
end
section
namespace Go.E
open Go
theorem drawn_setCell (w : World) (a : Addr) (v : Value) : (w.setCell a v).drawn = w.drawn := by
  unfold World.setCell
  split <;> rfl
theorem drawn_freeze (w : World) (a : Addr) (n : Nat) : (w.freeze a n).drawn = w.drawn := by
  unfold World.freeze
  split <;> rfl
theorem drawn_viewStore {p : Program} {w w1 : World} {at_ : Addr} {u : TypeId} {k : Addr} {v : Value} {atomic : Bool} {l : List Addr} (h : w.viewStore p at_ u k v atomic = .ok (w1, l)) : w1.drawn = w.drawn := by
  unfold World.viewStore at h
  simp only [bind, Except.bind, pure, Except.pure, throwThe, MonadExceptOf.throw, MonadExcept.throw] at h
  repeat' split at h
  all_goals first
    | (cases h; done)
    | (cases h; rfl)
theorem drawn_farStore {p : Program} {w w1 : World} {a : Addr} {v : Value} {atomic : Bool} {l : List Addr} (h : w.farStore p a v atomic = .ok (w1, l)) : w1.drawn = w.drawn := by
  unfold World.farStore at h
  split at h
  · split at h
    · rename_i r hr; cases h; exact drawn_viewStore hr
    · cases h
  · cases h
theorem drawn_ask {α : Type} : ∀ (q : Ask α) (w : World), w.drawn ≤ (w.ask q).2.drawn
  | .done a, w => Nat.le_refl _
  | .ask what range k, w => by
    unfold World.ask
    simp only
    split
    · exact drawn_ask (k 0) w
    · exact Nat.le_trans (Nat.le_succ _) (drawn_ask _ { w with drawn := w.drawn + 1 })
theorem drawn_sys (w : World) (c : Sys) : w.drawn ≤ (w.sys c).2.drawn := by
  unfold World.sys
  have := drawn_ask (Kernel.perform c w.os) w
  split
  · exact Nat.le_refl _
  · rename_i r os w1 _ e
    rw [e] at this
    exact this
theorem run_drawn {α : Type} {p : Program} : ∀ (s : Sem α) (w : World) (a : α) (w' : World), s.run p w = .ok a w' → w.drawn ≤ w'.drawn := by
  intro s
  induction s with
  | pure a => intro w x w' h; cases h; exact Nat.le_refl _
  | load m a k ih =>
    intro w x w' h
    unfold Sem.run at h
    split at h
    · exact ih _ _ _ _ h
    · split at h
      · exact ih _ _ _ _ h
      · cases h
  | store m a v k ih =>
    intro w x w' h
    cases v <;> simp only [Sem.run] at h
    all_goals first
      | (cases h; done)
      | (split at h
         · split at h
           · cases h
           · have := ih _ _ _ h; rwa [drawn_setCell] at this
         · split at h
           · rename_i hf
             have h1 := ih _ _ _ h
             rw [drawn_farStore hf] at h1
             exact h1
           · cases h)
  | new o k ih => intro w x w' h; exact ih _ { w with heap := w.heap.push o } _ _ h
  | shape r k ih => intro w x w' h; exact ih _ _ _ _ h
  | freeze a n k ih => intro w x w' h; have := ih _ _ _ h; rwa [drawn_freeze] at this
  | frozen a k ih => intro w x w' h; exact ih _ _ _ _ h
  | getObj r k ih =>
    intro w x w' h
    unfold Sem.run at h
    split at h
    · cases h
    · exact ih _ _ _ _ h
    · cases h
  | setObj r o k ih =>
    intro w x w' h
    unfold Sem.run at h
    split at h
    · cases h
    · exact ih { w with heap := w.heap.setIfInBounds r o } _ _ h
    · cases h
  | choose q k ih =>
    intro w x w' h
    unfold Sem.run at h
    split at h
    · exact ih _ _ _ _ h
    · have := ih _ _ _ _ h
      simp only at this
      omega
  | sys c k ih =>
    intro w x w' h
    refine Nat.le_trans ?_ (ih _ _ _ _ h)
    exact drawn_sys w c
  | program k ih => intro w x w' h; exact ih _ _ _ _ h
  | mark m k ih => intro w x w' h; exact ih _ _ _ h
  | halt h => intro w x w' h; cases h
end Go.E
namespace Go.E
open Go Go.RowKit
/-- What was there is as it was. -/
class Dr where
  on : Bool
structure Ext [Dr] (w w' : World) : Prop extends Below w.heap.size w w' where
  drawn : Dr.on = true → w.drawn ≤ w'.drawn
theorem Ext.refl [Dr] (w : World) : Ext w w := ⟨Below.refl _ _, fun _ => Nat.le_refl _⟩
theorem Ext.trans [Dr] {a b c : World} (h : Ext a b) (k : Ext b c) : Ext a c := ⟨Below.trans h.toBelow (Below.mono k.toBelow h.size), fun o => Nat.le_trans (h.drawn o) (k.drawn o)⟩
/-- A part of a heap that is only read. -/
abbrev PH := Nat → Option Obj
def Le (A B : PH) : Prop := ∀ b o, A b = some o → B b = some o
theorem Le.refl (A : PH) : Le A A := fun _ _ h => h
theorem Le.trans {A B C : PH} (h : Le A B) (k : Le B C) : Le A C := fun b o e => k b o (h b o e)
def hp (w : World) : PH := fun b => w.heap[b]?
def nw (w w' : World) : PH := fun b => if w.heap.size ≤ b then w'.heap[b]? else none
theorem lt_of_heap {w : World} {b : Nat} {o : Obj} (h : w.heap[b]? = some o) : b < w.heap.size := (Array.getElem?_eq_some_iff.1 h).1
theorem Ext.le [Dr] {w w' : World} (h : Ext w w') : Le (hp w) (hp w') := fun b o e => by
  have : b < w.heap.size := lt_of_heap e
  show w'.heap[b]? = some o
  rw [h.block b this]; exact e
theorem Le.ext [Dr] {A : PH} {w w' : World} (h : Le A (hp w)) (hx : Ext w w') : Le A (hp w') := h.trans hx.le
def cellP (H : PH) (a : Addr) : Option Value :=
  match H a.block with
  | some (.cells c _ _) => if a.spot.isSome then none else c[a.off]?
  | _ => none
theorem cellP_hp (w : World) (a : Addr) : cellP (hp w) a = w.cell? a := rfl
theorem cellP_mono {A B : PH} (h : Le A B) {a : Addr} {v : Value} (e : cellP A a = some v) : cellP B a = some v := by
  unfold cellP at e ⊢
  split at e
  · rename_i c t f hc; rw [h _ _ hc]; exact e
  · cases e
theorem cell_of {H : PH} {w : World} (h : Le H (hp w)) {a : Addr} {v : Value} (e : cellP H a = some v) : w.cell? a = some v := cellP_mono h e
/-- How a kind of data lies in cells. -/
structure Rp (α : Type) where
  sz : Nat
  rel : PH → α → List Value → Prop
  len : ∀ {H x c}, rel H x c → c.length = sz
  mono : ∀ {H H' x c}, Le H H' → rel H x c → rel H' x c
  one : ∀ {H x c}, rel H x c → ∀ u ∈ c, u.oneCell' = true
def PtrTo (H : PH) (p : Addr) (c : List Value) : Prop := p.spot = none ∧ ∀ j u, c[j]? = some u → cellP H (p.add j) = some u
/-- A slice that reads as a list. -/
structure Vec {α : Type} (r : Rp α) (H : PH) (v : Value) (l : List α) : Prop where
  ex : ∃ a cap, v = .slice a l.length cap ∧ l.length ≤ cap ∧ cap ≤ maxLen ∧ (a = none → cap = 0) ∧
    ∀ A, a = some A → l ≠ [] → A.spot = none ∧ ∀ i x, l[i]? = some x → ∃ c, r.rel H x c ∧ ∀ j u, c[j]? = some u → cellP H (A.add (i * r.sz + j)) = some u
theorem Vec.mono {α : Type} {r : Rp α} {H H' : PH} {v : Value} {l : List α} (h : Vec r H v l) (hs : Le H H') : Vec r H' v l := by
  obtain ⟨a, cap, h1, h2, h3, h4, h5⟩ := h.ex
  refine ⟨a, cap, h1, h2, h3, h4, fun A hA hl => ?_⟩
  obtain ⟨h6, h7⟩ := h5 A hA hl
  refine ⟨h6, fun i x hx => ?_⟩
  obtain ⟨c, hc, hcell⟩ := h7 i x hx
  exact ⟨c, r.mono hs hc, fun j u hu => cellP_mono hs (hcell j u hu)⟩
theorem Vec.nil {α : Type} (r : Rp α) (H : PH) : Vec r H (.slice none 0 0) ([] : List α) :=
  ⟨none, 0, rfl, Nat.le_refl _, Nat.zero_le _, fun _ => rfl, fun _ h => by cases h⟩
theorem Vec.header {α : Type} {r : Rp α} {H : PH} {v : Value} {l : List α} (h : Vec r H v l) : ∃ a cap, v = .slice a l.length cap := by
  obtain ⟨a, cap, h1, _⟩ := h.ex; exact ⟨a, cap, h1⟩
/-- A number in one cell. -/
def Rp.int (k : IntKind) : Rp Int := ⟨1, fun _ x c => c = [.int k x], fun h => by simp [h], fun _ h => h, fun h u hu => by subst h; simp at hu; subst hu; rfl⟩
def Rp.byte : Rp UInt8 := ⟨1, fun _ x c => c = [.int .u8 (x.toNat : Int)], fun h => by simp [h], fun _ h => h, fun h u hu => by subst h; simp at hu; subst hu; rfl⟩
def Rp.bool : Rp Bool := ⟨1, fun _ x c => c = [.bool x], fun h => by simp [h], fun _ h => h, fun h u hu => by subst h; simp at hu; subst hu; rfl⟩
def Rp.vec {α : Type} (r : Rp α) : Rp (List α) := ⟨1, fun H x c => ∃ v, c = [v] ∧ Vec r H v x, fun h => by obtain ⟨v, h, _⟩ := h; simp [h], fun hs h => by obtain ⟨v, h, hv⟩ := h; exact ⟨v, h, hv.mono hs⟩,
  fun h u hu => by obtain ⟨v, h, hv⟩ := h; subst h; simp at hu; subst hu; obtain ⟨a, cap, e⟩ := hv.header; subst e; rfl⟩
def Rp.pair {α β : Type} (r : Rp α) (s : Rp β) : Rp (α × β) := ⟨r.sz + s.sz, fun H x c => ∃ c1 c2, c = c1 ++ c2 ∧ r.rel H x.1 c1 ∧ s.rel H x.2 c2,
  fun h => by obtain ⟨c1, c2, e, h1, h2⟩ := h; simp [e, r.len h1, s.len h2],
  fun hs h => by obtain ⟨c1, c2, e, h1, h2⟩ := h; exact ⟨c1, c2, e, r.mono hs h1, s.mono hs h2⟩,
  fun h u hu => by
    obtain ⟨c1, c2, e, h1, h2⟩ := h
    subst e
    rcases List.mem_append.1 hu with hu | hu
    · exact r.one h1 u hu
    · exact s.one h2 u hu⟩
/-- What the call owns: a variable; a slice at the head of its own row. -/
inductive Res where
  | box (b : Nat) (cs : List Value) (t : TypeId)
  | row (v : Value) (e : TypeId) (sz n : Nat) (xs : List Value)
  | obj (b : Nat) (o : Obj)
def Res.block : Res → Option Nat
  | .box b _ _ => some b
  | .row v _ _ _ _ => v.ownBlock
  | .obj b _ => some b
def Res.ok (w : World) : Res → Prop
  | .box b cs t => w.heap[b]? = some (.cells cs.toArray t (0, 0))
  | .row v e sz n xs => w.ownsRow 0 e sz v n xs
  | .obj b o => w.heap[b]? = some o
theorem Res.ok.lt {w : World} {r : Res} (h : r.ok w) {b : Nat} (hb : r.block = some b) : b < w.heap.size := by
  cases r with
  | box b' cs t => cases hb; exact lt_of_heap h
  | row v e sz n xs => exact (World.ownsRow.lt h b hb).2
  | obj b' o => cases hb; exact lt_of_heap h
theorem Res.ok.same {w w' : World} {r : Res} (h : r.ok w) (hs : ∀ b, r.block = some b → w'.heap[b]? = w.heap[b]?) : r.ok w' := by
  cases r with
  | box b cs t => show w'.heap[b]? = _; rw [hs b rfl]; exact h
  | obj b o => show w'.heap[b]? = _; rw [hs b rfl]; exact h
  | row v e sz n xs =>
    refine ⟨h.1, ?_⟩
    rcases h.2 with hn | ⟨g, cap, cur, rfl, hb, hgg, rest⟩
    · exact .inl hn
    · refine .inr ⟨g, cap, cur, rfl, hb, ?_, rest⟩
      rw [hs g rfl]; exact hgg
theorem Res.ok.ext [Dr] {w w' : World} {r : Res} (h : r.ok w) (hx : Ext w w') : r.ok w' := h.same fun b hb => hx.block b (h.lt hb)
def owned (O : List Res) (b : Nat) : Bool := O.any fun r => r.block == some b
theorem owned_iff {O : List Res} {b : Nat} : owned O b = true ↔ ∃ r ∈ O, r.block = some b := by simp [owned]
/-- What lies fast: all but what is owned. -/
def fz (w : World) (O : List Res) : PH := fun b => if owned O b then none else w.heap[b]?
theorem fz_le (w : World) (O : List Res) : Le (fz w O) (hp w) := fun b o e => by
  unfold fz at e
  split at e
  · cases e
  · exact e
structure Lcl [Dr] (w0 : World) (O : List Res) (w : World) : Prop where
  ext : Ext w0 w
  res : ∀ r ∈ O, r.ok w
  own : ∀ r ∈ O, ∀ b, r.block = some b → w0.heap.size ≤ b
  dis : O.Pairwise fun r s => ∀ b, r.block = some b → s.block ≠ some b
theorem Lcl.start [Dr] (w : World) : Lcl w [] w := ⟨Ext.refl w, (fun _ h => by cases h), (fun _ h => by cases h), List.Pairwise.nil⟩
theorem Lcl.arg [Dr] {w0 w : World} {O : List Res} (h : Lcl w0 O w) : Le (hp w0) (hp w) := h.ext.le
theorem Lcl.lt [Dr] {w0 w : World} {O : List Res} (h : Lcl w0 O w) {b : Nat} (hb : owned O b = true) : b < w.heap.size := by
  obtain ⟨r, hr, e⟩ := owned_iff.1 hb
  exact (h.res r hr).lt e
theorem Lcl.argFz [Dr] {w0 w : World} {O : List Res} (h : Lcl w0 O w) : Le (hp w0) (fz w O) := fun b o e => by
  unfold fz
  rw [if_neg]
  · exact h.arg b o e
  · intro ho
    obtain ⟨r, hr, e'⟩ := owned_iff.1 ho
    have := h.own r hr b e'
    have := lt_of_heap (w := w0) e
    omega
/-- Behind a call that leaves all as it was. -/
theorem Lcl.call [Dr] {w0 w w' : World} {O : List Res} (h : Lcl w0 O w) (hx : Ext w w') : Lcl w0 O w' :=
  ⟨h.ext.trans hx, fun r hr => (h.res r hr).ext hx, h.own, h.dis⟩
theorem fz_ext [Dr] {w0 w w' : World} {O : List Res} (_h : Lcl w0 O w) (hx : Ext w w') : Le (fz w O) (fz w' O) := fun b o e => by
  unfold fz at e ⊢
  split at e
  · cases e
  · rename_i ho
    rw [if_neg ho]; exact hx.le b o e
theorem nw_fz [Dr] {w0 w w' : World} {O : List Res} (h : Lcl w0 O w) : Le (nw w w') (fz w' O) := fun b o e => by
  unfold nw at e
  split at e
  · rename_i hb
    unfold fz
    rw [if_neg]
    · exact e
    · intro ho; have := h.lt ho; omega
  · cases e
/-- What is owned is given up: it lies fast from now on. -/
theorem Lcl.drop [Dr] {w0 w : World} {O : List Res} {r : Res} (h : Lcl w0 (r :: O) w) : Lcl w0 O w :=
  ⟨h.ext, fun s hs => h.res s (.tail _ hs), fun s hs => h.own s (.tail _ hs), (List.pairwise_cons.1 h.dis).2⟩
theorem fz_drop {w : World} {O : List Res} {r : Res} : Le (fz w (r :: O)) (fz w O) := fun b o e => by
  unfold fz at e ⊢
  split at e
  · cases e
  · rename_i ho
    rw [if_neg]
    · exact e
    · intro h; apply ho; obtain ⟨s, hs, e'⟩ := owned_iff.1 h; exact owned_iff.2 ⟨s, .tail _ hs, e'⟩
theorem Lcl.perm [Dr] {w0 w : World} {O O' : List Res} (h : Lcl w0 O w) (hp : O'.Perm O) : Lcl w0 O' w :=
  ⟨h.ext, fun r hr => h.res r (hp.mem_iff.1 hr), fun r hr => h.own r (hp.mem_iff.1 hr),
    (hp.symm.pairwise h.dis (fun {_x _y} hxy b hb hx => hxy b hx hb))⟩
theorem fz_perm {w : World} {O O' : List Res} (hp : O'.Perm O) : fz w O' = fz w O := by
  funext b
  unfold fz
  have : owned O' b = owned O b := by
    rw [Bool.eq_iff_iff, owned_iff, owned_iff]
    exact ⟨fun ⟨r, h, e⟩ => ⟨r, hp.mem_iff.1 h, e⟩, fun ⟨r, h, e⟩ => ⟨r, hp.mem_iff.2 h, e⟩⟩
  rw [this]
/-- The first thing owned turns into another; nothing else that was there turns. -/
theorem Lcl.turn [Dr] {w0 w w' : World} {O : List Res} {r r' : Res} (h : Lcl w0 (r :: O) w) (hdr : w.drawn ≤ w'.drawn) (hg : w.grownBy w' r.block) (hok : r'.ok w') (hb : ∀ b, r'.block = some b → r.block = some b ∨ w.heap.size ≤ b) : Lcl w0 (r' :: O) w' := by
  have hh := List.pairwise_cons.1 h.dis
  have hsame : ∀ s ∈ O, ∀ b, s.block = some b → w'.heap[b]? = w.heap[b]? := fun s hs b e => by
    refine hg.block b ((h.res s (.tail _ hs)).lt e) (fun e' => ?_)
    exact hh.1 s hs b e'.symm e
  refine ⟨⟨⟨hg.os.trans h.ext.os, hg.tape.trans h.ext.tape, hg.output.trans h.ext.output, Nat.le_trans h.ext.size hg.size, fun k hk => ?_⟩, fun o => Nat.le_trans (h.ext.drawn o) hdr⟩, fun s hs => ?_, fun s hs b e => ?_, ?_⟩
  · rw [hg.block k (Nat.lt_of_lt_of_le hk h.ext.size) (fun e => ?_)]
    · exact h.ext.block k hk
    · have := h.own r (.head _) k e.symm; omega
  · cases hs with
    | head => exact hok
    | tail _ hs => exact (h.res s (.tail _ hs)).same (hsame s hs)
  · cases hs with
    | head =>
      rcases hb b e with e' | e'
      · exact h.own r (.head _) b e'
      · exact Nat.le_trans h.ext.size e'
    | tail _ hs => exact h.own s (.tail _ hs) b e
  · refine List.pairwise_cons.2 ⟨fun s hs b e e' => ?_, hh.2⟩
    rcases hb b e with e'' | e''
    · exact hh.1 s hs b e'' e'
    · have := (h.res s (.tail _ hs)).lt e'; omega
theorem fz_turn [Dr] {w0 w w' : World} {O : List Res} {r r' : Res} (_h : Lcl w0 (r :: O) w) (hg : w.grownBy w' r.block) (hb : ∀ b, r'.block = some b → r.block = some b ∨ w.heap.size ≤ b) : Le (fz w (r :: O)) (fz w' (r' :: O)) := fun b o e => by
  unfold fz at e ⊢
  split at e
  · cases e
  · rename_i ho
    have hlt := lt_of_heap e
    have hnr : r.block ≠ some b := fun e' => ho (owned_iff.2 ⟨r, .head _, e'⟩)
    rw [if_neg]
    · rw [hg.block b hlt (fun e' => hnr e'.symm)]; exact e
    · intro hc
      obtain ⟨s, hs, e'⟩ := owned_iff.1 hc
      cases hs with
      | head => rcases hb b e' with h1 | h1
                · exact hnr h1
                · omega
      | tail _ hs => exact ho (owned_iff.2 ⟨s, .tail _ hs, e'⟩)
/-- Something new is owned. -/
theorem Lcl.new [Dr] {w0 w w' : World} {O : List Res} {r : Res} (h : Lcl w0 O w) (hx : Ext w w') (hok : r.ok w') (hb : ∀ b, r.block = some b → w.heap.size ≤ b) : Lcl w0 (r :: O) w' := by
  have h' := h.call hx
  refine ⟨h'.ext, fun s hs => ?_, fun s hs b e => ?_, List.pairwise_cons.2 ⟨fun s hs b e e' => ?_, h.dis⟩⟩
  · cases hs with
    | head => exact hok
    | tail _ hs => exact h'.res s hs
  · cases hs with
    | head => exact Nat.le_trans h.ext.size (hb b e)
    | tail _ hs => exact h.own s hs b e
  · have := hb b e; have := (h.res s hs).lt e'; omega
theorem fz_new [Dr] {w0 w w' : World} {O : List Res} {r : Res} (_h : Lcl w0 O w) (hx : Ext w w') (hb : ∀ b, r.block = some b → w.heap.size ≤ b) : Le (fz w O) (fz w' (r :: O)) := fun b o e => by
  unfold fz at e ⊢
  split at e
  · cases e
  · rename_i ho
    have hlt := lt_of_heap e
    rw [if_neg]
    · exact hx.le b o e
    · intro hc
      obtain ⟨s, hs, e'⟩ := owned_iff.1 hc
      cases hs with
      | head => have := hb b e'; omega
      | tail _ hs => exact ho (owned_iff.2 ⟨s, hs, e'⟩)
/-- What a call made, but for one block of it, lies fast beside that block. -/
def nwBut (w w' : World) (v : Value) : PH := fun b => if v.ownBlock = some b then none else nw w w' b
theorem nwBut_fz [Dr] {w0 w w' : World} {O : List Res} {v : Value} {e : TypeId} {sz n : Nat} {xs : List Value} (h : Lcl w0 O w) : Le (nwBut w w' v) (fz w' (.row v e sz n xs :: O)) := fun b o hb => by
  unfold nwBut at hb
  split at hb
  · cases hb
  · rename_i hne
    have h1 := nw_fz (w' := w') h b o hb
    unfold fz at h1 ⊢
    split at h1
    · cases h1
    · rename_i ho
      rw [if_neg]
      · exact h1
      · intro hc
        obtain ⟨s, hs, e'⟩ := owned_iff.1 hc
        cases hs with
        | head => exact hne e'
        | tail _ hs => exact ho (owned_iff.2 ⟨s, hs, e'⟩)
theorem nwBut_le {w w' : World} {v : Value} : Le (nwBut w w' v) (nw w w') := fun b o hb => by
  unfold nwBut at hb
  split at hb
  · cases hb
  · exact hb
/-- The cells of a list, element by element. -/
inductive Elems {α : Type} (r : Rp α) (H : PH) : List α → List Value → Prop
  | nil : Elems r H [] []
  | cons {x : α} {l : List α} {c cs : List Value} (h : r.rel H x c) (t : Elems r H l cs) : Elems r H (x :: l) (c ++ cs)
section
variable {α : Type} {r : Rp α} {H H' : PH}
theorem Elems.mono {l : List α} {cs : List Value} (h : Elems r H l cs) (hs : Le H H') : Elems r H' l cs := by
  induction h with
  | nil => exact .nil
  | cons h _ ih => exact .cons (r.mono hs h) ih
theorem Elems.len {l : List α} {cs : List Value} (h : Elems r H l cs) : cs.length = l.length * r.sz := by
  induction h with
  | nil => simp
  | cons h _ ih => simp [ih, r.len h, Nat.add_mul, Nat.add_comm]
theorem Elems.one {l : List α} {cs : List Value} (h : Elems r H l cs) : ∀ u ∈ cs, u.oneCell' = true := by
  induction h with
  | nil => simp
  | cons h _ ih => intro u hu; rcases List.mem_append.1 hu with hu | hu; exact r.one h u hu; exact ih u hu
theorem Elems.append {l m : List α} {cs ds : List Value} (h : Elems r H l cs) (k : Elems r H m ds) : Elems r H (l ++ m) (cs ++ ds) := by
  induction h with
  | nil => exact k
  | cons h _ ih => rw [List.cons_append, List.append_assoc]; exact .cons h ih
theorem Elems.at {l : List α} {cs : List Value} (h : Elems r H l cs) : ∀ i x, l[i]? = some x → ∃ c, r.rel H x c ∧ ∀ j u, c[j]? = some u → cs[i * r.sz + j]? = some u := by
  induction h with
  | nil => intro i x hx; cases hx
  | @cons y l c cs h _ ih =>
    intro i x hx
    cases i with
    | zero =>
      simp only [List.getElem?_cons_zero, Option.some.injEq] at hx
      subst hx
      refine ⟨c, h, fun j u hu => ?_⟩
      rw [Nat.zero_mul, Nat.zero_add, List.getElem?_append_left (List.getElem?_eq_some_iff.1 hu).1]
      exact hu
    | succ i =>
      simp only [List.getElem?_cons_succ] at hx
      obtain ⟨d, hd, hh⟩ := ih i x hx
      refine ⟨d, hd, fun j u hu => ?_⟩
      rw [List.getElem?_append_right (by rw [r.len h, Nat.add_mul]; omega), r.len h]
      rw [show (i + 1) * r.sz + j - r.sz = i * r.sz + j from by rw [Nat.add_mul]; omega]
      exact hh j u hu
end
/-- A slice of the call's own that holds a list. -/
def Own {α : Type} (e : TypeId) (r : Rp α) (w w' : World) (v : Value) (l : List α) : Prop :=
  ∃ xs, w'.ownsRow w.heap.size e r.sz v l.length xs ∧ Elems r (nwBut w w' v) l xs
theorem ownsRow_base {w : World} {b b' : Nat} {e : TypeId} {sz n : Nat} {v : Value} {xs : List Value} (h : w.ownsRow b e sz v n xs) (hb : ∀ k, v.ownBlock = some k → b' ≤ k) : w.ownsRow b' e sz v n xs := by
  refine ⟨h.1, ?_⟩
  rcases h.2 with hn | ⟨g, cap, cur, rfl, hbg, hgg, rest⟩
  · exact .inl hn
  · exact .inr ⟨g, cap, cur, rfl, hb g rfl, hgg, rest⟩
/-- An owned row, its elements' memory in H: it reads as the list wherever the row and H are. -/
theorem vec_of_row {α : Type} {r : Rp α} {w : World} {b : Nat} {e : TypeId} {v : Value} {l : List α} {xs : List Value} {H H' : PH} (h : w.ownsRow b e r.sz v l.length xs) (he : Elems r H l xs) (hs : Le H H')
    (hb : ∀ k, v.ownBlock = some k → ∀ o, w.heap[k]? = some o → H' k = some o) : Vec r H' v l := by
  rcases h.2 with ⟨rfl, hn⟩ | ⟨g, cap, cur, rfl, hbg, hgg, hnc, hcm, hcs, htake⟩
  · have : l = [] := List.eq_nil_of_length_eq_zero hn
    subst this
    exact Vec.nil r H'
  · refine ⟨some ⟨g, 0, none⟩, cap, rfl, hnc, hcm, (fun h => by cases h), fun A hA _ => ?_⟩
    cases hA
    refine ⟨rfl, fun i x hx => ?_⟩
    obtain ⟨c, hc, hcell⟩ := he.at i x hx
    refine ⟨c, r.mono hs hc, fun j u hu => ?_⟩
    have h1 := hcell j u hu
    rw [← htake, List.getElem?_take] at h1
    split at h1
    · simp only [Addr.add_lit, Nat.zero_add, cellP]
      rw [hb g rfl _ hgg]
      simpa using h1
    · cases h1
theorem Own.vec {α : Type} {e : TypeId} {r : Rp α} {w w' : World} {v : Value} {l : List α} (h : Own e r w w' v l) : Vec r (nw w w') v l := by
  obtain ⟨xs, h1, h2⟩ := h
  refine vec_of_row h1 h2 nwBut_le fun k hk o ho => ?_
  have := (h1.lt k hk).1
  unfold nw
  rw [if_pos this]; exact ho
end Go.E
namespace Go.E
open Go Go.RowKit
/-- How a region is walked: operations that only look (or whose value is the same in every later world), operations that make memory, the tail from k on. -/
inductive Tr where
  | tail (k : Nat)
  | q (i : Nat) (t : Tr)
  | h (i : Nat) (t : Tr)
  | h2 (i : Nat) (t : Tr) (j : Nat) (u : Tr)
  | h3 (i : Nat) (t : Tr) (j : Nat) (u : Tr) (l : Nat) (v : Tr)
def Tr.count : Tr → Nat
  | .tail _ => 0
  | .q _ t => t.count + 1
  | .h _ t => t.count + 1
  | .h2 _ t _ _ => t.count + 1
  | .h3 _ t _ _ _ _ => t.count + 1
def Tr.last : Tr → Nat
  | .tail k => k
  | .q _ t => t.last
  | .h _ t => t.last
  | .h2 _ t _ _ => t.last
  | .h3 _ t _ _ _ _ => t.last
def chainB (ops : Array Oper) : Nat → Nat → Array Bool → Bool
  | 0, _, listed => Region.ready .any ops listed == []
  | m + 1, k, listed => Region.ready .any ops listed == [k] && chainB ops m (k + 1) (listed.setIfInBounds k true)
def chk (ops : Array Oper) : Tr → Array Bool → Bool
  | .tail k, listed => chainB ops (ops.size - k) k listed
  | .q i t, listed => (Region.ready .any ops listed).contains i && Region.free .any ops listed i && Nat.blt i t.last && chk ops t (listed.setIfInBounds i true)
  | .h i t, listed => Region.ready .any ops listed == [i] && Nat.blt i t.last && chk ops t (listed.setIfInBounds i true)
  | .h2 i t j u, listed => Region.ready .any ops listed == [i, j] && Nat.blt i t.last && Nat.blt j t.last && t.count == u.count && t.last == u.last && chk ops t (listed.setIfInBounds i true) && chk ops u (listed.setIfInBounds j true)
  | .h3 i t j u l v, listed => Region.ready .any ops listed == [i, j, l] && Nat.blt i t.last && Nat.blt j t.last && Nat.blt l t.last && t.count == u.count && t.last == u.last && t.count == v.count && t.last == v.last && chk ops t (listed.setIfInBounds i true) && chk ops u (listed.setIfInBounds j true) && chk ops v (listed.setIfInBounds l true)
section
variable (P : Program) (ops : Array Oper)
def runx (a : Act) (o : Oper) (K : Act → World → Prop) : Result Next → Prop
  | .ok (.value v) w' => K (a.put o.dst v) w'
  | .ok .skip w' => K (a.put o.dst undef) w'
  | .ok (.enter f args) w' => Calls P f args w' (fun e w'' => ∃ v, e = .returned v ∧ K (a.put o.dst v) w'')
  | _ => False
def opx (o : Oper) (K : Act → World → Prop) (a : Act) (w : World) : Prop :=
  if Region.wanted o (yielded ops a.tmps) then runx P a o K ((execOp a.eval o).run P w) else K (a.put o.dst undef) w
/-- The same value in every later world. -/
def yx [Dr] (o : Oper) (v : Value) (a : Act) (w : World) : Prop :=
  (Region.wanted o (yielded ops a.tmps) = true ∧ ∀ w', Ext w w' → match (execOp a.eval o).run P w' with
    | .ok (.value u) w'' => w'' = w' ∧ u = v
    | .ok (.enter f args) w'' => w'' = w' ∧ Calls P f args w' (fun e w3 => e = .returned v ∧ Ext w' w3)
    | _ => False) ∨
  (Region.wanted o (yielded ops a.tmps) = false ∧ v = undef)
/-- b: a world that all worlds from here on leave as it is; what only looks, looks at it. -/
def X [Dr] (Q : Exit → Act → World → Prop) : Tr → World → Act → World → Prop
  | .tail k, _, a, w => ∀ w', Ext w w' → wpOps P ops Q (List.range' k (ops.size - k)) a w'
  | .q i t, b, a, w => ∃ o v, ops[i]? = some o ∧ yx P ops o v a b ∧ X Q t b (a.put o.dst v) w
  | .h i t, b, a, w => ∃ o, ops[i]? = some o ∧ ∀ w', Ext w w' → opx P ops o (fun a'' w'' => ∃ b', Ext b b' ∧ Ext b' w'' ∧ X Q t b' a'' w'') a w'
  | .h2 i t j u, b, a, w => (∃ o, ops[i]? = some o ∧ ∀ w', Ext w w' → opx P ops o (fun a'' w'' => ∃ b', Ext b b' ∧ Ext b' w'' ∧ X Q t b' a'' w'') a w') ∧
      (∃ o, ops[j]? = some o ∧ ∀ w', Ext w w' → opx P ops o (fun a'' w'' => ∃ b', Ext b b' ∧ Ext b' w'' ∧ X Q u b' a'' w'') a w')
  | .h3 i t j u l v, b, a, w => (∃ o, ops[i]? = some o ∧ ∀ w', Ext w w' → opx P ops o (fun a'' w'' => ∃ b', Ext b b' ∧ Ext b' w'' ∧ X Q t b' a'' w'') a w') ∧
      (∃ o, ops[j]? = some o ∧ ∀ w', Ext w w' → opx P ops o (fun a'' w'' => ∃ b', Ext b b' ∧ Ext b' w'' ∧ X Q u b' a'' w'') a w') ∧
      (∃ o, ops[l]? = some o ∧ ∀ w', Ext w w' → opx P ops o (fun a'' w'' => ∃ b', Ext b b' ∧ Ext b' w'' ∧ X Q v b' a'' w'') a w')
/-- Whatever order, the tail aside. -/
def Y [Dr] (Q : Exit → Act → World → Prop) (k : Nat) (b : World) : Nat → Array Bool → Act → World → Prop
  | 0, listed, a, w => chainB ops (ops.size - k) k listed = true ∧ ∀ w', Ext w w' → wpOps P ops Q (List.range' k (ops.size - k)) a w'
  | m + 1, listed, a, w => Region.ready .any ops listed ≠ [] ∧ ∀ w', Ext w w' → ∀ i ∈ Region.ready .any ops listed, ∃ o, ops[i]? = some o ∧
      opx P ops o (fun a'' w'' => Ext b w'' ∧ Y Q k b m (listed.setIfInBounds i true) a'' w'') a w'
end
section
variable {P : Program} {ops : Array Oper} {Q : Exit → Act → World → Prop}
theorem runx_mono {a : Act} {o : Oper} {K K' : Act → World → Prop} (h : ∀ a w, K a w → K' a w) : ∀ {r : Result Next}, runx P a o K r → runx P a o K' r := by
  intro r hr
  cases r with
  | ok nx w' =>
    cases nx <;> simp only [runx] at hr ⊢
    case value v => exact h _ _ hr
    case skip => exact h _ _ hr
    case enter f args => exact hr.mono fun e w'' ⟨v, he, hv⟩ => ⟨v, he, h _ _ hv⟩
  | halt x w' => simp only [runx] at hr
theorem opx_mono {o : Oper} {K K' : Act → World → Prop} (h : ∀ a w, K a w → K' a w) {a : Act} {w : World} (hh : opx P ops o K a w) : opx P ops o K' a w := by
  unfold opx at hh ⊢
  split
  · rename_i hw; rw [if_pos hw] at hh; exact runx_mono h hh
  · rename_i hw; rw [if_neg hw] at hh; exact h _ _ hh
theorem wpOp_of_opx {i : Nat} {o : Oper} (hi : ops[i]? = some o) {K : Act → World → Prop} {a : Act} {w : World} (h : opx P ops o K a w) : wpOp P ops Q i K a w := by
  unfold wpOp
  simp only [hi]
  unfold opx at h
  split
  · rename_i hw
    rw [if_pos hw] at h
    refine .inl ?_
    unfold Oper.wp
    generalize (execOp a.eval o).run P w = r at h ⊢
    cases r with
    | ok nx w' =>
      cases nx <;> simp only [runx] at h <;> simp only [Oper.upon]
      case value v => exact h
      case skip => exact h
      case enter f args => exact h.mono fun e w'' ⟨v, he, hv⟩ => by subst he; exact hv
    | halt x w' => simp only [runx] at h
  · rename_i hw; rw [if_neg hw] at h; exact h
theorem opx_of_yx [Dr] {o : Oper} {v : Value} {a : Act} {w w' : World} (h : yx P ops o v a w) (hx : Ext w w') {K : Act → World → Prop} (hK : ∀ w'', Ext w' w'' → K (a.put o.dst v) w'') : opx P ops o K a w' := by
  unfold opx
  rcases h with ⟨hw, h⟩ | ⟨hw, rfl⟩
  · rw [if_pos hw]
    have h1 := h w' hx
    generalize (execOp a.eval o).run P w' = r at h1 ⊢
    cases r with
    | ok nx w1 =>
      cases nx <;> simp only at h1 <;> simp only [runx]
      case value u => obtain ⟨rfl, rfl⟩ := h1; exact hK _ (Ext.refl _)
      case enter f args => obtain ⟨rfl, h1⟩ := h1; exact h1.mono fun e w'' ⟨he, hv⟩ => ⟨v, he, hK _ hv⟩
    | halt x w1 => simp only at h1
  · rw [if_neg (by simp [hw])]; exact hK _ (Ext.refl _)
theorem yx_put [Dr] {o oj : Oper} {v u : Value} {a : Act} {w : World} (hs : ∀ cs b, o.op ≠ .select cs b) (h3 : ∀ d, oj.dst = some d → d ∉ o.looksAt ops) (h : yx P ops o v a w) : yx P ops o v (a.put oj.dst u) w := by
  unfold yx at h ⊢
  rw [wanted_put o a oj.dst u h3, execOp_put (ops := ops) o hs a oj.dst u h3]
  exact h
/-- While something ahead of the tail is to come, nothing of the tail is ready. -/
def Waits (ops : Array Oper) (k : Nat) : Prop := ∀ listed, HeadInv .any ops k listed → ∀ i, i < k → listed.getD i true = false → ∀ t, k ≤ t → t ∉ Region.ready .any ops listed
theorem waits_of {k : Nat} (h : ops.size ≤ k ∨ (Region.sinkB .any ops k = true ∧ Region.chainB .any ops k = true)) : Waits ops k := by
  intro listed inv i hi hun t ht hr
  rcases Nat.lt_or_ge k ops.size with hk | hk
  · rcases h with h | ⟨h1, h2⟩
    · omega
    · exact tail_waits h1 h2 hk inv _ i rfl hi hun t ht hr
  · obtain ⟨_, o, ho, _⟩ := mem_ready.1 hr
    have := (Array.getElem?_eq_some_iff.1 ho).1
    omega
theorem ready_chain {m k : Nat} {listed : Array Bool} (h : chainB ops m k listed = true) : ∀ j ∈ Region.ready .any ops listed, j = k := by
  intro j hj
  cases m with
  | zero => simp only [chainB, beq_iff_eq] at h; rw [h] at hj; cases hj
  | succ m => simp only [chainB, Bool.and_eq_true, beq_iff_eq] at h; rw [h.1] at hj; simpa using hj
theorem Y_base [Dr] {k : Nat} {b b' : World} (hb : Ext b b') : ∀ (m : Nat) (listed : Array Bool) (a : Act) (w : World), Y P ops Q k b' m listed a w → Y P ops Q k b m listed a w
  | 0, _, _, _, h => h
  | m + 1, listed, a, w, h => ⟨h.1, fun w' hx i hi => by
      obtain ⟨o, ho, h1⟩ := h.2 w' hx i hi
      exact ⟨o, ho, opx_mono (fun a'' w'' ⟨e1, e2⟩ => ⟨hb.trans e1, Y_base hb m _ _ _ e2⟩) h1⟩⟩
theorem Y_first [Dr] {b : World} {k i : Nat} {oi : Oper} {v : Value} (hw : Waits ops k) (hi : ops[i]? = some oi) (hik : i < k) (hsel : ∀ (j : Nat) (o : Oper) cs b, ops[j]? = some o → o.op ≠ .select cs b) :
    ∀ (m : Nat) (listed : Array Bool) (a : Act) (w : World), HeadInv .any ops k listed →
      (∀ j oj, ops[j]? = some oj → j ≠ i → listed.getD j true = false → (∀ e ∈ oj.after, Region.binds .any e = true → e.on ≠ i) → oi.apart ops oj = true) →
      i ∈ Region.ready .any ops listed → Ext b w → yx P ops oi v a b →
      Y P ops Q k b m (listed.setIfInBounds i true) (a.put oi.dst v) w → Y P ops Q k b (m + 1) listed a w := by
  intro m
  induction m with
  | zero =>
    intro listed a w inv hfree hr hb hy H
    refine ⟨fun h => (by rw [h] at hr; cases hr), fun w' hx j hj => ?_⟩
    have hji : j = i := by
      refine Decidable.byContradiction fun hne => ?_
      have := ready_chain H.1 j (ready_mono hj hne)
      subst this
      exact hw listed inv i hik (mem_ready.1 hr).1 j (Nat.le_refl _) hj
    subst hji
    exact ⟨oi, hi, opx_of_yx hy (hb.trans hx) fun w'' hx' => ⟨(hb.trans hx).trans hx', H.1, fun w3 h3 => H.2 w3 ((hx.trans hx').trans h3)⟩⟩
  | succ m ih =>
    intro listed a w inv hfree hr hb hy H
    refine ⟨fun h => (by rw [h] at hr; cases hr), fun w' hx j hj => ?_⟩
    by_cases hji : j = i
    · subst hji
      refine ⟨oi, hi, opx_of_yx hy (hb.trans hx) fun w'' hx' => ⟨(hb.trans hx).trans hx', H.1, fun w3 h3 => H.2 w3 ((hx.trans hx').trans h3)⟩⟩
    · obtain ⟨oj, hoj, h1⟩ := H.2 w' hx j (ready_mono hj hji)
      refine ⟨oj, hoj, ?_⟩
      obtain ⟨hjun, oj', hoj', hall⟩ := mem_ready.1 hj
      obtain rfl : oj = oj' := Option.some.inj (hoj.symm.trans hoj')
      have hnot : ∀ e ∈ oj.after, Region.binds .any e = true → e.on ≠ i := fun e he hb heq => by
        have h1 := hall e he hb
        have h0 := (mem_ready.1 hr).1
        rw [heq] at h1
        rcases Nat.lt_or_ge i listed.size with h' | h'
        · simp [h'] at h0 h1; rw [h0] at h1; cases h1
        · simp [Array.getElem?_eq_none h'] at h1
      obtain ⟨p1, p2, p3⟩ := Oper.apart_spec (hfree j oj hoj hji hjun hnot)
      have hsj := fun cs b => hsel j oj cs b hoj
      have hsi := fun cs b => hsel i oi cs b hi
      have hjk : j < k := by
        rcases Nat.lt_or_ge j k with h | h
        · exact h
        · exact absurd hj (hw listed inv i hik (mem_ready.1 hr).1 j h)
      have hfree' : ∀ k' ok, ops[k']? = some ok → k' ≠ i → (listed.setIfInBounds j true).getD k' true = false →
          (∀ e ∈ ok.after, Region.binds .any e = true → e.on ≠ i) → oi.apart ops ok = true := fun k' ok hk hki hun hno => by
        refine hfree k' ok hk hki ?_ hno
        by_cases hjk : j = k'
        · subst hjk; exact hjun
        · rw [getD_set_ne true hjk] at hun; exact hun
      have next : ∀ u w'', Ext b w'' → Y P ops Q k b m ((listed.setIfInBounds i true).setIfInBounds j true) ((a.put oi.dst v).put oj.dst u) w'' → Y P ops Q k b (m + 1) (listed.setIfInBounds j true) (a.put oj.dst u) w'' := by
        intro u w'' hx' hY
        refine ih (listed.setIfInBounds j true) (a.put oj.dst u) w'' (inv.set hj hjk) hfree' (ready_mono hr (Ne.symm hji)) hx' (yx_put hsi p3 hy) ?_
        rw [Array.setIfInBounds_comm _ _ hji, ← Act.put_comm a v u p2]
        exact hY
      unfold opx at h1 ⊢
      rw [wanted_put oj a oi.dst v p1, execOp_put (ops := ops) oj hsj a oi.dst v p1] at h1
      split
      · rename_i hw
        rw [if_pos hw] at h1
        generalize (execOp a.eval oj).run P w' = r at h1 ⊢
        cases r with
        | ok nx w1 =>
          cases nx <;> simp only [runx] at h1 ⊢
          case value u => exact ⟨h1.1, next _ _ h1.1 h1.2⟩
          case skip => exact ⟨h1.1, next _ _ h1.1 h1.2⟩
          case enter f args => exact h1.mono fun e w'' ⟨u, he, hu⟩ => ⟨u, he, hu.1, next _ _ hu.1 hu.2⟩
        | halt x w1 => simp only [runx] at h1
      · rename_i hw
        rw [if_neg hw] at h1
        exact ⟨h1.1, next _ _ h1.1 h1.2⟩
theorem blt_lt {i j : Nat} (h : Nat.blt i j = true) : i < j := by simpa [Nat.blt_eq] using h
theorem Y_of_X [Dr] {k : Nat} (hw : Waits ops k) (hsel : ∀ (j : Nat) (o : Oper) cs b, ops[j]? = some o → o.op ≠ .select cs b) :
    ∀ (t : Tr) (listed : Array Bool) (b : World) (a : Act) (w : World), t.last = k → HeadInv .any ops k listed → chk ops t listed = true → Ext b w → X P ops Q t b a w → Y P ops Q k b t.count listed a w
  | .tail k', listed, b, a, w, hk, inv, hc, hb, h => by
    obtain rfl : k' = k := hk
    exact ⟨hc, h⟩
  | .q i t, listed, b, a, w, hk, inv, hc, hb, h => by
    simp only [chk, Bool.and_eq_true] at hc
    obtain ⟨⟨⟨c1, c2⟩, c3⟩, c4⟩ := hc
    obtain ⟨o, v, ho, hy, hX⟩ := h
    have hr : i ∈ Region.ready .any ops listed := by simpa using c1
    have hlt : i < k := by rw [← hk]; exact blt_lt c3
    exact Y_first hw ho hlt hsel t.count listed a w inv (fun j oj => Region.free_spec ho c2 j oj) hr hb hy (Y_of_X hw hsel t _ _ _ _ hk (inv.set hr hlt) c4 hb hX)
  | .h i t, listed, b, a, w, hk, inv, hc, hb, h => by
    simp only [chk, Bool.and_eq_true, beq_iff_eq] at hc
    obtain ⟨⟨c1, c3⟩, c4⟩ := hc
    obtain ⟨o, ho, hX⟩ := h
    have hr : i ∈ Region.ready .any ops listed := by simp [c1]
    have hlt : i < k := by rw [← hk]; exact blt_lt c3
    refine ⟨by simp [c1], fun w' hx j hj => ?_⟩
    obtain rfl : j = i := by simpa [c1] using hj
    exact ⟨o, ho, opx_mono (fun a'' w'' ⟨b', e0, e1, e2⟩ => ⟨e0.trans e1, Y_base e0 _ _ _ _ (Y_of_X hw hsel t _ b' _ _ hk (inv.set hr hlt) c4 e1 e2)⟩) (hX w' hx)⟩
  | .h2 i t j u, listed, b, a, w, hk, inv, hc, hb, h => by
    simp only [chk, Bool.and_eq_true, beq_iff_eq] at hc
    obtain ⟨⟨⟨⟨⟨⟨c1, c3⟩, c3'⟩, c5⟩, c6⟩, c4⟩, c4'⟩ := hc
    obtain ⟨⟨o, ho, hX⟩, ⟨o', ho', hX'⟩⟩ := h
    have hr : i ∈ Region.ready .any ops listed := by simp [c1]
    have hr' : j ∈ Region.ready .any ops listed := by simp [c1]
    have hlt : i < k := by rw [← hk]; exact blt_lt c3
    have hlt' : j < k := by rw [← hk]; exact blt_lt c3'
    have hk' : u.last = k := by rw [← c6]; exact hk
    refine ⟨by simp [c1], fun w' hx l hl => ?_⟩
    have hl' : l = i ∨ l = j := by simpa [c1] using hl
    rcases hl' with rfl | rfl
    · exact ⟨o, ho, opx_mono (fun a'' w'' ⟨b', e0, e1, e2⟩ => ⟨e0.trans e1, Y_base e0 _ _ _ _ (Y_of_X hw hsel t _ b' _ _ hk (inv.set hr hlt) c4 e1 e2)⟩) (hX w' hx)⟩
    · refine ⟨o', ho', opx_mono (fun a'' w'' ⟨b', e0, e1, e2⟩ => ⟨e0.trans e1, ?_⟩) (hX' w' hx)⟩
      have := Y_base e0 _ _ _ _ (Y_of_X hw hsel u _ b' _ _ hk' (inv.set hr' hlt') c4' e1 e2)
      show Y P ops Q k b t.count _ _ _
      rw [c5]; exact this
  | .h3 i t j u m v, listed, b, a, w, hk, inv, hc, hb, h => by
    simp only [chk, Bool.and_eq_true, beq_iff_eq] at hc
    obtain ⟨⟨⟨⟨⟨⟨⟨⟨⟨⟨c1, c3⟩, c3'⟩, c3''⟩, c5⟩, c6⟩, c7⟩, c8⟩, c4⟩, c4'⟩, c4''⟩ := hc
    obtain ⟨⟨o, ho, hX⟩, ⟨o', ho', hX'⟩, ⟨o'', ho'', hX''⟩⟩ := h
    have hr : i ∈ Region.ready .any ops listed := by simp [c1]
    have hr' : j ∈ Region.ready .any ops listed := by simp [c1]
    have hr'' : m ∈ Region.ready .any ops listed := by simp [c1]
    have hlt : i < k := by rw [← hk]; exact blt_lt c3
    have hlt' : j < k := by rw [← hk]; exact blt_lt c3'
    have hlt'' : m < k := by rw [← hk]; exact blt_lt c3''
    have hk' : u.last = k := by rw [← c6]; exact hk
    have hk'' : v.last = k := by rw [← c8]; exact hk
    refine ⟨by simp [c1], fun w' hx l hl => ?_⟩
    have hl' : l = i ∨ l = j ∨ l = m := by simpa [c1] using hl
    rcases hl' with rfl | rfl | rfl
    · exact ⟨o, ho, opx_mono (fun a'' w'' ⟨b', e0, e1, e2⟩ => ⟨e0.trans e1, Y_base e0 _ _ _ _ (Y_of_X hw hsel t _ b' _ _ hk (inv.set hr hlt) c4 e1 e2)⟩) (hX w' hx)⟩
    · refine ⟨o', ho', opx_mono (fun a'' w'' ⟨b', e0, e1, e2⟩ => ⟨e0.trans e1, ?_⟩) (hX' w' hx)⟩
      have := Y_base e0 _ _ _ _ (Y_of_X hw hsel u _ b' _ _ hk' (inv.set hr' hlt') c4' e1 e2)
      show Y P ops Q k b t.count _ _ _
      rw [c5]; exact this
    · refine ⟨o'', ho'', opx_mono (fun a'' w'' ⟨b', e0, e1, e2⟩ => ⟨e0.trans e1, ?_⟩) (hX'' w' hx)⟩
      have := Y_base e0 _ _ _ _ (Y_of_X hw hsel v _ b' _ _ hk'' (inv.set hr'' hlt'') c4'' e1 e2)
      show Y P ops Q k b t.count _ _ _
      rw [c7]; exact this
theorem wpAny_of_chain : ∀ (m k : Nat) (listed : Array Bool) (a : Act) (w : World), chainB ops m k listed = true → wpOps P ops Q (List.range' k m) a w → wpAny P .any ops Q m listed a w
  | 0, k, listed, a, w, h, hw => by
    simp only [chainB, beq_iff_eq] at h
    exact ⟨h, by simpa [wpOps] using hw⟩
  | m + 1, k, listed, a, w, h, hw => by
    simp only [chainB, Bool.and_eq_true, beq_iff_eq] at h
    refine wpAny_all h.1 (by simp) fun i hi => ?_
    obtain rfl : i = k := by simpa using hi
    rw [List.range'_succ, wpOps_cons] at hw
    exact wpOp_mono (fun a' w' h' => wpAny_of_chain m (i + 1) _ a' w' h.2 h') hw
theorem wpAny_of_Y [Dr] {k : Nat} {b : World} : ∀ (m : Nat) (listed : Array Bool) (a : Act) (w : World), Y P ops Q k b m listed a w → wpAny P .any ops Q (m + (ops.size - k)) listed a w
  | 0, listed, a, w, h => by rw [Nat.zero_add]; exact wpAny_of_chain _ k listed a w h.1 (h.2 w (Ext.refl w))
  | m + 1, listed, a, w, h => by
    rw [show m + 1 + (ops.size - k) = (m + (ops.size - k)) + 1 by omega]
    refine ⟨fun h0 => absurd h0 h.1, fun i hi => ?_⟩
    obtain ⟨o, ho, hx⟩ := h.2 w (Ext.refl w) i hi
    exact wpOp_of_opx ho (opx_mono (fun a' w' h' => wpAny_of_Y m _ a' w' h'.2) hx)
theorem headInv_start (k : Nat) : HeadInv .any ops k (Array.replicate ops.size false) :=
  ⟨by simp, (fun j oj _ hl => by rw [getD_replicate_false] at hl; cases hl), fun t _ ht => by simp [ht]⟩
def chkAll (l : List Oper) (t : Tr) : Bool :=
  Region.noSelect l.toArray && (Nat.ble l.length t.last || (Region.sinkB .any l.toArray t.last && Region.chainB .any l.toArray t.last)) && chk l.toArray t (Array.replicate l.length false) && Nat.beq (t.count + (l.length - t.last)) l.length
theorem drawn_world [Dr] {w : World} : Ext w { w with drawn := w.drawn + 1 } := ⟨⟨rfl, rfl, rfl, Nat.le_refl _, fun _ _ => rfl⟩, fun _ => Nat.le_succ _⟩
theorem wp_drawn [Dr] {id : Nat} {l : List Oper} {a : Act} {w : World} (t : Tr) (hm : P.follows .mixedOrders = true) (hc : chkAll l t = true) (h : X P l.toArray Q t { w with drawn := w.drawn + 1 } a { w with drawn := w.drawn + 1 }) : (Code.region id l.toArray true).wp P Q a w := by
  simp only [chkAll, Bool.and_eq_true, Bool.or_eq_true] at hc
  obtain ⟨⟨⟨c1, c2⟩, c3⟩, c4⟩ := hc
  have hw : Waits l.toArray t.last := waits_of (by
    rcases c2 with c2 | c2
    · left; simpa [Nat.ble_eq] using c2
    · right; exact c2)
  have hlen := Nat.eq_of_beq_eq_true c4
  have hY := Y_of_X hw (Region.noSelect_spec c1) t (Array.replicate l.toArray.size false) _ a _ rfl (headInv_start _) (by simpa using c3) (Ext.refl _) h
  have := wpAny_of_Y _ _ _ _ hY
  refine wp_region_any hm ?_
  have e : t.count + (l.toArray.size - t.last) = l.toArray.size := by simpa using hlen
  rw [e] at this
  exact this
end
/-! ### The same on live slots -/
def nthO : List Oper → Nat → Option Oper
  | [], _ => none
  | o :: _, 0 => some o
  | _ :: l, i + 1 => nthO l i
theorem nthO_eq : ∀ (l : List Oper) (i : Nat), nthO l i = l[i]?
  | [], _ => rfl
  | _ :: _, 0 => rfl
  | _ :: l, i + 1 => by simpa [nthO] using nthO_eq l i
def dropO : Nat → List Oper → List Oper
  | 0, l => l
  | _ + 1, [] => []
  | k + 1, _ :: l => dropO k l
theorem dropO_eq : ∀ (k : Nat) (l : List Oper), dropO k l = l.drop k
  | 0, _ => by simp [dropO]
  | _ + 1, [] => by simp [dropO]
  | k + 1, _ :: l => by simpa [dropO] using dropO_eq k l
def D [Dr] (P : Program) (n : Sz) (l : List Oper) (Q : Exit → Act → World → Prop) (t : Tr) (L : Env) (w : World) : Prop := ∀ a, Fr n a L → X P l.toArray Q t w a w
/-- An operation that yields this value in every later world. -/
def RunsAt [Dr] (P : Program) (L : Env) (w : World) (op : Op) (ty : TypeId) (v : Value) : Prop :=
  ∀ w', Ext w w' → ∀ ρ, Rho L ρ → ∀ dst pos af g, (execOp ρ ⟨dst, op, ty, pos, af, g⟩).run P w' = .ok (.value v) w'
section
variable {P : Program} {n : Sz} {l : List Oper} {Q : Exit → Act → World → Prop} {L : Env} {w : World} {t u : Tr} {i j : Nat}
  {d : Nat} {op : Op} {ty : TypeId} {pos : String} {af : Array Edge} {y : Code}
theorem W_drawn [Dr] {id : Nat} (t : Tr) (hm : P.follows .mixedOrders = true) (hc : chkAll l t = true) (h : D P n l Q t L { w with drawn := w.drawn + 1 }) : W P n (.region id l.toArray true) Q L w :=
  fun a fr => wp_drawn t hm hc (h a fr)
theorem W_seqd [Dr] {id : Nat} (t : Tr) (hm : P.follows .mixedOrders = true) (hc : chkAll l t = true) (h : ∀ w', Ext w w' → D P n l (seqQ P y Q) t L w') : W P n (.seq (.region id l.toArray true) y) Q L w :=
  W_seq (W_drawn t hm hc (h _ drawn_world))
theorem W_regd [Dr] {id : Nat} (t : Tr) (hm : P.follows .mixedOrders = true) (hc : chkAll l t = true) (h : ∀ w', Ext w w' → D P n l Q t L w') : W P n (.region id l.toArray true) Q L w :=
  W_drawn t hm hc (h _ drawn_world)
theorem D_v [Dr] {v : Value} (hr : RunsAt P L w op ty v) (ho : nthO l i = some ⟨some d, op, ty, pos, af, none⟩) (hn : Nat.blt d n.n = true) (h : D P n l Q t ((d, v) :: L) w) : D P n l Q (.q i t) L w := fun a fr => by
  refine ⟨_, v, by rw [nthO_eq] at ho; simpa using ho, .inl ⟨by simp [Region.wanted], fun w' hx => ?_⟩, h _ (fr.put hn)⟩
  rw [hr w' hx _ fr.rho]
  exact ⟨rfl, rfl⟩
/-- Under a guard that says yes. -/
theorem D_vg [Dr] {v : Value} {j : Nat} {want b : Bool} {s : Nat} {oj : Oper} (hr : RunsAt P L w op ty v) (ho : nthO l i = some ⟨some d, op, ty, pos, af, some (j, want)⟩) (hj : nthO l j = some oj) (hd : oj.dst = some s) (hb : gt L s = some (.bool b)) (hw : b = want) (hn : Nat.blt d n.n = true)
    (h : D P n l Q t ((d, v) :: L) w) : D P n l Q (.q i t) L w := fun a fr => by
  have hj' : l.toArray[j]? = some oj := by rw [nthO_eq] at hj; simpa using hj
  have hy : yielded l.toArray a.tmps j = some b := by simp only [yielded, hj', Option.bind_some, hd, fr.get s _ hb]
  refine ⟨_, v, by rw [nthO_eq] at ho; simpa using ho, .inl ⟨by simp [Region.wanted, hy, hw], fun w' hx => ?_⟩, h _ (fr.put hn)⟩
  rw [hr w' hx _ fr.rho]
  exact ⟨rfl, rfl⟩
/-- Under a guard that says no. -/
theorem D_no [Dr] {j : Nat} {want b : Bool} {s : Nat} {oj : Oper} (ho : nthO l i = some ⟨some d, op, ty, pos, af, some (j, want)⟩) (hj : nthO l j = some oj) (hd : oj.dst = some s) (hb : gt L s = some (.bool b)) (hw : b = !want) (hn : Nat.blt d n.n = true)
    (h : D P n l Q t ((d, undef) :: L) w) : D P n l Q (.q i t) L w := fun a fr => by
  have hj' : l.toArray[j]? = some oj := by rw [nthO_eq] at hj; simpa using hj
  have hy : yielded l.toArray a.tmps j = some b := by simp only [yielded, hj', Option.bind_some, hd, fr.get s _ hb]
  exact ⟨_, undef, by rw [nthO_eq] at ho; simpa using ho, .inr ⟨by simp [Region.wanted, hy, hw], rfl⟩, h _ (fr.put hn)⟩
theorem D_no2 [Dr] {j : Nat} {want : Bool} {s : Nat} {oj : Oper} (ho : nthO l i = some ⟨some d, op, ty, pos, af, some (j, want)⟩) (hj : nthO l j = some oj) (hd : oj.dst = some s) (hb : gt L s = some undef) (hn : Nat.blt d n.n = true)
    (h : D P n l Q t ((d, undef) :: L) w) : D P n l Q (.q i t) L w := fun a fr => by
  have hj' : l.toArray[j]? = some oj := by rw [nthO_eq] at hj; simpa using hj
  have hy : yielded l.toArray a.tmps j = none := by simp only [yielded, hj', Option.bind_some, hd, fr.get s _ hb, undef]
  exact ⟨_, undef, by rw [nthO_eq] at ho; simpa using ho, .inr ⟨by simp [Region.wanted, hy], rfl⟩, h _ (fr.put hn)⟩
theorem RunsAt_pu [Dr] {v : Value} (h : pu L op = some v) : RunsAt P L w op ty v := fun _ _ ρ hρ dst pos af _ => pu_run (dst := dst) (pos := pos) (af := af) h ρ hρ
def puD (n : Sz) (l : List Oper) : Nat → Tr → Env → Option (Tr × Env)
  | 0, t, L => some (t, L)
  | k + 1, .q i t, L => match nthO l i with
    | some ⟨some d, op, _, _, _, none⟩ => match pu L op with
      | some v => bif Nat.blt d n.n then puD n l k t ((d, v) :: L) else none
      | none => none
    | _ => none
  | _ + 1, _, _ => none
/-- Some operations at once that only compute. -/
theorem D_pu [Dr] : ∀ (k : Nat) {t t' : Tr} {L L' : Env}, puD n l k t L = some (t', L') → D P n l Q t' L' w → D P n l Q t L w
  | 0, t, t', L, L', h, hD => by simp only [puD, Option.some.injEq, Prod.mk.injEq] at h; obtain ⟨rfl, rfl⟩ := h; exact hD
  | k + 1, .tail _, t', L, L', h, hD => by simp only [puD, reduceCtorEq] at h
  | k + 1, .h _ _, t', L, L', h, hD => by simp only [puD, reduceCtorEq] at h
  | k + 1, .h2 _ _ _ _, t', L, L', h, hD => by simp only [puD, reduceCtorEq] at h
  | k + 1, .h3 _ _ _ _ _ _, t', L, L', h, hD => by simp only [puD, reduceCtorEq] at h
  | k + 1, .q i t, t', L, L', h, hD => by
    simp only [puD] at h
    split at h
    · rename_i d op ty pos af ho
      split at h
      · rename_i v hv
        cases hd : Nat.blt d n.n with
        | false => rw [hd] at h; cases h
        | true => rw [hd] at h; exact D_v (RunsAt_pu hv) ho hd (D_pu k h hD)
      · cases h
    · cases h
/-- A call whose value is the same in every later world. -/
theorem D_call [Dr] {f : FuncId} {args : List Operand} {vs : List Value} {at_ : Array TypeId} {v : Value} (ho : nthO l i = some ⟨some d, .call ⟨.value (.func f), args.toArray, at_⟩, ty, pos, af, none⟩) (ha : evl L args = some vs) (hn : Nat.blt d n.n = true)
    (hok : ∀ w', Ext w w' → Ok P f vs w' (fun u w'' => Ext w' w'' ∧ u = v)) (h : D P n l Q t ((d, v) :: L) w) : D P n l Q (.q i t) L w := fun a fr => by
  refine ⟨_, v, by rw [nthO_eq] at ho; simpa using ho, .inl ⟨by simp [Region.wanted], fun w' hx => ?_⟩, h _ (fr.put hn)⟩
  rw [run_call (hok w' hx).1 ha _ fr.rho]
  exact ⟨rfl, (hok w' hx).2.mono fun e w'' ⟨u, he, hx', hu⟩ => ⟨by rw [he, hu], hx'⟩⟩
theorem D_callg [Dr] {f : FuncId} {args : List Operand} {vs : List Value} {at_ : Array TypeId} {v : Value} {j : Nat} {want b : Bool} {s : Nat} {oj : Oper} (ho : nthO l i = some ⟨some d, .call ⟨.value (.func f), args.toArray, at_⟩, ty, pos, af, some (j, want)⟩)
    (hj : nthO l j = some oj) (hd : oj.dst = some s) (hb : gt L s = some (.bool b)) (hw : b = want) (ha : evl L args = some vs) (hn : Nat.blt d n.n = true)
    (hok : ∀ w', Ext w w' → Ok P f vs w' (fun u w'' => Ext w' w'' ∧ u = v)) (h : D P n l Q t ((d, v) :: L) w) : D P n l Q (.q i t) L w := fun a fr => by
  have hj' : l.toArray[j]? = some oj := by rw [nthO_eq] at hj; simpa using hj
  have hy : yielded l.toArray a.tmps j = some b := by simp only [yielded, hj', Option.bind_some, hd, fr.get s _ hb]
  refine ⟨_, v, by rw [nthO_eq] at ho; simpa using ho, .inl ⟨by simp [Region.wanted, hy, hw], fun w' hx => ?_⟩, h _ (fr.put hn)⟩
  have hrun := run_call (P := P) (w := w') (ty := ty) (pos := pos) (af := af) (at_ := at_) (dst := some d) (hok w' hx).1 ha _ fr.rho
  have e : execOp a.eval ⟨some d, .call ⟨.value (.func f), args.toArray, at_⟩, ty, pos, af, some (j, want)⟩ = execOp a.eval ⟨some d, .call ⟨.value (.func f), args.toArray, at_⟩, ty, pos, af, none⟩ := rfl
  rw [e, hrun]
  exact ⟨rfl, (hok w' hx).2.mono fun e w'' ⟨u, he, hx', hu⟩ => ⟨by rw [he, hu], hx'⟩⟩
/-- A call that makes memory, in its place. -/
theorem D_hcall [Dr] {f : FuncId} {args : List Operand} {vs : List Value} {at_ : Array TypeId} {R : World → Value → World → Prop} (ho : nthO l i = some ⟨some d, .call ⟨.value (.func f), args.toArray, at_⟩, ty, pos, af, none⟩) (ha : evl L args = some vs) (hn : Nat.blt d n.n = true)
    (hok : ∀ w', Ext w w' → Ok P f vs w' (fun u w'' => Ext w' w'' ∧ R w' u w'')) (h : ∀ w' v w'', Ext w w' → Ext w' w'' → R w' v w'' → D P n l Q t ((d, v) :: L) w'') : D P n l Q (.h i t) L w := fun a fr => by
  refine ⟨_, by rw [nthO_eq] at ho; simpa using ho, fun w' hx => ?_⟩
  unfold opx
  rw [if_pos (by simp [Region.wanted]), run_call (hok w' hx).1 ha _ fr.rho]
  exact (hok w' hx).2.mono fun e w'' ⟨v, he, h1, h2⟩ => ⟨v, he, w'', hx.trans h1, Ext.refl _, h w' v w'' hx h1 h2 _ (fr.put hn)⟩
/-- An operation that makes memory, in its place. -/
theorem D_hop [Dr] {R : World → Value → World → Prop} (ho : nthO l i = some ⟨some d, op, ty, pos, af, none⟩) (hn : Nat.blt d n.n = true)
    (hok : ∀ w', Ext w w' → ∀ ρ, Rho L ρ → ∃ v w'', (execOp ρ ⟨some d, op, ty, pos, af, none⟩).run P w' = .ok (.value v) w'' ∧ Ext w' w'' ∧ R w' v w'') (h : ∀ w' v w'', Ext w w' → Ext w' w'' → R w' v w'' → D P n l Q t ((d, v) :: L) w'') : D P n l Q (.h i t) L w := fun a fr => by
  refine ⟨_, by rw [nthO_eq] at ho; simpa using ho, fun w' hx => ?_⟩
  obtain ⟨v, w'', hrun, h1, h2⟩ := hok w' hx _ fr.rho
  unfold opx
  rw [if_pos (by simp [Region.wanted]), hrun]
  exact ⟨w'', hx.trans h1, Ext.refl _, h w' v w'' hx h1 h2 _ (fr.put hn)⟩
theorem D_h2 [Dr] (h1 : D P n l Q (.h i t) L w) (h2 : D P n l Q (.h j u) L w) : D P n l Q (.h2 i t j u) L w := fun a fr => ⟨h1 a fr, h2 a fr⟩
theorem D_tail [Dr] {k : Nat} (h : ∀ w', Ext w w' → S P n l.toArray Q (dropO k l) L w') : D P n l Q (.tail k) L w := fun a fr => fun w' hx => by
  have := h w' hx a fr
  rw [dropO_eq] at this
  have e := wpOps_eq_wpList (P := P) (ops := l.toArray) (Q := Q) (l.drop k) k (fun j => by simp)
  rw [List.length_drop] at e
  show wpOps P l.toArray Q (List.range' k (l.toArray.size - k)) a w'
  rw [List.size_toArray, e]
  exact this
/-- A bool parts the ways. -/
theorem D_split [Dr] {s : Nat} {b : Bool} (_hb : gt L s = some (.bool b)) (h1 : b = true → D P n l Q t L w) (h2 : b = false → D P n l Q t L w) : D P n l Q t L w := by
  cases b
  · exact h2 rfl
  · exact h1 rfl
theorem S_split {ops : Array Oper} {rest : List Oper} {s : Nat} {b : Bool} (_hb : gt L s = some (.bool b)) (h1 : b = true → S P n ops Q rest L w) (h2 : b = false → S P n ops Q rest L w) : S P n ops Q rest L w := by
  cases b
  · exact h2 rfl
  · exact h1 rfl
theorem r_pickT [Dr] {c x y : Operand} {b : Bool} {v : Value} (hc : ev L c = some (.bool b)) (hb : b = true) (hx : ev L x = some v) : RunsAt P L w (.pick c x y) ty v := fun w' _ ρ hρ dst pos af g => by
  subst hb; simp [execOp, hρ c _ hc, hρ x _ hx, asBool]
theorem r_pickF [Dr] {c x y : Operand} {b : Bool} {v : Value} (hc : ev L c = some (.bool b)) (hb : b = false) (hx : ev L y = some v) : RunsAt P L w (.pick c x y) ty v := fun w' _ ρ hρ dst pos af g => by
  subst hb; simp [execOp, hρ c _ hc, hρ y _ hx, asBool]
theorem S_v [Dr] {ops : Array Oper} {rest : List Oper} {v : Value} (hr : RunsAt P L w op ty v) (hn : Nat.blt d n.n = true) (h : S P n ops Q rest ((d, v) :: L) w) : S P n ops Q (⟨some d, op, ty, pos, af, none⟩ :: rest) L w :=
  S_value rfl rfl hn (fun ρ hρ => hr w (Ext.refl w) ρ hρ _ _ _ _) h
end
end Go.E
end
section
namespace Go.E
open Go Go.RowKit
def Zr (P : Program) (t : TypeId) (z : Value) (sz bt : Nat) : Prop := (P.info? t).map (fun i => (i.zero, i.size, i.bytes)) = some (some z, sz, bt)
theorem Zr.parts {P : Program} {t : TypeId} {z : Value} {sz bt : Nat} (h : Zr P t z sz bt) : ∃ i, P.info? t = some i ∧ i.zero = some z ∧ i.size = sz ∧ i.bytes = bt := by
  unfold Zr at h
  cases hi : P.info? t with
  | none => rw [hi] at h; cases h
  | some i => rw [hi] at h; simp at h; exact ⟨i, rfl, h.1, h.2.1, h.2.2⟩
def plainT : TypeDesc → Bool
  | .struct _ | .array _ _ => false
  | _ => true
def aggT : TypeDesc → Bool
  | .struct _ | .array _ _ => true
  | _ => false
def nthR : List Res → Nat → Option Res
  | [], _ => none
  | r :: _, 0 => some r
  | _ :: l, i + 1 => nthR l i
def setR : List Res → Nat → Res → List Res
  | [], _, _ => []
  | _ :: l, 0, s => s :: l
  | r :: l, i + 1, s => r :: setR l i s
def delR : List Res → Nat → List Res
  | [], _ => []
  | _ :: l, 0 => l
  | r :: l, i + 1 => r :: delR l i
theorem perm_nth : ∀ {O : List Res} {i : Nat} {r : Res}, nthR O i = some r → O.Perm (r :: delR O i)
  | r :: l, 0, s, h => by simp only [nthR, Option.some.injEq] at h; subst h; exact List.Perm.refl _
  | r :: l, i + 1, s, h => ((perm_nth (O := l) (i := i) h).cons r).trans (List.Perm.swap _ _ _)
theorem perm_set : ∀ {O : List Res} {i : Nat} {r : Res} (s : Res), nthR O i = some r → (setR O i s).Perm (s :: delR O i)
  | _r :: _l, 0, _, _s, _h => List.Perm.refl _
  | r :: l, i + 1, _, s, h => ((perm_set (O := l) (i := i) s h).cons r).trans (List.Perm.swap _ _ _)
section
variable {w0 w w' : World} {O : List Res} {r r' : Res} {i : Nat}
theorem Lcl.at [Dr] (h : Lcl w0 O w) (hi : nthR O i = some r) : r.ok w := h.res r ((perm_nth hi).mem_iff.2 (.head _))
theorem Lcl.turnAt [Dr] (h : Lcl w0 O w) (hi : nthR O i = some r) (hdr : w.drawn ≤ w'.drawn) (hg : w.grownBy w' r.block) (hok : r'.ok w') (hb : ∀ b, r'.block = some b → r.block = some b ∨ w.heap.size ≤ b) : Lcl w0 (setR O i r') w' :=
  ((h.perm (perm_nth hi).symm).turn hdr hg hok hb).perm (perm_set r' hi)
theorem fz_turnAt [Dr] (h : Lcl w0 O w) (hi : nthR O i = some r) (hg : w.grownBy w' r.block) (hb : ∀ b, r'.block = some b → r.block = some b ∨ w.heap.size ≤ b) : Le (fz w O) (fz w' (setR O i r')) := by
  rw [fz_perm (perm_set r' hi), fz_perm (perm_nth hi)]
  exact fz_turn (h.perm (perm_nth hi).symm) hg hb
/-- What is owned is given up: it lies fast from now on. -/
theorem Lcl.dropAt [Dr] (h : Lcl w0 O w) (hi : nthR O i = some r) : Lcl w0 (delR O i) w := (h.perm (perm_nth hi).symm).drop
theorem fz_dropAt (hi : nthR O i = some r) : Le (fz w O) (fz w (delR O i)) := by
  rw [fz_perm (perm_nth hi)]; exact fz_drop
theorem fz_hp_drop {k : Nat} (hi : nthR O i = some r) (hb : r.block = some k) (hdis : O.Pairwise fun r s => ∀ b, r.block = some b → s.block ≠ some b) : fz w (delR O i) k = w.heap[k]? := by
  unfold fz
  rw [if_neg]
  intro ho
  obtain ⟨s, hs, e⟩ := owned_iff.1 ho
  have := (perm_nth hi).pairwise hdis (fun {x y} hxy b hb hx => hxy b hx hb)
  exact (List.pairwise_cons.1 this).1 s hs k hb e
end
section
variable {P : Program} {n : Sz} {ops : Array Oper} {Q : Exit → Act → World → Prop} {L : Env} {w w0 : World} {O : List Res} {rest : List Oper}
  {d : Nat} {ty : TypeId} {pos : String} {af : Array Edge} {α : Type} {r : Rp α} {H : PH} {x y : Operand} {v : Value} {t e : TypeId}
/-! ### What only looks -/
theorem r_len [Dr] {l : List α} (hx : ev L x = some v) (ht : P.underlying t = some (.slice e)) (hv : Vec r H v l) : RunsAt P L w (.call ⟨.builtin .len, #[x], #[t]⟩) ty (.int .i64 (l.length : Int)) := by
  obtain ⟨a, cap, rfl⟩ := hv.header
  intro w' _ ρ hρ dst pos af g
  simp [execOp, resolve, hρ x _ hx, invoke, builtin, Builtin.len_, run_underlying ht, goInt]
theorem r_lenH [Dr] {a : Option Addr} {m cap : Nat} (hx : ev L x = some (.slice a m cap)) (ht : P.underlying t = some (.slice e)) : RunsAt P L w (.call ⟨.builtin .len, #[x], #[t]⟩) ty (.int .i64 (m : Int)) := by
  intro w' _ ρ hρ dst pos af g
  simp [execOp, resolve, hρ x _ hx, invoke, builtin, Builtin.len_, run_underlying ht, goInt]
theorem ownsRow_header {b sz m : Nat} {xs : List Value} (h : w.ownsRow b e sz v m xs) : ∃ a cap, v = .slice a m cap := by
  rcases h.2 with ⟨rfl, hn⟩ | ⟨g, cap, cur, rfl, _⟩
  · exact ⟨none, 0, by rw [hn]⟩
  · exact ⟨_, _, rfl⟩
theorem r_lenR [Dr] {i sz m : Nat} {xs : List Value} {e' : TypeId} (hx : ev L x = some v) (ht : P.underlying t = some (.slice e)) (hL : Lcl w0 O w) (hi : nthR O i = some (.row v e' sz m xs)) : RunsAt P L w (.call ⟨.builtin .len, #[x], #[t]⟩) ty (.int .i64 (m : Int)) := by
  obtain ⟨a, cap, rfl⟩ := ownsRow_header (hL.at hi)
  exact r_lenH hx ht
theorem addr_add_add {A : Addr} (h : A.spot = none) (i j : Nat) : (A.add i).add j = A.add (i + j) := by
  obtain ⟨b, o, s⟩ := A
  cases h
  simp [Addr.add_lit, Nat.add_assoc]
theorem addr_add_spot {A : Addr} (h : A.spot = none) (i : Nat) : (A.add i).spot = none := by
  obtain ⟨b, o, s⟩ := A
  cases h
  simp [Addr.add_lit]
theorem PtrTo.add {p : Addr} {c : List Value} (h : PtrTo H p c) (k : Nat) : PtrTo H (p.add k) (c.drop k) :=
  ⟨addr_add_spot h.1 k, fun j u hu => by rw [addr_add_add h.1]; exact h.2 (k + j) u (by simpa using hu)⟩
theorem PtrTo.mono {H' : PH} {p : Addr} {c : List Value} (h : PtrTo H p c) (hs : Le H H') : PtrTo H' p c := ⟨h.1, fun j u hu => cellP_mono hs (h.2 j u hu)⟩
/-- The place of an element. -/
theorem Vec.ptr {l : List α} (hv : Vec r H v l) (m : Nat) {z : α} (hl : l[m]? = some z) : ∃ (a : Addr) (cap : Nat) (c : List Value), v = .slice (some a) l.length cap ∧ r.rel H z c ∧ PtrTo H (a.add (m * r.sz)) c := by
  obtain ⟨a, cap, h1, h2, h3, h4, h5⟩ := hv.ex
  have hlt : m < l.length := (List.getElem?_eq_some_iff.1 hl).1
  cases a with
  | none => have := h4 rfl; omega
  | some A =>
    obtain ⟨hs, hh⟩ := h5 A rfl (fun e => by subst e; simp at hlt)
    obtain ⟨c, hc, hcell⟩ := hh m z hl
    exact ⟨A, cap, c, h1, hc, addr_add_spot hs _, fun j u hu => by rw [addr_add_add hs]; exact hcell j u hu⟩
theorem r_index [Dr] {l : List α} {k : IntKind} {i : Int} {zz : Value} {bt : Nat} (hx : ev L x = some v) (hy : ev L y = some (.int k i)) (ht : P.underlying t = some (.slice e)) (he : Zr P e zz r.sz bt) (hv : Vec r H v l) (m : Nat) (hm : i = (m : Int)) {z : α} (hl : l[m]? = some z) :
    ∃ p c, r.rel H z c ∧ PtrTo H p c ∧ ∀ w, RunsAt P L w (.indexAddr t x y) ty (.pointer (some p)) := by
  obtain ⟨a, cap, c, rfl, hc, hp⟩ := hv.ptr m hl
  refine ⟨_, c, hc, hp, fun w w' _ ρ hρ dst pos af g => ?_⟩
  obtain ⟨inf, h1, h2, h3, h4⟩ := he.parts
  have hlt : m < l.length := (List.getElem?_eq_some_iff.1 hl).1
  subst hm
  have e1 : (0 : Int) ≤ (m : Int) ∧ (m : Int) < (l.length : Int) := by omega
  simp [execOp, hρ x _ hx, hρ y _ hy, Instr.indexAt, asIntOf, run_underlying ht, sizeOf, typeInfo, h1, h3, hlt]
theorem r_load1 [Dr] {p : Addr} {u : Value} {c : List Value} {dd : TypeDesc} (hx : ev L x = some (.pointer (some p))) (ht : P.underlying t = some dd) (hd : plainT dd = true) (hp' : PtrTo H p (u :: c)) (hs : Le H (hp w)) : RunsAt P L w (.load t x) ty u := by
  intro w' hw ρ hρ dst pos af g
  have hcell : w'.cell? p = some u := by
    have := hp'.2 0 u (by simp)
    rw [Addr.add_zero'] at this
    exact cell_of (hs.ext hw) this
  cases dd <;> simp only [plainT, Bool.false_eq_true] at hd <;>
    simp [execOp, hρ x _ hx, Instr.loadAt, Instr.sureAddr, loadVar, isAgg, run_underlying ht, hcell]
theorem run_loadCellsFrom {p : Addr} (w : World) : ∀ (m i : Nat) (c : List Value) (acc : Array Value), c.length = m → (∀ j u, c[j]? = some u → w.cell? (p.add (i + j)) = some u) →
    (loadCellsFrom p i m acc).run P w = .ok (acc ++ c.toArray) w
  | 0, i, c, acc, hl, _ => by
    have : c = [] := List.eq_nil_of_length_eq_zero hl
    subst this
    simp [loadCellsFrom]
  | m + 1, i, [], acc, hl, _ => by simp at hl
  | m + 1, i, u :: c, acc, hl, h => by
    have h0 : w.cell? (p.add i) = some u := by simpa using h 0 u (by simp)
    have ih := run_loadCellsFrom w m (i + 1) c (acc.push u) (by simpa using hl) (fun j v hv => by have := h (j + 1) v (by simpa using hv); rwa [show i + (j + 1) = i + 1 + j from by omega] at this)
    simp [loadCellsFrom, h0, ih]
theorem r_loadN [Dr] {p : Addr} {c : List Value} {dd : TypeDesc} {zz : Value} {bt : Nat} (hx : ev L x = some (.pointer (some p))) (ht : P.underlying t = some dd) (hd : aggT dd = true) (hz : Zr P t zz c.length bt) (hp' : PtrTo H p c) (hs : Le H (hp w)) : RunsAt P L w (.load t x) ty (.agg c.toArray) := by
  intro w' hw ρ hρ dst pos af g
  obtain ⟨inf, h1, h2, h3, h4⟩ := hz.parts
  have hload := run_loadCellsFrom (P := P) (p := p) w' c.length 0 c #[] rfl (fun j u hu => by rw [Nat.zero_add]; exact cell_of (hs.ext hw) (hp'.2 j u hu))
  cases dd <;> simp only [aggT, Bool.false_eq_true] at hd <;>
    simp [execOp, hρ x _ hx, Instr.loadAt, Instr.sureAddr, loadVar, isAgg, run_underlying ht, loadCells, sizeOf, typeInfo, h1, h3, hload]
/-- The address of a field. -/
theorem r_field [Dr] {p : Addr} {fs : Array Field} {f : Nat} {fd : Field} {zz : Value} {sz bt : Nat} (hx : ev L x = some (.pointer (some p))) (ht : P.underlying t = some (.struct fs)) (hf : fs[f]? = some fd) (hz : Zr P fd.type zz sz bt) (hne : sz ≠ 0) :
    RunsAt P L w (.fieldAddr t x f) ty (.pointer (some (p.add fd.offset))) := by
  intro w' hw ρ hρ dst pos af g
  obtain ⟨inf, h1, h2, h3, h4⟩ := hz.parts
  simp [execOp, hρ x _ hx, Instr.fieldAt, run_underlying ht, hf, Instr.sureAddr, fieldPlace, sizeOf, typeInfo, h1, h3, hne]
/-- 'x[lo:hi]'. -/
theorem Vec.sub {l : List α} (hv : Vec r H v l) (lo hi : Nat) (h1 : lo ≤ hi) (h2 : hi ≤ l.length) : ∃ a cap, v = .slice a l.length cap ∧ Vec r H (.slice (if cap = lo then a else a.map (·.add (lo * r.sz))) (hi - lo) (cap - lo)) ((l.drop lo).take (hi - lo)) := by
  obtain ⟨a, cap, rfl, h2', h3, h4, h5⟩ := hv.ex
  refine ⟨a, cap, rfl, ?_⟩
  have hlen : ((l.drop lo).take (hi - lo)).length = hi - lo := by simp; omega
  refine ⟨_, cap - lo, by rw [hlen], by rw [hlen]; omega, by omega, ?_, ?_⟩
  · intro ha
    split at ha
    · rename_i e; omega
    · cases a with
      | none => have := h4 rfl; omega
      | some A => cases ha
  · intro A hA hne
    have hpos : lo < hi := by
      rcases Nat.lt_or_ge lo hi with h | h
      · exact h
      · exfalso; apply hne; simp; omega
    rw [if_neg (by omega)] at hA
    cases a with
    | none => cases hA
    | some A0 =>
      cases hA
      obtain ⟨hs, hh⟩ := h5 A0 rfl (fun e => by subst e; simp at h2; omega)
      refine ⟨addr_add_spot hs _, fun i z hz => ?_⟩
      rw [List.getElem?_take] at hz
      split at hz
      · rw [List.getElem?_drop] at hz
        obtain ⟨c, hc, hcell⟩ := hh (lo + i) z hz
        refine ⟨c, hc, fun j u hu => ?_⟩
        rw [addr_add_add hs, show lo * r.sz + (i * r.sz + j) = (lo + i) * r.sz + j from by rw [Nat.add_mul]; omega]
        exact hcell j u hu
      · cases hz
def loB (L : Env) (lo : Option Operand) (a : Nat) : Prop := match lo with | some o => ∃ k, ev L o = some (.int k (a : Int)) | none => a = 0
def hiB (L : Env) (hi : Option Operand) (b m : Nat) : Prop := match hi with | some o => ∃ k, ev L o = some (.int k (b : Int)) | none => b = m
theorem r_slice [Dr] {l : List α} {lo hi : Option Operand} {zz : Value} {bt : Nat} (hx : ev L x = some v) (ht : P.underlying t = some (.slice e)) (he : Zr P e zz r.sz bt) (hv : Vec r H v l) (a b : Nat)
    (ha : loB L lo a) (hb : hiB L hi b l.length) (h1 : a ≤ b) (h2 : b ≤ l.length) :
    ∃ v', Vec r H v' ((l.drop a).take (b - a)) ∧ ∀ w, RunsAt P L w (.slice t x lo hi none) ty v' := by
  obtain ⟨A, cap, hv0, hsub⟩ := hv.sub a b h1 h2
  refine ⟨_, hsub, fun w w' _ ρ hρ dst pos af g => ?_⟩
  obtain ⟨inf, i1, i2, i3, i4⟩ := he.parts
  obtain ⟨A', cap', h0, hc1, hc2, hc3, hc4⟩ := hv.ex
  have hcc : cap = cap' := by rw [hv0] at h0; cases h0; rfl
  have hbc : b ≤ cap := by omega
  subst hv0
  have e2 : (b : Int) ≤ (cap : Int) := by omega
  have e3 : (a : Int) ≤ (b : Int) := by omega
  cases lo with
  | none =>
    simp only [loB] at ha
    subst ha
    cases hi with
    | none =>
      simp only [hiB] at hb
      subst hb
      simp [execOp, hρ x _ hx, Instr.sliceAt, run_underlying ht, Instr.slice, Instr.sliceBounds, sizeOf, typeInfo, i1]
    | some o2 =>
      obtain ⟨k2, hb⟩ := hb
      simp [execOp, hρ x _ hx, hρ o2 _ hb, Instr.sliceAt, run_underlying ht, Instr.slice, Instr.sliceBounds, Instr.sliceBound, asIntOf, sizeOf, typeInfo, i1, hbc]
  | some o1 =>
    obtain ⟨k1, ha⟩ := ha
    cases hi with
    | none =>
      simp only [hiB] at hb
      subst hb
      simp [execOp, hρ x _ hx, hρ o1 _ ha, Instr.sliceAt, run_underlying ht, Instr.slice, Instr.sliceBounds, Instr.sliceBound, asIntOf, sizeOf, typeInfo, i1, i3, h1]
    | some o2 =>
      obtain ⟨k2, hb⟩ := hb
      simp [execOp, hρ x _ hx, hρ o1 _ ha, hρ o2 _ hb, Instr.sliceAt, run_underlying ht, Instr.slice, Instr.sliceBounds, Instr.sliceBound, asIntOf, sizeOf, typeInfo, i1, i3, hbc, h1]
/-! ### The same as steps -/
theorem getD_some {β : Type} [Inhabited β] {l : List β} {m : Nat} (h : m < l.length) : l[m]? = some (l.getD m default) := by simp [h]
theorem S_index [Dr] [Inhabited α] {l : List α} {k : IntKind} {i : Int} {zz : Value} {bt : Nat} (hx : ev L x = some v) (hy : ev L y = some (.int k i)) (ht : P.underlying t = some (.slice e)) (he : Zr P e zz r.sz bt) (hv : Vec r H v l) (m : Nat) (hm : i = (m : Int)) (hlt : m < l.length) (hn : Nat.blt d n.n = true)
    (h : ∀ p c, r.rel H (l.getD m default) c → PtrTo H p c → S P n ops Q rest ((d, .pointer (some p)) :: L) w) : S P n ops Q (⟨some d, .indexAddr t x y, ty, pos, af, none⟩ :: rest) L w := by
  obtain ⟨p, c, h1, h2, h3⟩ := r_index (P := P) (ty := ty) hx hy ht he hv m hm (getD_some hlt)
  exact S_v (h3 w) hn (h p c h1 h2)
theorem D_index [Dr] [Inhabited α] {lo : List Oper} {ix : Nat} {tr : Tr} {l : List α} {k : IntKind} {i : Int} {zz : Value} {bt : Nat} (ho : nthO lo ix = some ⟨some d, .indexAddr t x y, ty, pos, af, none⟩) (hx : ev L x = some v) (hy : ev L y = some (.int k i)) (ht : P.underlying t = some (.slice e)) (he : Zr P e zz r.sz bt) (hv : Vec r H v l) (m : Nat) (hm : i = (m : Int)) (hlt : m < l.length) (hn : Nat.blt d n.n = true)
    (h : ∀ p c, r.rel H (l.getD m default) c → PtrTo H p c → D P n lo Q tr ((d, .pointer (some p)) :: L) w) : D P n lo Q (.q ix tr) L w := by
  obtain ⟨p, c, h1, h2, h3⟩ := r_index (P := P) (ty := ty) hx hy ht he hv m hm (getD_some hlt)
  exact D_v (h3 w) ho hn (h p c h1 h2)
theorem D_indexg [Dr] [Inhabited α] {lo : List Oper} {ix : Nat} {tr : Tr} {l : List α} {k : IntKind} {i : Int} {zz : Value} {bt j s : Nat} {want b : Bool} {oj : Oper} (ho : nthO lo ix = some ⟨some d, .indexAddr t x y, ty, pos, af, some (j, want)⟩) (hj : nthO lo j = some oj) (hd : oj.dst = some s) (hb : gt L s = some (.bool b)) (hw : b = want)
    (hx : ev L x = some v) (hy : ev L y = some (.int k i)) (ht : P.underlying t = some (.slice e)) (he : Zr P e zz r.sz bt) (hv : Vec r H v l) (m : Nat) (hm : i = (m : Int)) (hlt : m < l.length) (hn : Nat.blt d n.n = true)
    (h : ∀ p c, r.rel H (l.getD m default) c → PtrTo H p c → D P n lo Q tr ((d, .pointer (some p)) :: L) w) : D P n lo Q (.q ix tr) L w := by
  obtain ⟨p, c, h1, h2, h3⟩ := r_index (P := P) (ty := ty) hx hy ht he hv m hm (getD_some hlt)
  exact D_vg (h3 w) ho hj hd hb hw hn (h p c h1 h2)
theorem S_slice [Dr] {l : List α} {lo hi : Option Operand} {zz : Value} {bt : Nat} (hx : ev L x = some v) (ht : P.underlying t = some (.slice e)) (he : Zr P e zz r.sz bt) (hv : Vec r H v l) (a b : Nat)
    (ha : loB L lo a) (hb : hiB L hi b l.length) (hab : a ≤ b ∧ b ≤ l.length) (hn : Nat.blt d n.n = true)
    (h : ∀ v', Vec r H v' ((l.drop a).take (b - a)) → S P n ops Q rest ((d, v') :: L) w) : S P n ops Q (⟨some d, .slice t x lo hi none, ty, pos, af, none⟩ :: rest) L w := by
  obtain ⟨v', h1, h2⟩ := r_slice (P := P) (ty := ty) hx ht he hv a b ha hb hab.1 hab.2
  exact S_v (h2 w) hn (h v' h1)
theorem D_slice [Dr] {lop : List Oper} {ix : Nat} {tr : Tr} {l : List α} {lo hi : Option Operand} {zz : Value} {bt : Nat} (ho : nthO lop ix = some ⟨some d, .slice t x lo hi none, ty, pos, af, none⟩) (hx : ev L x = some v) (ht : P.underlying t = some (.slice e)) (he : Zr P e zz r.sz bt) (hv : Vec r H v l) (a b : Nat)
    (ha : loB L lo a) (hb : hiB L hi b l.length) (hab : a ≤ b ∧ b ≤ l.length) (hn : Nat.blt d n.n = true)
    (h : ∀ v', Vec r H v' ((l.drop a).take (b - a)) → D P n lop Q tr ((d, v') :: L) w) : D P n lop Q (.q ix tr) L w := by
  obtain ⟨v', h1, h2⟩ := r_slice (P := P) (ty := ty) hx ht he hv a b ha hb hab.1 hab.2
  exact D_v (h2 w) ho hn (h v' h1)
theorem Vec.one {l : List α} (h : Vec r H v l) : v.oneCell' = true := by obtain ⟨a, c, rfl⟩ := h.header; rfl
end
end Go.E
namespace Go.E
open Go Go.RowKit
theorem on0 : ∀ u ∈ ([] : List Value), u.oneCell' = true := fun _ h => by cases h
theorem onc {v : Value} {l : List Value} (hv : v.oneCell' = true) (hl : ∀ u ∈ l, u.oneCell' = true) : ∀ u ∈ v :: l, u.oneCell' = true := fun u hu => by
  cases hu with
  | head => exact hv
  | tail _ h => exact hl u h
theorem ext_alloc [Dr] (w : World) (o : Obj) : Ext w (w.alloc o) := ⟨(Below.refl _ _).alloc (Nat.le_refl _) o, fun _ => Nat.le_refl _⟩
def setC : List Value → Nat → Value → List Value
  | [], _, _ => []
  | _ :: l, 0, v => v :: l
  | u :: l, i + 1, v => u :: setC l i v
theorem setC_eq : ∀ (l : List Value) (i : Nat) (v : Value), setC l i v = l.set i v
  | [], _, _ => by simp [setC]
  | _ :: _, 0, _ => by simp [setC]
  | _ :: l, i + 1, v => by simp [setC, setC_eq l i v]
section
variable {P : Program} {n : Sz} {ops : Array Oper} {Q : Exit → Act → World → Prop} {L : Env} {w w0 : World} {O : List Res} {rest : List Oper}
  {d : Nat} {ty : TypeId} {pos : String} {af : Array Edge} {α : Type} {r : Rp α} {H : PH} {x y : Operand} {v : Value} {t e : TypeId}
/-! ### Variables -/
theorem run_alloc {z : Value} {sz bt : Nat} (hz : Zr P t z sz bt) (w : World) (ρ : Operand → Value) (o : Oper) (ho : o.op = .alloc t) : (execOp ρ o).run P w = .ok (.value (.pointer (some ⟨w.heap.size, 0, none⟩))) (w.alloc (.cells z.cells t)) := by
  obtain ⟨inf, h1, h2, h3, h4⟩ := hz.parts
  simp [execOp, ho, Instr.alloc, zeroValue, typeInfo, h1, h2, newVar, newRow]
theorem box_new [Dr] {cs : List Value} (hL : Lcl w0 O w) : Lcl w0 (.box w.heap.size cs t :: O) (w.alloc (.cells cs.toArray t)) :=
  hL.new (ext_alloc _ _) (heap_alloc_new w _) (fun b hb => by cases hb; exact Nat.le_refl _)
theorem box_newLe [Dr] {cs : List Value} (hL : Lcl w0 O w) : Le (fz w O) (fz (w.alloc (.cells cs.toArray t)) (.box w.heap.size cs t :: O)) :=
  fz_new hL (ext_alloc _ _) (fun b hb => by cases hb; exact Nat.le_refl _)
/-- 'var x T'. -/
theorem S_alloc [Dr] {z : Value} {sz bt : Nat} {cs : List Value} (hz : Zr P t z sz bt) (hc : z.cells.toList = cs) (hn : Nat.blt d n.n = true) (hL : Lcl w0 O w)
    (h : ∀ w' b, Lcl w0 (.box b cs t :: O) w' → Le (fz w O) (fz w' (.box b cs t :: O)) → Ext w w' → S P n ops Q rest ((d, .pointer (some ⟨b, 0, none⟩)) :: L) w') : S P n ops Q (⟨some d, .alloc t, ty, pos, af, none⟩ :: rest) L w := by
  subst hc
  refine S_value rfl rfl hn (fun ρ _ => run_alloc hz w ρ _ rfl) ?_
  have e : (Obj.cells z.cells t : Obj) = .cells z.cells.toList.toArray t := by simp
  rw [e]
  exact h _ _ (box_new hL) (box_newLe hL) (ext_alloc _ _)
/-- A parameter or a value moves into a variable. -/
theorem S_box [Dr] {cs : List Value} (hx : ev L x = some v) (hc : v.cells.toList = cs) (hn : Nat.blt d n.n = true) (hL : Lcl w0 O w)
    (h : ∀ w' b, Lcl w0 (.box b cs t :: O) w' → Le (fz w O) (fz w' (.box b cs t :: O)) → Ext w w' → S P n ops Q rest ((d, .pointer (some ⟨b, 0, none⟩)) :: L) w') : S P n ops Q (⟨some d, .box t x, ty, pos, af, none⟩ :: rest) L w := by
  subst hc
  refine S_value (v := .pointer (some ⟨w.heap.size, 0, none⟩)) (w' := w.alloc (.cells v.cells t)) rfl rfl hn (fun ρ hρ => by simp [execOp, hρ x _ hx, Instr.box, newVar, newRow]) ?_
  have e : (Obj.cells v.cells t : Obj) = .cells v.cells.toList.toArray t := by simp
  rw [e]
  exact h _ _ (box_new hL) (box_newLe hL) (ext_alloc _ _)
theorem box_ptr [Dr] {i b : Nat} {cs : List Value} {t' : TypeId} (hL : Lcl w0 O w) (hi : nthR O i = some (.box b cs t')) : PtrTo (hp w) ⟨b, 0, none⟩ cs :=
  ⟨rfl, fun j u hu => by
    have := hL.at hi
    rw [Addr.add_lit, Nat.zero_add, cellP_hp, cell_of_row w b j _ _ _ this]
    simpa using hu⟩
theorem nth_drop : ∀ (cs : List Value) (o : Nat) (u : Value), nth cs o = some u → ∃ c, cs.drop o = u :: c
  | _ :: cs, 0, u, h => by simp only [nth, Option.some.injEq] at h; subst h; exact ⟨cs, rfl⟩
  | _ :: cs, o + 1, u, h => nth_drop cs o u h
/-- One cell of a variable. -/
theorem r_loadB1 [Dr] (i : Nat) {b off : Nat} {cs : List Value} {t' : TypeId} {u : Value} {dd : TypeDesc} (hx : ev L x = some (.pointer (some ⟨b, off, none⟩))) (ht : P.underlying t = some dd) (hd : plainT dd = true) (hL : Lcl w0 O w) (hi : nthR O i = some (.box b cs t')) (hu : nth cs off = some u) : RunsAt P L w (.load t x) ty u := by
  obtain ⟨c, hc⟩ := nth_drop cs off u hu
  have h1 := (box_ptr hL hi).add off
  rw [hc, Addr.add_lit, Nat.zero_add] at h1
  exact r_load1 hx ht hd h1 (Le.refl _)
/-- A whole variable. -/
theorem r_loadBN [Dr] (i : Nat) {b : Nat} {cs : List Value} {t' : TypeId} {dd : TypeDesc} {zz : Value} {bt : Nat} (hx : ev L x = some (.pointer (some ⟨b, 0, none⟩))) (ht : P.underlying t = some dd) (hd : aggT dd = true) (hz : Zr P t zz cs.length bt) (hL : Lcl w0 O w) (hi : nthR O i = some (.box b cs t')) : RunsAt P L w (.load t x) ty (.agg cs.toArray) :=
  r_loadN hx ht hd hz (box_ptr hL hi) (Le.refl _)
theorem setRow_heap_same (w : World) (g : Nat) (cur cs : Array Value) (t : TypeId) (hg : w.heap[g]? = some (.cells cur t (0, 0))) : (w.setRow g cs).heap[g]? = some (.cells cs t (0, 0)) := setRow_heap w g cur cs t (0, 0) hg
theorem grownBy_setRow (w : World) (g : Nat) (cs : Array Value) : w.grownBy (w.setRow g cs) (some g) :=
  ⟨rfl, rfl, rfl, by simp, fun k _ hk => setRow_other w g k _ (fun e => hk (by simp [e]))⟩
/-- A store of a whole variable. -/
theorem S_storeBN [Dr] (i : Nat) {b : Nat} {cs vs : List Value} {t' : TypeId} {zz : Value} {bt : Nat} (hx : ev L x = some (.pointer (some ⟨b, 0, none⟩))) (hy : ev L y = some v) (hc : v.cells.toList = vs) (hz : Zr P t zz vs.length bt) (hL : Lcl w0 O w) (hi : nthR O i = some (.box b cs t')) (hlen : cs.length = vs.length) (h1 : ∀ u ∈ vs, u.oneCell' = true)
    (h : ∀ w', Lcl w0 (setR O i (.box b vs t')) w' → Le (fz w O) (fz w' (setR O i (.box b vs t'))) → S P n ops Q rest L w') : S P n ops Q (⟨none, .store t x y, ty, pos, af, none⟩ :: rest) L w := by
  subst hc
  obtain ⟨inf, i1, i2, i3, i4⟩ := hz.parts
  have hb : w.heap[b]? = some (.cells cs.toArray t' (0, 0)) := hL.at hi
  have hst := run_storeCells_at P b 0 t' v.cells.toList 0 cs.toArray w hb (by simp at hlen ⊢; omega) h1
  simp only [Nat.zero_add, List.take_zero, List.nil_append] at hst
  have hdrop : cs.drop v.cells.toList.length = [] := by simp at hlen ⊢; omega
  simp only [hdrop, List.append_nil, Array.toArray_toList] at hst
  have hsz : v.cells.size = inf.size := by rw [i3]; simp
  refine S_effect (w' := w.setRow b v.cells) rfl rfl (fun ρ hρ => by
    simp [execOp, hρ x _ hx, hρ y _ hy, Instr.storeAt, Instr.sureAddr, storeVar, sizeOf, typeInfo, i1, hsz, hst]) ?_
  have hg := grownBy_setRow w b v.cells
  have hok : Res.ok (w.setRow b v.cells) (.box b v.cells.toList t') := by
    show (w.setRow b v.cells).heap[b]? = _
    simpa using setRow_heap_same w b cs.toArray v.cells t' hb
  exact h _ (hL.turnAt hi (Nat.le_refl _) hg hok (fun b' e => .inl e)) (fz_turnAt hL hi hg (fun b' e => .inl e))
/-- A store of one cell of a variable. -/
theorem S_storeB1 [Dr] (i : Nat) {b off : Nat} {cs : List Value} {t' : TypeId} {zz : Value} {bt : Nat} (hx : ev L x = some (.pointer (some ⟨b, off, none⟩))) (hy : ev L y = some v) (hv : v.oneCell' = true) (hz : Zr P t zz 1 bt) (hL : Lcl w0 O w) (hi : nthR O i = some (.box b cs t')) (hlt : Nat.blt off cs.length = true)
    (h : ∀ w', Lcl w0 (setR O i (.box b (setC cs off v) t')) w' → Le (fz w O) (fz w' (setR O i (.box b (setC cs off v) t'))) → S P n ops Q rest L w') : S P n ops Q (⟨none, .store t x y, ty, pos, af, none⟩ :: rest) L w := by
  obtain ⟨inf, i1, i2, i3, i4⟩ := hz.parts
  have hb : w.heap[b]? = some (.cells cs.toArray t' (0, 0)) := hL.at hi
  have hlt' := blt_lt hlt
  have hvc : v.cells = #[v] := by cases v <;> simp_all [Value.cells, Value.oneCell']
  have hst := run_storeCells_at P b off t' [v] 0 cs.toArray w hb (by simp; omega) (by simpa using hv)
  have hcell : w.cell? ⟨b, off, none⟩ = some cs[off] := by rw [cell_of_row w b off _ _ _ hb]; simp [hlt']
  have hfz : w.frozen? ⟨b, off, none⟩ = false := frozen_of_row w b off _ _ hb
  refine S_effect (w' := w.setCell ⟨b, off, none⟩ v) rfl rfl (fun ρ hρ => by
    simp [execOp, hρ x _ hx, hρ y _ hy, Instr.storeAt, Instr.sureAddr, storeVar, sizeOf, typeInfo, i1, i3, hvc, storeCells, run_store, hv, Addr.add_zero', hcell, hfz]) ?_
  have hsame := heap_setCell_same w b off cs.toArray t' v hb
  have hg : w.grownBy (w.setCell ⟨b, off, none⟩ v) (some b) := ⟨rfl, rfl, rfl, by simp, fun k _ hk => heap_setCell_other w ⟨b, off, none⟩ k v (fun e => hk (by simp [e]))⟩
  have hok : Res.ok (w.setCell ⟨b, off, none⟩ v) (.box b (setC cs off v) t') := by
    show (w.setCell ⟨b, off, none⟩ v).heap[b]? = _
    rw [hsame, setC_eq]; simp
  exact h _ (hL.turnAt hi (Nat.le_refl _) hg hok (fun b' e => .inl e)) (fz_turnAt hL hi hg (fun b' e => .inl e))
/-! ### Calls -/
/-- A call that leaves all as it was but for new memory. -/
theorem S_callL [Dr] {f : FuncId} {args : List Operand} {vs : List Value} {at_ : Array TypeId} {R : Value → World → Prop} (ha : evl L args = some vs) (hn : Nat.blt d n.n = true) (hL : Lcl w0 O w) (hok : Ok P f vs w (fun v w' => Ext w w' ∧ R v w'))
    (h : ∀ v w', R v w' → Ext w w' → Lcl w0 O w' → Le (fz w O) (fz w' O) → S P n ops Q rest ((d, v) :: L) w') : S P n ops Q (⟨some d, .call ⟨.value (.func f), args.toArray, at_⟩, ty, pos, af, none⟩ :: rest) L w :=
  S_call ha hn hok fun v w' ⟨hx, hR⟩ => h v w' hR hx (hL.call hx) (fz_ext hL hx)
/-! ### Struct values -/
def evp (L : Env) : List (Nat × Operand) → Option (List (Nat × Value))
  | [] => some []
  | (i, x) :: l => match ev L x, evp L l with
    | some v, some vs => some ((i, v) :: vs)
    | _, _ => none
theorem Rho.mapp {ρ : Operand → Value} (h : Rho L ρ) : ∀ (l : List (Nat × Operand)) (vs : List (Nat × Value)), evp L l = some vs → l.map (fun (i, x) => (i, ρ x)) = vs
  | [], vs, e => by simp only [evp, Option.some.injEq] at e; simpa using e
  | (i, x) :: l, vs, e => by
    unfold evp at e
    split at e
    · rename_i v us h1 h2; cases e; simp [h x v h1, Rho.mapp h l us h2]
    · cases e
/-- A struct's value, by its own run. -/
theorem r_build [Dr] {ps : List (Nat × Operand)} {vs : List (Nat × Value)} {u : Value} (hp : evp L ps = some vs) (hr : ∀ w, (Instr.build t vs.toArray).run P w = .ok u w) : RunsAt P L w (.build t ps.toArray) ty u := by
  intro w' _ ρ hρ dst pos af g
  have e := hρ.mapp _ _ hp
  have e' : (ps.toArray.map fun (i, x) => (i, ρ x)) = vs.toArray := by rw [← e]; simp
  simp [execOp, e', hr w', -List.map_toArray]
/-! ### Rows -/
/-- A slice whose cells are these, somewhere. -/
def Src (H : PH) (sz : Nat) (v : Value) (m : Nat) (news : List Value) : Prop :=
  news.length = m * sz ∧ ∃ a cap, v = .slice a m cap ∧ m ≤ cap ∧ cap ≤ maxLen ∧ (a = none → cap = 0) ∧ ∀ A, a = some A → m ≠ 0 → A.spot = none ∧ ∀ j u, news[j]? = some u → cellP H (A.add j) = some u
theorem Src.mono {H' : PH} {sz m : Nat} {news : List Value} (h : Src H sz v m news) (hs : Le H H') : Src H' sz v m news := by
  obtain ⟨h1, a, cap, h2, h3, h4, h5, h6⟩ := h
  exact ⟨h1, a, cap, h2, h3, h4, h5, fun A hA hm => ⟨(h6 A hA hm).1, fun j u hu => cellP_mono hs ((h6 A hA hm).2 j u hu)⟩⟩
theorem Vec.elems {l : List α} (hv : Vec r H v l) : ∃ news, Elems r H l news ∧ Src H r.sz v l.length news := by
  obtain ⟨a, cap, h1, h2, h3, h4, h5⟩ := hv.ex
  cases a with
  | none =>
    have : l.length = 0 := by have := h4 rfl; omega
    have : l = [] := List.eq_nil_of_length_eq_zero this
    subst this
    exact ⟨[], .nil, by simp, none, cap, h1, h2, h3, h4, fun A hA => by cases hA⟩
  | some A =>
    by_cases hl : l = []
    · subst hl
      exact ⟨[], .nil, by simp, some A, cap, h1, h2, h3, h4, fun _ _ hm => absurd rfl hm⟩
    obtain ⟨hs, hh⟩ := h5 A rfl hl
    have key : ∀ (m : List α) (k : Nat), (∀ i x, m[i]? = some x → ∃ c, r.rel H x c ∧ ∀ j u, c[j]? = some u → cellP H (A.add ((k + i) * r.sz + j)) = some u) →
        ∃ news, Elems r H m news ∧ ∀ j u, news[j]? = some u → cellP H (A.add (k * r.sz + j)) = some u := by
      intro m
      induction m with
      | nil => intro k _; exact ⟨[], .nil, fun j u hu => by cases hu⟩
      | cons x m ih =>
        intro k hm
        obtain ⟨c, hc, hcell⟩ := hm 0 x (by simp)
        obtain ⟨news, hn1, hn2⟩ := ih (k + 1) (fun i y hy => by have := hm (i + 1) y (by simpa using hy); rwa [show k + (i + 1) = k + 1 + i from by omega] at this)
        refine ⟨c ++ news, .cons hc hn1, fun j u hu => ?_⟩
        rcases Nat.lt_or_ge j c.length with hj | hj
        · rw [List.getElem?_append_left hj] at hu
          have := hcell j u hu
          rwa [Nat.add_zero] at this
        · rw [List.getElem?_append_right hj] at hu
          have := hn2 _ u hu
          rw [r.len hc] at this hj
          rw [show k * r.sz + j = (k + 1) * r.sz + (j - r.sz) from by rw [Nat.add_mul]; omega]
          exact this
    obtain ⟨news, hn1, hn2⟩ := key l 0 (fun i x hx => by rw [Nat.zero_add]; exact hh i x hx)
    refine ⟨news, hn1, hn1.len, some A, cap, h1, h2, h3, h4, fun A' hA' _ => ?_⟩
    cases hA'
    exact ⟨hs, fun j u hu => by have := hn2 j u hu; rwa [Nat.zero_mul, Nat.zero_add] at this⟩
theorem vec_of_src {l : List α} {news : List Value} (he : Elems r H l news) (h : Src H r.sz v l.length news) : Vec r H v l := by
  obtain ⟨h1, a, cap, h2, h3, h4, h5, h6⟩ := h
  refine ⟨a, cap, h2, h3, h4, h5, fun A hA hl => ?_⟩
  obtain ⟨hs, hh⟩ := h6 A hA (fun e => hl (List.eq_nil_of_length_eq_zero e))
  refine ⟨hs, fun i x hx => ?_⟩
  obtain ⟨c, hc, hcell⟩ := he.at i x hx
  exact ⟨c, hc, fun j u hu => hh _ u (hcell j u hu)⟩
/-- 'append(x, y...)', x an owned row. -/
theorem run_append [Dr] {i sz bt m k : Nat} {zz u : Value} {xs news : List Value} (ht : P.underlying t = some (.slice e)) (hz : Zr P e zz sz bt) (hzs : zz.cells.size = sz) (hsz : 0 < sz) (hL : Lcl w0 O w) (hi : nthR O i = some (.row v e sz m xs)) (hs : Src (hp w) sz u k news) (h1 : ∀ c ∈ news, c.oneCell' = true)
    (hby : (m + k) * bt ≤ 140737488355328) (hm : m + k ≤ 9223372036854775807) :
    ∃ v' w', (Builtin.append_ #[t, t] ty #[v, u]).run P w = .ok v' w' ∧ Lcl w0 (setR O i (.row v' e sz (m + k) (xs ++ news))) w' ∧ Le (fz w O) (fz w' (setR O i (.row v' e sz (m + k) (xs ++ news)))) := by
  obtain ⟨inf, i1, i2, i3, i4⟩ := hz.parts
  have hown : w.ownsRow 0 e sz v m xs := hL.at hi
  obtain ⟨hl, a, cap, hu, hk1, hk2, hk3, hk4⟩ := hs
  have h63 : m + k ≤ maxLen := by unfold maxLen; omega
  have fin : ∀ v' w', w.drawn ≤ w'.drawn → w'.ownsRow 0 e sz v' (m + k) (xs ++ news) → w.grownBy w' v.ownBlock → (∀ b, v'.ownBlock = some b → v.ownBlock = some b ∨ w.heap.size ≤ b) →
      Lcl w0 (setR O i (.row v' e sz (m + k) (xs ++ news))) w' ∧ Le (fz w O) (fz w' (setR O i (.row v' e sz (m + k) (xs ++ news)))) := fun v' w' hdr h2 h3 hb =>
    ⟨hL.turnAt hi hdr h3 h2 hb, fz_turnAt (r' := .row v' e sz (m + k) (xs ++ news)) hL hi h3 hb⟩
  by_cases hk0 : k = 0
  · subst hk0
    have hn : news = [] := List.eq_nil_of_length_eq_zero (by simpa using hl)
    subst hn
    refine ⟨v, w, ?_, ?_⟩
    · obtain ⟨va, vc, rfl⟩ := ownsRow_header hown
      have hle : m ≤ vc := by
        rcases hown.2 with ⟨he, hn⟩ | ⟨g, cap, cur, he, _, _, hnc, _⟩
        · cases he; omega
        · cases he; exact hnc
      subst hu
      cases a with
      | none => cases va <;> simp [Builtin.append_, run_underlying ht, sizeOf, typeInfo, i1, Builtin.lenOf, Builtin.firstCells, hle, storeCells]
      | some A => cases va <;> simp [Builtin.append_, run_underlying ht, sizeOf, typeInfo, i1, Builtin.lenOf, Builtin.firstCells, hle, storeCells, loadCells, loadCellsFrom]
    · have := fin v w (Nat.le_refl _) (by simpa using hown) (World.grownBy.refl w _) (fun b hb => .inl hb)
      exact this
  · cases a with
    | none => have := hk3 rfl; omega
    | some A =>
      subst hu
      obtain ⟨hspot, hcell⟩ := hk4 A rfl hk0
      obtain ⟨v', w', hr, h2, h3, h4⟩ := run_append_own (P := P) w 0 t ty e inf zz sz bt ht i1 i2 i3 i4 hzs hsz v m xs hown A k cap news hl (fun j c hc => hcell j c hc) h1 h63 hby (Nat.zero_le _)
      refine ⟨v', w', hr, fin v' w' (run_drawn _ _ _ _ hr) h2 h3 fun b hb => ?_⟩
      subst i3
      subst i4
      rcases hown.2 with ⟨rfl, rfl⟩ | ⟨g, cp, cur, rfl, hbg, hg, hnc, hcm, hcs, htake⟩
      · have hr2 := run_append_nil (P := P) w t ty e inf zz ht i1 i2 A k cap news hl (fun j c hc => hcell j c hc) (by omega) (by omega) (by simp only [Nat.zero_add] at hby; omega)
        rw [hr] at hr2
        simp only [Result.ok.injEq] at hr2
        rw [hr2.1] at hb
        right; cases hb; exact Nat.le_refl _
      · by_cases hroom : m + k ≤ cp
        · have hfit : m * inf.size + news.length ≤ cur.size := by rw [hl, hcs, ← Nat.add_mul]; exact Nat.mul_le_mul_right _ hroom
          have hr2 := run_append_room (P := P) w t ty e inf ht i1 g m cp cur hg A k cap news hl (fun j c hc => hcell j c hc) h1 hroom hfit
          rw [hr] at hr2
          simp only [Result.ok.injEq] at hr2
          rw [hr2.1] at hb
          left; exact hb
        · have holds : ∀ j u, xs[j]? = some u → w.cell? ((⟨g, 0, none⟩ : Addr).add j) = some u := hown.cells (g := g) rfl
          have hr2 := run_append_grow (P := P) w t ty e inf zz ht i1 i2 ⟨g, 0, none⟩ m cp xs hown.1 holds A k cap news hl (fun j c hc => hcell j c hc) (by omega) (by omega) (growslice_fits (by omega) hby)
          rw [hr] at hr2
          simp only [Result.ok.injEq] at hr2
          rw [hr2.1] at hb
          right; cases hb; exact Nat.le_refl _
theorem S_append [Dr] (i : Nat) {sz bt m k : Nat} {zz u : Value} {xs news : List Value} (hx : ev L x = some v) (hy : ev L y = some u) (ht : P.underlying t = some (.slice e)) (hz : Zr P e zz sz bt) (hzs : zz.cells.size = sz) (hsz : 0 < sz) (hn : Nat.blt d n.n = true) (hL : Lcl w0 O w) (hi : nthR O i = some (.row v e sz m xs)) (hs : Src (hp w) sz u k news) (h1 : ∀ c ∈ news, c.oneCell' = true)
    (hby : (m + k) * bt ≤ 140737488355328 ∧ m + k ≤ 9223372036854775807)
    (h : ∀ v' w', Lcl w0 (setR O i (.row v' e sz (m + k) (xs ++ news))) w' → Le (fz w O) (fz w' (setR O i (.row v' e sz (m + k) (xs ++ news)))) → S P n ops Q rest ((d, v') :: L) w') :
    S P n ops Q (⟨some d, .call ⟨.builtin .append, #[x, y], #[t, t]⟩, ty, pos, af, none⟩ :: rest) L w := by
  obtain ⟨v', w', hr, hL', hle⟩ := run_append (ty := ty) ht hz hzs hsz hL hi hs h1 hby.1 hby.2
  refine S_value (v := v') (w' := w') rfl rfl hn (fun ρ hρ => ?_) (h v' w' hL' hle)
  simp [execOp, resolve, invoke, builtin, hρ x _ hx, hρ y _ hy, hr]
/-- A new owned row. -/
theorem row_new [Dr] {w' : World} {sz m : Nat} {xs : List Value} (hL : Lcl w0 O w) (hx : Ext w w') (ho : w'.ownsRow w.heap.size e sz v m xs) : Lcl w0 (.row v e sz m xs :: O) w' ∧ Le (fz w O) (fz w' (.row v e sz m xs :: O)) := by
  have hb : ∀ b, Res.block (.row v e sz m xs) = some b → w.heap.size ≤ b := fun b hb => (ho.lt b hb).1
  exact ⟨hL.new hx (ownsRow_base ho (fun _ _ => Nat.zero_le _)) hb, fz_new hL hx hb⟩
/-- A nil slice is a row. -/
theorem row_nil [Dr] (hL : Lcl w0 O w) (e : TypeId) (sz : Nat) : Lcl w0 (.row (.slice none 0 0) e sz 0 [] :: O) w ∧ Le (fz w O) (fz w (.row (.slice none 0 0) e sz 0 [] :: O)) :=
  row_new hL (Ext.refl w) (World.ownsRow_nil w _ e sz)
/-- A composite slice literal: a new block, lying fast. -/
theorem S_lit [Dr] {ps : List (Nat × Operand)} {vs : List (Nat × Value)} {len sz : Nat} {cs : List Value} (hp' : evp L ps = some vs) (hr : ∀ w, (Instr.buildSlice t len vs.toArray).run P w = .ok (.slice (some ⟨w.heap.size, 0, none⟩) len len) (w.alloc (.cells cs.toArray e))) (hc : cs.length = len * sz) (hlen : len ≤ 9223372036854775807) (hn : Nat.blt d n.n = true) (hL : Lcl w0 O w)
    (h : ∀ u w', Ext w w' → Lcl w0 O w' → Le (fz w O) (fz w' O) → Src (nw w w') sz u len cs → w'.ownsRow w.heap.size e sz u len cs → S P n ops Q rest ((d, u) :: L) w') :
    S P n ops Q (⟨some d, .buildSlice t len ps.toArray, ty, pos, af, none⟩ :: rest) L w := by
  have hx := ext_alloc w (.cells cs.toArray e)
  refine S_value rfl rfl hn (fun ρ hρ => ?_) (h _ _ hx (hL.call hx) (fz_ext hL hx) ⟨hc, some ⟨w.heap.size, 0, none⟩, len, rfl, Nat.le_refl _, by unfold maxLen; omega, (fun e => by cases e), fun A hA _ => ?_⟩ ?_)
  · have e1 := hρ.mapp _ _ hp'
    have e' : (ps.toArray.map fun (i, x) => (i, ρ x)) = vs.toArray := by rw [← e1]; simp
    simp [execOp, e', hr w, -List.map_toArray]
  · cases hA
    refine ⟨rfl, fun j u hu => ?_⟩
    simp only [Addr.add_lit, Nat.zero_add, cellP, nw, Nat.le_refl, if_true, heap_alloc_new]
    simpa using hu
  · have := World.ownsRow_lit (base := w.heap.size) (e := e) (size := sz) w cs.toArray len (Nat.le_refl _) (by unfold maxLen; omega) (by simpa using hc)
    simpa using this
/-- A place in an owned row. -/
def RowPtr (v : Value) (k : Nat) (p : Addr) : Prop := v.ownBlock = some p.block ∧ p.off = k ∧ p.spot = none
theorem r_indexR [Dr] (i : Nat) {sz bt m : Nat} {zz : Value} {xs : List Value} {k : IntKind} {c : Int} (hx : ev L x = some v) (hy : ev L y = some (.int k c)) (ht : P.underlying t = some (.slice e)) (hz : Zr P e zz sz bt) (hL : Lcl w0 O w) (hi : nthR O i = some (.row v e sz m xs)) (j : Nat) (hj : c = (j : Int)) (hlt : j < m) :
    ∃ p, RowPtr v (j * sz) p ∧ ∀ w, RunsAt P L w (.indexAddr t x y) ty (.pointer (some p)) := by
  obtain ⟨inf, i1, i2, i3, i4⟩ := hz.parts
  have hown : w.ownsRow 0 e sz v m xs := hL.at hi
  rcases hown.2 with ⟨rfl, rfl⟩ | ⟨g, cp, cur, rfl, hbg, hg, hnc, hcm, hcs, htake⟩
  · omega
  · subst hj
    refine ⟨⟨g, j * sz, none⟩, ⟨rfl, rfl, rfl⟩, fun w w' _ ρ hρ dst pos af gd => ?_⟩
    have e1 : (0 : Int) ≤ (j : Int) ∧ (j : Int) < (m : Int) := by omega
    simp [execOp, hρ x _ hx, hρ y _ hy, Instr.indexAt, asIntOf, run_underlying ht, sizeOf, typeInfo, i1, i3, hlt, Addr.add_lit]
theorem S_indexR [Dr] (i : Nat) {sz bt m : Nat} {zz : Value} {xs : List Value} {k : IntKind} {c : Int} (hx : ev L x = some v) (hy : ev L y = some (.int k c)) (ht : P.underlying t = some (.slice e)) (hz : Zr P e zz sz bt) (hL : Lcl w0 O w) (hi : nthR O i = some (.row v e sz m xs)) (j : Nat) (hj : c = (j : Int)) (hlt : j < m) (hn : Nat.blt d n.n = true)
    (h : ∀ p, RowPtr v (j * sz) p → S P n ops Q rest ((d, .pointer (some p)) :: L) w) : S P n ops Q (⟨some d, .indexAddr t x y, ty, pos, af, none⟩ :: rest) L w := by
  obtain ⟨p, h1, h2⟩ := r_indexR (P := P) (ty := ty) i hx hy ht hz hL hi j hj hlt
  exact S_v (h2 w) hn (h p h1)
theorem row_cell [Dr] {i sz m k : Nat} {xs : List Value} {p : Addr} {u : Value} {e' : TypeId} (hL : Lcl w0 O w) (hi : nthR O i = some (.row v e' sz m xs)) (hp' : RowPtr v k p) (hu : xs[k]? = some u) : w.cell? p = some u := by
  have hown : w.ownsRow 0 e' sz v m xs := hL.at hi
  obtain ⟨h1, h2, h3⟩ := hp'
  obtain ⟨b, o, s⟩ := p
  simp only at h1 h2 h3
  subst h2; subst h3
  have hc := hown.cells h1 o u hu
  rwa [Addr.add_lit, Nat.zero_add] at hc
/-- 'out[k] = u', one cell. -/
theorem S_storeR [Dr] (i : Nat) {sz bt m k : Nat} {zz u : Value} {xs : List Value} {p : Addr} {e' : TypeId} (hx : ev L x = some (.pointer (some p))) (hy : ev L y = some u) (hv : u.oneCell' = true) (hz : Zr P t zz 1 bt) (hL : Lcl w0 O w) (hi : nthR O i = some (.row v e' sz m xs)) (hp' : RowPtr v k p) (hlt : k < xs.length)
    (h : ∀ w', Lcl w0 (setR O i (.row v e' sz m (xs.set k u))) w' → Le (fz w O) (fz w' (setR O i (.row v e' sz m (xs.set k u)))) → S P n ops Q rest L w') : S P n ops Q (⟨none, .store t x y, ty, pos, af, none⟩ :: rest) L w := by
  obtain ⟨inf, i1, i2, i3, i4⟩ := hz.parts
  have hown : w.ownsRow 0 e' sz v m xs := hL.at hi
  have hcell := row_cell hL hi hp' (List.getElem?_eq_getElem hlt)
  obtain ⟨h1, h2, h3⟩ := hp'
  obtain ⟨b, o, s⟩ := p
  simp only at h1 h2 h3
  subst h2; subst h3
  rcases hown.2 with ⟨rfl, rfl⟩ | ⟨g, cp, cur, rfl, hbg, hg, hnc, hcm, hcs, htake⟩
  · simp [Value.ownBlock] at h1
  · simp only [Value.ownBlock, Option.some.injEq] at h1
    subst h1
    have hst := hown.stored o u
    have hfz : w.frozen? ⟨g, o, none⟩ = false := hown.frozenAt o
    have hvc : u.cells = #[u] := by cases u <;> simp_all [Value.cells, Value.oneCell']
    refine S_effect (w' := w.setCell ⟨g, o, none⟩ u) rfl rfl (fun ρ hρ => by
      simp [execOp, hρ x _ hx, hρ y _ hy, Instr.storeAt, Instr.sureAddr, storeVar, sizeOf, typeInfo, i1, i3, hvc, storeCells, run_store, hv, Addr.add_zero', hcell, hfz]) ?_
    exact h _ (hL.turnAt hi (by rw [drawn_setCell]; exact Nat.le_refl _) hst.2 hst.1 (fun b e => .inl e)) (fz_turnAt (r' := .row (.slice (some ⟨g, 0, none⟩) m cp) e' sz m (xs.set o u)) hL hi hst.2 (fun b e => .inl e))
/-- An owned row that is handed to a function that only reads. -/
theorem Lcl.vecR [Dr] {i : Nat} {l : List α} {xs : List Value} {e' : TypeId} (hL : Lcl w0 O w) (hi : nthR O i = some (.row v e' r.sz l.length xs)) (he : Elems r (fz w O) l xs) : Vec r (hp w) v l :=
  vec_of_row (hL.at hi) he (fz_le w O) (fun _k _ _o ho => ho)
/-- The caller takes it. -/
theorem Own.take [Dr] {w' : World} {l : List α} (hL : Lcl w0 O w) (hx : Ext w w') (h : Own e r w w' v l) : ∃ xs, Lcl w0 (.row v e r.sz l.length xs :: O) w' ∧ Le (fz w O) (fz w' (.row v e r.sz l.length xs :: O)) ∧ Elems r (fz w' (.row v e r.sz l.length xs :: O)) l xs := by
  obtain ⟨xs, h1, h2⟩ := h
  obtain ⟨h3, h4⟩ := row_new hL hx h1
  exact ⟨xs, h3, h4, h2.mono (nwBut_fz hL)⟩
end
theorem row_one {w : World} {v : Value} {e : TypeId} {sz n : Nat} {xs : List Value} (h : Res.ok w (.row v e sz n xs)) : v.oneCell' = true := by
  obtain ⟨a, c, rfl⟩ := ownsRow_header (b := 0) h; rfl
theorem elems_eq {α : Type} {r : Rp α} {f : α → Value} (hf : ∀ H x c, r.rel H x c → c = [f x]) {H : PH} {l : List α} {xs : List Value} (h : Elems r H l xs) : xs = l.map f := by
  induction h with
  | nil => rfl
  | cons h _ ih => rw [hf _ _ _ h, ih]; rfl
def bv (b : UInt8) : Value := .int .u8 (b.toNat : Int)
theorem bytes_elems {H : PH} {l : List UInt8} {xs : List Value} (h : Elems Rp.byte H l xs) : xs = l.map bv := elems_eq (fun _ _ _ h => h) h
/-- What the call has made and does not own. -/
def nf (w0 w : World) (O : List Res) : PH := fun b => if w0.heap.size ≤ b then fz w O b else none
theorem nf_mono {w0 w w' : World} {O O' : List Res} (h : Le (fz w O) (fz w' O')) : Le (nf w0 w O) (nf w0 w' O') := fun b o e => by
  unfold nf at e ⊢
  split at e
  · rename_i hb; rw [if_pos hb]; exact h b o e
  · cases e
theorem nf_fz {w0 w : World} {O : List Res} : Le (nf w0 w O) (fz w O) := fun b o e => by
  unfold nf at e
  split at e
  · exact e
  · cases e
theorem nf_nw {w0 w : World} {O : List Res} : Le (nf w0 w O) (nw w0 w) := fun b o e => by
  unfold nf at e
  split at e
  · rename_i hb; unfold nw; rw [if_pos hb]; exact fz_le w O b o e
  · cases e
theorem nw_nf [Dr] {w0 w w' : World} {O : List Res} (h : Lcl w0 O w) : Le (nw w w') (nf w0 w' O) := fun b o e => by
  have h1 := nw_fz (w' := w') h b o e
  unfold nw at e
  split at e
  · rename_i hb; unfold nf; rw [if_pos (Nat.le_trans h.ext.size hb)]; exact h1
  · cases e
theorem nf_but {w0 w : World} {O : List Res} {i : Nat} {v : Value} {e : TypeId} {sz n : Nat} {xs : List Value} (hi : nthR O i = some (.row v e sz n xs)) : Le (nf w0 w O) (nwBut w0 w v) := fun b o h => by
  have h1 := nf_nw b o h
  have h2 := nf_fz b o h
  unfold nwBut
  rw [if_neg]
  · exact h1
  · intro hb
    unfold fz at h2
    rw [if_pos (owned_iff.2 ⟨_, (perm_nth hi).mem_iff.2 (.head _), hb⟩)] at h2
    cases h2
end Go.E
end
section
namespace Go.E
open Go Go.RowKit
theorem conv_8_64 (b : UInt8) : IntKind.i64.wrap (b.toNat : Int) = (b.toNat : Int) := by
  have := b.toNat_lt; exact wrap64 (by omega) (by omega)
section
variable {P : Program} {n : Sz} {ops : Array Oper} {Q : Exit → Act → World → Prop} {L : Env} {w w0 : World} {O : List Res} {rest : List Oper}
  {d : Nat} {ty : TypeId} {pos : String} {af : Array Edge} {α : Type} {r : Rp α} {H : PH} {x y : Operand} {v : Value} {t t' e : TypeId}
/-! ### Integers as values that are the same in every world -/
theorem r_ar [Dr] {op : BinOp} {k : IntKind} {a b c s : Int} (hx : ev L x = some (.int k a)) (hy : ev L y = some (.int k b)) (ho : arI op a b = some c) (hw : k.wrap c = s) : RunsAt P L w (.binOp op t x y t') ty (.int k s) := by
  intro w' _ ρ hρ dst pos af g
  subst hw
  cases op <;> simp only [arI, Option.some.injEq, reduceCtorEq] at ho <;> subst ho <;>
    simp [execOp, hρ x _ hx, hρ y _ hy, eqGuard, binOp, Op.intArith]
theorem r_ar64 [Dr] {op : BinOp} {a b c : Int} (hx : ev L x = some (.int .i64 a)) (hy : ev L y = some (.int .i64 b)) (ho : arI op a b = some c) (h1 : -9223372036854775808 ≤ c ∧ c ≤ 9223372036854775807) : RunsAt P L w (.binOp op t x y t') ty (.int .i64 c) :=
  r_ar hx hy ho (wrap64 h1.1 h1.2)
theorem r_conv [Dr] {k k' : IntKind} {a s : Int} {u : TypeDesc} (hs : P.underlying t = some u) (ht : P.underlying t' = some (.int k)) (hx : ev L x = some (.int k' a)) (hw : k.wrap a = s) : RunsAt P L w (.convert t t' x) ty (.int k s) := by
  intro w' _ ρ hρ dst pos af g
  subst hw; simp [execOp, hρ x _ hx, convert, run_underlying hs, run_underlying ht, Conv.intToInt]
def bitB : BinOp → UInt8 → UInt8 → Option UInt8
  | .xor, a, b => some (a ^^^ b)
  | .and, a, b => some (a &&& b)
  | .or, a, b => some (a ||| b)
  | _, _, _ => none
theorem ofInt8 (a : UInt8) : BitVec.ofInt 8 (a.toNat : Int) = a.toBitVec := by
  apply BitVec.eq_of_toNat_eq
  have := a.toNat_lt
  simp
/-- Bits of bytes. -/
theorem r_bit8 [Dr] {op : BinOp} {a b c : UInt8} (hx : ev L x = some (.int .u8 (a.toNat : Int))) (hy : ev L y = some (.int .u8 (b.toNat : Int))) (ho : bitB op a b = some c) : RunsAt P L w (.binOp op t x y t') ty (.int .u8 (c.toNat : Int)) := by
  intro w' _ ρ hρ dst pos af g
  have hc := c.toNat_lt
  cases op <;> simp only [bitB, Option.some.injEq, reduceCtorEq] at ho <;> subst ho
  · have e : (Op.intBits .and .u8 (a.toNat : Int) (b.toNat : Int)).run P w' = .ok (.int .u8 ((a &&& b).toNat : Int)) w' := by
      show Result.ok (Value.int .u8 (IntKind.u8.wrap ((BitVec.ofInt 8 (a.toNat : Int) &&& BitVec.ofInt 8 (b.toNat : Int)).toNat : Int))) w' = _
      rw [ofInt8, ofInt8, show (a.toBitVec &&& b.toBitVec).toNat = (a &&& b).toNat from rfl, wrapU8 (by omega) (by omega)]
    simp only [execOp, hρ x _ hx, hρ y _ hy, eqGuard, binOp, Sem.run_bind, ne_eq, not_true_eq_false, if_false, Bool.not_false, if_true, Sem.run_pure, Result.andThen_ok, e]
  · have e : (Op.intBits .or .u8 (a.toNat : Int) (b.toNat : Int)).run P w' = .ok (.int .u8 ((a ||| b).toNat : Int)) w' := by
      show Result.ok (Value.int .u8 (IntKind.u8.wrap ((BitVec.ofInt 8 (a.toNat : Int) ||| BitVec.ofInt 8 (b.toNat : Int)).toNat : Int))) w' = _
      rw [ofInt8, ofInt8, show (a.toBitVec ||| b.toBitVec).toNat = (a ||| b).toNat from rfl, wrapU8 (by omega) (by omega)]
    simp only [execOp, hρ x _ hx, hρ y _ hy, eqGuard, binOp, Sem.run_bind, ne_eq, not_true_eq_false, if_false, Bool.not_false, if_true, Sem.run_pure, Result.andThen_ok, e]
  · have e : (Op.intBits .xor .u8 (a.toNat : Int) (b.toNat : Int)).run P w' = .ok (.int .u8 ((a ^^^ b).toNat : Int)) w' := by
      show Result.ok (Value.int .u8 (IntKind.u8.wrap ((BitVec.ofInt 8 (a.toNat : Int) ^^^ BitVec.ofInt 8 (b.toNat : Int)).toNat : Int))) w' = _
      rw [ofInt8, ofInt8, show (a.toBitVec ^^^ b.toBitVec).toNat = (a ^^^ b).toNat from rfl, wrapU8 (by omega) (by omega)]
    simp only [execOp, hρ x _ hx, hρ y _ hy, eqGuard, binOp, Sem.run_bind, ne_eq, not_true_eq_false, if_false, Bool.not_false, if_true, Sem.run_pure, Result.andThen_ok, e]
def bitN : BinOp → Nat → Nat → Option Nat
  | .xor, a, b => some (a ^^^ b)
  | .and, a, b => some (a &&& b)
  | .or, a, b => some (a ||| b)
  | _, _, _ => none
/-- Bits of ints that are not negative. -/
theorem r_bit64 [Dr] {op : BinOp} {a b c : Nat} {p q : Int} (hx : ev L x = some (.int .i64 p)) (hy : ev L y = some (.int .i64 q)) (hpa : p = a) (hqb : q = b) (ho : bitN op a b = some c) (ha : a < 2 ^ 63) (hb : b < 2 ^ 63) : RunsAt P L w (.binOp op t x y t') ty (.int .i64 (c : Int)) := by
  intro w' _ ρ hρ dst pos af g
  subst hpa; subst hqb
  have ea : (BitVec.ofInt 64 (a : Int)).toNat = a := by simp; omega
  have eb : (BitVec.ofInt 64 (b : Int)).toNat = b := by simp; omega
  cases op <;> simp only [bitN, Option.some.injEq, reduceCtorEq] at ho <;> subst ho
  · have hlt : a &&& b < 2 ^ 63 := Nat.and_lt_two_pow _ hb
    have e : (Op.intBits .and .i64 (a : Int) (b : Int)).run P w' = .ok (.int .i64 ((a &&& b : Nat) : Int)) w' := by
      show Result.ok (Value.int .i64 (IntKind.i64.wrap ((BitVec.ofInt 64 (a : Int) &&& BitVec.ofInt 64 (b : Int)).toNat : Int))) w' = _
      rw [BitVec.toNat_and, ea, eb, wrap64 (by omega) (by omega)]
    simp only [execOp, hρ x _ hx, hρ y _ hy, eqGuard, binOp, Sem.run_bind, ne_eq, not_true_eq_false, if_false, Bool.not_false, if_true, Sem.run_pure, Result.andThen_ok, e]
  · have hlt : a ||| b < 2 ^ 63 := Nat.or_lt_two_pow ha hb
    have e : (Op.intBits .or .i64 (a : Int) (b : Int)).run P w' = .ok (.int .i64 ((a ||| b : Nat) : Int)) w' := by
      show Result.ok (Value.int .i64 (IntKind.i64.wrap ((BitVec.ofInt 64 (a : Int) ||| BitVec.ofInt 64 (b : Int)).toNat : Int))) w' = _
      rw [BitVec.toNat_or, ea, eb, wrap64 (by omega) (by omega)]
    simp only [execOp, hρ x _ hx, hρ y _ hy, eqGuard, binOp, Sem.run_bind, ne_eq, not_true_eq_false, if_false, Bool.not_false, if_true, Sem.run_pure, Result.andThen_ok, e]
  · have hlt : a ^^^ b < 2 ^ 63 := Nat.xor_lt_two_pow ha hb
    have e : (Op.intBits .xor .i64 (a : Int) (b : Int)).run P w' = .ok (.int .i64 ((a ^^^ b : Nat) : Int)) w' := by
      show Result.ok (Value.int .i64 (IntKind.i64.wrap ((BitVec.ofInt 64 (a : Int) ^^^ BitVec.ofInt 64 (b : Int)).toNat : Int))) w' = _
      rw [BitVec.toNat_xor, ea, eb, wrap64 (by omega) (by omega)]
    simp only [execOp, hρ x _ hx, hρ y _ hy, eqGuard, binOp, Sem.run_bind, ne_eq, not_true_eq_false, if_false, Bool.not_false, if_true, Sem.run_pure, Result.andThen_ok, e]
/-- Shifts by a known count. -/
theorem r_shl [Dr] {k k' : IntKind} {a s m : Int} {c : Nat} (hx : ev L x = some (.int k a)) (hy : ev L y = some (.int k' (c : Int))) (hm : (2 : Int) ^ c = m) (hc : c ≤ k.bits) (hw : k.wrap (a * m) = s) : RunsAt P L w (.binOp .shl t x y t') ty (.int k s) := by
  intro w' _ ρ hρ dst pos af g
  subst hm
  subst hw
  have : ¬ ((c : Int) < 0) := by omega
  simp [execOp, hρ x _ hx, hρ y _ hy, eqGuard, binOp, Op.shift, this, Nat.min_eq_left hc]
theorem r_shr [Dr] {k k' : IntKind} {a m : Int} {c : Nat} (hx : ev L x = some (.int k a)) (hy : ev L y = some (.int k' (c : Int))) (hm : (2 : Int) ^ c = m) (hc : c ≤ k.bits) : RunsAt P L w (.binOp .shr t x y t') ty (.int k (a / m)) := by
  intro w' _ ρ hρ dst pos af g
  subst hm
  have : ¬ ((c : Int) < 0) := by omega
  have e : a.fdiv (2 ^ c) = a / 2 ^ c := Int.fdiv_eq_ediv_of_nonneg a (by exact Int.le_of_lt (Int.pow_pos (by decide)))
  simp [execOp, hρ x _ hx, hρ y _ hy, eqGuard, binOp, Op.shift, this, Nat.min_eq_left hc, e]
/-! ### Structs held against each other -/
theorem r_eqA [Dr] {xs ys : Array Value} {q : Bool} (hx : ev L x = some (.agg xs)) (hy : ev L y = some (.agg ys)) (hg : P.eqGuardType P.depth t = false) (he : ∀ w, (Op.equalIn 10000 t (.agg xs) (.agg ys)).run P w = .ok q w) : RunsAt P L w (.binOp .eql t x y t') ty (.bool q) := by
  intro w' _ ρ hρ dst pos af g
  simp [execOp, hρ x _ hx, hρ y _ hy, run_eqGuard_agg w' .eql t x y xs ys hg, run_eql_struct, he w']
theorem r_neA [Dr] {xs ys : Array Value} {q : Bool} (hx : ev L x = some (.agg xs)) (hy : ev L y = some (.agg ys)) (hg : P.eqGuardType P.depth t = false) (he : ∀ w, (Op.equalIn 10000 t (.agg xs) (.agg ys)).run P w = .ok q w) : RunsAt P L w (.binOp .neq t x y t') ty (.bool (!q)) := by
  intro w' _ ρ hρ dst pos af g
  simp [execOp, hρ x _ hx, hρ y _ hy, run_eqGuard_agg w' .neq t x y xs ys hg, run_neq_struct, he w']
/-- Two fields that are ints. -/
theorem eq_two {f0 f1 : Field} {k0 k1 : IntKind} (ht : P.underlying t = some (.struct (P.fieldsOf t))) (hp : P.stoodInHeld t = false) (hf : (P.fieldsOf t).toList = [f0, f1]) (h0 : f0.name ≠ "_" ∧ f0.offset = 0) (h1 : f1.name ≠ "_" ∧ f1.offset = 1)
    (u0 : P.underlying f0.type = some (.int k0)) (u1 : P.underlying f1.type = some (.int k1)) (a b c e : Int) (w : World) :
    (Op.equalIn 10000 t (.agg #[.int k0 a, .int k1 b]) (.agg #[.int k0 c, .int k1 e])).run P w = .ok (decide (a = c ∧ b = e)) w := by
  rw [run_equalIn_struct w 9999 t _ _ ht hp, hf]
  have key : ∀ dd : Nat, (Op.eqFields (dd + 1) #[.int k0 a, .int k1 b] #[.int k0 c, .int k1 e] [f0, f1]).run P w = .ok (decide (a = c ∧ b = e)) w := by
    intro dd
    by_cases e1 : a = c <;> by_cases e2 : b = e <;>
      simp [Op.eqFields, h0.1, h1.1, h0.2, h1.2, part, isAgg, run_underlying u0, run_underlying u1, run_equalIn_int w dd _ _ _ _ _ u0, run_equalIn_int w dd _ _ _ _ _ u1, e1, e2]
  exact key 9998
/-! ### Strings -/
theorem foldl_push : ∀ (l : List UInt8) (s : ByteArray), (l.map (fun b => ((b.toNat : Nat) : Int))).foldl (fun r n => r.push (UInt8.ofNat n.toNat)) s = ⟨s.data ++ l.toArray⟩
  | [], s => by simp
  | b :: l, s => by
    rw [List.map_cons, List.foldl_cons, foldl_push l]
    simp [ByteArray.push]
theorem r_str [Dr] {l : List UInt8} (hx : ev L x = some v) (ht : P.underlying t = some (.slice e)) (he : P.underlying e = some (.int .u8)) (ht' : P.underlying t' = some .string) (hv : Vec .byte H v l) (hs : Le H (hp w)) : RunsAt P L w (.convert t t' x) ty (.string ⟨l.toArray⟩) := by
  intro w' hw ρ hρ dst pos af g
  obtain ⟨news, hn1, hn2⟩ := hv.elems
  obtain rfl := bytes_elems hn1
  obtain ⟨h1, a, cap, rfl, h3, h4, h5, h6⟩ := hn2
  cases a with
  | none =>
    have : l.length = 0 := by have := h5 rfl; omega
    have : l = [] := List.eq_nil_of_length_eq_zero this
    subst this
    simp [execOp, hρ x _ hx, run_convert_bytes_string w' t t' e none _ cap ht he ht', Conv.bytesToString]
    rfl
  | some A =>
    have hload : (loadCells A l.length).run P w' = .ok ((l.map (fun b => ((b.toNat : Nat) : Int))).map (Value.int .u8)).toArray w' := by
      by_cases hl : l.length = 0
      · have : l = [] := List.eq_nil_of_length_eq_zero hl
        subst this
        simp [loadCells, loadCellsFrom]
      · have := run_loadCellsFrom (P := P) (p := A) w' l.length 0 (l.map bv) #[] (by simp) (fun j u hu => by rw [Nat.zero_add]; exact cell_of (hs.ext hw) ((h6 A rfl hl).2 j u hu))
        unfold loadCells
        rw [this]
        simp [bv, Function.comp_def]
    have hb := run_bytesToString w' A l.length cap _ hload
    rw [foldl_push] at hb
    simp [execOp, hρ x _ hx, run_convert_bytes_string w' t t' e (some A) _ cap ht he ht', hb]
theorem r_seq [Dr] {l m : List UInt8} (hx : ev L x = some (.string ⟨l.toArray⟩)) (hy : ev L y = some (.string ⟨m.toArray⟩)) : RunsAt P L w (.binOp .eql t x y t') ty (.bool (decide (l = m))) := by
  intro w' _ ρ hρ dst pos af g
  have e : (l == m) = decide (l = m) := by rw [Bool.eq_iff_iff]; simp
  simp [execOp, hρ x _ hx, hρ y _ hy, eqGuard, binOp, Op.stringOp, e]
/-! ### Closures -/
theorem run_callv {f : FuncId} {args : List Operand} {vs : List Value} {at_ : Array TypeId} {dst : Option Tmp} {cap : List Value} {fo : Operand} (hc : Callable P f) (hf : ev L fo = some (.func (.func f) #[] cap.toArray)) (ha : evl L args = some vs) (ρ : Operand → Value) (hρ : Rho L ρ) :
    (execOp ρ ⟨dst, .call ⟨.value fo, args.toArray, at_⟩, ty, pos, af, none⟩).run P w = .ok (.enter f (vs ++ cap).toArray) w := by
  obtain ⟨fn, c, h1, h2, h3⟩ := hc
  have e1 := hρ.map _ _ ha
  have h2' : ¬ fn.name = "runtime.NumGoroutine" := by simpa using h2
  simp [execOp, resolve, hρ fo _ hf, Deferred.ofValue, e1, invoke, callFunc, h1, h2', h3]
theorem S_callv {f : FuncId} {args : List Operand} {vs : List Value} {at_ : Array TypeId} {cap : List Value} {fo : Operand} {R : Value → World → Prop} (hf : ev L fo = some (.func (.func f) #[] cap.toArray)) (ha : evl L args = some vs) (hn : Nat.blt d n.n = true) (hok : Ok P f (vs ++ cap) w R)
    (h : ∀ v w', R v w' → S P n ops Q rest ((d, v) :: L) w') : S P n ops Q (⟨some d, .call ⟨.value fo, args.toArray, at_⟩, ty, pos, af, none⟩ :: rest) L w :=
  S_op rfl fun a fr => by
    unfold Oper.wp
    rw [run_callv hok.1 hf ha _ fr.rho]
    refine hok.2.mono fun e w' ⟨v, he, hv⟩ => ?_
    subst he
    exact h v w' hv _ (fr.put hn)
/-! ### Results that lie in cells -/
/-- One result, as slots and owned variables tell. -/
inductive Got (P : Program) (L : Env) (w : World) : ResultVar → Value → Prop
  | tmp {t : Nat} {v : Value} (h : gt L t = some v) : Got P L w (.tmp t) v
  | cell {s t : Nat} {b : Nat} {cs : List Value} {zz : Value} {bt : Nat} {dd : TypeDesc} (h : gt L s = some (.pointer (some ⟨b, 0, none⟩))) (ht : P.underlying t = some dd) (hd : aggT dd = true) (hz : Zr P t zz cs.length bt) (hp' : PtrTo (hp w) ⟨b, 0, none⟩ cs) : Got P L w (.cell s t) (.agg cs.toArray)
def resOne (tmps : Array Value) : ResultVar → Sem Value
  | .tmp t => pure (tmps.getD t undef)
  | .cell a t => do loadVar t (← asAddr (tmps.getD a undef))
theorem results_eq (fn : Func) (tmps : Array Value) : results fn tmps = (do let vs ← fn.results.mapM (resOne tmps); pure (if h : vs.size = 1 then vs[0] else .tuple vs)) := by
  unfold results
  congr 1
theorem Got.run {a : Act} {q : ResultVar} (fr : Fr n a L) (h : Got P L w q v) : (resOne a.tmps q).run P w = .ok v w := by
  cases h with
  | tmp h => have := fr.get _ _ h; simp [resOne, Array.getD_eq_getD_getElem?, this]
  | cell h ht hd hz hp' =>
    rename_i s t b cs zz bt dd
    have := fr.get _ _ h
    obtain ⟨inf, i1, i2, i3, i4⟩ := hz.parts
    have hload := run_loadCellsFrom (P := P) (p := ⟨b, 0, none⟩) w cs.length 0 cs #[] rfl (fun j u hu => by rw [Nat.zero_add]; exact hp'.2 j u hu)
    cases dd <;> simp only [aggT, Bool.false_eq_true] at hd <;>
      simp [resOne, Array.getD_eq_getD_getElem?, this, asAddr, loadVar, isAgg, run_underlying ht, loadCells, sizeOf, typeInfo, i1, i3, hload]
theorem At_got1 {k₀ : Nat} {fn : Func} {R : Value → World → Prop} {q : ResultVar} (hl : fn.results = #[q]) (h : Got P L w q v) (hR : R v w) : At ⟨k₀, []⟩ (bodyQ P fn R) .ret L w :=
  fun a fr => ⟨fr.defers, v, by rw [results_eq, hl]; simp [h.run fr], v, rfl, hR⟩
theorem At_got2 {k₀ : Nat} {fn : Func} {R : Value → World → Prop} {q q' : ResultVar} {v' : Value} (hl : fn.results = #[q, q']) (h : Got P L w q v) (h' : Got P L w q' v') (hR : R (.tuple #[v, v']) w) : At ⟨k₀, []⟩ (bodyQ P fn R) .ret L w :=
  fun a fr => ⟨fr.defers, _, by rw [results_eq, hl]; simp [h.run fr, h'.run fr], _, rfl, hR⟩
theorem At_got3 {k₀ : Nat} {fn : Func} {R : Value → World → Prop} {q q' q'' : ResultVar} {v' v'' : Value} (hl : fn.results = #[q, q', q'']) (h : Got P L w q v) (h' : Got P L w q' v') (h'' : Got P L w q'' v'') (hR : R (.tuple #[v, v', v'']) w) : At ⟨k₀, []⟩ (bodyQ P fn R) .ret L w :=
  fun a fr => ⟨fr.defers, _, by rw [results_eq, hl]; simp [h.run fr, h'.run fr, h''.run fr], _, rfl, hR⟩
theorem At_got0e {k₀ : Nat} {fn : Func} {R : Value → World → Prop} (hl : fn.results = #[]) (hR : R (.tuple #[]) w) : At ⟨k₀, []⟩ (bodyQ P fn R) .normal L w :=
  fun _a fr => ⟨fr.defers, _, results_none hl _ _ _, _, rfl, hR⟩
end
end Go.E
namespace Go.E
open Go Go.RowKit
def lst (n : Nat) (done : List Nat) : Array Bool := done.foldr (fun i a => a.setIfInBounds i true) (Array.replicate n false)
section
variable {P : Program} {n : Sz} {l : List Oper} {Q : Exit → Act → World → Prop} {L : Env} {w : World} {y : Code} {fuel : Nat} {m : Nat} {done : List Nat}
theorem wpOp_of_S {i : Nat} {o : Oper} {K : Act → World → Prop} {a : Act} (ho : nthO l i = some o) (h : wpList P l.toArray (Exit.then K Q) [o] a w) (_hQ : ∀ e a w, e ≠ .normal → Exit.then K Q e a w → Q e a w) : wpOp P l.toArray Q i K a w := by
  have ho' : l.toArray[i]? = some o := by rw [nthO_eq] at ho; simpa using ho
  unfold wpOp
  simp only [ho']
  simp only [wpList] at h
  split
  · rename_i hw
    rw [if_pos hw] at h
    rcases h with h | ⟨h1, h2⟩
    · left
      unfold Oper.wp at h ⊢
      generalize (execOp a.eval o).run P w = r at h ⊢
      cases r with
      | ok nx w' =>
        cases nx <;> simp only [Oper.upon] at h ⊢
        case value v => exact h
        case skip => exact h
        case defer => exact h
        case enter f args => exact h.mono fun e w'' he => by
                              cases e with
                              | returned v => exact he
                              | panicked ch => exact he
                              | outgrown => exact he
        case row => exact h
      | halt hh w' => cases hh <;> simp only [Oper.upon] at h ⊢ <;> exact h
    · exact .inr ⟨h1, h2⟩
  · rename_i hw; rw [if_neg hw] at h; exact h
end
section
variable {P : Program} {n : Sz} {lo : List Oper} {Q : Exit → Act → World → Prop} {L : Env} {w w0 : World} {O : List Res} {tr : Tr} {ix : Nat}
  {d : Nat} {ty : TypeId} {pos : String} {af : Array Edge} {α : Type} {r : Rp α} {x y : Operand} {v : Value} {t e : TypeId}
theorem Le.mono {A B C : PH} (h : Le A B) (k : Le B C) : Le A C := h.trans k
/-- What is owned, in another order. -/
theorem Lcl.pick [Dr] {i : Nat} {q : Res} (h : Lcl w0 O w) (hi : nthR O i = some q) : Lcl w0 (q :: delR O i) w := h.perm (perm_nth hi).symm
end
end Go.E
namespace Go.E
open Go Go.RowKit
section
variable {P : Program} {L : Env} {w : World} {x y : Operand} {ty t t' : TypeId}
end
/-- Two parts of memory together. -/
def un (A B : PH) : PH := fun b => match B b with
  | some o => some o
  | none => A b
theorem un_le {A B C : PH} (hA : Le A C) (hB : Le B C) : Le (un A B) C := fun b o e => by
  unfold un at e
  cases h : B b with
  | some o' => rw [h] at e; cases e; exact hB b o h
  | none => rw [h] at e; exact hA b o e
theorem le_un_right {A B : PH} : Le B (un A B) := fun b o e => by unfold un; rw [e]
theorem le_un_left {w w' : World} {A : PH} (hA : Le A (hp w)) : Le A (un A (nw w w')) := fun b o e => by
  have hb : b < w.heap.size := lt_of_heap (hA b o e)
  unfold un nw
  rw [if_neg (by omega)]; exact e
end Go.E
end
section
namespace Go.L
abbrev I64 (x : Int) : Prop := -9223372036854775808 ≤ x ∧ x ≤ 9223372036854775807
def chk {α : Type} (p : Prop) [Decidable p] (k : Option α) : Option α := if p then k else none
theorem chk_some {α : Type} {p : Prop} [Decidable p] {k : Option α} {e : α} (h : chk p k = some e) : p ∧ k = some e := by
  unfold chk at h
  split at h
  · rename_i hp; exact ⟨hp, h⟩
  · cases h
theorem chk_pos {α : Type} {p : Prop} [Decidable p] {k : Option α} (h : p) : chk p k = k := by unfold chk; rw [if_pos h]
theorem bind_some {α β : Type} {m : Option α} {f : α → Option β} {e : β} (h : m.bind f = some e) : ∃ x, m = some x ∧ f x = some e := Option.bind_eq_some_iff.1 h
theorem ite_t {α : Type} {b : Bool} {x y : Option α} {e : α} (hb : b = true) (h : (if b then x else y) = some e) : x = some e := by rw [if_pos hb] at h; exact h
theorem ite_f {α : Type} {b : Bool} {x y : Option α} {e : α} (hb : b = false) (h : (if b then x else y) = some e) : y = some e := by rw [if_neg (by rw [hb]; decide)] at h; exact h
theorem ite_p {α : Type} {p : Prop} [Decidable p] {x y : Option α} {e : α} (hb : p) (h : (if p then x else y) = some e) : x = some e := by rw [if_pos hb] at h; exact h
theorem ite_n {α : Type} {p : Prop} [Decidable p] {x y : Option α} {e : α} (hb : ¬ p) (h : (if p then x else y) = some e) : y = some e := by rw [if_neg hb] at h; exact h
section
variable {σ ρ : Type}
/-- A loop, so many rounds at most. -/
def itr (b : σ → Option (σ ⊕ ρ)) : Nat → σ → Option ρ
  | 0, _ => none
  | n + 1, s => (b s).bind fun e => match e with | .inl s' => itr b n s' | .inr r => some r
/-- What a round leads to. -/
def Nxt (b : σ → Option (σ ⊕ ρ)) (n : Nat) (r : ρ) : σ ⊕ ρ → Prop
  | .inl s => itr b n s = some r
  | .inr x => x = r
theorem itr_some {b : σ → Option (σ ⊕ ρ)} {n : Nat} {s : σ} {r : ρ} (h : itr b n s = some r) : ∃ m e, n = m + 1 ∧ b s = some e ∧ Nxt b m r e := by
  cases n with
  | zero => cases h
  | succ m =>
    obtain ⟨e, h1, h2⟩ := Option.bind_eq_some_iff.1 h
    refine ⟨m, e, rfl, h1, ?_⟩
    cases e with
    | inl s' => exact h2
    | inr x => exact Option.some.inj h2
theorem Nxt.out {b : σ → Option (σ ⊕ ρ)} {n : Nat} {r : ρ} {e : σ ⊕ ρ} {m : Option ρ} (h : m.map Sum.inr = some e) (hm : Nxt b n r e) : m = some r := by
  cases m with
  | none => cases h
  | some x => cases h; exact congrArg some hm
theorem Nxt.again {b : σ → Option (σ ⊕ ρ)} {n : Nat} {r : ρ} {e : σ ⊕ ρ} {s : σ} (h : some (Sum.inl s) = some e) (hm : Nxt b n r e) : itr b n s = some r := by cases h; exact hm
theorem itr_more {b : σ → Option (σ ⊕ ρ)} : ∀ {n : Nat} {s : σ} {r : ρ} (k : Nat), itr b n s = some r → itr b (n + k) s = some r
  | 0, _, _, _, h => by cases h
  | n + 1, s, r, k, h => by
    obtain ⟨m, e, hm, h1, h2⟩ := itr_some h
    obtain rfl : n = m := by omega
    rw [show n + 1 + k = (n + k) + 1 by omega, itr, h1]
    cases e with
    | inl s' => exact itr_more k h2
    | inr x => exact congrArg some h2
theorem itr_one {b : σ → Option (σ ⊕ ρ)} {n m : Nat} {s : σ} {r q : ρ} (h : itr b n s = some r) (k : itr b m s = some q) : r = q := by
  have h1 := itr_more m h
  have h2 := itr_more n k
  rw [Nat.add_comm] at h2
  exact Option.some.inj (h1.symm.trans h2)
/-- A loop, as many rounds as it takes. -/
noncomputable def run (b : σ → Option (σ ⊕ ρ)) (s : σ) : Option ρ :=
  open Classical in if h : ∃ r, ∃ n, itr b n s = some r then some h.choose else none
theorem run_of {b : σ → Option (σ ⊕ ρ)} {n : Nat} {s : σ} {r : ρ} (h : itr b n s = some r) : run b s = some r := by
  have hx : ∃ r, ∃ n, itr b n s = some r := ⟨r, n, h⟩
  unfold run
  rw [dif_pos hx]
  obtain ⟨m, hm⟩ := hx.choose_spec
  rw [itr_one hm h]
theorem run_some {b : σ → Option (σ ⊕ ρ)} {s : σ} {r : ρ} (h : run b s = some r) : ∃ n, itr b n s = some r := by
  unfold run at h
  split at h
  · rename_i hx
    cases h
    exact hx.choose_spec
  · cases h
theorem run_inl {b : σ → Option (σ ⊕ ρ)} {s s' : σ} (h : b s = some (.inl s')) : run b s = run b s' := by
  cases hr : run b s' with
  | some r =>
    obtain ⟨n, hn⟩ := run_some hr
    exact run_of (n := n + 1) (by rw [itr, h]; exact hn)
  | none =>
    cases hs : run b s with
    | none => rfl
    | some r =>
      obtain ⟨n, hn⟩ := run_some hs
      obtain ⟨m, e, _, h1, h2⟩ := itr_some hn
      rw [h] at h1; cases h1
      rw [run_of h2] at hr; cases hr
theorem run_inr {b : σ → Option (σ ⊕ ρ)} {s : σ} {m : Option ρ} (h : b s = m.map .inr) : run b s = m := by
  cases m with
  | some r => exact run_of (n := 1) (by rw [itr, h]; rfl)
  | none =>
    cases hs : run b s with
    | none => rfl
    | some r =>
      obtain ⟨n, hn⟩ := run_some hs
      obtain ⟨m, e, _, h1, h2⟩ := itr_some hn
      rw [h] at h1; cases h1
/-- A loop under an invariant. -/
theorem run_inv {b : σ → Option (σ ⊕ ρ)} (I : σ → Prop) (μ : σ → Nat) {m : Option ρ} (step : ∀ s, I s → (∃ s', b s = some (.inl s') ∧ I s' ∧ μ s' < μ s) ∨ b s = m.map .inr) {s : σ} (h : I s) : run b s = m := by
  have key : ∀ k s, μ s = k → I s → run b s = m := by
    intro k
    induction k using Nat.strongRecOn with
    | _ k ih =>
      intro s hk hI
      rcases step s hI with ⟨s', h1, h2, h3⟩ | h1
      · rw [run_inl h1]; exact ih (μ s') (by omega) s' rfl h2
      · exact run_inr h1
  exact key _ s rfl h
/-- A loop that counts up to an end: the state is given at each round. -/
theorem run_count {b : σ → Option (σ ⊕ ρ)} (st : Nat → σ) (k : Nat) {m : Option ρ} (step : ∀ i, i < k → b (st i) = some (.inl (st (i + 1)))) (last : b (st k) = m.map .inr) (i : Nat) (hi : i ≤ k) : run b (st i) = m := by
  have key : ∀ d i, i + d = k → run b (st i) = m := by
    intro d
    induction d with
    | zero => intro i h; rw [Nat.add_zero] at h; subst h; exact run_inr last
    | succ d ih => intro i h; rw [run_inl (step i (by omega))]; exact ih (i + 1) (by omega)
  exact key (k - i) i (by omega)
end
/-- A number as a byte. -/
def u8 (a : Int) : UInt8 := UInt8.ofNat (a % 256).toNat
theorem u8_toNat (a : Int) : ((u8 a).toNat : Int) = a % 256 := by
  unfold u8
  rw [UInt8.toNat_ofNat']
  omega
end Go.L
namespace Go.E
open Go Go.RowKit
/-- The memory that lies fast: that of the arguments, and what is new and not owned. -/
def gz (H : PH) (w0 w : World) (O : List Res) : PH := un H (nf w0 w O)
section
variable {H : PH} {w0 w w' : World} {O O' : List Res}
theorem le_un_left' {A B : PH} (hA : Le A (hp w0)) (hB : ∀ b o, B b = some o → w0.heap.size ≤ b) : Le A (un A B) := fun b o e => by
  have hb : b < w0.heap.size := lt_of_heap (hA b o e)
  unfold un
  cases h : B b with
  | none => exact e
  | some o' => have := hB b o' h; omega
theorem nf_ge {b : Nat} {o : Obj} (h : nf w0 w O b = some o) : w0.heap.size ≤ b := by
  unfold nf at h
  split at h
  · assumption
  · cases h
theorem gz_left (hH : Le H (hp w0)) : Le H (gz H w0 w O) := le_un_left' hH (fun _ _ h => nf_ge h)
theorem gz_right : Le (nf w0 w O) (gz H w0 w O) := le_un_right
theorem un_mono_right {A B C : PH} (hA : Le A (un A C)) (h : Le B C) : Le (un A B) (un A C) := un_le hA (h.trans le_un_right)
theorem gz_mono (hH : Le H (hp w0)) (h : Le (fz w O) (fz w' O')) : Le (gz H w0 w O) (gz H w0 w' O') := un_mono_right (gz_left hH) (nf_mono h)
theorem gz_fz [Dr] (hH : Le H (hp w0)) (hL : Lcl w0 O w) : Le (gz H w0 w O) (fz w O) := un_le (hH.trans hL.argFz) nf_fz
theorem gz_le [Dr] (hH : Le H (hp w0)) (hL : Lcl w0 O w) : Le (gz H w0 w O) (hp w) := (gz_fz hH hL).trans (fz_le _ _)
theorem gz_new [Dr] (hL : Lcl w0 O w) : Le (nw w w') (gz H w0 w' O) := (nw_nf hL).trans le_un_right
theorem gz_nw [Dr] (hH : Le H (hp w0)) (hL : Lcl w0 O w) (hx : Ext w w') : Le (un (gz H w0 w O) (nw w w')) (gz H w0 w' O) := un_le (gz_mono hH (fz_ext hL hx)) (gz_new hL)
theorem gz_res (hH : Le H (hp w0)) : Le (gz H w0 w O) (un H (nw w0 w)) := un_le (le_un_left hH) (nf_nw.trans le_un_right)
/-- What lies fast here. -/
theorem Lcl.rG [Dr] (_ : Lcl w0 O w) (H : PH) : Le (gz H w0 w O) (gz H w0 w O) := Le.refl _
end
/-- A slice of the call's own whose elements lie in H or in new memory. -/
def OwnH {α : Type} (e : TypeId) (r : Rp α) (H : PH) (w w' : World) (v : Value) (l : List α) : Prop :=
  ∃ xs, w'.ownsRow w.heap.size e r.sz v l.length xs ∧ Elems r (un H (nwBut w w' v)) l xs
section
variable {α : Type} {e : TypeId} {r : Rp α} {H : PH} {w0 w w' : World} {O : List Res} {v : Value} {l : List α} {i : Nat} {xs : List Value}
theorem nwBut_ge {b : Nat} {o : Obj} (h : nwBut w w' v b = some o) : w.heap.size ≤ b := by
  unfold nwBut nw at h
  split at h
  · cases h
  · split at h
    · assumption
    · cases h
theorem OwnH.vec (hH : Le H (hp w)) (h : OwnH e r H w w' v l) : Vec r (un H (nw w w')) v l := by
  obtain ⟨xs, h1, h2⟩ := h
  refine vec_of_row h1 h2 (un_le (le_un_left hH) (nwBut_le.trans le_un_right)) fun k hk o ho => ?_
  have := (h1.lt k hk).1
  apply le_un_right
  unfold nw
  rw [if_pos this]; exact ho
theorem OwnH.vecG [Dr] (h : OwnH e r (gz H w0 w O) w w' v l) (hH : Le H (hp w0)) (hL : Lcl w0 O w) (hx : Ext w w') : Vec r (gz H w0 w' O) v l := (h.vec (gz_le hH hL)).mono (gz_nw hH hL hx)
theorem OwnH.take [Dr] (h : OwnH e r (gz H w0 w O) w w' v l) (hH : Le H (hp w0)) (hL : Lcl w0 O w) (hx : Ext w w') : ∃ xs, Lcl w0 (.row v e r.sz l.length xs :: O) w' ∧ Le (fz w O) (fz w' (.row v e r.sz l.length xs :: O)) ∧ Elems r (gz H w0 w' (.row v e r.sz l.length xs :: O)) l xs := by
  obtain ⟨xs, h1, h2⟩ := h
  obtain ⟨h3, h4⟩ := row_new hL hx h1
  refine ⟨xs, h3, h4, h2.mono (un_le (gz_mono hH h4) (fun b o hb => gz_right b o ?_))⟩
  have hge : w0.heap.size ≤ b := Nat.le_trans hL.ext.size (nwBut_ge hb)
  unfold nf
  rw [if_pos hge]
  exact nwBut_fz hL b o hb
theorem OwnH.nil {H : PH} : OwnH e r H w w' (.slice none 0 0) ([] : List α) := ⟨[], World.ownsRow_nil w' _ e _, .nil⟩
theorem Lcl.ownH [Dr] (hL : Lcl w0 O w) (hH : Le H (hp w0)) (hi : nthR O i = some (.row v e r.sz l.length xs)) (he : Elems r (gz H w0 w O) l xs) : OwnH e r H w0 w v l :=
  ⟨xs, ownsRow_base (hL.at hi) (fun k hk => hL.own _ ((perm_nth hi).mem_iff.2 (.head _)) k hk), he.mono (un_le (le_un_left' hH (fun _ _ h => nwBut_ge h)) ((nf_but hi).trans le_un_right))⟩
/-- A row lies fast from now on. -/
theorem Lcl.vecG [Dr] (hL : Lcl w0 O w) (hH : Le H (hp w0)) (hi : nthR O i = some (.row v e r.sz l.length xs)) (he : Elems r (gz H w0 w O) l xs) : Vec r (gz H w0 w (delR O i)) v l :=
  vec_of_row (hL.at hi) he (gz_mono hH (fz_dropAt hi)) (fun k hk o ho => gz_right k o (by
    unfold nf
    rw [if_pos (hL.own _ ((perm_nth hi).mem_iff.2 (.head _)) k hk), fz_hp_drop hi hk hL.dis]; exact ho))
/-- A row is read. -/
theorem Lcl.vecN [Dr] (hL : Lcl w0 O w) (hH : Le H (hp w0)) (hi : nthR O i = some (.row v e r.sz l.length xs)) (he : Elems r (gz H w0 w O) l xs) : Vec r (hp w) v l := hL.vecR hi (he.mono (gz_fz hH hL))
end
/-- Strings. -/
def Rp.st : Rp (List UInt8) := ⟨1, fun _ x c => c = [.string ⟨x.toArray⟩], fun h => by simp [h], fun _ h => h, fun h u hu => by subst h; simp at hu; subst hu; rfl⟩
theorem Elems.set {α : Type} {r : Rp α} {H : PH} {l : List α} {cs : List Value} {x : α} {u : Value} (h : Elems r H l cs) (hx : r.rel H x [u]) : ∀ i, i < l.length → Elems r H (l.set i x) (cs.set (i * r.sz) u) := by
  have hsz : r.sz = 1 := (r.len hx).symm
  induction h with
  | nil => intro i hi; cases hi
  | @cons y l c cs h t ih =>
    intro i hi
    have hc : c.length = 1 := by rw [r.len h, hsz]
    obtain ⟨z, rfl⟩ := List.length_eq_one_iff.1 hc
    cases i with
    | zero => rw [Nat.zero_mul]; exact .cons hx t
    | succ i =>
      rw [hsz, Nat.mul_one] at *
      simp only [List.length_cons] at hi
      have := ih i (by omega)
      rw [Nat.mul_one] at this
      exact .cons h this
section
variable {P : Program} {n : Sz} {ops : Array Oper} {Q : Exit → Act → World → Prop} {L : Env} {w w0 : World} {O : List Res} {rest : List Oper}
  {d : Nat} {ty : TypeId} {pos : String} {af : Array Edge} {α : Type} {r : Rp α} {x y : Operand} {v u : Value} {t t' e : TypeId} {H : PH}
abbrev Cap (bt n : Nat) : Prop := n * bt ≤ 140737488355328 ∧ n ≤ 9223372036854775807
theorem S_appE [Dr] (i : Nat) {bt : Nat} {zz : Value} {l m : List α} {xs : List Value} (hx : ev L x = some v) (hy : ev L y = some u) (ht : P.underlying t = some (.slice e)) (hz : Zr P e zz r.sz bt) (hzs : zz.cells.size = r.sz) (hsz : 0 < r.sz) (hn : Nat.blt d n.n = true)
    (hH : Le H (hp w0)) (hL : Lcl w0 O w) (hi : nthR O i = some (.row v e r.sz l.length xs)) (he : Elems r (gz H w0 w O) l xs) (hm : Vec r (gz H w0 w O) u m) (hby : Cap bt (l.length + m.length))
    (h : ∀ v' w' xs', Lcl w0 (setR O i (.row v' e r.sz (l ++ m).length xs')) w' → Le (fz w O) (fz w' (setR O i (.row v' e r.sz (l ++ m).length xs'))) → Elems r (gz H w0 w' (setR O i (.row v' e r.sz (l ++ m).length xs'))) (l ++ m) xs' → S P n ops Q rest ((d, v') :: L) w') :
    S P n ops Q (⟨some d, .call ⟨.builtin .append, #[x, y], #[t, t]⟩, ty, pos, af, none⟩ :: rest) L w := by
  obtain ⟨news, hn1, hs⟩ := hm.elems
  refine S_append i hx hy ht hz hzs hsz hn hL hi (hs.mono (gz_le hH hL)) hn1.one hby fun v' w' h1 h2 => ?_
  rw [← List.length_append] at h1 h2
  exact h v' w' _ h1 h2 ((he.append hn1).mono (gz_mono hH h2))
/-- A row that this region has made holds more. -/
theorem S_storeE [Dr] (i : Nat) {bt k j : Nat} {zz : Value} {l : List α} {xs : List Value} {p : Addr} {z : α} (hx : ev L x = some (.pointer (some p))) (hy : ev L y = some u) (hu : u.oneCell' = true) (hz : Zr P t zz 1 bt) (hH : Le H (hp w0)) (hL : Lcl w0 O w) (hi : nthR O i = some (.row v e r.sz l.length xs)) (he : Elems r (gz H w0 w O) l xs)
    (hp' : RowPtr v k p) (hk : k = j * r.sz) (hj : j < l.length) (hz' : r.rel (gz H w0 w O) z [u])
    (h : ∀ w' xs', Lcl w0 (setR O i (.row v e r.sz (l.set j z).length xs')) w' → Le (fz w O) (fz w' (setR O i (.row v e r.sz (l.set j z).length xs'))) → Elems r (gz H w0 w' (setR O i (.row v e r.sz (l.set j z).length xs'))) (l.set j z) xs' → S P n ops Q rest L w') :
    S P n ops Q (⟨none, .store t x y, ty, pos, af, none⟩ :: rest) L w := by
  subst hk
  have hlen := he.len
  have hsz : r.sz = 1 := (r.len hz').symm
  refine S_storeR i hx hy hu hz hL hi hp' (by rw [hlen, hsz]; omega) fun w' h1 h2 => ?_
  have e1 : l.length = (l.set j z).length := by simp
  rw [e1] at h1 h2
  exact h w' _ h1 h2 ((he.set hz' j hj).mono (gz_mono hH h2))
/-- A slice literal, read. -/
theorem S_litE [Dr] {ps : List (Nat × Operand)} {vs : List (Nat × Value)} {cs : List Value} {l : List α} (hp' : evp L ps = some vs) (hr : ∀ w, (Instr.buildSlice t l.length vs.toArray).run P w = .ok (.slice (some ⟨w.heap.size, 0, none⟩) l.length l.length) (w.alloc (.cells cs.toArray e))) (hn : Nat.blt d n.n = true) (hlen : l.length ≤ 9223372036854775807) (hH : Le H (hp w0)) (hL : Lcl w0 O w) (he : Elems r (gz H w0 w O) l cs)
    (h : ∀ u w', Ext w w' → Lcl w0 O w' → Le (fz w O) (fz w' O) → Vec r (gz H w0 w' O) u l → S P n ops Q rest ((d, u) :: L) w') :
    S P n ops Q (⟨some d, .buildSlice t l.length ps.toArray, ty, pos, af, none⟩ :: rest) L w :=
  S_lit (sz := r.sz) hp' hr he.len hlen hn hL fun u w' hx hL' hle hs _ => h u w' hx hL' hle (vec_of_src (he.mono (gz_mono hH hle)) (hs.mono (gz_new hL)))
/-- A slice literal, owned. -/
theorem S_litO [Dr] {ps : List (Nat × Operand)} {vs : List (Nat × Value)} {cs : List Value} {l : List α} (hp' : evp L ps = some vs) (hr : ∀ w, (Instr.buildSlice t l.length vs.toArray).run P w = .ok (.slice (some ⟨w.heap.size, 0, none⟩) l.length l.length) (w.alloc (.cells cs.toArray e))) (hn : Nat.blt d n.n = true) (hlen : l.length ≤ 9223372036854775807) (hH : Le H (hp w0)) (hL : Lcl w0 O w) (he : Elems r (gz H w0 w O) l cs)
    (h : ∀ u w' xs, Lcl w0 (.row u e r.sz l.length xs :: O) w' → Le (fz w O) (fz w' (.row u e r.sz l.length xs :: O)) → Elems r (gz H w0 w' (.row u e r.sz l.length xs :: O)) l xs → S P n ops Q rest ((d, u) :: L) w') :
    S P n ops Q (⟨some d, .buildSlice t l.length ps.toArray, ty, pos, af, none⟩ :: rest) L w :=
  S_lit (sz := r.sz) hp' hr he.len hlen hn hL fun u w' hx _ _ _ ho => by
    obtain ⟨h1, h2⟩ := row_new hL hx ho
    exact h u w' _ h1 h2 (he.mono (gz_mono hH h2))
end
section
variable {P : Program} {n : Sz} {lo : List Oper} {Q : Exit → Act → World → Prop} {L : Env} {w w0 : World} {O : List Res} {tr : Tr} {ix : Nat}
  {d : Nat} {ty : TypeId} {pos : String} {af : Array Edge} {α : Type} {r : Rp α} {x y : Operand} {v : Value} {t e : TypeId} {H : PH}
theorem D_litE [Dr] {ps : List (Nat × Operand)} {vs : List (Nat × Value)} {cs : List Value} {l : List α} (ho : nthO lo ix = some ⟨some d, .buildSlice t l.length ps.toArray, ty, pos, af, none⟩) (hp' : evp L ps = some vs) (hr : ∀ w, (Instr.buildSlice t l.length vs.toArray).run P w = .ok (.slice (some ⟨w.heap.size, 0, none⟩) l.length l.length) (w.alloc (.cells cs.toArray e))) (hn : Nat.blt d n.n = true) (hlen : l.length ≤ 9223372036854775807) (hH : Le H (hp w0)) (hL : Lcl w0 O w) (he : Elems r (gz H w0 w O) l cs)
    (h : ∀ u w', Ext w w' → Lcl w0 O w' → Le (fz w O) (fz w' O) → Vec r (gz H w0 w' O) u l → D P n lo Q tr ((d, u) :: L) w') : D P n lo Q (.h ix tr) L w := by
  refine D_hop (R := fun w1 u w' => Src (nw w1 w') r.sz u l.length cs) ho hn (fun w1 hx1 ρ hρ => ?_) (fun w1 u w' hx1 hx2 hR => ?_)
  · have e1 := hρ.mapp _ _ hp'
    have e' : (ps.toArray.map fun (i, x) => (i, ρ x)) = vs.toArray := by rw [← e1]; simp
    refine ⟨_, _, by simp [execOp, e', hr w1, -List.map_toArray], ext_alloc w1 (.cells cs.toArray e), he.len, some ⟨w1.heap.size, 0, none⟩, l.length, rfl, Nat.le_refl _, by unfold maxLen; omega, (fun e => by cases e), fun A hA _ => ?_⟩
    cases hA
    refine ⟨rfl, fun j u hu => ?_⟩
    simp only [Addr.add_lit, Nat.zero_add, cellP, nw, Nat.le_refl, if_true, heap_alloc_new]
    simpa using hu
  · have hL1 := hL.call hx1
    have hle := (fz_ext hL hx1).trans (fz_ext hL1 hx2)
    exact h u w' (hx1.trans hx2) (hL1.call hx2) hle (vec_of_src (he.mono (gz_mono hH hle)) (hR.mono (gz_new hL1)))
end
end Go.E
end
section
namespace Go.E
open Go Go.RowKit
theorem idx_lt {i : Int} {n : Nat} (h : 0 ≤ i ∧ i < (n : Int)) : i.toNat < n := by omega
theorem not_dec_t {p : Prop} [Decidable p] (h : (!decide p) = true) : ¬ p := by simpa using h
theorem not_dec_f {p : Prop} [Decidable p] (h : (!decide p) = false) : p := by simpa using h
theorem RowPtr.add {v : Value} {k : Nat} {p : Addr} (h : RowPtr v k p) (j : Nat) : RowPtr v (k + j) (p.add j) := by
  obtain ⟨b, o, s⟩ := p
  obtain ⟨h1, h2, h3⟩ := h
  simp only at h1 h2 h3
  subst h3
  exact ⟨by simpa [Addr.add_lit] using h1, by simp [Addr.add_lit, h2], by simp [Addr.add_lit]⟩
/-- Data without memory of its own. -/
def Plain {α : Type} (r : Rp α) : Prop := ∀ {H H' : PH} {x : α} {c : List Value}, r.rel H x c → r.rel H' x c
theorem plain_byte : Plain .byte := fun h => h
theorem Elems.ofPlain {α : Type} {r : Rp α} (hp : Plain r) {H H' : PH} {l : List α} {cs : List Value} (h : Elems r H l cs) : Elems r H' l cs := by
  induction h with
  | nil => exact .nil
  | cons h _ ih => exact .cons (hp h) ih
theorem OwnH.ofPlain {α : Type} {e : TypeId} {r : Rp α} {H1 H2 : PH} {w w' : World} {v : Value} {l : List α} (h : OwnH e r H1 w w' v l) (hp : Plain r) : OwnH e r H2 w w' v l := by
  obtain ⟨xs, h1, h2⟩ := h
  exact ⟨xs, h1, h2.ofPlain hp⟩
section
variable {P : Program} {L : Env} {w : World} {x y z : Operand} {ty t t' t'' e : TypeId}
theorem conv_64_u8 (a : Int) : IntKind.u8.wrap a = ((Go.L.u8 a).toNat : Int) := by rw [wrapU8', Go.L.u8_toNat]
theorem r_bitI [Dr] {op : BinOp} {c : Nat} {p q : Int} (hx : ev L x = some (.int .i64 p)) (hy : ev L y = some (.int .i64 q)) (ho : bitN op p.toNat q.toNat = some c) (h : (0 ≤ p ∧ p < 2 ^ 63) ∧ (0 ≤ q ∧ q < 2 ^ 63)) : RunsAt P L w (.binOp op t x y t') ty (.int .i64 (c : Int)) :=
  r_bit64 hx hy (by omega) (by omega) ho (by omega) (by omega)
theorem r_lenS [Dr] {l : List UInt8} (hx : ev L x = some (.string ⟨l.toArray⟩)) (ht : P.underlying t = some .string) : RunsAt P L w (.call ⟨.builtin .len, #[x], #[t]⟩) ty (.int .i64 (l.length : Int)) := by
  intro w' _ ρ hρ dst pos af g
  have : (ByteArray.mk l.toArray).size = l.length := by simp [ByteArray.size]
  simp [execOp, resolve, hρ x _ hx, invoke, builtin, Builtin.len_, run_underlying ht, goInt, this]
theorem r_sne [Dr] {l m : List UInt8} (hx : ev L x = some (.string ⟨l.toArray⟩)) (hy : ev L y = some (.string ⟨m.toArray⟩)) : RunsAt P L w (.binOp .neq t x y t') ty (.bool (!decide (l = m))) := by
  intro w' _ ρ hρ dst pos af g
  have e : (l == m) = decide (l = m) := by rw [Bool.eq_iff_iff]; simp
  simp [execOp, hρ x _ hx, hρ y _ hy, eqGuard, binOp, Op.stringOp, e]
theorem r_cat [Dr] {l m : List UInt8} (hx : ev L x = some (.string ⟨l.toArray⟩)) (hy : ev L y = some (.string ⟨m.toArray⟩)) (h : l.length + m.length ≤ 9223372036854775807) : RunsAt P L w (.binOp .add t x y t') ty (.string ⟨(l ++ m).toArray⟩) := by
  intro w' _ ρ hρ dst pos af g
  have e1 : (ByteArray.mk l.toArray).size = l.length := by simp [ByteArray.size]
  have e2 : (ByteArray.mk m.toArray).size = m.length := by simp [ByteArray.size]
  have e3 : ByteArray.mk l.toArray ++ ByteArray.mk m.toArray = ByteArray.mk (l ++ m).toArray := by
    apply ByteArray.ext
    simp
  have e4 : ¬ (IntKind.i64.max < ((l.length + m.length : Nat) : Int)) := by
    have : IntKind.i64.max = 9223372036854775807 := by decide
    omega
  simp only [execOp, hρ x _ hx, hρ y _ hy, eqGuard, binOp, Op.stringOp, e1, e2, e3]
  simp
  omega
end
section
variable {P : Program} {n : Sz} {ops : Array Oper} {Q : Exit → Act → World → Prop} {L : Env} {w w0 : World} {O : List Res} {rest : List Oper} {lop : List Oper} {ix : Nat} {tr : Tr}
  {d : Nat} {ty : TypeId} {pos : String} {af : Array Edge} {α : Type} {r : Rp α} {x a b : Operand} {v : Value} {t e : TypeId} {H : PH} {l : List α} {k k' : IntKind} {i j : Int} {zz : Value} {bt : Nat}
theorem S_sliceB [Dr] (hx : ev L x = some v) (ha : ev L a = some (.int k i)) (hb : ev L b = some (.int k' j)) (ht : P.underlying t = some (.slice e)) (he : Zr P e zz r.sz bt) (hv : Vec r H v l) (hc : 0 ≤ i ∧ i ≤ j ∧ j ≤ (l.length : Int)) (hn : Nat.blt d n.n = true)
    (h : ∀ v', Vec r H v' ((l.drop i.toNat).take (j.toNat - i.toNat)) → S P n ops Q rest ((d, v') :: L) w) : S P n ops Q (⟨some d, .slice t x (some a) (some b) none, ty, pos, af, none⟩ :: rest) L w :=
  S_slice hx ht he hv i.toNat j.toNat ⟨k, by rw [Int.toNat_of_nonneg (by omega)]; exact ha⟩ ⟨k', by rw [Int.toNat_of_nonneg (by omega)]; exact hb⟩ (by omega) hn h
theorem S_sliceH [Dr] (hx : ev L x = some v) (hb : ev L b = some (.int k' j)) (ht : P.underlying t = some (.slice e)) (he : Zr P e zz r.sz bt) (hv : Vec r H v l) (hc : 0 ≤ j ∧ j ≤ (l.length : Int)) (hn : Nat.blt d n.n = true)
    (h : ∀ v', Vec r H v' (l.take j.toNat) → S P n ops Q rest ((d, v') :: L) w) : S P n ops Q (⟨some d, .slice t x none (some b) none, ty, pos, af, none⟩ :: rest) L w :=
  S_slice hx ht he hv 0 j.toNat rfl ⟨k', by rw [Int.toNat_of_nonneg (by omega)]; exact hb⟩ (by omega) hn fun v' h' => h v' (by simpa using h')
theorem D_sliceL [Dr] (ho : nthO lop ix = some ⟨some d, .slice t x (some a) none none, ty, pos, af, none⟩) (hx : ev L x = some v) (ha : ev L a = some (.int k i)) (ht : P.underlying t = some (.slice e)) (he : Zr P e zz r.sz bt) (hv : Vec r H v l) (hc : 0 ≤ i ∧ i ≤ (l.length : Int)) (hn : Nat.blt d n.n = true)
    (h : ∀ v', Vec r H v' (l.drop i.toNat) → D P n lop Q tr ((d, v') :: L) w) : D P n lop Q (.q ix tr) L w :=
  D_slice ho hx ht he hv i.toNat l.length ⟨k, by rw [Int.toNat_of_nonneg (by omega)]; exact ha⟩ rfl (by omega) hn fun v' h' => h v' (by rwa [List.take_of_length_le (by simp)] at h')
end
end Go.E
namespace Go.E
open Go Go.RowKit
theorem Elems.c1 {α : Type} {r : Rp α} {H : PH} {x : α} {l : List α} {u0 : Value} {cs : List Value} (h : r.rel H x [u0]) (t : Elems r H l cs) : Elems r H (x :: l) (u0 :: cs) := .cons (c := [u0]) h t
theorem Elems.c2 {α : Type} {r : Rp α} {H : PH} {x : α} {l : List α} {u0 u1 : Value} {cs : List Value} (h : r.rel H x [u0, u1]) (t : Elems r H l cs) : Elems r H (x :: l) (u0 :: u1 :: cs) := .cons (c := [u0, u1]) h t
theorem Elems.c3 {α : Type} {r : Rp α} {H : PH} {x : α} {l : List α} {u0 u1 u2 : Value} {cs : List Value} (h : r.rel H x [u0, u1, u2]) (t : Elems r H l cs) : Elems r H (x :: l) (u0 :: u1 :: u2 :: cs) := .cons (c := [u0, u1, u2]) h t
theorem Elems.c4 {α : Type} {r : Rp α} {H : PH} {x : α} {l : List α} {u0 u1 u2 u3 : Value} {cs : List Value} (h : r.rel H x [u0, u1, u2, u3]) (t : Elems r H l cs) : Elems r H (x :: l) (u0 :: u1 :: u2 :: u3 :: cs) := .cons (c := [u0, u1, u2, u3]) h t
theorem Elems.c5 {α : Type} {r : Rp α} {H : PH} {x : α} {l : List α} {u0 u1 u2 u3 u4 : Value} {cs : List Value} (h : r.rel H x [u0, u1, u2, u3, u4]) (t : Elems r H l cs) : Elems r H (x :: l) (u0 :: u1 :: u2 :: u3 :: u4 :: cs) := .cons (c := [u0, u1, u2, u3, u4]) h t
theorem Elems.c6 {α : Type} {r : Rp α} {H : PH} {x : α} {l : List α} {u0 u1 u2 u3 u4 u5 : Value} {cs : List Value} (h : r.rel H x [u0, u1, u2, u3, u4, u5]) (t : Elems r H l cs) : Elems r H (x :: l) (u0 :: u1 :: u2 :: u3 :: u4 :: u5 :: cs) := .cons (c := [u0, u1, u2, u3, u4, u5]) h t
theorem Elems.c7 {α : Type} {r : Rp α} {H : PH} {x : α} {l : List α} {u0 u1 u2 u3 u4 u5 u6 : Value} {cs : List Value} (h : r.rel H x [u0, u1, u2, u3, u4, u5, u6]) (t : Elems r H l cs) : Elems r H (x :: l) (u0 :: u1 :: u2 :: u3 :: u4 :: u5 :: u6 :: cs) := .cons (c := [u0, u1, u2, u3, u4, u5, u6]) h t
theorem Elems.c8 {α : Type} {r : Rp α} {H : PH} {x : α} {l : List α} {u0 u1 u2 u3 u4 u5 u6 u7 : Value} {cs : List Value} (h : r.rel H x [u0, u1, u2, u3, u4, u5, u6, u7]) (t : Elems r H l cs) : Elems r H (x :: l) (u0 :: u1 :: u2 :: u3 :: u4 :: u5 :: u6 :: u7 :: cs) := .cons (c := [u0, u1, u2, u3, u4, u5, u6, u7]) h t
/-- A nil slice is a row of no elements. -/
theorem row_nilE [Dr] {α : Type} (r : Rp α) {w0 w : World} {O : List Res} (H : PH) (e : TypeId) (hL : Lcl w0 O w) :
    Lcl w0 (.row (.slice none 0 0) e r.sz ([] : List α).length [] :: O) w ∧ Le (fz w O) (fz w (.row (.slice none 0 0) e r.sz ([] : List α).length [] :: O)) ∧ Elems r (gz H w0 w (.row (.slice none 0 0) e r.sz ([] : List α).length [] :: O)) [] [] :=
  ⟨(row_nil hL e r.sz).1, (row_nil hL e r.sz).2, .nil⟩
/-- What the post says of a panic hangs on no slot. -/
def NoPanic (Q : Exit → Act → World → Prop) : Prop := ∀ c a (d : Option Tmp) (v : Value) w, Q (.panic c) (a.put d v) w → Q (.panic c) a w
section
variable {P : Program} {n : Sz} {Q : Exit → Act → World → Prop}
theorem np_body {fn : Func} {R : Value → World → Prop} : NoPanic (bodyQ P fn R) := fun _ _ d _ _ h => by cases d <;> exact h
theorem np_seq {y : Code} (h : NoPanic Q) : NoPanic (seqQ P y Q) := fun c a d v w k => h c a d v w k
theorem np_cut {σ : Type} {I : σ → Env} {R : σ → World → Prop} (h : NoPanic Q) : NoPanic (cutQ n I R Q) := fun c a d v w k => h c a d v w k
theorem np_loop {σ : Type} {I : σ → Env} {R : σ → World → Prop} {μ : σ → Nat} {x : σ} (h : NoPanic Q) : NoPanic (loopQ n I R μ x Q) := fun c a d v w k => h c a d v w k
theorem np_block {id : Nat} (h : NoPanic Q) : NoPanic (Exit.inBlock id Q) := fun c a d v w k => h c a d v w k
end
section
variable {P : Program} {n : Sz} {m fuel : Nat} {l : List Oper} {Q : Exit → Act → World → Prop} {L : Env} {w w0 : World} {done : List Nat} {i d : Nat} {op : Op} {ty : TypeId} {pos : String} {af : Array Edge}
def hoistB (l : List Oper) (m : Nat) (done : List Nat) (i : Nat) : Bool :=
  Region.noSelect l.toArray && Region.free .any l.toArray (lst m done) i && (Region.ready .any l.toArray (lst m done)).contains i
end
section
variable {P : Program} {n : Sz} {m fuel : Nat} {lo : List Oper} {Q : Exit → Act → World → Prop} {L : Env} {w w0 : World} {done : List Nat} {i d : Nat} {ty : TypeId} {pos : String} {af : Array Edge} {α : Type} {r : Rp α} {H : PH} {x y : Operand} {v : Value} {t e : TypeId} {O : List Res}
end
end Go.E
namespace Go.E
open Go Go.RowKit
section
variable {P : Program} {L : Env} {w : World} {x y : Operand} {ty t t' : TypeId}
end
theorem cells_one {v : Value} (h : v.oneCell' = true) : v.cells.toList = [v] := by cases v <;> simp_all [Value.cells, Value.oneCell']
section
variable {P : Program} {n : Sz} {ops : Array Oper} {Q : Exit → Act → World → Prop} {L : Env} {w w0 : World} {O : List Res} {rest : List Oper} {d : Nat} {ty : TypeId} {pos : String} {af : Array Edge} {x : Operand} {v : Value} {t e : TypeId} {H : PH}
theorem S_box1 [Dr] (hx : ev L x = some v) (h1 : v.oneCell' = true) (hn : Nat.blt d n.n = true) (hL : Lcl w0 O w)
    (h : ∀ w' b, Lcl w0 (.box b [v] t :: O) w' → Le (fz w O) (fz w' (.box b [v] t :: O)) → Ext w w' → S P n ops Q rest ((d, .pointer (some ⟨b, 0, none⟩)) :: L) w') : S P n ops Q (⟨some d, .box t x, ty, pos, af, none⟩ :: rest) L w :=
  S_box hx (cells_one h1) hn hL h
end
end Go.E
end
section
namespace Go.E
open Go Go.RowKit
theorem PtrTo.part {H : PH} {p : Addr} {c : List Value} (h : PtrTo H p c) (m : Nat) : PtrTo H p (c.take m) :=
  ⟨h.1, fun j u hu => h.2 j u (by
    rw [List.getElem?_take] at hu
    split at hu
    · exact hu
    · cases hu)⟩
section
variable {P : Program} {L : Env} {w w0 : World} {O : List Res} {x : Operand} {ty t : TypeId} {H : PH}
/-- A part of a variable. -/
theorem r_loadBP [Dr] (i m : Nat) {b off : Nat} {cs c : List Value} {t' : TypeId} {dd : TypeDesc} {zz : Value} {bt : Nat} (hx : ev L x = some (.pointer (some ⟨b, off, none⟩))) (ht : P.underlying t = some dd) (hd : aggT dd = true) (hz : Zr P t zz c.length bt) (hL : Lcl w0 O w) (hi : nthR O i = some (.box b cs t')) (hc : (cs.drop off).take m = c) : RunsAt P L w (.load t x) ty (.agg c.toArray) := by
  have h1 := ((box_ptr hL hi).add off).part m
  rw [hc, Addr.add_lit, Nat.zero_add] at h1
  exact r_loadN hx ht hd hz h1 (Le.refl _)
/-- A part of what a pointer shows. -/
theorem r_loadP [Dr] (m : Nat) {p : Addr} {cs c : List Value} {dd : TypeDesc} {zz : Value} {bt : Nat} (hx : ev L x = some (.pointer (some p))) (ht : P.underlying t = some dd) (hd : aggT dd = true) (hz : Zr P t zz c.length bt) (hp' : PtrTo H p cs) (hs : Le H (hp w)) (hc : cs.take m = c) : RunsAt P L w (.load t x) ty (.agg c.toArray) := by
  have h1 := hp'.part m
  rw [hc] at h1
  exact r_loadN hx ht hd hz h1 hs
/-- A slice is nil, or it lies somewhere. -/
theorem nil_or {α : Type} {r : Rp α} {v : Value} {l : List α} (h : Vec r H v l) : (v = .slice none 0 0 ∧ l = []) ∨ ∃ A n c, v = .slice (some A) n c := by
  obtain ⟨a, cap, h1, h2, _, h4, _⟩ := h.ex
  cases a with
  | none =>
    have hc := h4 rfl
    have hl : l.length = 0 := by omega
    left
    rw [h1, hl, hc]
    exact ⟨rfl, List.eq_nil_of_length_eq_zero hl⟩
  | some A => exact .inr ⟨A, _, _, h1⟩
theorem r_nilT [Dr] {y : Operand} {e t' : TypeId} (hx : ev L x = some (.slice none 0 0)) (hy : ev L y = some (.slice none 0 0)) (ht : P.underlying t = some (.slice e)) : RunsAt P L w (.binOp .eql t x y t') ty (.bool true) := by
  intro w' _ ρ hρ dst pos af g
  have key : ∀ dd : Nat, (Op.equalIn (dd + 1) t (.slice none 0 0) (.slice none 0 0)).run P w' = .ok true w' := fun dd => by simp [Op.equalIn, run_underlying ht]
  have k2 : (Op.equal t (.slice none 0 0) (.slice none 0 0)).run P w' = .ok true w' := key 9999
  simp [execOp, hρ x _ hx, hρ y _ hy, eqGuard, binOp, k2]
theorem r_nilF [Dr] {v : Value} {y : Operand} {e t' : TypeId} (hx : ev L x = some v) (hy : ev L y = some (.slice none 0 0)) (ht : P.underlying t = some (.slice e)) (hv : ∃ A n c, v = .slice (some A) n c) : RunsAt P L w (.binOp .eql t x y t') ty (.bool false) := by
  obtain ⟨A, n, c, rfl⟩ := hv
  intro w' _ ρ hρ dst pos af g
  have key : ∀ dd : Nat, (Op.equalIn (dd + 1) t (.slice (some A) n c) (.slice none 0 0)).run P w' = .ok false w' := fun dd => by simp [Op.equalIn, run_underlying ht]
  have k2 : (Op.equal t (.slice (some A) n c) (.slice none 0 0)).run P w' = .ok false w' := key 9999
  simp [execOp, hρ x _ hx, hρ y _ hy, eqGuard, binOp, k2]
/-- The nil slice is a row of one's own. -/
theorem ownNil [Dr] {α : Type} (r : Rp α) {e : TypeId} (hL : Lcl w0 O w) (hH : Le H (hp w0)) : OwnH e r H w0 w (.slice none 0 0) ([] : List α) :=
  (row_nilE r H e hL).1.ownH (i := 0) hH rfl (row_nilE r H e hL).2.2
end
end Go.E
namespace Go.E
open Go Go.RowKit
section
variable {P : Program} {n : Sz} {ops : Array Oper} {Q : Exit → Act → World → Prop} {L : Env} {w w0 : World} {O : List Res} {rest : List Oper} {d : Nat} {ty : TypeId} {pos : String} {af : Array Edge} {x y : Operand} {t tn e : TypeId} {H : PH}
theorem r_cap [Dr] {a : Option Addr} {m c : Nat} (hx : ev L x = some (.slice a m c)) (ht : P.underlying t = some (.slice e)) : RunsAt P L w (.call ⟨.builtin .cap, #[x], #[t]⟩) ty (.int .i64 (c : Int)) := by
  intro w' _ ρ hρ dst pos af g
  simp [execOp, resolve, invoke, builtin, hρ x _ hx, Builtin.cap_, run_underlying ht]
  rfl
/-- append(nil, make([]T, m)...), m at least one. -/
theorem S_growZ [Dr] {k kn : IntKind} {zz : Value} {bt m : Nat} (hx : ev L x = some (.slice none 0 0)) (hy : ev L y = some (.int k (m : Int))) (ht : P.underlying t = some (.slice e)) (htn : P.underlying tn = some (.int kn)) (hz : Zr P e zz 1 bt) (hzc : zz.cells = #[zz]) (hn : Nat.blt d n.n = true) (h0 : 0 < m) (h63 : (m : Int) ≤ 9223372036854775807) (h48 : m * bt ≤ 281474976710656)
    (h : ∀ g cap cur w', Ext w w' → w.heap.size ≤ g → w'.heap[g]? = some (.cells cur e (0, 0)) → cap ≤ maxLen → cur.size = cap → S P n ops Q rest ((d, .slice (some ⟨g, 0, none⟩) m cap) :: L) w') :
    S P n ops Q (⟨some d, .call ⟨.builtin .append, #[x, y], #[t, tn]⟩, ty, pos, af, none⟩ :: rest) L w := by
  obtain ⟨inf, i1, i2, i3, i4⟩ := hz.parts
  have hr := Lib.run_append_nil_zeros (P := P) w t tn ty e inf zz k kn ht htn i1 i2 m h0 (by rw [i3]; decide) h63 (by rw [i4]; exact h48)
  have hge := grownCap_ge w m 0 e
  have hsz : ∀ k, (Builtin.zeroCells zz.cells k).size = k := fun k => by rw [hzc]; simp [Builtin.zeroCells]
  refine S_value (v := .slice (some ⟨w.heap.size, 0, none⟩) m (grownCap w m 0 e)) (w' := w.drew.alloc (.cells (Builtin.zeroCells zz.cells m ++ Builtin.zeroCells zz.cells (grownCap w m 0 e - m)) e)) rfl rfl hn (fun ρ hρ => by simp [execOp, resolve, invoke, builtin, hρ x _ hx, hρ y _ hy, hr]) (h _ _ (Builtin.zeroCells zz.cells m ++ Builtin.zeroCells zz.cells (grownCap w m 0 e - m)) _ ?_ (Nat.le_refl _) ?_ (grownCap_le_maxLen w m 0 e (by unfold maxLen; omega)) ?_)
  · exact (show Ext w w.drew from drawn_world).trans (ext_alloc _ _)
  · show (w.heap.push _)[w.heap.size]? = _
    simp
  · rw [Array.size_append, hsz, hsz]; omega
/-- s[:0] of a slice with room. -/
theorem r_cut0 [Dr] {g m cap : Nat} {k : IntKind} {zz : Value} {bt : Nat} (hx : ev L x = some (.slice (some ⟨g, 0, none⟩) m cap)) (hy : ev L y = some (.int k 0)) (ht : P.underlying t = some (.slice e)) (hz : Zr P e zz 1 bt) : RunsAt P L w (.slice t x none (some y) none) ty (.slice (some ⟨g, 0, none⟩) 0 cap) := by
  obtain ⟨inf, i1, _, _, _⟩ := hz.parts
  intro w' _ ρ hρ dst pos af gd
  simp [execOp, hρ x _ hx, hρ y _ hy, Instr.sliceAt, run_underlying ht, Instr.slice, Instr.sliceBounds, Instr.sliceBound, asIntOf, sizeOf, typeInfo, i1]
  exact fun _ => by rw [Addr.add_lit]
theorem r_sliceNil [Dr] {k : IntKind} {zz : Value} {bt : Nat} (hx : ev L x = some (.slice none 0 0)) (hy : ev L y = some (.int k 0)) (ht : P.underlying t = some (.slice e)) (hz : Zr P e zz 1 bt) : RunsAt P L w (.slice t x none (some y) none) ty (.slice none 0 0) := by
  obtain ⟨inf, i1, _, _, _⟩ := hz.parts
  intro w' _ ρ hρ dst pos af gd
  simp [execOp, hρ x _ hx, hρ y _ hy, Instr.sliceAt, run_underlying ht, Instr.slice, Instr.sliceBounds, Instr.sliceBound, asIntOf, sizeOf, typeInfo, i1]
/-- A byte of a string. -/
theorem r_sidx [Dr] {l : List UInt8} {k : IntKind} {i : Int} (hx : ev L x = some (.string ⟨l.toArray⟩)) (hy : ev L y = some (.int k i)) (ht : P.underlying t = some .string) (hi : 0 ≤ i ∧ i < (l.length : Int)) : RunsAt P L w (.index t x y) ty (.int .u8 ((l.getD i.toNat default).toNat : Int)) := by
  intro w' _ ρ hρ dst pos af g
  have h1 : i.toNat < l.length := by omega
  have h2 : (⟨l.toArray⟩ : ByteArray)[i.toNat]? = some (l.getD i.toNat default) := by
    have hb : i.toNat < (⟨l.toArray⟩ : ByteArray).size := h1
    rw [show l.getD i.toNat default = (⟨l.toArray⟩ : ByteArray)[i.toNat] by rw [List.getD_eq_getElem?_getD, List.getElem?_eq_getElem h1]; rfl]
    simp [hb]
  simp [execOp, hρ x _ hx, hρ y _ hy, Instr.index, asIntOf, run_underlying ht, hi.1, h2]
end
end Go.E
namespace Go.E
open Go Go.RowKit
section
variable {P : Program} {n : Sz} {m fuel : Nat} {l : List Oper} {Q : Exit → Act → World → Prop} {L : Env} {w w0 : World} {done : List Nat} {i d : Nat} {op : Op} {ty : TypeId} {pos : String} {af : Array Edge}
end
end Go.E
namespace Go.E
open Go Go.RowKit
section
variable {P : Program} {L : Env} {w : World} {x y : Operand} {ty : TypeId} {H H' : PH} {u v : Value}
end
end Go.E
namespace Go.E
open Go Go.RowKit
section
variable {P : Program} {L : Env} {w : World} {x y : Operand} {ty t t' e : TypeId}
theorem r_neg [Dr] {a : Int} (hx : ev L x = some (.int .i64 a)) (h : Go.L.I64 (-a)) : RunsAt P L w (.unOp .neg t x) ty (.int .i64 (-a)) := by
  intro w' _ ρ hρ dst pos af g
  have e := wrap64 h.1 h.2
  simp [execOp, hρ x _ hx, Op.unary, Op.intArith, e]
/-- Two strings held against each other. -/
theorem r_scmp [Dr] {f : FuncId} {fn : Func} {at_ : Array TypeId} {l m : List UInt8} (hf : P.funcs[f]? = some fn) (h1 : (fn.name == "runtime.NumGoroutine") = false) (h2 : fn.body.isNone = true) (h3 : Extern.findNext fn = none) (h4 : Extern.find fn = some Extern.BytealgCompare.compare)
    (hx : ev L x = some (.string ⟨l.toArray⟩)) (hy : ev L y = some (.string ⟨m.toArray⟩)) : RunsAt P L w (.call ⟨.value (.func f), #[x, y], at_⟩) ty (.int .i64 (Lib.compareBytes l m)) := by
  intro w' hw ρ hρ dst pos af g
  have e0 : ρ (.func f) = .func (.func f) #[] #[] := hρ _ _ rfl
  have hc : (Extern.BytealgCompare.compare #[.string ⟨l.toArray⟩, .string ⟨m.toArray⟩]).run P w' = .ok (.int .i64 (Lib.compareBytes l m)) w' := by
    show Sem.run P (do pure (goInt (Extern.BytealgCompare.cmp (← Extern.Bytes.bytesOf (.string ⟨l.toArray⟩)) (← Extern.Bytes.bytesOf (.string ⟨m.toArray⟩))))) w' = _
    simp only [Extern.Bytes.bytesOf, Sem.run_bind, Result.andThen_ok, Sem.run_pure, Lib.cmp_eq]
    simp [goInt]
  have hcall : (callFunc f #[.string ⟨l.toArray⟩, .string ⟨m.toArray⟩]).run P w' = .ok (.value (.int .i64 (Lib.compareBytes l m))) w' := by
    rw [run_callFunc_extern hf h1 h2 h3 h4, hc]; rfl
  simp [execOp, resolve, e0, hρ x _ hx, hρ y _ hy, Deferred.ofValue, invoke, hcall]
end
section
variable {P : Program} {n : Sz} {ops : Array Oper} {Q : Exit → Act → World → Prop} {L : Env} {w w0 : World} {O : List Res} {rest : List Oper} {d : Nat} {ty : TypeId} {pos : String} {af : Array Edge} {x : Operand} {t t' e : TypeId} {H : PH}
theorem bytes_vec [Dr] (w : World) (e : TypeId) {l : List UInt8} (hl : l.length ≤ 9223372036854775807) : Ext w (Lib.bytesWorld w e ⟨l.toArray⟩) ∧ Vec .byte (nw w (Lib.bytesWorld w e ⟨l.toArray⟩)) (.slice (some ⟨w.heap.size, 0, none⟩) l.length (grownCap w l.length 0 e)) l := by
  have hs : (ByteArray.mk l.toArray).size = l.length := by simp [ByteArray.size]
  refine ⟨⟨⟨rfl, rfl, rfl, ?_, fun k hk => ?_⟩, fun _ => (by first | exact Nat.le_refl _ | exact Nat.le_succ _)⟩, ⟨some ⟨w.heap.size, 0, none⟩, _, rfl, grownCap_ge _ _ _ _, grownCap_le_maxLen _ _ _ _ (by unfold maxLen; omega), (fun h => by cases h), fun A hA _ => ?_⟩⟩
  · rw [Lib.bytesWorld_size]; omega
  · exact Lib.bytesWorld_at_old w e _ k hk
  · cases hA
    refine ⟨rfl, fun i b hb => ⟨_, rfl, fun j u hu => ?_⟩⟩
    have hi := (List.getElem?_eq_some_iff.1 hb).1
    cases j with
    | zero =>
      simp only [List.getElem?_cons_zero, Option.some.injEq] at hu
      subst hu
      show cellP _ (Addr.add ⟨w.heap.size, 0, none⟩ (i * 1 + 0)) = _
      have := Lib.bytesWorld_cell w e ⟨l.toArray⟩ i (by rw [hs]; exact hi)
      simp only [Addr.add_lit, Nat.zero_add, Nat.mul_one, Nat.add_zero, cellP, nw, Nat.le_refl, if_true]
      unfold World.cell? at this
      rw [show (l.toArray.toList.getD i 0) = b by simp [List.getD_eq_getElem?_getD, hb]] at this
      exact this
    | succ j => cases hu
/-- '[]byte(s)'. -/
theorem S_s2b [Dr] {l : List UInt8} {u : TypeDesc} (hx : ev L x = some (.string ⟨l.toArray⟩)) (ht : P.underlying t = some u) (ht' : P.underlying t' = some (.slice e)) (he : P.underlying e = some (.int .u8)) (hn : Nat.blt d n.n = true) (hL : Lcl w0 O w) (hl : l.length ≤ 9223372036854775807)
    (h : ∀ v w', Ext w w' → Lcl w0 O w' → Le (fz w O) (fz w' O) → Vec .byte (gz H w0 w' O) v l → S P n ops Q rest ((d, v) :: L) w') : S P n ops Q (⟨some d, .convert t t' x, ty, pos, af, none⟩ :: rest) L w := by
  obtain ⟨h1, h2⟩ := bytes_vec w e hl
  have hs : (ByteArray.mk l.toArray).size = l.length := by simp [ByteArray.size]
  refine S_value (v := .slice (some ⟨w.heap.size, 0, none⟩) l.length (grownCap w l.length 0 e)) (w' := Lib.bytesWorld w e ⟨l.toArray⟩) rfl rfl hn (fun ρ hρ => ?_) (h _ _ h1 (hL.call h1) (fz_ext hL h1) (h2.mono (gz_new hL)))
  have := Lib.run_convert_string_bytes (P := P) w t t' e ⟨l.toArray⟩ ht ht' he
  rw [hs] at this
  simp [execOp, hρ x _ hx, this]
end
/-- What is owned, in another order: one place after the other to the front. -/
def pickR (O : List Res) (i : Nat) : List Res := match nthR O i with | some q => q :: delR O i | none => O
def picksR : List Res → List Nat → List Res
  | O, [] => O
  | O, i :: l => picksR (pickR O i) l
theorem pickR_perm (O : List Res) (i : Nat) : O.Perm (pickR O i) := by
  unfold pickR
  split
  · rename_i q hq; exact perm_nth hq
  · exact List.Perm.refl _
theorem picksR_perm : ∀ (l : List Nat) (O : List Res), O.Perm (picksR O l)
  | [], _O => List.Perm.refl _
  | i :: l, O => (pickR_perm O i).trans (picksR_perm l (pickR O i))
theorem Lcl.picks [Dr] {w0 w : World} {O O' : List Res} (l : List Nat) (h : Lcl w0 O w) (e : picksR O l = O') : Lcl w0 O' w := e ▸ h.perm (picksR_perm l O).symm
theorem fz_picks [Dr] {w0 w : World} {O O' : List Res} (l : List Nat) (_ : Lcl w0 O w) (_ : Lcl w0 O' w) (e : picksR O l = O') : Le (fz w O) (fz w O') := by
  rw [← e, fz_perm (picksR_perm l O).symm]; exact Le.refl _
/-- What is owned, and more about it. -/
abbrev InO [Dr] (w0 : World) (O : List Res) (w : World) (P : List Res → Prop) : Prop := Lcl w0 O w ∧ P O
end Go.E
end
