/- Texts of a claim, merged. -/
import Derived.Shelf.SlGeneric
import Derived.Shelf.Strings.Split
import Derived.Shelf.Strings.OnBuilder
import Derived.Shelf.GgClosure.StringsRunes
import Derived.Shelf.Strings.Runes
import Derived.Shelf.Sort.Plain
import Derived.Shelf.Slices.In.SortNone
import Derived.Shelf.Slices.CompactI
import Derived.Shelf.SlSortCmp.NoneTotal
import Derived.Shelf.SlIter.Sorted
import Derived.Shelf.Spec.DecodeRune
import Derived.Shelf.Strconv.Itoa3
import Derived.Shelf.Strconv.AtoiAll
import Derived.Shelf.Strings.IndexAnyAll
import Derived.Ground.NamesProg
import Derived.Ground.Names2Prog
import Derived.Ground.Names7Prog
import Derived.Ground.GgwProg
import Derived.Ground.GgzProg
import Derived.Ground.SlsfProg
import Derived.Test.YtekmbcbgknmhiaaGreatDoorProg
import Derived.WalkKit
import Derived.ProofKit
import Derived.StillTail
import Derived.Laws.StructEq
import Derived.Lib.AppendZeros
import Derived.Lib.Bytealg
import Derived.Laws.Externs
import Derived.Lib.ConvBytes
set_option linter.unusedVariables false
set_option linter.unusedSimpArgs false
noncomputable section
namespace Go.Proofs
open Go.Shelf
def Tryz.K6:Go.Shelf.Ren:=⟨fun | 146=>113 | 221=>166 | 268=>216 | 138=>217 | 143=>218 | 195=>263 | 197=>264 | 218=>265 | 219=>266 | 260=>317 | 217=>223 | 225=>269 | 224=>268 | 267=>318 | 266=>270 | 314=>333 | n=>n,fun | 9=>9 | 31=>22 | 3=>3 | 4=>4 | 0=>0 | 105=>280 | 21=>21 | 5=>5 | 46=>171 | 119=>349 | 139=>352 | 138=>351 | 146=>361 | 51=>285 | n=>n,fun | 1=>0 | 3=>4 | 4=>5 | n=>n⟩
theorem Tryz.QT:Go.Proofs.Lays.n146 Tryz.prog Tryz.K6:={
 mixed:=by kernel_rfl
 f138:=Tryz.func217.trans (congrArg some (by kernel_rfl))
 f143:=Tryz.func218.trans (congrArg some (by kernel_rfl))
 f146:=Tryz.func113.trans (congrArg some (by kernel_rfl))
 f195:=Tryz.func263.trans (congrArg some (by kernel_rfl))
 f197:=Tryz.func264.trans (congrArg some (by kernel_rfl))
 f217:=Tryz.func223.trans (congrArg some (by kernel_rfl))
 f218:=Tryz.func265.trans (congrArg some (by kernel_rfl))
 f219:=Tryz.func266.trans (congrArg some (by kernel_rfl))
 f221:=Tryz.func166.trans (congrArg some (by kernel_rfl))
 f224:=Tryz.func268.trans (congrArg some (by kernel_rfl))
 f225:=Tryz.func269.trans (congrArg some (by kernel_rfl))
 f260:=Tryz.func317.trans (congrArg some (by kernel_rfl))
 f266:=Tryz.func270.trans (congrArg some (by kernel_rfl))
 f267:=Tryz.func318.trans (congrArg some (by kernel_rfl))
 f268:=Tryz.func216.trans (congrArg some (by kernel_rfl))
 f314:=Tryz.func333.trans (congrArg some (by kernel_rfl))
 t0:=Tryz.underlying0
 a0:=Tryz.isAgg0
 z0:=Tryz.sizeOf0
 v0:=Tryz.zeroValue0
 t3:=Tryz.underlying3
 a3:=Tryz.isAgg3
 z3:=Tryz.sizeOf3
 v3:=Tryz.zeroValue3
 t4:=Tryz.underlying4
 a4:=Tryz.isAgg4
 z4:=Tryz.sizeOf4
 v4:=Tryz.zeroValue4
 t5:=Tryz.underlying5
 a5:=Tryz.isAgg5
 z5:=Tryz.sizeOf5
 v5:=Tryz.zeroValue5
 t9:=Tryz.underlying9
 a9:=Tryz.isAgg9
 z9:=Tryz.sizeOf9
 v9:=Tryz.zeroValue9
 t21:=Tryz.underlying21
 a21:=Tryz.isAgg21
 z21:=Tryz.sizeOf21
 v21:=Tryz.zeroValue21
 t31:=Tryz.underlying22
 a31:=Tryz.isAgg22
 z31:=Tryz.sizeOf22
 v31:=Tryz.zeroValue22
 t46:=Tryz.underlying171
 a46:=Tryz.isAgg171
 z46:=Tryz.sizeOf171
 v46:=Tryz.zeroValue171
 t51:=Tryz.underlying285
 a51:=Tryz.isAgg285
 z51:=Tryz.sizeOf285
 v51:=Tryz.zeroValue285
 t105:=Tryz.underlying280
 a105:=Tryz.isAgg280
 z105:=Tryz.sizeOf280
 v105:=Tryz.zeroValue280
 t119:=Tryz.underlying349
 a119:=Tryz.isAgg349
 z119:=Tryz.sizeOf349
 t138:=Tryz.underlying351
 a138:=Tryz.isAgg351
 z138:=Tryz.sizeOf351
 v138:=Tryz.zeroValue351
 t139:=Tryz.underlying352
 a139:=Tryz.isAgg352
 z139:=Tryz.sizeOf352
 v139:=Tryz.zeroValue352
 t146:=Tryz.underlying361
 a146:=Tryz.isAgg361
 z146:=Tryz.sizeOf361
 v146:=Tryz.zeroValue361
 g1:=by kernel_rfl
 g3:=by kernel_rfl
 g4:=by kernel_rfl}
def Tryz.Qe:Go.Shelf.Ren:=⟨fun | 156=>63 | 165=>104 | 166=>105 | 169=>106 | 240=>160 | 241=>161 | 276=>208 | 277=>209 | n=>n,fun | 31=>22 | 9=>9 | 3=>3 | 4=>4 | 0=>0 | 20=>20 | 72=>164 | 76=>168 | 70=>162 | 37=>23 | 75=>167 | 127=>219 | 164=>261 | 5=>5 | 80=>170 | n=>n,fun | n=>n⟩
theorem Tryz.VJ:Go.Proofs.Lays.n156 Tryz.prog Tryz.Qe:={
 mixed:=by kernel_rfl
 f156:=Tryz.func63.trans (congrArg some (by kernel_rfl))
 f165:=Tryz.func104.trans (congrArg some (by kernel_rfl))
 f166:=Tryz.func105.trans (congrArg some (by kernel_rfl))
 f169:=Tryz.func106.trans (congrArg some (by kernel_rfl))
 f240:=Tryz.func160.trans (congrArg some (by kernel_rfl))
 f241:=Tryz.func161.trans (congrArg some (by kernel_rfl))
 f276:=Tryz.func208.trans (congrArg some (by kernel_rfl))
 f277:=Tryz.func209.trans (congrArg some (by kernel_rfl))
 t0:=Tryz.underlying0
 a0:=Tryz.isAgg0
 z0:=Tryz.sizeOf0
 v0:=Tryz.zeroValue0
 t3:=Tryz.underlying3
 a3:=Tryz.isAgg3
 z3:=Tryz.sizeOf3
 v3:=Tryz.zeroValue3
 t4:=Tryz.underlying4
 a4:=Tryz.isAgg4
 z4:=Tryz.sizeOf4
 v4:=Tryz.zeroValue4
 t9:=Tryz.underlying9
 a9:=Tryz.isAgg9
 z9:=Tryz.sizeOf9
 v9:=Tryz.zeroValue9
 t20:=Tryz.underlying20
 a20:=Tryz.isAgg20
 z20:=Tryz.sizeOf20
 v20:=Tryz.zeroValue20
 t31:=Tryz.underlying22
 a31:=Tryz.isAgg22
 z31:=Tryz.sizeOf22
 v31:=Tryz.zeroValue22
 t37:=Tryz.underlying23
 a37:=Tryz.isAgg23
 z37:=Tryz.sizeOf23
 v37:=Tryz.zeroValue23
 t70:=Tryz.underlying162
 a70:=Tryz.isAgg162
 z70:=Tryz.sizeOf162
 v70:=Tryz.zeroValue162
 t72:=Tryz.underlying164
 a72:=Tryz.isAgg164
 z72:=Tryz.sizeOf164
 v72:=Tryz.zeroValue164
 t75:=Tryz.underlying167
 a75:=Tryz.isAgg167
 z75:=Tryz.sizeOf167
 v75:=Tryz.zeroValue167
 t76:=Tryz.underlying168
 a76:=Tryz.isAgg168
 z76:=Tryz.sizeOf168
 v76:=Tryz.zeroValue168
 t127:=Tryz.underlying219
 a127:=Tryz.isAgg219
 z127:=Tryz.sizeOf219
 v127:=Tryz.zeroValue219
 t164:=Tryz.underlying261
 a164:=Tryz.isAgg261
 z164:=Tryz.sizeOf261
 v164:=Tryz.zeroValue261}
def Tryz.W9:Go.Shelf.Ren:=⟨fun | 17=>205 | 15=>257 | 20=>314 | n=>n,fun | 9=>9 | 23=>260 | 4=>4 | 3=>3 | 0=>0 | 21=>21 | n=>n,fun | n=>n⟩
theorem Tryz.AbU:Go.Proofs.LaysGw.n17 Tryz.prog Tryz.W9:={
 mixed:=by kernel_rfl
 f15:=Tryz.func257.trans (congrArg some (by kernel_rfl))
 f17:=Tryz.func205.trans (congrArg some (by kernel_rfl))
 f20:=Tryz.func314.trans (congrArg some (by kernel_rfl))
 t0:=Tryz.underlying0
 a0:=Tryz.isAgg0
 z0:=Tryz.sizeOf0
 v0:=Tryz.zeroValue0
 i0:=by kernel_rfl
 t3:=Tryz.underlying3
 a3:=Tryz.isAgg3
 z3:=Tryz.sizeOf3
 v3:=Tryz.zeroValue3
 i3:=by kernel_rfl
 t4:=Tryz.underlying4
 a4:=Tryz.isAgg4
 z4:=Tryz.sizeOf4
 v4:=Tryz.zeroValue4
 i4:=by kernel_rfl
 t9:=Tryz.underlying9
 a9:=Tryz.isAgg9
 z9:=Tryz.sizeOf9
 v9:=Tryz.zeroValue9
 i9:=by kernel_rfl
 t21:=Tryz.underlying21
 a21:=Tryz.isAgg21
 z21:=Tryz.sizeOf21
 v21:=Tryz.zeroValue21
 i21:=by kernel_rfl
 t23:=Tryz.underlying260
 a23:=Tryz.isAgg260
 z23:=Tryz.sizeOf260
 v23:=Tryz.zeroValue260
 i23:=by kernel_rfl}
def Tryz.WA:Go.Shelf.Ren:=⟨fun | 137=>168 | 217=>223 | 266=>270 | n=>n,fun | 9=>9 | 5=>5 | 3=>3 | n=>n,fun | n=>n⟩
theorem Tryz.AbV:Go.Proofs.Lays.n137 Tryz.prog Tryz.WA:={
 mixed:=by kernel_rfl
 f137:=Tryz.func168.trans (congrArg some (by kernel_rfl))
 f217:=Tryz.func223.trans (congrArg some (by kernel_rfl))
 f266:=Tryz.func270.trans (congrArg some (by kernel_rfl))
 t3:=Tryz.underlying3
 a3:=Tryz.isAgg3
 z3:=Tryz.sizeOf3
 v3:=Tryz.zeroValue3
 t5:=Tryz.underlying5
 a5:=Tryz.isAgg5
 z5:=Tryz.sizeOf5
 v5:=Tryz.zeroValue5
 t9:=Tryz.underlying9
 a9:=Tryz.isAgg9
 z9:=Tryz.sizeOf9
 v9:=Tryz.zeroValue9}
def Tryz.WB:Go.Shelf.Ren:=⟨fun | 190=>183 | 125=>185 | 258=>234 | 128=>235 | 129=>236 | 302=>287 | 303=>288 | 304=>289 | 305=>290 | 306=>291 | 307=>292 | 308=>293 | 309=>294 | 310=>295 | 333=>325 | 329=>306 | 330=>307 | 334=>326 | 335=>327 | 336=>328 | 344=>337 | n=>n,fun | 31=>22 | 9=>9 | 3=>3 | 46=>171 | 0=>0 | 51=>285 | 53=>205 | 4=>4 | 183=>289 | 182=>288 | 131=>294 | 5=>5 | 218=>333 | 222=>337 | 228=>357 | 229=>229 | n=>n,fun | n=>n⟩
theorem Tryz.AaE:Go.Proofs.Lays.n190 Tryz.prog Tryz.WB:={
 mixed:=by kernel_rfl
 f125:=Tryz.func185.trans (congrArg some (by kernel_rfl))
 f128:=Tryz.func235.trans (congrArg some (by kernel_rfl))
 f129:=Tryz.func236.trans (congrArg some (by kernel_rfl))
 f190:=Tryz.func183.trans (congrArg some (by kernel_rfl))
 f258:=Tryz.func234.trans (congrArg some (by kernel_rfl))
 f302:=Tryz.func287.trans (congrArg some (by kernel_rfl))
 f303:=Tryz.func288.trans (congrArg some (by kernel_rfl))
 f304:=Tryz.func289.trans (congrArg some (by kernel_rfl))
 f305:=Tryz.func290.trans (congrArg some (by kernel_rfl))
 f306:=Tryz.func291.trans (congrArg some (by kernel_rfl))
 f307:=Tryz.func292.trans (congrArg some (by kernel_rfl))
 f308:=Tryz.func293.trans (congrArg some (by kernel_rfl))
 f309:=Tryz.func294.trans (congrArg some (by kernel_rfl))
 f310:=Tryz.func295.trans (congrArg some (by kernel_rfl))
 f329:=Tryz.func306.trans (congrArg some (by kernel_rfl))
 f330:=Tryz.func307.trans (congrArg some (by kernel_rfl))
 f333:=Tryz.func325.trans (congrArg some (by kernel_rfl))
 f334:=Tryz.func326.trans (congrArg some (by kernel_rfl))
 f335:=Tryz.func327.trans (congrArg some (by kernel_rfl))
 f336:=Tryz.func328.trans (congrArg some (by kernel_rfl))
 f344:=Tryz.func337.trans (congrArg some (by kernel_rfl))
 t0:=Tryz.underlying0
 a0:=Tryz.isAgg0
 z0:=Tryz.sizeOf0
 v0:=Tryz.zeroValue0
 t3:=Tryz.underlying3
 a3:=Tryz.isAgg3
 z3:=Tryz.sizeOf3
 v3:=Tryz.zeroValue3
 t4:=Tryz.underlying4
 a4:=Tryz.isAgg4
 z4:=Tryz.sizeOf4
 v4:=Tryz.zeroValue4
 t5:=Tryz.underlying5
 a5:=Tryz.isAgg5
 z5:=Tryz.sizeOf5
 v5:=Tryz.zeroValue5
 t9:=Tryz.underlying9
 a9:=Tryz.isAgg9
 z9:=Tryz.sizeOf9
 v9:=Tryz.zeroValue9
 t31:=Tryz.underlying22
 a31:=Tryz.isAgg22
 z31:=Tryz.sizeOf22
 v31:=Tryz.zeroValue22
 t46:=Tryz.underlying171
 a46:=Tryz.isAgg171
 z46:=Tryz.sizeOf171
 v46:=Tryz.zeroValue171
 t51:=Tryz.underlying285
 a51:=Tryz.isAgg285
 z51:=Tryz.sizeOf285
 v51:=Tryz.zeroValue285
 t53:=Tryz.underlying205
 a53:=Tryz.isAgg205
 z53:=Tryz.sizeOf205
 v53:=Tryz.zeroValue205
 t131:=Tryz.underlying294
 a131:=Tryz.isAgg294
 z131:=Tryz.sizeOf294
 v131:=Tryz.zeroValue294
 t182:=Tryz.underlying288
 a182:=Tryz.isAgg288
 z182:=Tryz.sizeOf288
 v182:=Tryz.zeroValue288
 t183:=Tryz.underlying289
 a183:=Tryz.isAgg289
 z183:=Tryz.sizeOf289
 v183:=Tryz.zeroValue289
 t218:=Tryz.underlying333
 a218:=Tryz.isAgg333
 z218:=Tryz.sizeOf333
 v218:=Tryz.zeroValue333
 t222:=Tryz.underlying337
 a222:=Tryz.isAgg337
 z222:=Tryz.sizeOf337
 v222:=Tryz.zeroValue337
 t228:=Tryz.underlying357
 a228:=Tryz.isAgg357
 z228:=Tryz.sizeOf357
 v228:=Tryz.zeroValue357
 t229:=Tryz.underlying229
 a229:=Tryz.isAgg229
 z229:=Tryz.sizeOf229
 v229:=Tryz.zeroValue229}
def Tryz.WC:Go.Shelf.Ren:=⟨fun | 189=>139 | 125=>185 | 257=>190 | 128=>235 | 129=>236 | 294=>240 | 295=>241 | 296=>242 | 297=>243 | 298=>244 | 299=>245 | 216=>246 | 300=>247 | 301=>248 | 328=>305 | 329=>306 | 330=>307 | 331=>308 | 332=>309 | 215=>239 | 343=>332 | n=>n,fun | 28=>58 | 3=>3 | 46=>171 | 0=>0 | 51=>285 | 53=>205 | 4=>4 | 183=>289 | 182=>288 | 131=>294 | 5=>5 | 9=>9 | 218=>333 | 222=>337 | 228=>357 | 229=>229 | n=>n,fun | n=>n⟩
theorem Tryz.AbW:Go.Proofs.Lays.n189 Tryz.prog Tryz.WC:={
 mixed:=by kernel_rfl
 f125:=Tryz.func185.trans (congrArg some (by kernel_rfl))
 f128:=Tryz.func235.trans (congrArg some (by kernel_rfl))
 f129:=Tryz.func236.trans (congrArg some (by kernel_rfl))
 f189:=Tryz.func139.trans (congrArg some (by kernel_rfl))
 f215:=Tryz.func239.trans (congrArg some (by kernel_rfl))
 f216:=Tryz.func246.trans (congrArg some (by kernel_rfl))
 f257:=Tryz.func190.trans (congrArg some (by kernel_rfl))
 f294:=Tryz.func240.trans (congrArg some (by kernel_rfl))
 f295:=Tryz.func241.trans (congrArg some (by kernel_rfl))
 f296:=Tryz.func242.trans (congrArg some (by kernel_rfl))
 f297:=Tryz.func243.trans (congrArg some (by kernel_rfl))
 f298:=Tryz.func244.trans (congrArg some (by kernel_rfl))
 f299:=Tryz.func245.trans (congrArg some (by kernel_rfl))
 f300:=Tryz.func247.trans (congrArg some (by kernel_rfl))
 f301:=Tryz.func248.trans (congrArg some (by kernel_rfl))
 f328:=Tryz.func305.trans (congrArg some (by kernel_rfl))
 f329:=Tryz.func306.trans (congrArg some (by kernel_rfl))
 f330:=Tryz.func307.trans (congrArg some (by kernel_rfl))
 f331:=Tryz.func308.trans (congrArg some (by kernel_rfl))
 f332:=Tryz.func309.trans (congrArg some (by kernel_rfl))
 f343:=Tryz.func332.trans (congrArg some (by kernel_rfl))
 t0:=Tryz.underlying0
 a0:=Tryz.isAgg0
 z0:=Tryz.sizeOf0
 v0:=Tryz.zeroValue0
 t3:=Tryz.underlying3
 a3:=Tryz.isAgg3
 z3:=Tryz.sizeOf3
 v3:=Tryz.zeroValue3
 t4:=Tryz.underlying4
 a4:=Tryz.isAgg4
 z4:=Tryz.sizeOf4
 v4:=Tryz.zeroValue4
 t5:=Tryz.underlying5
 a5:=Tryz.isAgg5
 z5:=Tryz.sizeOf5
 v5:=Tryz.zeroValue5
 t9:=Tryz.underlying9
 a9:=Tryz.isAgg9
 z9:=Tryz.sizeOf9
 v9:=Tryz.zeroValue9
 t28:=Tryz.underlying58
 a28:=Tryz.isAgg58
 z28:=Tryz.sizeOf58
 v28:=Tryz.zeroValue58
 t46:=Tryz.underlying171
 a46:=Tryz.isAgg171
 z46:=Tryz.sizeOf171
 v46:=Tryz.zeroValue171
 t51:=Tryz.underlying285
 a51:=Tryz.isAgg285
 z51:=Tryz.sizeOf285
 v51:=Tryz.zeroValue285
 t53:=Tryz.underlying205
 a53:=Tryz.isAgg205
 z53:=Tryz.sizeOf205
 v53:=Tryz.zeroValue205
 t131:=Tryz.underlying294
 a131:=Tryz.isAgg294
 z131:=Tryz.sizeOf294
 v131:=Tryz.zeroValue294
 t182:=Tryz.underlying288
 a182:=Tryz.isAgg288
 z182:=Tryz.sizeOf288
 v182:=Tryz.zeroValue288
 t183:=Tryz.underlying289
 a183:=Tryz.isAgg289
 z183:=Tryz.sizeOf289
 v183:=Tryz.zeroValue289
 t218:=Tryz.underlying333
 a218:=Tryz.isAgg333
 z218:=Tryz.sizeOf333
 v218:=Tryz.zeroValue333
 t222:=Tryz.underlying337
 a222:=Tryz.isAgg337
 z222:=Tryz.sizeOf337
 v222:=Tryz.zeroValue337
 t228:=Tryz.underlying357
 a228:=Tryz.isAgg357
 z228:=Tryz.sizeOf357
 v228:=Tryz.zeroValue357
 t229:=Tryz.underlying229
 a229:=Tryz.isAgg229
 z229:=Tryz.sizeOf229
 v229:=Tryz.zeroValue229}
def Tryz.WD:Go.Shelf.Ren:=⟨fun | 20=>140 | n=>n,fun | 22=>58 | 3=>3 | 4=>4 | 0=>0 | n=>n,fun | n=>n⟩
theorem Tryz.AbX:Go.Proofs.Lays2.n20 Tryz.prog Tryz.WD:={
 mixed:=by kernel_rfl
 f20:=Tryz.func140.trans (congrArg some (by kernel_rfl))
 t0:=Tryz.underlying0
 a0:=Tryz.isAgg0
 z0:=Tryz.sizeOf0
 v0:=Tryz.zeroValue0
 t3:=Tryz.underlying3
 a3:=Tryz.isAgg3
 z3:=Tryz.sizeOf3
 v3:=Tryz.zeroValue3
 t4:=Tryz.underlying4
 a4:=Tryz.isAgg4
 z4:=Tryz.sizeOf4
 v4:=Tryz.zeroValue4
 t22:=Tryz.underlying58
 a22:=Tryz.isAgg58
 z22:=Tryz.sizeOf58
 v22:=Tryz.zeroValue58
 i3:=by kernel_rfl}
def Tryz.WE:Go.Shelf.Ren:=⟨fun | 6=>186 | 15=>185 | 14=>237 | 28=>235 | 29=>236 | 20=>296 | 21=>297 | 22=>298 | 23=>299 | 24=>300 | 25=>301 | 26=>302 | 27=>303 | 46=>329 | 47=>306 | 48=>307 | 49=>330 | 50=>331 | 57=>338 | n=>n,fun | 22=>196 | 24=>142 | 25=>198 | 3=>3 | 39=>171 | 0=>0 | 53=>285 | 55=>205 | 4=>4 | 46=>289 | 45=>288 | 50=>294 | 5=>5 | 9=>9 | 66=>333 | 70=>337 | 76=>357 | 77=>229 | n=>n,fun | n=>n⟩
theorem Tryz.AaF:Go.Proofs.SlLaysF0.n6 Tryz.prog Tryz.WE:={
 mixed:=by kernel_rfl
 f6:=⟨Tryz.f186.name,by decide,Tryz.func186.trans (congrArg some (by kernel_rfl))⟩
 f14:=⟨Tryz.f237.name,by decide,Tryz.func237.trans (congrArg some (by kernel_rfl))⟩
 f15:=Tryz.func185.trans (congrArg some (by kernel_rfl))
 f20:=⟨Tryz.f296.name,by decide,Tryz.func296.trans (congrArg some (by kernel_rfl))⟩
 f21:=⟨Tryz.f297.name,by decide,Tryz.func297.trans (congrArg some (by kernel_rfl))⟩
 f22:=⟨Tryz.f298.name,by decide,Tryz.func298.trans (congrArg some (by kernel_rfl))⟩
 f23:=⟨Tryz.f299.name,by decide,Tryz.func299.trans (congrArg some (by kernel_rfl))⟩
 f24:=⟨Tryz.f300.name,by decide,Tryz.func300.trans (congrArg some (by kernel_rfl))⟩
 f25:=⟨Tryz.f301.name,by decide,Tryz.func301.trans (congrArg some (by kernel_rfl))⟩
 f26:=⟨Tryz.f302.name,by decide,Tryz.func302.trans (congrArg some (by kernel_rfl))⟩
 f27:=⟨Tryz.f303.name,by decide,Tryz.func303.trans (congrArg some (by kernel_rfl))⟩
 f28:=Tryz.func235.trans (congrArg some (by kernel_rfl))
 f29:=Tryz.func236.trans (congrArg some (by kernel_rfl))
 f46:=⟨Tryz.f329.name,by decide,Tryz.func329.trans (congrArg some (by kernel_rfl))⟩
 f47:=Tryz.func306.trans (congrArg some (by kernel_rfl))
 f48:=Tryz.func307.trans (congrArg some (by kernel_rfl))
 f49:=⟨Tryz.f330.name,by decide,Tryz.func330.trans (congrArg some (by kernel_rfl))⟩
 f50:=⟨Tryz.f331.name,by decide,Tryz.func331.trans (congrArg some (by kernel_rfl))⟩
 f57:=⟨Tryz.f338.name,by decide,Tryz.func338.trans (congrArg some (by kernel_rfl))⟩
 t0:=Tryz.underlying0
 a0:=Tryz.isAgg0
 z0:=Tryz.sizeOf0
 v0:=Tryz.zeroValue0
 t3:=Tryz.underlying3
 a3:=Tryz.isAgg3
 z3:=Tryz.sizeOf3
 v3:=Tryz.zeroValue3
 t4:=Tryz.underlying4
 a4:=Tryz.isAgg4
 z4:=Tryz.sizeOf4
 v4:=Tryz.zeroValue4
 t5:=Tryz.underlying5
 a5:=Tryz.isAgg5
 z5:=Tryz.sizeOf5
 v5:=Tryz.zeroValue5
 t9:=Tryz.underlying9
 a9:=Tryz.isAgg9
 z9:=Tryz.sizeOf9
 v9:=Tryz.zeroValue9
 t22:=Tryz.underlying196
 a22:=Tryz.isAgg196
 z22:=Tryz.sizeOf196
 v22:=Tryz.zeroValue196
 t25:=Tryz.underlying198
 a25:=Tryz.isAgg198
 z25:=Tryz.sizeOf198
 v25:=Tryz.zeroValue198
 t39:=Tryz.underlying171
 a39:=Tryz.isAgg171
 z39:=Tryz.sizeOf171
 v39:=Tryz.zeroValue171
 t45:=Tryz.underlying288
 a45:=Tryz.isAgg288
 z45:=Tryz.sizeOf288
 v45:=Tryz.zeroValue288
 t46:=Tryz.underlying289
 a46:=Tryz.isAgg289
 z46:=Tryz.sizeOf289
 v46:=Tryz.zeroValue289
 t50:=Tryz.underlying294
 a50:=Tryz.isAgg294
 z50:=Tryz.sizeOf294
 v50:=Tryz.zeroValue294
 t53:=Tryz.underlying285
 a53:=Tryz.isAgg285
 z53:=Tryz.sizeOf285
 v53:=Tryz.zeroValue285
 t55:=Tryz.underlying205
 a55:=Tryz.isAgg205
 z55:=Tryz.sizeOf205
 v55:=Tryz.zeroValue205
 t66:=Tryz.underlying333
 a66:=Tryz.isAgg333
 z66:=Tryz.sizeOf333
 v66:=Tryz.zeroValue333
 t70:=Tryz.underlying337
 a70:=Tryz.isAgg337
 z70:=Tryz.sizeOf337
 v70:=Tryz.zeroValue337
 t76:=Tryz.underlying357
 a76:=Tryz.isAgg357
 z76:=Tryz.sizeOf357
 v76:=Tryz.zeroValue357
 t77:=Tryz.underlying229
 a77:=Tryz.isAgg229
 z77:=Tryz.sizeOf229
 v77:=Tryz.zeroValue229}
def Tryz.WG:Go.Shelf.Ren:=⟨fun | 6=>173 | 15=>185 | 14=>226 | 28=>235 | 29=>236 | 20=>276 | 21=>277 | 22=>278 | 23=>279 | 24=>280 | 25=>281 | 26=>282 | 27=>283 | 46=>322 | 47=>306 | 48=>307 | 49=>323 | 50=>324 | 57=>336 | n=>n,fun | 22=>58 | 24=>3 | 25=>234 | 3=>3 | 39=>171 | 0=>0 | 53=>285 | 55=>205 | 4=>4 | 46=>289 | 45=>288 | 50=>294 | 5=>5 | 9=>9 | 66=>333 | 70=>337 | 76=>357 | 77=>229 | n=>n,fun | n=>n⟩
theorem Tryz.AbY:Go.Proofs.SlLaysF.n6 Tryz.prog Tryz.WG:={
 mixed:=by kernel_rfl
 f6:=⟨Tryz.f173.name,by decide,Tryz.func173.trans (congrArg some (by kernel_rfl))⟩
 f14:=⟨Tryz.f226.name,by decide,Tryz.func226.trans (congrArg some (by kernel_rfl))⟩
 f15:=Tryz.func185.trans (congrArg some (by kernel_rfl))
 f20:=⟨Tryz.f276.name,by decide,Tryz.func276.trans (congrArg some (by kernel_rfl))⟩
 f21:=⟨Tryz.f277.name,by decide,Tryz.func277.trans (congrArg some (by kernel_rfl))⟩
 f22:=⟨Tryz.f278.name,by decide,Tryz.func278.trans (congrArg some (by kernel_rfl))⟩
 f23:=⟨Tryz.f279.name,by decide,Tryz.func279.trans (congrArg some (by kernel_rfl))⟩
 f24:=⟨Tryz.f280.name,by decide,Tryz.func280.trans (congrArg some (by kernel_rfl))⟩
 f25:=⟨Tryz.f281.name,by decide,Tryz.func281.trans (congrArg some (by kernel_rfl))⟩
 f26:=⟨Tryz.f282.name,by decide,Tryz.func282.trans (congrArg some (by kernel_rfl))⟩
 f27:=⟨Tryz.f283.name,by decide,Tryz.func283.trans (congrArg some (by kernel_rfl))⟩
 f28:=Tryz.func235.trans (congrArg some (by kernel_rfl))
 f29:=Tryz.func236.trans (congrArg some (by kernel_rfl))
 f46:=⟨Tryz.f322.name,by decide,Tryz.func322.trans (congrArg some (by kernel_rfl))⟩
 f47:=Tryz.func306.trans (congrArg some (by kernel_rfl))
 f48:=Tryz.func307.trans (congrArg some (by kernel_rfl))
 f49:=⟨Tryz.f323.name,by decide,Tryz.func323.trans (congrArg some (by kernel_rfl))⟩
 f50:=⟨Tryz.f324.name,by decide,Tryz.func324.trans (congrArg some (by kernel_rfl))⟩
 f57:=⟨Tryz.f336.name,by decide,Tryz.func336.trans (congrArg some (by kernel_rfl))⟩
 t0:=Tryz.underlying0
 a0:=Tryz.isAgg0
 z0:=Tryz.sizeOf0
 v0:=Tryz.zeroValue0
 t3:=Tryz.underlying3
 a3:=Tryz.isAgg3
 z3:=Tryz.sizeOf3
 v3:=Tryz.zeroValue3
 t4:=Tryz.underlying4
 a4:=Tryz.isAgg4
 z4:=Tryz.sizeOf4
 v4:=Tryz.zeroValue4
 t5:=Tryz.underlying5
 a5:=Tryz.isAgg5
 z5:=Tryz.sizeOf5
 v5:=Tryz.zeroValue5
 t9:=Tryz.underlying9
 a9:=Tryz.isAgg9
 z9:=Tryz.sizeOf9
 v9:=Tryz.zeroValue9
 t22:=Tryz.underlying58
 a22:=Tryz.isAgg58
 z22:=Tryz.sizeOf58
 v22:=Tryz.zeroValue58
 a24:=Tryz.isAgg3
 z24:=Tryz.sizeOf3
 t25:=Tryz.underlying234
 a25:=Tryz.isAgg234
 z25:=Tryz.sizeOf234
 v25:=Tryz.zeroValue234
 t39:=Tryz.underlying171
 a39:=Tryz.isAgg171
 z39:=Tryz.sizeOf171
 v39:=Tryz.zeroValue171
 t45:=Tryz.underlying288
 a45:=Tryz.isAgg288
 z45:=Tryz.sizeOf288
 v45:=Tryz.zeroValue288
 t46:=Tryz.underlying289
 a46:=Tryz.isAgg289
 z46:=Tryz.sizeOf289
 v46:=Tryz.zeroValue289
 t50:=Tryz.underlying294
 a50:=Tryz.isAgg294
 z50:=Tryz.sizeOf294
 v50:=Tryz.zeroValue294
 t53:=Tryz.underlying285
 a53:=Tryz.isAgg285
 z53:=Tryz.sizeOf285
 v53:=Tryz.zeroValue285
 t55:=Tryz.underlying205
 a55:=Tryz.isAgg205
 z55:=Tryz.sizeOf205
 v55:=Tryz.zeroValue205
 t66:=Tryz.underlying333
 a66:=Tryz.isAgg333
 z66:=Tryz.sizeOf333
 v66:=Tryz.zeroValue333
 t70:=Tryz.underlying337
 a70:=Tryz.isAgg337
 z70:=Tryz.sizeOf337
 v70:=Tryz.zeroValue337
 t76:=Tryz.underlying357
 a76:=Tryz.isAgg357
 z76:=Tryz.sizeOf357
 v76:=Tryz.zeroValue357
 t77:=Tryz.underlying229
 a77:=Tryz.isAgg229
 z77:=Tryz.sizeOf229
 v77:=Tryz.zeroValue229}
def Tryz.Ve:Go.Shelf.Ren:=⟨fun | 6=>173 | 15=>185 | 14=>226 | 28=>235 | 29=>236 | 20=>276 | 21=>277 | 22=>278 | 23=>279 | 24=>280 | 25=>281 | 26=>282 | 27=>283 | 46=>322 | 47=>306 | 48=>307 | 49=>323 | 50=>324 | 57=>336 | n=>n,fun | 22=>58 | 24=>3 | 25=>234 | 3=>3 | 39=>171 | 0=>0 | 53=>285 | 55=>205 | 4=>4 | 46=>289 | 45=>288 | 50=>294 | 5=>5 | 9=>9 | 66=>333 | 70=>337 | 76=>357 | 77=>229 | n=>n,fun | n=>n⟩
theorem Tryz.Abf:Go.Proofs.SlLaysF0.n6 Tryz.prog Tryz.Ve:={
 mixed:=by kernel_rfl
 f6:=⟨Tryz.f173.name,by decide,Tryz.func173.trans (congrArg some (by kernel_rfl))⟩
 f14:=⟨Tryz.f226.name,by decide,Tryz.func226.trans (congrArg some (by kernel_rfl))⟩
 f15:=Tryz.func185.trans (congrArg some (by kernel_rfl))
 f20:=⟨Tryz.f276.name,by decide,Tryz.func276.trans (congrArg some (by kernel_rfl))⟩
 f21:=⟨Tryz.f277.name,by decide,Tryz.func277.trans (congrArg some (by kernel_rfl))⟩
 f22:=⟨Tryz.f278.name,by decide,Tryz.func278.trans (congrArg some (by kernel_rfl))⟩
 f23:=⟨Tryz.f279.name,by decide,Tryz.func279.trans (congrArg some (by kernel_rfl))⟩
 f24:=⟨Tryz.f280.name,by decide,Tryz.func280.trans (congrArg some (by kernel_rfl))⟩
 f25:=⟨Tryz.f281.name,by decide,Tryz.func281.trans (congrArg some (by kernel_rfl))⟩
 f26:=⟨Tryz.f282.name,by decide,Tryz.func282.trans (congrArg some (by kernel_rfl))⟩
 f27:=⟨Tryz.f283.name,by decide,Tryz.func283.trans (congrArg some (by kernel_rfl))⟩
 f28:=Tryz.func235.trans (congrArg some (by kernel_rfl))
 f29:=Tryz.func236.trans (congrArg some (by kernel_rfl))
 f46:=⟨Tryz.f322.name,by decide,Tryz.func322.trans (congrArg some (by kernel_rfl))⟩
 f47:=Tryz.func306.trans (congrArg some (by kernel_rfl))
 f48:=Tryz.func307.trans (congrArg some (by kernel_rfl))
 f49:=⟨Tryz.f323.name,by decide,Tryz.func323.trans (congrArg some (by kernel_rfl))⟩
 f50:=⟨Tryz.f324.name,by decide,Tryz.func324.trans (congrArg some (by kernel_rfl))⟩
 f57:=⟨Tryz.f336.name,by decide,Tryz.func336.trans (congrArg some (by kernel_rfl))⟩
 t0:=Tryz.underlying0
 a0:=Tryz.isAgg0
 z0:=Tryz.sizeOf0
 v0:=Tryz.zeroValue0
 t3:=Tryz.underlying3
 a3:=Tryz.isAgg3
 z3:=Tryz.sizeOf3
 v3:=Tryz.zeroValue3
 t4:=Tryz.underlying4
 a4:=Tryz.isAgg4
 z4:=Tryz.sizeOf4
 v4:=Tryz.zeroValue4
 t5:=Tryz.underlying5
 a5:=Tryz.isAgg5
 z5:=Tryz.sizeOf5
 v5:=Tryz.zeroValue5
 t9:=Tryz.underlying9
 a9:=Tryz.isAgg9
 z9:=Tryz.sizeOf9
 v9:=Tryz.zeroValue9
 t22:=Tryz.underlying58
 a22:=Tryz.isAgg58
 z22:=Tryz.sizeOf58
 v22:=Tryz.zeroValue58
 t25:=Tryz.underlying234
 a25:=Tryz.isAgg234
 z25:=Tryz.sizeOf234
 v25:=Tryz.zeroValue234
 t39:=Tryz.underlying171
 a39:=Tryz.isAgg171
 z39:=Tryz.sizeOf171
 v39:=Tryz.zeroValue171
 t45:=Tryz.underlying288
 a45:=Tryz.isAgg288
 z45:=Tryz.sizeOf288
 v45:=Tryz.zeroValue288
 t46:=Tryz.underlying289
 a46:=Tryz.isAgg289
 z46:=Tryz.sizeOf289
 v46:=Tryz.zeroValue289
 t50:=Tryz.underlying294
 a50:=Tryz.isAgg294
 z50:=Tryz.sizeOf294
 v50:=Tryz.zeroValue294
 t53:=Tryz.underlying285
 a53:=Tryz.isAgg285
 z53:=Tryz.sizeOf285
 v53:=Tryz.zeroValue285
 t55:=Tryz.underlying205
 a55:=Tryz.isAgg205
 z55:=Tryz.sizeOf205
 v55:=Tryz.zeroValue205
 t66:=Tryz.underlying333
 a66:=Tryz.isAgg333
 z66:=Tryz.sizeOf333
 v66:=Tryz.zeroValue333
 t70:=Tryz.underlying337
 a70:=Tryz.isAgg337
 z70:=Tryz.sizeOf337
 v70:=Tryz.zeroValue337
 t76:=Tryz.underlying357
 a76:=Tryz.isAgg357
 z76:=Tryz.sizeOf357
 v76:=Tryz.zeroValue357
 t77:=Tryz.underlying229
 a77:=Tryz.isAgg229
 z77:=Tryz.sizeOf229
 v77:=Tryz.zeroValue229}
def Tryz.Ie:Go.Shelf.Ren:=⟨fun | 32=>232 | 49=>286 | n=>n,fun | 30=>23 | 21=>21 | 3=>3 | 0=>0 | 5=>5 | 4=>4 | 33=>280 | 66=>349 | 25=>171 | 69=>352 | 68=>351 | n=>n,fun | 2=>4 | 3=>5 | n=>n⟩
theorem Tryz.X6:Go.Proofs.Lays7.n32 Tryz.prog Tryz.Ie:={
 mixed:=by kernel_rfl
 f32:=Tryz.func232.trans (congrArg some (by kernel_rfl))
 f49:=Tryz.func286.trans (congrArg some (by kernel_rfl))
 t0:=Tryz.underlying0
 a0:=Tryz.isAgg0
 z0:=Tryz.sizeOf0
 v0:=Tryz.zeroValue0
 i0:=by kernel_rfl
 t3:=Tryz.underlying3
 a3:=Tryz.isAgg3
 z3:=Tryz.sizeOf3
 v3:=Tryz.zeroValue3
 i3:=by kernel_rfl
 t4:=Tryz.underlying4
 a4:=Tryz.isAgg4
 z4:=Tryz.sizeOf4
 v4:=Tryz.zeroValue4
 i4:=by kernel_rfl
 t5:=Tryz.underlying5
 a5:=Tryz.isAgg5
 z5:=Tryz.sizeOf5
 v5:=Tryz.zeroValue5
 i5:=by kernel_rfl
 t21:=Tryz.underlying21
 a21:=Tryz.isAgg21
 z21:=Tryz.sizeOf21
 v21:=Tryz.zeroValue21
 i21:=by kernel_rfl
 t25:=Tryz.underlying171
 a25:=Tryz.isAgg171
 z25:=Tryz.sizeOf171
 v25:=Tryz.zeroValue171
 i25:=by kernel_rfl
 t30:=Tryz.underlying23
 a30:=Tryz.isAgg23
 z30:=Tryz.sizeOf23
 v30:=Tryz.zeroValue23
 i30:=by kernel_rfl
 t33:=Tryz.underlying280
 a33:=Tryz.isAgg280
 z33:=Tryz.sizeOf280
 v33:=Tryz.zeroValue280
 i33:=by kernel_rfl
 t66:=Tryz.underlying349
 a66:=Tryz.isAgg349
 z66:=Tryz.sizeOf349
 t68:=Tryz.underlying351
 a68:=Tryz.isAgg351
 z68:=Tryz.sizeOf351
 v68:=Tryz.zeroValue351
 i68:=by kernel_rfl
 t69:=Tryz.underlying352
 a69:=Tryz.isAgg352
 z69:=Tryz.sizeOf352
 v69:=Tryz.zeroValue352
 i69:=by kernel_rfl
 g2:=by kernel_rfl
 g3:=by kernel_rfl}
def Tryz.S4:Go.Shelf.Ren:=⟨fun | 7=>131 | 10=>184 | n=>n,fun | 23=>130 | 26=>9 | 3=>109 | 28=>189 | 0=>0 | 27=>188 | 33=>41 | 4=>4 | n=>n,fun | n=>n⟩
theorem Tryz.AaG:Go.Proofs.SlLaysZ.n7 Tryz.prog Tryz.S4:={
 mixed:=by kernel_rfl
 f7:=⟨Tryz.f131.name,by decide,Tryz.func131.trans (congrArg some (by kernel_rfl))⟩
 f10:=⟨Tryz.f184.name,by decide,Tryz.func184.trans (congrArg some (by kernel_rfl))⟩
 t0:=Tryz.underlying0
 a0:=Tryz.isAgg0
 z0:=Tryz.sizeOf0
 v0:=Tryz.zeroValue0
 t4:=Tryz.underlying4
 a4:=Tryz.isAgg4
 z4:=Tryz.sizeOf4
 v4:=Tryz.zeroValue4
 t23:=Tryz.underlying130
 a23:=Tryz.isAgg130
 z23:=Tryz.sizeOf130
 v23:=Tryz.zeroValue130
 t26:=Tryz.underlying9
 a26:=Tryz.isAgg9
 z26:=Tryz.sizeOf9
 v26:=Tryz.zeroValue9
 t27:=Tryz.underlying188
 a27:=Tryz.isAgg188
 z27:=Tryz.sizeOf188
 v27:=Tryz.zeroValue188
 t28:=Tryz.underlying189
 a28:=Tryz.isAgg189
 z28:=Tryz.sizeOf189
 v28:=Tryz.zeroValue189
 t33:=Tryz.underlying41
 a33:=Tryz.isAgg41
 z33:=Tryz.sizeOf41
 v33:=Tryz.zeroValue41}
def Tryz.Qg:Go.Shelf.Ren:=⟨fun | 6=>130 | 8=>182 | 9=>183 | 11=>233 | 13=>185 | 12=>234 | 23=>235 | 24=>236 | 14=>287 | 15=>288 | 16=>289 | 17=>290 | 18=>291 | 19=>292 | 20=>293 | 21=>294 | 22=>295 | 25=>325 | 26=>306 | 27=>307 | 28=>326 | 29=>327 | 30=>328 | 31=>337 | n=>n,fun | 26=>9 | 28=>189 | 24=>22 | 0=>0 | 3=>3 | 37=>171 | 48=>285 | 50=>205 | 4=>4 | 40=>289 | 39=>288 | 45=>294 | 5=>5 | 9=>9 | 51=>333 | 55=>337 | 57=>357 | 58=>229 | 33=>41 | n=>n,fun | n=>n⟩
theorem Tryz.Zz:Go.Proofs.SlLaysZ.n6 Tryz.prog Tryz.Qg:={
 mixed:=by kernel_rfl
 f6:=⟨Tryz.f130.name,by decide,Tryz.func130.trans (congrArg some (by kernel_rfl))⟩
 f8:=⟨Tryz.f182.name,by decide,Tryz.func182.trans (congrArg some (by kernel_rfl))⟩
 f11:=⟨Tryz.f233.name,by decide,Tryz.func233.trans (congrArg some (by kernel_rfl))⟩
 t0:=Tryz.underlying0
 a0:=Tryz.isAgg0
 z0:=Tryz.sizeOf0
 v0:=Tryz.zeroValue0
 t24:=Tryz.underlying22
 a24:=Tryz.isAgg22
 z24:=Tryz.sizeOf22
 v24:=Tryz.zeroValue22
 t26:=Tryz.underlying9
 a26:=Tryz.isAgg9
 z26:=Tryz.sizeOf9
 v26:=Tryz.zeroValue9
 t28:=Tryz.underlying189
 a28:=Tryz.isAgg189
 z28:=Tryz.sizeOf189
 v28:=Tryz.zeroValue189
 i26:=by kernel_rfl}
def Tryz.Ug:Go.Shelf.Ren:=⟨fun | 171=>64 | 243=>107 | 246=>162 | 283=>210 | 284=>211 | 285=>212 | 286=>213 | 129=>236 | 317=>258 | 318=>259 | 319=>260 | 320=>261 | 337=>315 | 338=>316 | n=>n,fun | 3=>3 | 9=>9 | 2=>2 | 4=>4 | 171=>263 | 0=>0 | 53=>205 | 37=>23 | 5=>5 | 173=>266 | 212=>305 | 51=>285 | 20=>20 | 213=>306 | 46=>171 | 232=>359 | 233=>360 | n=>n,fun | 17=>1 | 18=>6 | 19=>7 | n=>n⟩
theorem Tryz.Z0:Go.Proofs.LaysM.n171 Tryz.prog Tryz.Ug:={
 mixed:=by kernel_rfl
 f129:=Tryz.func236.trans (congrArg some (by kernel_rfl))
 f171:=Tryz.func64.trans (congrArg some (by kernel_rfl))
 f243:=Tryz.func107.trans (congrArg some (by kernel_rfl))
 f246:=Tryz.func162.trans (congrArg some (by kernel_rfl))
 f283:=Tryz.func210.trans (congrArg some (by kernel_rfl))
 f284:=Tryz.func211.trans (congrArg some (by kernel_rfl))
 f285:=Tryz.func212.trans (congrArg some (by kernel_rfl))
 f286:=Tryz.func213.trans (congrArg some (by kernel_rfl))
 f317:=Tryz.func258.trans (congrArg some (by kernel_rfl))
 f318:=Tryz.func259.trans (congrArg some (by kernel_rfl))
 f319:=Tryz.func260.trans (congrArg some (by kernel_rfl))
 f320:=Tryz.func261.trans (congrArg some (by kernel_rfl))
 f337:=Tryz.func315.trans (congrArg some (by kernel_rfl))
 f338:=Tryz.func316.trans (congrArg some (by kernel_rfl))
 t0:=Tryz.underlying0
 a0:=Tryz.isAgg0
 z0:=Tryz.sizeOf0
 v0:=Tryz.zeroValue0
 t2:=Tryz.underlying2
 a2:=Tryz.isAgg2
 z2:=Tryz.sizeOf2
 v2:=Tryz.zeroValue2
 t3:=Tryz.underlying3
 a3:=Tryz.isAgg3
 z3:=Tryz.sizeOf3
 v3:=Tryz.zeroValue3
 t4:=Tryz.underlying4
 a4:=Tryz.isAgg4
 z4:=Tryz.sizeOf4
 v4:=Tryz.zeroValue4
 t5:=Tryz.underlying5
 a5:=Tryz.isAgg5
 z5:=Tryz.sizeOf5
 v5:=Tryz.zeroValue5
 t9:=Tryz.underlying9
 a9:=Tryz.isAgg9
 z9:=Tryz.sizeOf9
 v9:=Tryz.zeroValue9
 t20:=Tryz.underlying20
 a20:=Tryz.isAgg20
 z20:=Tryz.sizeOf20
 v20:=Tryz.zeroValue20
 t37:=Tryz.underlying23
 a37:=Tryz.isAgg23
 z37:=Tryz.sizeOf23
 v37:=Tryz.zeroValue23
 t46:=Tryz.underlying171
 a46:=Tryz.isAgg171
 z46:=Tryz.sizeOf171
 v46:=Tryz.zeroValue171
 t51:=Tryz.underlying285
 a51:=Tryz.isAgg285
 z51:=Tryz.sizeOf285
 v51:=Tryz.zeroValue285
 t53:=Tryz.underlying205
 a53:=Tryz.isAgg205
 z53:=Tryz.sizeOf205
 v53:=Tryz.zeroValue205
 t171:=Tryz.underlying263
 a171:=Tryz.isAgg263
 z171:=Tryz.sizeOf263
 v171:=Tryz.zeroValue263
 t173:=Tryz.underlying266
 a173:=Tryz.isAgg266
 z173:=Tryz.sizeOf266
 v173:=Tryz.zeroValue266
 t212:=Tryz.underlying305
 a212:=Tryz.isAgg305
 z212:=Tryz.sizeOf305
 v212:=Tryz.zeroValue305
 t213:=Tryz.underlying306
 a213:=Tryz.isAgg306
 z213:=Tryz.sizeOf306
 t232:=Tryz.underlying359
 a232:=Tryz.isAgg359
 z232:=Tryz.sizeOf359
 v232:=Tryz.zeroValue359
 t233:=Tryz.underlying360
 a233:=Tryz.isAgg360
 z233:=Tryz.sizeOf360
 v233:=Tryz.zeroValue360
 g17:=by kernel_rfl
 g18:=by kernel_rfl
 g19:=by kernel_rfl
 i0:=by kernel_rfl
 i2:=by kernel_rfl
 i3:=by kernel_rfl
 i4:=by kernel_rfl
 i5:=by kernel_rfl
 i9:=by kernel_rfl
 i20:=by kernel_rfl
 i37:=by kernel_rfl
 i46:=by kernel_rfl
 i51:=by kernel_rfl
 i53:=by kernel_rfl
 i171:=by kernel_rfl
 i173:=by kernel_rfl
 i212:=by kernel_rfl
 i232:=by kernel_rfl
 i233:=by kernel_rfl
 m17:=by kernel_rfl
 m18:=by kernel_rfl
 m19:=by kernel_rfl}
def Tryz.Ng:Go.Shelf.Ren:=⟨fun | 172=>169 | 244=>224 | 245=>225 | 247=>271 | 279=>272 | 280=>273 | 281=>274 | 282=>275 | 287=>319 | 316=>320 | 171=>64 | 205=>321 | 321=>334 | 322=>335 | 243=>107 | 246=>162 | 283=>210 | 284=>211 | 285=>212 | 286=>213 | 129=>236 | 317=>258 | 318=>259 | 319=>260 | 320=>261 | 337=>315 | 338=>316 | n=>n,fun | 9=>9 | 3=>3 | 75=>167 | 76=>168 | 4=>4 | 5=>5 | 167=>310 | 37=>23 | 0=>0 | 85=>311 | 2=>2 | 168=>313 | 53=>205 | 175=>342 | 46=>171 | 210=>345 | 127=>219 | 145=>366 | 143=>364 | 21=>21 | 171=>263 | 173=>266 | 212=>305 | 51=>285 | 20=>20 | 213=>306 | 232=>359 | 233=>360 | 80=>170 | n=>n,fun | 15=>2 | 16=>3 | 17=>1 | 18=>6 | 19=>7 | n=>n⟩
theorem Tryz.Tg:Go.Proofs.LaysC.n172 Tryz.prog Tryz.Ng:={
 mixed:=by kernel_rfl
 f129:=Tryz.func236.trans (congrArg some (by kernel_rfl))
 f171:=Tryz.func64.trans (congrArg some (by kernel_rfl))
 f172:=Tryz.func169.trans (congrArg some (by kernel_rfl))
 f205:=Tryz.func321.trans (congrArg some (by kernel_rfl))
 f243:=Tryz.func107.trans (congrArg some (by kernel_rfl))
 f244:=Tryz.func224.trans (congrArg some (by kernel_rfl))
 f245:=Tryz.func225.trans (congrArg some (by kernel_rfl))
 f246:=Tryz.func162.trans (congrArg some (by kernel_rfl))
 f247:=Tryz.func271.trans (congrArg some (by kernel_rfl))
 f279:=Tryz.func272.trans (congrArg some (by kernel_rfl))
 f280:=Tryz.func273.trans (congrArg some (by kernel_rfl))
 f281:=Tryz.func274.trans (congrArg some (by kernel_rfl))
 f282:=Tryz.func275.trans (congrArg some (by kernel_rfl))
 f283:=Tryz.func210.trans (congrArg some (by kernel_rfl))
 f284:=Tryz.func211.trans (congrArg some (by kernel_rfl))
 f285:=Tryz.func212.trans (congrArg some (by kernel_rfl))
 f286:=Tryz.func213.trans (congrArg some (by kernel_rfl))
 f287:=Tryz.func319.trans (congrArg some (by kernel_rfl))
 f316:=Tryz.func320.trans (congrArg some (by kernel_rfl))
 f317:=Tryz.func258.trans (congrArg some (by kernel_rfl))
 f318:=Tryz.func259.trans (congrArg some (by kernel_rfl))
 f319:=Tryz.func260.trans (congrArg some (by kernel_rfl))
 f320:=Tryz.func261.trans (congrArg some (by kernel_rfl))
 f321:=Tryz.func334.trans (congrArg some (by kernel_rfl))
 f322:=Tryz.func335.trans (congrArg some (by kernel_rfl))
 f337:=Tryz.func315.trans (congrArg some (by kernel_rfl))
 f338:=Tryz.func316.trans (congrArg some (by kernel_rfl))
 t0:=Tryz.underlying0
 a0:=Tryz.isAgg0
 z0:=Tryz.sizeOf0
 v0:=Tryz.zeroValue0
 t2:=Tryz.underlying2
 a2:=Tryz.isAgg2
 z2:=Tryz.sizeOf2
 v2:=Tryz.zeroValue2
 t3:=Tryz.underlying3
 a3:=Tryz.isAgg3
 z3:=Tryz.sizeOf3
 v3:=Tryz.zeroValue3
 t4:=Tryz.underlying4
 a4:=Tryz.isAgg4
 z4:=Tryz.sizeOf4
 v4:=Tryz.zeroValue4
 t5:=Tryz.underlying5
 a5:=Tryz.isAgg5
 z5:=Tryz.sizeOf5
 v5:=Tryz.zeroValue5
 t9:=Tryz.underlying9
 a9:=Tryz.isAgg9
 z9:=Tryz.sizeOf9
 v9:=Tryz.zeroValue9
 t20:=Tryz.underlying20
 a20:=Tryz.isAgg20
 z20:=Tryz.sizeOf20
 v20:=Tryz.zeroValue20
 t21:=Tryz.underlying21
 a21:=Tryz.isAgg21
 z21:=Tryz.sizeOf21
 v21:=Tryz.zeroValue21
 t37:=Tryz.underlying23
 a37:=Tryz.isAgg23
 z37:=Tryz.sizeOf23
 v37:=Tryz.zeroValue23
 t46:=Tryz.underlying171
 a46:=Tryz.isAgg171
 z46:=Tryz.sizeOf171
 v46:=Tryz.zeroValue171
 t51:=Tryz.underlying285
 a51:=Tryz.isAgg285
 z51:=Tryz.sizeOf285
 v51:=Tryz.zeroValue285
 t53:=Tryz.underlying205
 a53:=Tryz.isAgg205
 z53:=Tryz.sizeOf205
 v53:=Tryz.zeroValue205
 t75:=Tryz.underlying167
 a75:=Tryz.isAgg167
 z75:=Tryz.sizeOf167
 v75:=Tryz.zeroValue167
 t76:=Tryz.underlying168
 a76:=Tryz.isAgg168
 z76:=Tryz.sizeOf168
 v76:=Tryz.zeroValue168
 t85:=Tryz.underlying311
 a85:=Tryz.isAgg311
 z85:=Tryz.sizeOf311
 v85:=Tryz.zeroValue311
 t127:=Tryz.underlying219
 a127:=Tryz.isAgg219
 z127:=Tryz.sizeOf219
 v127:=Tryz.zeroValue219
 t143:=Tryz.underlying364
 a143:=Tryz.isAgg364
 z143:=Tryz.sizeOf364
 v143:=Tryz.zeroValue364
 t145:=Tryz.underlying366
 a145:=Tryz.isAgg366
 z145:=Tryz.sizeOf366
 v145:=Tryz.zeroValue366
 t167:=Tryz.underlying310
 a167:=Tryz.isAgg310
 z167:=Tryz.sizeOf310
 v167:=Tryz.zeroValue310
 t168:=Tryz.underlying313
 a168:=Tryz.isAgg313
 z168:=Tryz.sizeOf313
 v168:=Tryz.zeroValue313
 t171:=Tryz.underlying263
 a171:=Tryz.isAgg263
 z171:=Tryz.sizeOf263
 v171:=Tryz.zeroValue263
 t173:=Tryz.underlying266
 a173:=Tryz.isAgg266
 z173:=Tryz.sizeOf266
 v173:=Tryz.zeroValue266
 t175:=Tryz.underlying342
 a175:=Tryz.isAgg342
 z175:=Tryz.sizeOf342
 v175:=Tryz.zeroValue342
 t210:=Tryz.underlying345
 a210:=Tryz.isAgg345
 z210:=Tryz.sizeOf345
 v210:=Tryz.zeroValue345
 t212:=Tryz.underlying305
 a212:=Tryz.isAgg305
 z212:=Tryz.sizeOf305
 v212:=Tryz.zeroValue305
 t213:=Tryz.underlying306
 a213:=Tryz.isAgg306
 z213:=Tryz.sizeOf306
 t232:=Tryz.underlying359
 a232:=Tryz.isAgg359
 z232:=Tryz.sizeOf359
 v232:=Tryz.zeroValue359
 t233:=Tryz.underlying360
 a233:=Tryz.isAgg360
 z233:=Tryz.sizeOf360
 v233:=Tryz.zeroValue360
 g15:=by kernel_rfl
 g16:=by kernel_rfl
 g17:=by kernel_rfl
 g18:=by kernel_rfl
 g19:=by kernel_rfl
 t80:=Tryz.underlying170
 a80:=Tryz.isAgg170
 z80:=Tryz.sizeOf170
 v80:=Tryz.zeroValue170
 i0:=by kernel_rfl
 i2:=by kernel_rfl
 i3:=by kernel_rfl
 i4:=by kernel_rfl
 i5:=by kernel_rfl
 i9:=by kernel_rfl
 i20:=by kernel_rfl
 i21:=by kernel_rfl
 i37:=by kernel_rfl
 i46:=by kernel_rfl
 i51:=by kernel_rfl
 i53:=by kernel_rfl
 i75:=by kernel_rfl
 i76:=by kernel_rfl
 i80:=by kernel_rfl
 i85:=by kernel_rfl
 i127:=by kernel_rfl
 i143:=by kernel_rfl
 i145:=by kernel_rfl
 i167:=by kernel_rfl
 i168:=by kernel_rfl
 i171:=by kernel_rfl
 i173:=by kernel_rfl
 i175:=by kernel_rfl
 i210:=by kernel_rfl
 i212:=by kernel_rfl
 i232:=by kernel_rfl
 i233:=by kernel_rfl
 m15:=by kernel_rfl
 m16:=by kernel_rfl
 m17:=by kernel_rfl
 m18:=by kernel_rfl
 m19:=by kernel_rfl
 c0:=by kernel_rfl
 c2:=by kernel_rfl
 c3:=by kernel_rfl
 c4:=by kernel_rfl
 c5:=by kernel_rfl
 c9:=by kernel_rfl
 c20:=by kernel_rfl
 c21:=by kernel_rfl
 c37:=by kernel_rfl
 c46:=by kernel_rfl
 c51:=by kernel_rfl
 c53:=by kernel_rfl
 c75:=by kernel_rfl
 c76:=by kernel_rfl
 c80:=by kernel_rfl
 c85:=by kernel_rfl
 c127:=by kernel_rfl
 c143:=by kernel_rfl
 c145:=by kernel_rfl
 c167:=by kernel_rfl
 c168:=by kernel_rfl
 c171:=by kernel_rfl
 c173:=by kernel_rfl
 c175:=by kernel_rfl
 c210:=by kernel_rfl
 c212:=by kernel_rfl
 c213:=by kernel_rfl
 c232:=by kernel_rfl
 c233:=by kernel_rfl}
def Tryz.Py:Go.Shelf.Ren:=⟨fun | 153=>167 | 152=>219 | 226=>220 | 227=>221 | 228=>222 | 137=>168 | 119=>267 | 224=>268 | 225=>269 | 217=>223 | 266=>270 | n=>n,fun | 9=>9 | 3=>3 | 4=>4 | 5=>5 | 21=>21 | 117=>272 | 116=>271 | 0=>0 | 46=>171 | 124=>309 | n=>n,fun | n=>n⟩
theorem Tryz.X7:Go.Proofs.Lays.n153 Tryz.prog Tryz.Py:={
 mixed:=by kernel_rfl
 f119:=Tryz.func267.trans (congrArg some (by kernel_rfl))
 f137:=Tryz.func168.trans (congrArg some (by kernel_rfl))
 f152:=Tryz.func219.trans (congrArg some (by kernel_rfl))
 f153:=Tryz.func167.trans (congrArg some (by kernel_rfl))
 f217:=Tryz.func223.trans (congrArg some (by kernel_rfl))
 f224:=Tryz.func268.trans (congrArg some (by kernel_rfl))
 f225:=Tryz.func269.trans (congrArg some (by kernel_rfl))
 f226:=Tryz.func220.trans (congrArg some (by kernel_rfl))
 f227:=Tryz.func221.trans (congrArg some (by kernel_rfl))
 f228:=Tryz.func222.trans (congrArg some (by kernel_rfl))
 f266:=Tryz.func270.trans (congrArg some (by kernel_rfl))
 t0:=Tryz.underlying0
 a0:=Tryz.isAgg0
 z0:=Tryz.sizeOf0
 v0:=Tryz.zeroValue0
 t3:=Tryz.underlying3
 a3:=Tryz.isAgg3
 z3:=Tryz.sizeOf3
 v3:=Tryz.zeroValue3
 t4:=Tryz.underlying4
 a4:=Tryz.isAgg4
 z4:=Tryz.sizeOf4
 v4:=Tryz.zeroValue4
 t5:=Tryz.underlying5
 a5:=Tryz.isAgg5
 z5:=Tryz.sizeOf5
 v5:=Tryz.zeroValue5
 t9:=Tryz.underlying9
 a9:=Tryz.isAgg9
 z9:=Tryz.sizeOf9
 v9:=Tryz.zeroValue9
 t21:=Tryz.underlying21
 a21:=Tryz.isAgg21
 z21:=Tryz.sizeOf21
 v21:=Tryz.zeroValue21
 t46:=Tryz.underlying171
 a46:=Tryz.isAgg171
 z46:=Tryz.sizeOf171
 v46:=Tryz.zeroValue171
 t116:=Tryz.underlying271
 a116:=Tryz.isAgg271
 z116:=Tryz.sizeOf271
 t117:=Tryz.underlying272
 a117:=Tryz.isAgg272
 z117:=Tryz.sizeOf272
 v117:=Tryz.zeroValue272
 t124:=Tryz.underlying309
 a124:=Tryz.isAgg309
 z124:=Tryz.sizeOf309
 v124:=Tryz.zeroValue309}
end Go.Proofs
end
noncomputable section
namespace Go.E
open Go
abbrev Env:=List (Nat×Value)
def gt:Env→Nat→Option Value
 | [],_=>none
 | (k,v)::L,t=>bif Nat.beq k t then some v else gt L t
def ev(L:Env):Operand→Option Value
 | .tmp t=>gt L t
 | .const v=>some v
 | .global g=>some (.pointer (some ⟨g,0,none⟩))
 | .func f=>some (.func (.func f) #[] #[])
def OL(L:Env):List Operand→Option (List Value)
 | []=>some []
 | x::xs=>match ev L x,OL L xs with
  | some v,some vs=>some (v::vs)
  | _,_=>none
structure Sz where
 n:Nat
 d:List Deferred
structure Fr (n:Sz) (a:Act) (L:Env):Prop where
 size:a.tmps.size=n.n
 defers:a.defers=n.d
 get:∀ t v,gt L t=some v→a.tmps[t]? = some v
theorem Mp{k t:Nat}{v:Value}{L:Env}:gt ((k,v)::L) t=if k=t then some v else gt L t:=by
 show(bif Nat.beq k t then some v else gt L t)=_
 by_cases h:k=t
 ·subst h;simp
 ·have:Nat.beq k t=false:=by
   cases hb:Nat.beq k t with
   | true=>exact absurd (Nat.eq_of_beq_eq_true hb) h
   | false=>rfl
  rw [this,if_neg h];rfl
theorem Fr.eval{n:Sz}{a:Act}{L:Env}(h:Fr n a L){x:Operand}{v:Value}(hx:ev L x=some v):a.eval x=v:=by
 cases x with
 | tmp t=>simp only [ev] at hx;have:=h.get t v hx;simp [Act.eval,Array.getD_eq_getD_getElem?,this]
 | const u=>simp only [ev,Option.some.injEq] at hx;simpa [Act.eval] using hx
 | func f=>simp only [ev,Option.some.injEq] at hx;simpa [Act.eval] using hx
 | _=>simp only [ev,Option.some.injEq] at hx;simpa [Act.eval] using hx
theorem Fr.put{n:Sz}{a:Act}{L:Env}(h:Fr n a L){d:Nat}{v:Value}(hd:Nat.blt d n.n=true):Fr n (a.put (some d) v) ((d,v)::L):=by
 have hd':d<n.n:=by simpa [Nat.blt_eq] using hd
 refine⟨by simp [Act.put,h.size],by simp [Act.put,h.defers],fun t u ht=>?_⟩;rw [Mp] at ht
 by_cases e:d=t
 ·subst e;rw [if_pos rfl] at ht
  cases ht
  simp [Act.put,h.size,hd']
 ·rw [if_neg e] at ht;have:=h.get t u ht;simp only [Act.put];rw [Array.getElem?_setIfInBounds_ne e];exact this
def Sub(L' L:Env):Prop:=∀ t v,gt L' t=some v→gt L t=some v
theorem Sub.refl(L:Env):Sub L L:=fun _ _ h=>h
theorem Sub.nil(L:Env):Sub [] L:=fun _ _ h=>by cases h
theorem Sub.cons{t:Nat}{v:Value}{L' L:Env}(hg:gt L t=some v)(h:Sub L' L):Sub ((t,v)::L') L:=fun t' u hu=>by
 rw [Mp] at hu
 by_cases e:t=t'
 ·subst e;rw [if_pos rfl] at hu;cases hu;exact hg
 ·rw [if_neg e] at hu;exact h t' u hu
def ga(L:Env):Env→List (Option Value)
 | []=>[]
 | (t,_)::r=>gt L t::ga L r
def va:Env→List (Option Value)
 | []=>[]
 | (_,v)::r=>some v::va r
theorem Sub.of{L:Env}:∀ {L':Env},ga L L'=va L'→Sub L' L
 | [],_=>Sub.nil L
 | (_,_)::_,h=>Sub.cons (List.cons.inj h).1 (Sub.of (List.cons.inj h).2)
theorem Sub.int{t:Nat}{k:IntKind}{x y:Int}{L' L:Env}(hg:gt L t=some (.int k x))(he:x=y)(h:Sub L' L):Sub ((t,.int k y)::L') L:=.cons (he ▸ hg) h
theorem Fr.sub{n:Sz}{a:Act}{L L':Env}(h:Fr n a L)(hs:Sub L' L):Fr n a L':=⟨h.size,h.defers,fun t v ht=>h.get t v (hs t v ht)⟩
def W(P:Program)(n:Sz)(c:Code)(Q:Exit→Act→World→Prop)(L:Env)(w:World):Prop:=∀ a,Fr n a L→c.wp P Q a w
def S(P:Program)(n:Sz)(ops:Array Oper)(Q:Exit→Act→World→Prop)(l:List Oper)(L:Env)(w:World):Prop:=∀ a,Fr n a L→wpList P ops Q l a w
def At(n:Sz)(Q:Exit→Act→World→Prop)(e:Exit)(L:Env)(w:World):Prop:=∀ a,Fr n a L→Q e a w
def OM(P:Program)(y:Code)(Q:Exit→Act→World→Prop):Exit→Act→World→Prop:=Exit.then (y.wp P Q) Q
def Uh{σ:Type}(n:Sz)(I:σ→Env)(R:σ→World→Prop)(Q:Exit→Act→World→Prop):Exit→Act→World→Prop:=
 Exit.then (fun a w=>∃ s,Fr n a (I s)∧R s w) Q
def QU{σ:Type}(n:Sz)(I:σ→Env)(R:σ→World→Prop)(μ:σ→Nat)(x:σ)(Q:Exit→Act→World→Prop):Exit→Act→World→Prop:=
 Exit.then (fun a w=>∃ s,Fr n a (I s)∧R s w∧μ s<μ x) Q
section
variable {P:Program} {n:Sz} {Q:Exit→Act→World→Prop} {L:Env} {w:World} {x y c:Code}
theorem W.sub{L':Env}(h:W P n c Q L' w)(hs:Sub L' L):W P n c Q L w:=fun a fr=>h a (fr.sub hs)
theorem S.sub{ops:Array Oper}{l:List Oper}{L':Env}(h:S P n ops Q l L' w)(hs:Sub L' L):S P n ops Q l L w:=fun a fr=>h a (fr.sub hs)
theorem A7(h:W P n x (OM P y Q) L w):W P n (.seq x y) Q L w:=fun a fr=>wp_seq (h a fr)
theorem Au(h:At n Q .normal L w):W P n .skip Q L w:=fun a fr=>wp_skip (h a fr)
theorem Ay(h:At n Q .ret L w):W P n .ret Q L w:=fun a fr=>wp_ret (h a fr)
theorem Br{id:Nat}(h:At n Q (.exit id) L w):W P n (.exit id) Q L w:=fun a fr=>wp_exit (h a fr)
theorem A2{id:Nat}(h:W P n c (Exit.inBlock id Q) L w):W P n (.block id c) Q L w:=fun a fr=>wp_block (h a fr)
theorem Ar{id:Nat}{l:List Oper}(h:S P n l.toArray Q l L w):W P n (.region id l.toArray false) Q L w:=fun a fr=>wp_region_lit (h a fr)
theorem Ak{id:Nat}{l:List Oper}(h:S P n l.toArray (OM P y Q) l L w):W P n (.seq (.region id l.toArray false) y) Q L w:=A7 (Ar h)
theorem Vf{t:Operand}{b:Bool}(hc:ev L t=some (.bool b))(ht:b=true→W P n x Q L w)(hf:b=false→W P n y Q L w):W P n (.cond t x y) Q L w:=
 fun a fr=>wp_cond_split (fr.eval hc) (fun e=>ht e a fr) (fun e=>hf e a fr)
theorem AcD{t:Operand}{p:Prop}[Decidable p](hc:ev L t=some (.bool (decide p)))(ht:p→W P n x Q L w)(hf : ¬ p→W P n y Q L w):W P n (.cond t x y) Q L w:=
 Vf hc (fun e=>ht (of_decide_eq_true e)) (fun e=>hf (of_decide_eq_false e))
theorem AbZ{t:Operand}{p:Prop}[Decidable p](hc:ev L t=some (.bool (!decide p)))(ht : ¬ p→W P n x Q L w)(hf:p→W P n y Q L w):W P n (.cond t x y) Q L w:=
 Vf hc (fun e=>ht (by simpa using e)) (fun e=>hf (by simpa using e))
theorem Cy{t:Operand}(hc:ev L t=some (.bool true))(h:W P n x Q L w):W P n (.cond t x y) Q L w:=fun a fr=>wp_cond_true (fr.eval hc) (h a fr)
theorem Cw{t:Operand}(hc:ev L t=some (.bool false))(h:W P n y Q L w):W P n (.cond t x y) Q L w:=fun a fr=>wp_cond_false (fr.eval hc) (h a fr)
theorem Bw{σ:Type}(I:σ→Env)(R:σ→World→Prop)(μ:σ→Nat)(d:σ)(hs:Sub (I d) L)(hR:R d w)
  (round:∀ s w,R s w→W P n c (QU n I R μ s Q) (I s) w):W P n (.loop c) Q L w:=by
 intro a fr b k cs
 have key:∀ m s a w,μ s=m→Fr n a (I s)→R s w→
   ∃ e a' w',Q e a' w'∧Arrives P (lone (b.at a (.code c::.inLoop c::k)) cs w) b k cs e a' w':=by
  intro m
  induction m using Nat.strongRecOn with
  | _ m ih=>
   intro s a w hm fr hR;obtain⟨e,a₁,w₁,hq,harr⟩:=round s w hR a fr b (.inLoop c::k) cs
   cases e with
   | normal=>
    obtain⟨s',fr',hR',hlt⟩:=hq;obtain⟨e₂,a₂,w₂,hq₂,harr₂⟩:=ih (μ s') (hm ▸ hlt) s' a₁ w₁ rfl fr' hR';exact⟨e₂,a₂,w₂,hq₂,.of_steps (Steps.trans harr (.one step_inLoop)) harr₂⟩
   | exit id=>exact⟨_,a₁,w₁,hq,.pass (x:=.inLoop c) rfl (fun _ _=>.inl (by simp)) harr⟩
   | goto l=>exact⟨_,a₁,w₁,hq,.pass (x:=.inLoop c) rfl (fun _ _=>.inl (by simp)) harr⟩
   | ret=>exact⟨_,a₁,w₁,hq,.pass (x:=.inLoop c) rfl (fun _ _=>.inl (by simp)) harr⟩
   | panic ch=>exact⟨_,a₁,w₁,hq,.pass (x:=.inLoop c) rfl (fun _ _=>.inl (by simp)) harr⟩
   | outgrown=>exact⟨_,a₁,w₁,hq,.pass (x:=.inLoop c) rfl (fun _ _=>.inl (by simp)) harr⟩
 obtain⟨e,a',w',hq,harr⟩:=key _ d a w rfl (fr.sub hs) hR;exact⟨e,a',w',hq,.of_steps (.one step_loop) harr⟩
theorem Bn{σ:Type}(I:σ→Env)(R:σ→World→Prop)(b:W P n x (Uh n I R Q) L w)(h2:∀ s w,R s w→W P n y Q (I s) w):W P n (.seq x y) Q L w:=
 fun a fr=>wp_seq (wp_mono (b a fr) fun e a' w' q=>by
  cases e with
  | normal=>obtain⟨s,fr',hR⟩:=q;exact h2 s w' hR a' fr'
  | exit id=>exact q
  | goto l=>exact q
  | ret=>exact q
  | panic ch=>exact q
  | outgrown=>exact q)
theorem Ao(h:W P n y Q L w):At n (OM P y Q) .normal L w:=h
theorem A6{σ:Type}{I:σ→Env}{R:σ→World→Prop}(s:σ)(hs:Sub (I s) L)(hR:R s w):At n (Uh n I R Q) .normal L w:=fun _ fr=>⟨s,fr.sub hs,hR⟩
theorem AN{σ:Type}{I:σ→Env}{R:σ→World→Prop}{μ:σ→Nat}{a:σ}(s:σ)(hs:Sub (I s) L)(hR:R s w)(hm:μ s<μ a):At n (QU n I R μ a Q) .normal L w:=
 fun _ fr=>⟨s,fr.sub hs,hR,hm⟩
theorem A8{id:Nat}(h:At n Q .normal L w):At n (Exit.inBlock id Q) .normal L w:=h
theorem Bd{id:Nat}(h:At n Q .normal L w):At n (Exit.inBlock id Q) (.exit id) L w:=fun a fr=>by simpa [Exit.inBlock] using h a fr
theorem Mq{id id':Nat}(hne:Nat.beq id' id=false)(h:At n Q (.exit id') L w):At n (Exit.inBlock id Q) (.exit id') L w:=fun a fr=>by
 have:id'≠id:=fun e=>by subst e;simp at hne
 simpa [Exit.inBlock,this] using h a fr
theorem AD{id:Nat}(h:At n Q (.exit id) L w):At n (OM P y Q) (.exit id) L w:=h
theorem Qh{σ:Type}{I:σ→Env}{R:σ→World→Prop}{id:Nat}(h:At n Q (.exit id) L w):At n (Uh n I R Q) (.exit id) L w:=h
theorem A5{σ:Type}{I:σ→Env}{R:σ→World→Prop}{μ:σ→Nat}{a:σ}{id:Nat}(h:At n Q (.exit id) L w):At n (QU n I R μ a Q) (.exit id) L w:=h
theorem Av(h:At n Q .ret L w):At n (OM P y Q) .ret L w:=h
theorem Bt{σ:Type}{I:σ→Env}{R:σ→World→Prop}(h:At n Q .ret L w):At n (Uh n I R Q) .ret L w:=h
theorem BK{σ:Type}{I:σ→Env}{R:σ→World→Prop}{μ:σ→Nat}{a:σ}(h:At n Q .ret L w):At n (QU n I R μ a Q) .ret L w:=h
theorem Aw{id:Nat}(h:At n Q .ret L w):At n (Exit.inBlock id Q) .ret L w:=h
end
def HR (P : Program) (f : FuncId) : Prop := ∃ fn c, P.funcs[f]? = some fn ∧ (fn.name == "runtime.NumGoroutine") = false ∧ fn.body = some c
def Rq(R:Value→World→Prop):Ending→World→Prop:=fun e w'=>∃ v,e=.returned v∧R v w'
def Ok(P:Program)(f:FuncId)(args:List Value)(w:World)(R:Value→World→Prop):Prop:=
 HR P f∧Calls P f args.toArray w (Rq R)
theorem Ok.mono{P:Program}{f:FuncId}{args:List Value}{w:World}{R R':Value→World→Prop}(h:Ok P f args w R)(hr:∀ v w',R v w'→R' v w'):Ok P f args w R':=
 ⟨h.1,h.2.mono fun _ w' ⟨v,he,hv⟩=>⟨v,he,hr v w' hv⟩⟩
def Mr:Nat→List Value→Env
 | _,[]=>[]
 | k,v::l=>(k,v)::Mr (k+1) l
theorem Pz:∀ (l:List Value) (k t:Nat) (v:Value),gt (Mr k l) t=some v→k≤t∧l[t - k]? = some v
 | [],_,_,_,h=>by cases h
 | u::l,k,t,v,h=>by
  simp only [Mr,Mp] at h
  by_cases e:k=t
  ·subst e;rw [if_pos rfl] at h;cases h;simp
  ·rw [if_neg e] at h;have⟨a,h2⟩:=Pz l (k+1) t v h;refine⟨by omega,?_⟩;have:t - k=(t - (k+1))+1:=by omega
   rw [this,List.getElem?_cons_succ];exact h2
def MI(P:Program)(fn:Func)(R:Value→World→Prop):Exit→Act→World→Prop:=bodyPost P fn (Rq R)
theorem A4{P:Program}{f:FuncId}{fn:Func}{c:Code}{args:List Value}{w:World}{R:Value→World→Prop}{n:Nat}(L:Env)
  (hf : P.funcs[f]? = some fn) (hname : (fn.name == "runtime.NumGoroutine") = false) (hb : fn.body = some c) (hn : fn.ntmps = n) (hk : Nat.ble args.length n = true) (hL : Mr 0 args = L)
  (h:W P ⟨n,[]⟩ c (MI P fn R) L w):Ok P f args w R:=by
 refine⟨⟨fn,c,hf,hname,hb⟩,calls_of_wp hf hb ?_⟩;have hk':args.length≤n:=by simpa [Nat.ble_eq] using hk
 refine h _ ⟨?_,rfl,?_⟩
 ·simp [hn];omega
 ·intro t v ht;subst hL;have⟨_,h2⟩:=Pz args 0 t v ht;simp only [Nat.sub_zero] at h2;have hlt:t<args.length:=(List.getElem?_eq_some_iff.1 h2).1;simp only [List.size_toArray];rw [Array.getElem?_append_left (by simpa using hlt)]
  simpa using h2
def ON:List ResultVar→Env→Option Value
 | [.tmp t],L=>gt L t
 | [.tmp t,.tmp u],L=>match gt L t,gt L u with | some a,some b=>some (.tuple #[a,b]) | _,_=>none
 | [.tmp t,.tmp u,.tmp s],L=>match gt L t,gt L u,gt L s with | some a,some b,some c=>some (.tuple #[a,b,c]) | _,_,_=>none
 | _,_=>none
theorem QV{P:Program}{fn:Func}{n:Sz}{a:Act}{L:Env}{w:World}{l:List ResultVar}{v:Value}(fr:Fr n a L)(hl:fn.results=l.toArray)(h:ON l L=some v):
  (results fn a.tmps).run P w=.ok v w:=by
 unfold ON at h
 split at h
 ·rename_i t;rw [results_tmp hl];have:=fr.get t v h;simp [Array.getD_eq_getD_getElem?,this]
 ·rename_i t u
  split at h
  ·rename_i x y b h2;cases h;rw [results_tmp2 hl];have c:=fr.get t x b;have d:=fr.get u y h2;simp [Array.getD_eq_getD_getElem?,c,d]
  ·cases h
 ·rename_i t u s
  split at h
  ·rename_i x y z b h2 h3;cases h;rw [results_tmp3 hl];have c:=fr.get t x b;have d:=fr.get u y h2;have e:=fr.get s z h3;simp [Array.getD_eq_getD_getElem?,c,d,e]
  ·cases h
 ·cases h
theorem Am{P:Program}{fn:Func}{R:Value→World→Prop}{n:Nat}{L:Env}{w:World}{l:List ResultVar}{v:Value}(hl:fn.results=l.toArray)(h:ON l L=some v)(hR:R v w):At ⟨n,[]⟩ (MI P fn R) .ret L w:=
 fun _ fr=>⟨fr.defers,v,QV fr hl h,v,rfl,hR⟩
section
variable {P:Program} {n:Sz} {ops:Array Oper} {Q:Exit→Act→World→Prop} {L:Env} {w:World} {rest:List Oper}
 {d:Nat} {ty:TypeId} {pos:String} {af:Array Edge}
def Vg(L:Env)(ρ:Operand→Value):Prop:=∀ x u,ev L x=some u→ρ x=u
theorem Fr.Qt{a:Act}(fr:Fr n a L):Vg L a.eval:=fun _ _ h=>fr.eval h
theorem Vg.map{ρ:Operand→Value}(h:Vg L ρ):∀ (l:List Operand) (vs:List Value),OL L l=some vs→l.map ρ=vs
 | [],vs,e=>by simp only [OL,Option.some.injEq] at e;simpa using e
 | x::l,vs,e=>by
  unfold OL at e
  split at e
  ·rename_i v us a h2;cases e;simp [h x v a,Vg.map h l us h2]
  ·cases e
theorem AL(h:At n Q .normal L w):S P n ops Q [] L w:=fun a fr=>h a fr
theorem Ac{y:Code}(h:W P n y Q L w):S P n ops (OM P y Q) [] L w:=fun a fr=>h a fr
theorem P0{o:Oper}(hg:o.guard=none)(h:∀ a,Fr n a L→o.wp P a w (wpList P ops Q rest) Q):S P n ops Q (o::rest) L w:=
 fun a fr=>by
  unfold wpList;rw [if_pos (by simp [Region.wanted,hg])];exact .inl (h a fr)
theorem Ds{o:Oper}{v:Value}{w':World}(hg:o.guard=none)(hd:o.dst=some d)(hn:Nat.blt d n.n=true)
  (hrun:∀ ρ,Vg L ρ→(execOp ρ o).run P w=.ok (.value v) w') (h:S P n ops Q rest ((d,v)::L) w'):S P n ops Q (o::rest) L w:=
 P0 hg fun a fr=>by
  unfold Oper.wp;rw [hrun _ fr.Qt]
  show wpList P ops Q rest (a.put o.dst v) w'
  rw [hd];exact h _ (fr.put hn)
theorem LU{o:Oper}{w':World}(hg:o.guard=none)(hd:o.dst=none)
  (hrun:∀ ρ,Vg L ρ→(execOp ρ o).run P w=.ok .skip w') (h:S P n ops Q rest L w'):S P n ops Q (o::rest) L w:=
 P0 hg fun a fr=>by
  unfold Oper.wp;rw [hrun _ fr.Qt]
  show wpList P ops Q rest (a.put o.dst undef) w'
  rw [hd];exact h _ fr
theorem Aa{dst:Option Tmp}{op:Op}{j:Nat}{want b:Bool}{t:Nat}(hj:((ops[j]?).bind (·.dst))=some t)(hb:gt L t=some (.bool b))(hw:b=want)
  (h:S P n ops Q (⟨dst,op,ty,pos,af,none⟩::rest) L w):S P n ops Q (⟨dst,op,ty,pos,af,some (j,want)⟩::rest) L w:=fun a fr=>by
 have c:=h a fr;simp only [wpList] at c ⊢;have hy:yielded ops a.tmps j=some b:=by simp [yielded,hj,fr.get t _ hb]
 have hwant:Region.wanted ⟨dst,op,ty,pos,af,some (j,want)⟩ (yielded ops a.tmps)=true:=by simp [Region.wanted,hy,hw]
 rw [if_pos hwant];have d:Region.wanted ⟨dst,op,ty,pos,af,none⟩ (yielded ops a.tmps)=true:=by simp [Region.wanted]
 rw [if_pos d] at c;exact c
theorem Ai{op:Op}{j:Nat}{want b:Bool}{t:Nat}(hj:((ops[j]?).bind (·.dst))=some t)(hb:gt L t=some (.bool b))(hw:b = !want)(hn:Nat.blt d n.n=true)
  (h:S P n ops Q rest ((d,undef)::L) w):S P n ops Q (⟨some d,op,ty,pos,af,some (j,want)⟩::rest) L w:=fun a fr=>by
 simp only [wpList];have hy:yielded ops a.tmps j=some b:=by simp [yielded,hj,fr.get t _ hb]
 have hwant:Region.wanted ⟨some d,op,ty,pos,af,some (j,want)⟩ (yielded ops a.tmps)=false:=by simp [Region.wanted,hy,hw]
 rw [hwant];exact h _ (fr.put hn)
theorem Ce{op:Op}{j:Nat}{want:Bool}{t:Nat}(hj:((ops[j]?).bind (·.dst))=some t)(hb:gt L t=some undef)(hn:Nat.blt d n.n=true)
  (h:S P n ops Q rest ((d,undef)::L) w):S P n ops Q (⟨some d,op,ty,pos,af,some (j,want)⟩::rest) L w:=fun a fr=>by
 simp only [wpList];have hy:yielded ops a.tmps j=none:=by simp [yielded,hj,fr.get t _ hb,undef]
 have hwant:Region.wanted ⟨some d,op,ty,pos,af,some (j,want)⟩ (yielded ops a.tmps)=false:=by simp [Region.wanted,hy]
 rw [hwant];exact h _ (fr.put hn)
end
end Go.E
namespace Go.E
open Go
def nth:List Value→Nat→Option Value
 | [],_=>none
 | v::_,0=>some v
 | _::l,i+1=>nth l i
theorem X8:∀ (l:List Value) (i:Nat),nth l i=l[i]?
 | [],_=>rfl
 | _::_,0=>rfl
 | _::l,i+1=>by simpa [nth] using X8 l i
def Abg:BinOp→Int→Int→Option Bool
 | .eql,a,b=>some (decide (a=b))
 | .neq,a,b=>some (!decide (a=b))
 | .lss,a,b=>some (decide (a<b))
 | .leq,a,b=>some (decide (a≤b))
 | .gtr,a,b=>some (decide (b<a))
 | .geq,a,b=>some (decide (b≤a))
 | _,_,_=>none
def Lw:IntKind→IntKind→Bool
 | .i8,.i8 | .i16,.i16 | .i32,.i32 | .i64,.i64 | .u8,.u8 | .u16,.u16 | .u32,.u32 | .u64,.u64=>true
 | _,_=>false
theorem X9:∀ {a b:IntKind},Lw a b=true→a=b
 | .i8,.i8,_=>rfl | .i16,.i16,_=>rfl | .i32,.i32,_=>rfl | .i64,.i64,_=>rfl
 | .u8,.u8,_=>rfl | .u16,.u16,_=>rfl | .u32,.u32,_=>rfl | .u64,.u64,_=>rfl
def pu(L:Env):Op→Option Value
 | .move x=>ev L x
 | .assign x=>ev L x
 | .extract x i=>match ev L x with
  | some (.tuple vs)=>nth vs.toList i
  | _=>none
 | .binOp op _ x y _=>match ev L x,ev L y with
  | some (.int k a),some (.int k' b)=>bif Lw k k' then(match Abg op a b with | some r=>some (.bool r) | none=>none) else none
  | _,_=>none
 | .unOp .not _ x=>match ev L x with
  | some (.bool b)=>some (.bool (!b))
  | _=>none
 | .makeFunc fn first captured=>match OL L first.toList,OL L captured.toList with
  | some a,some b=>some (.func fn a.toArray b.toArray)
  | _,_=>none
 | .pick c a b=>match ev L c with
  | some (.bool true)=>ev L a
  | some (.bool false)=>ev L b
  | _=>none
 | _=>none
section
variable {P:Program} {n:Sz} {ops:Array Oper} {Q:Exit→Act→World→Prop} {L:Env} {w:World} {rest:List Oper}
 {d:Nat} {ty:TypeId} {pos:String} {af:Array Edge}
theorem Vh{op:BinOp}{t:TypeId}{x y:Operand}{k:IntKind}{a b:Int}{r:Bool}(h:Abg op a b=some r):
  (do eqGuard op t x y (.int k a) (.int k b);binOp op t (.int k a) (.int k b)).run P w=.ok (.bool r) w:=by
 cases op <;> simp only [Abg,Option.some.injEq,reduceCtorEq] at h <;> subst h <;>
  simp [eqGuard,binOp,Op.intCmp,GT.gt,GE.ge,bne,BEq.beq]
theorem XA{op:Op}{v:Value}{dst:Option Tmp}(h:pu L op=some v)(ρ:Operand→Value)(hρ:Vg L ρ):
  (execOp ρ ⟨dst,op,ty,pos,af,none⟩).run P w=.ok (.value v) w:=by
 unfold pu at h
 split at h
 ·rename_i x;simp [execOp,hρ x v h]
 ·rename_i x;simp [execOp,hρ x v h]
 ·rename_i x i
  split at h
  ·rename_i vs hx;rw [X8] at h;have h':vs[i]? = some v:=by simpa using h
   simp [execOp,hρ x _ hx,Instr.extract,h']
  ·cases h
 ·rename_i op t x y t'
  split at h
  ·rename_i k a k' b hx hy
   cases hk:Lw k k' with
   | false=>rw [hk] at h;cases h
   | true=>
    rw [hk] at h;obtain rfl:=X9 hk;simp only [cond_true] at h
    split at h
    ·rename_i r hr
     cases h
     have:=Vh (P:=P) (w:=w) (t:=t) (x:=x) (y:=y) (k:=k) hr;simp only [execOp,hρ x _ hx,hρ y _ hy];simp only [Sem.run_bind] at this ⊢;rw [this]
     rfl
    ·cases h
  ·cases h
 ·rename_i t x
  split at h
  ·rename_i b hx;cases h;simp [execOp,hρ x _ hx,Op.unary]
  ·cases h
 ·rename_i fn first captured
  split at h
  ·rename_i a b d h2
   cases h
   have e:=hρ.map _ _ d;have f:=hρ.map _ _ h2;have f1:first.map ρ=a.toArray:=by apply Array.ext';simpa using e
   have f2:captured.map ρ=b.toArray:=by apply Array.ext';simpa using f
   simp [execOp,Instr.makeFunc,f1,f2]
  ·cases h
 ·rename_i c a b
  split at h
  ·rename_i hc;simp [execOp,hρ c _ hc,hρ a _ h,asBool]
  ·rename_i hc;simp [execOp,hρ c _ hc,hρ b _ h,asBool]
  ·cases h
 ·cases h
def O4(n:Sz)(o:Oper)(L:Env):Option Env:=
 match o with
 | ⟨some d,op,_,_,_,none⟩=>match pu L op with
  | some v=>bif Nat.blt d n.n then some ((d,v)::L) else none
  | none=>none
 | _=>none
def puK(n:Sz):Nat→List Oper→Env→Option (List Oper×Env)
 | 0,l,L=>some (l,L)
 | k+1,o::l,L=>match O4 n o L with
  | some L'=>puK n k l L'
  | none=>none
 | _+1,[],_=>none
theorem Ui{o:Oper}{L':Env}(h:O4 n o L=some L')(hS:S P n ops Q rest L' w):S P n ops Q (o::rest) L w:=by
 unfold O4 at h
 split at h
 ·rename_i d op t ps aft
  split at h
  ·rename_i v hv
   cases hd:Nat.blt d n.n with
   | false=>rw [hd] at h;cases h
   | true=>rw [hd] at h;cases h;exact Ds rfl rfl hd (XA hv) hS
  ·cases h
 ·cases h
theorem Aq:∀ (k:Nat) {l l':List Oper} {L L':Env} (_:puK n k l L=some (l',L')) (_:S P n ops Q l' L' w),S P n ops Q l L w
 | 0,l,l',L,L',h,hS=>by simp only [puK,Option.some.injEq,Prod.mk.injEq] at h;obtain⟨rfl,rfl⟩:=h;exact hS
 | k+1,[],l',L,L',h,hS=>by simp only [puK,reduceCtorEq] at h
 | k+1,o::l,l',L,L',h,hS=>by
  simp only [puK] at h
  split at h
  ·rename_i L1 a;exact Ui a (Aq k h hS)
  ·cases h
theorem AA(k:Nat){l:List Oper}{L L':Env}{y:Code}(h:puK n k l L=some ([],L'))(hW:W P n y Q L' w):S P n ops (OM P y Q) l L w:=Aq k h (Ac hW)
theorem Bk{id:Nat}{l l':List Oper}{L L':Env}{y:Code}(k:Nat)(h:puK n k l L=some (l',L'))(hS:S P n l.toArray (OM P y Q) l' L' w):W P n (.seq (.region id l.toArray false) y) Q L w:=Ak (Aq k h hS)
theorem A9{id:Nat}{l:List Oper}{L L':Env}{y:Code}(k:Nat)(h:puK n k l L=some ([],L'))(hW:W P n y Q L' w):W P n (.seq (.region id l.toArray false) y) Q L w:=Ak (AA k h hW)
theorem wrap64{x:Int}(a : -9223372036854775808≤x)(h2:x≤9223372036854775807):IntKind.i64.wrap x=x:=by
 simp only [IntKind.wrap,IntKind.bits,IntKind.signed,Bool.true_and,decide_eq_true_eq,ge_iff_le]
 split <;> omega
theorem Vi{x:Int}(a:0≤x)(h2:x<256):IntKind.u8.wrap x=x:=by
 simp only [IntKind.wrap,IntKind.bits,IntKind.signed,Bool.false_and,Bool.false_eq_true,if_false];omega
theorem QG{x:Int}:IntKind.u8.wrap x=x % 256:=by
 simp only [IntKind.wrap,IntKind.bits,IntKind.signed,Bool.false_and,Bool.false_eq_true,if_false];omega
def arI:BinOp→Int→Int→Option Int
 | .add,a,b=>some (a+b)
 | .sub,a,b=>some (a - b)
 | .mul,a,b=>some (a * b)
 | _,_,_=>none
theorem XB{a b:Int}(ha:0≤a):a.tdiv b=a / b:=Int.tdiv_eq_ediv_of_nonneg ha
theorem XC{a b:Int}(ha:0≤a):a.tmod b=a % b:=Int.tmod_eq_emod_of_nonneg ha
theorem Z1{a b:Int}(ha:0≤a)(hb:0<b):0≤a / b∧a / b≤a:=by
 refine⟨Int.ediv_nonneg ha (by omega),?_⟩;exact Int.ediv_le_self b ha
theorem Jr{f:FuncId}{args:List Operand}{vs:List Value}{at_:Array TypeId}{dst:Option Tmp}(hc:HR P f)(ha:OL L args=some vs)(ρ:Operand→Value)(hρ:Vg L ρ):
  (execOp ρ ⟨dst,.call ⟨.value (.func f),args.toArray,at_⟩,ty,pos,af,none⟩).run P w=.ok (.enter f vs.toArray) w:=by
 obtain ⟨fn, c, a, h2, h3⟩ := hc;have b : ρ (.func f) = .func (.func f) #[] #[] := hρ _ _ rfl;have d := hρ.map _ _ ha;have h2' : ¬ fn.name = "runtime.NumGoroutine" := by simpa using h2
 simp [execOp,resolve,b,Deferred.ofValue,d,invoke,callFunc,a,h2',h3]
theorem DA{f:FuncId}{args:List Operand}{vs:List Value}{at_:Array TypeId}{R:Value→World→Prop}(ha:OL L args=some vs)(hn:Nat.blt d n.n=true)(hok:Ok P f vs w R)
  (h:∀ v w',R v w'→S P n ops Q rest ((d,v)::L) w'):S P n ops Q (⟨some d,.call ⟨.value (.func f),args.toArray,at_⟩,ty,pos,af,none⟩::rest) L w:=
 P0 rfl fun a fr=>by
  unfold Oper.wp;rw [Jr hok.1 ha _ fr.Qt];refine hok.2.mono fun e w' ⟨v,he,hv⟩=>?_;subst he;exact h v w' hv _ (fr.put hn)
def VK(n:Sz)(j:Nat)(want:Bool)(L0:Env):Nat→List Oper→Env→Option (List Oper×Env)
 | 0,l,L=>some (l,L)
 | k+1,⟨some d,op,ty,pos,af,some (j',want')⟩::l,L=>
  bif Nat.beq j j'&&(want==want')&&(gt L0 d).isNone then
   match O4 n ⟨some d,op,ty,pos,af,none⟩ L with
   | some L'=>VK n j want L0 k l L'
   | none=>none
  else none
 | _+1,_,_=>none
theorem Qi{j:Nat}{want:Bool}{t:Nat}{L0:Env}(hj:((ops[j]?).bind (·.dst))=some t):∀ (k:Nat) {l l':List Oper} {L L':Env},gt L t=some (.bool want)→gt L0 t=some (.bool want)→VK n j want L0 k l L=some (l',L')→
  S P n ops Q l' L' w→S P n ops Q l L w:=by
 intro k
 induction k with
 | zero=>intro l l' L L' _ _ h hS;simp only [VK,Option.some.injEq,Prod.mk.injEq] at h;obtain⟨rfl,rfl⟩:=h;exact hS
 | succ k ih=>
  intro l l' L L' hb b h hS
  match l,h with
  | [],h=>cases h
  | ⟨none,_,_,_,_,_⟩::l,h=>cases h
  | ⟨some d,op,ty,pos,af,none⟩::l,h=>cases h
  | ⟨some d,op,ty,pos,af,some (j',want')⟩::l,h=>
   simp only [VK] at h
   cases hc:(Nat.beq j j'&&(want==want')&&(gt L0 d).isNone) with
   | false=>rw [hc] at h;cases h
   | true=>
    rw [hc] at h;simp only [Bool.and_eq_true,Option.isNone_iff_eq_none] at hc;obtain⟨⟨c1,c2⟩,c3⟩:=hc;obtain rfl:=Nat.eq_of_beq_eq_true c1;obtain rfl:want=want':=by simpa using c2
    simp only [cond_true] at h
    split at h
    ·rename_i L1 a;refine Aa hj hb rfl (Ui a (ih ?_ b h hS));simp only [O4] at a
     split at a
     ·rename_i v hv
      cases hd:Nat.blt d n.n with
      | false=>rw [hd] at a;cases a
      | true=>
       rw [hd] at a;cases a;rw [Mp]
       by_cases e:d=t
       ·subst e;rw [b] at c3;cases c3
       ·rw [if_neg e];exact hb
     ·cases a
    ·cases h
theorem QW{j:Nat}{want:Bool}{t:Nat}{L0:Env}(hj:((ops[j]?).bind (·.dst))=some t):∀ (k:Nat) {l l':List Oper} {L L' M:Env},Sub L0 M→gt L0 t=some (.bool (!want))→VK n j want L0 k l L=some (l',L')→
  (∀ M',Sub L0 M'→S P n ops Q l' M' w)→S P n ops Q l M w:=by
 intro k
 induction k with
 | zero=>intro l l' L L' M hM _ h hS;simp only [VK,Option.some.injEq,Prod.mk.injEq] at h;obtain⟨rfl,rfl⟩:=h;exact hS M hM
 | succ k ih=>
  intro l l' L L' M hM b h hS
  match l,h with
  | [],h=>cases h
  | ⟨none,_,_,_,_,_⟩::l,h=>cases h
  | ⟨some d,op,ty,pos,af,none⟩::l,h=>cases h
  | ⟨some d,op,ty,pos,af,some (j',want')⟩::l,h=>
   simp only [VK] at h
   cases hc:(Nat.beq j j'&&(want==want')&&(gt L0 d).isNone) with
   | false=>rw [hc] at h;cases h
   | true=>
    rw [hc] at h;simp only [Bool.and_eq_true,Option.isNone_iff_eq_none] at hc;obtain⟨⟨c1,c2⟩,c3⟩:=hc;obtain rfl:=Nat.eq_of_beq_eq_true c1;obtain rfl:want=want':=by simpa using c2
    simp only [cond_true] at h
    split at h
    ·rename_i L1 a
     have hd:Nat.blt d n.n=true:=by
      simp only [O4] at a
      split at a
      ·cases hd:Nat.blt d n.n with
       | false=>rw [hd] at a;cases a
       | true=>rfl
      ·cases a
     refine Ai hj (hM t _ b) rfl hd (ih (fun t' v hv=>?_) b h hS);rw [Mp]
     by_cases e:d=t'
     ·subst e;rw [hv] at c3;cases c3
     ·rw [if_neg e];exact hM t' v hv
    ·cases h
theorem Sub.both{t:Nat}{v:Value}{L L':Env}(h:Sub L L'):Sub ((t,v)::L) ((t,v)::L'):=fun t' u hu=>by
 rw [Mp] at hu ⊢
 by_cases e:t=t'
 ·rw [if_pos e] at hu ⊢;exact hu
 ·rw [if_neg e] at hu ⊢;exact h t' u hu
theorem VL{j:Nat}{want:Bool}{L0:Env}:∀ (k:Nat) {l l':List Oper} {L L':Env},Sub L0 L→VK n j want L0 k l L=some (l',L')→Sub L0 L':=by
 intro k
 induction k with
 | zero=>intro l l' L L' hM h;simp only [VK,Option.some.injEq,Prod.mk.injEq] at h;obtain⟨rfl,rfl⟩:=h;exact hM
 | succ k ih=>
  intro l l' L L' hM h
  match l,h with
  | [],h=>cases h
  | ⟨none,_,_,_,_,_⟩::l,h=>cases h
  | ⟨some d,op,ty,pos,af,none⟩::l,h=>cases h
  | ⟨some d,op,ty,pos,af,some (j',want')⟩::l,h=>
   simp only [VK] at h
   cases hc:(Nat.beq j j'&&(want==want')&&(gt L0 d).isNone) with
   | false=>rw [hc] at h;cases h
   | true=>
    rw [hc] at h;simp only [Bool.and_eq_true,Option.isNone_iff_eq_none] at hc;obtain⟨⟨c1,c2⟩,c3⟩:=hc;simp only [cond_true] at h
    split at h
    ·rename_i L1 a;refine ih ?_ h;simp only [O4] at a
     split at a
     ·rename_i v hv
      cases hd:Nat.blt d n.n with
      | false=>rw [hd] at a;cases a
      | true=>
       rw [hd] at a;cases a;intro t' u hu;rw [Mp]
       by_cases e:d=t'
       ·subst e;rw [hu] at c3;cases c3
       ·rw [if_neg e];exact hM t' u hu
     ·cases a
    ·cases h
theorem Sub.ev{L M:Env}(hM:Sub L M){x:Operand}{v:Value}(hx:ev L x=some v):ev M x=some v:=by
 cases x with
 | tmp t=>exact hM t v hx
 | const _=>exact hx
 | func _=>exact hx
 | _=>exact hx
theorem Th(k j:Nat){t:Nat}{b r s:Bool}{c x y:Operand}{l l':List Oper}{L1:Env}(hj:((ops[j]?).bind (·.dst))=some t)(hb:gt L t=some (.bool b))
  (hg:VK n j true L k l L=some (⟨some d,.pick c x y,ty,pos,af,none⟩::l',L1)) (hc:ev L c=some (.bool b)) (hx:ev L1 x=some (.bool r)) (hy:ev L y=some (.bool s)) (hn:Nat.blt d n.n=true)
  (h:S P n ops Q l' ((d,.bool (bif b then r else s))::L) w):S P n ops Q l L w:=by
 have hsub:Sub L L1:=VL k (Sub.refl L) hg
 cases b with
 | true=>
  refine Qi (L0:=L) hj k hb hb hg<|Ds rfl rfl hn (v:=.bool r) (w':=w) (fun ρ hρ=>by simp [execOp,hρ c _ (Sub.ev hsub hc),hρ x _ hx,asBool])<|S.sub h hsub.both
 | false=>
  refine QW (L0:=L) (want:=true) hj k (Sub.refl L) hb hg fun M hM=>?_;refine Ds rfl rfl hn (v:=.bool s) (w':=w) (fun ρ hρ=>by simp [execOp,hρ c _ (Sub.ev hM hc),hρ y _ (Sub.ev hM hy),asBool])<|S.sub h hM.both
theorem Z2(k j:Nat){t:Nat}{b r s:Bool}{c x y:Operand}{l l':List Oper}{L1:Env}(hj:((ops[j]?).bind (·.dst))=some t)(hb:gt L t=some (.bool b))
  (hg:VK n j false L k l L=some (⟨some d,.pick c x y,ty,pos,af,none⟩::l',L1)) (hc:ev L c=some (.bool b)) (hx:ev L x=some (.bool r)) (hy:ev L1 y=some (.bool s)) (hn:Nat.blt d n.n=true)
  (h:S P n ops Q l' ((d,.bool (bif b then r else s))::L) w):S P n ops Q l L w:=by
 have hsub:Sub L L1:=VL k (Sub.refl L) hg
 cases b with
 | false=>
  refine Qi (L0:=L) hj k hb hb hg<|Ds rfl rfl hn (v:=.bool s) (w':=w) (fun ρ hρ=>by simp [execOp,hρ c _ (Sub.ev hsub hc),hρ y _ hy,asBool])<|S.sub h hsub.both
 | true=>
  refine QW (L0:=L) (want:=false) hj k (Sub.refl L) hb hg fun M hM=>?_;refine Ds rfl rfl hn (v:=.bool r) (w':=w) (fun ρ hρ=>by simp [execOp,hρ c _ (Sub.ev hM hc),hρ x _ (Sub.ev hM hx),asBool])<|S.sub h hM.both
theorem Z3{p q:Prop}[Decidable p][Decidable q]:(bif decide p then decide q else false)=decide (p∧q):=by by_cases hp:p <;> simp [hp]
theorem Abh{p q:Prop}[Decidable p][Decidable q]:(bif decide p then true else decide q)=decide (p∨q):=by by_cases hp:p <;> simp [hp]
theorem Nh(k j:Nat){t:Nat}{p q:Prop}[Decidable p][Decidable q]{c x:Operand}{l l':List Oper}{L1:Env}(hj:((ops[j]?).bind (·.dst))=some t)(hb:gt L t=some (.bool (decide p)))
  (hg:VK n j true L k l L=some (⟨some d,.pick c x (.const (.bool false)),ty,pos,af,none⟩::l',L1)) (hc:ev L c=some (.bool (decide p))) (hx:ev L1 x=some (.bool (decide q))) (hn:Nat.blt d n.n=true)
  (h:S P n ops Q l' ((d,.bool (decide (p∧q)))::L) w):S P n ops Q l L w:=
 Th k j hj hb hg hc hx rfl hn (by rw [Z3];exact h)
theorem Si(k j:Nat){t:Nat}{p q:Prop}[Decidable p][Decidable q]{c y:Operand}{l l':List Oper}{L1:Env}(hj:((ops[j]?).bind (·.dst))=some t)(hb:gt L t=some (.bool (decide p)))
  (hg:VK n j false L k l L=some (⟨some d,.pick c (.const (.bool true)) y,ty,pos,af,none⟩::l',L1)) (hc:ev L c=some (.bool (decide p))) (hy:ev L1 y=some (.bool (decide q))) (hn:Nat.blt d n.n=true)
  (h:S P n ops Q l' ((d,.bool (decide (p∨q)))::L) w):S P n ops Q l L w:=
 Z2 k j hj hb hg hc rfl hy hn (by rw [Abh];exact h)
end
theorem drawn_setCell(w:World)(a:Addr)(v:Value):(w.setCell a v).drawn=w.drawn:=by
 unfold World.setCell
 split <;> rfl
theorem Ti(w:World)(a:Addr)(n:Nat):(w.freeze a n).drawn=w.drawn:=by
 unfold World.freeze
 split <;> rfl
theorem Qu{p:Program}{w a:World}{at_:Addr}{u:TypeId}{k:Addr}{v:Value}{atomic:Bool}{l:List Addr}(h:w.viewStore p at_ u k v atomic=.ok (a,l)):a.drawn=w.drawn:=by
 unfold World.viewStore at h;simp only [bind,Except.bind,pure,Except.pure,throwThe,MonadExceptOf.throw,MonadExcept.throw] at h
 repeat' split at h
 all_goals first
  | (cases h;done)
  | (cases h;rfl)
theorem QX{p:Program}{w b:World}{a:Addr}{v:Value}{atomic:Bool}{l:List Addr}(h:w.farStore p a v atomic=.ok (b,l)):b.drawn=w.drawn:=by
 unfold World.farStore at h
 split at h
 ·split at h
  ·rename_i r hr;cases h;exact Qu hr
  ·cases h
 ·cases h
theorem P3{α:Type}:∀ (q:Ask α) (w:World),w.drawn≤(w.ask q).2.drawn
 | .done a,w=>Nat.le_refl _
 | .ask what range k,w=>by
  unfold World.ask;simp only
  split
  ·exact P3 (k 0) w
  ·exact Nat.le_trans (Nat.le_succ _) (P3 _ {w with drawn:=w.drawn+1})
theorem WH(w:World)(c:Sys):w.drawn≤(w.sys c).2.drawn:=by
 unfold World.sys;have:=P3 (Kernel.perform c w.os) w
 split
 ·exact Nat.le_refl _
 ·rename_i r os a _ e;rw [e] at this;exact this
theorem NO{α:Type}{p:Program}:∀ (s:Sem α) (w:World) (a:α) (w':World),s.run p w=.ok a w'→w.drawn≤w'.drawn:=by
 intro s
 induction s with
 | pure a=>intro w x w' h;cases h;exact Nat.le_refl _
 | load m a k ih=>
  intro w x w' h;unfold Sem.run at h
  split at h
  ·exact ih _ _ _ _ h
  ·split at h
   ·exact ih _ _ _ _ h
   ·cases h
 | store m a v k ih=>
  intro w x w' h
  cases v <;> simp only [Sem.run] at h
  all_goals first
   | (cases h;done)
   | (
    split at h
    ·split at h
     ·cases h
     ·have:=ih _ _ _ h;rwa [drawn_setCell] at this
    ·split at h
     ·rename_i hf;have b:=ih _ _ _ h;rw [QX hf] at b;exact b
     ·cases h)
 | new o k ih=>intro w x w' h;exact ih _ {w with heap:=w.heap.push o} _ _ h
 | shape r k ih=>intro w x w' h;exact ih _ _ _ _ h
 | freeze a n k ih=>intro w x w' h;have:=ih _ _ _ h;rwa [Ti] at this
 | frozen a k ih=>intro w x w' h;exact ih _ _ _ _ h
 | getObj r k ih=>
  intro w x w' h;unfold Sem.run at h
  split at h
  ·cases h
  ·exact ih _ _ _ _ h
  ·cases h
 | setObj r o k ih=>
  intro w x w' h;unfold Sem.run at h
  split at h
  ·cases h
  ·exact ih {w with heap:=w.heap.setIfInBounds r o} _ _ h
  ·cases h
 | choose q k ih=>
  intro w x w' h;unfold Sem.run at h
  split at h
  ·exact ih _ _ _ _ h
  ·have:=ih _ _ _ _ h;simp only at this;omega
 | sys c k ih=>
  intro w x w' h;refine Nat.le_trans ?_ (ih _ _ _ _ h);exact WH w c
 | program k ih=>intro w x w' h;exact ih _ _ _ _ h
 | mark m k ih=>intro w x w' h;exact ih _ _ _ h
 | halt h=>intro w x w' h;cases h
end Go.E
namespace Go.E
open Go Go.RowKit
class Dr where
 on:Bool
structure Ext [Dr] (w w':World):Prop extends Below w.heap.size w w' where
 drawn:Dr.on=true→w.drawn≤w'.drawn
theorem Ext.refl[Dr](w:World):Ext w w:=⟨Below.refl _ _,fun _=>Nat.le_refl _⟩
theorem Ext.trans[Dr]{a b c:World}(h:Ext a b)(k:Ext b c):Ext a c:=⟨Below.trans h.toBelow (Below.mono k.toBelow h.size),fun o=>Nat.le_trans (h.drawn o) (k.drawn o)⟩
abbrev PH:=Nat→Option Obj
def Le(A B:PH):Prop:=∀ b o,A b=some o→B b=some o
theorem Le.refl(A:PH):Le A A:=fun _ _ h=>h
theorem Le.trans{A B C:PH}(h:Le A B)(k:Le B C):Le A C:=fun b o e=>k b o (h b o e)
def hp(w:World):PH:=fun b=>w.heap[b]?
def nw(w w':World):PH:=fun b=>if w.heap.size≤b then w'.heap[b]? else none
theorem lt_of_heap{w:World}{b:Nat}{o:Obj}(h:w.heap[b]? = some o):b<w.heap.size:=(Array.getElem?_eq_some_iff.1 h).1
theorem Ext.le[Dr]{w w':World}(h:Ext w w'):Le (hp w) (hp w'):=fun b o e=>by
 have:b<w.heap.size:=lt_of_heap e
 show w'.heap[b]? = some o
 rw [h.block b this];exact e
theorem Le.ext[Dr]{A:PH}{w w':World}(h:Le A (hp w))(hx:Ext w w'):Le A (hp w'):=h.trans hx.le
def Gu(H:PH)(a:Addr):Option Value:=
 match H a.block with
 | some (.cells c _ _)=>if a.spot.isSome then none else c[a.off]?
 | _=>none
theorem Uj(w:World)(a:Addr):Gu (hp w) a=w.cell? a:=rfl
theorem GV{A B:PH}(h:Le A B){a:Addr}{v:Value}(e:Gu A a=some v):Gu B a=some v:=by
 unfold Gu at e ⊢
 split at e
 ·rename_i c t f hc;rw [h _ _ hc];exact e
 ·cases e
theorem cell_of{H:PH}{w:World}(h:Le H (hp w)){a:Addr}{v:Value}(e:Gu H a=some v):w.cell? a=some v:=GV h e
structure Rp (α:Type) where
 sz:Nat
 rel:PH→α→List Value→Prop
 len:∀ {H x c},rel H x c→c.length=sz
 mono:∀ {H H' x c},Le H H'→rel H x c→rel H' x c
 one:∀ {H x c},rel H x c→∀ u∈c,u.oneCell'=true
def GS(H:PH)(p:Addr)(c:List Value):Prop:=p.spot=none∧∀ j u,c[j]? = some u→Gu H (p.add j)=some u
structure AI {α:Type} (r:Rp α) (H:PH) (v:Value) (l:List α):Prop where
 ex:∃ a cap,v=.slice a l.length cap∧l.length≤cap∧cap≤maxLen∧(a=none→cap=0)∧
  ∀ A,a=some A→l≠[]→A.spot=none∧∀ i x,l[i]? = some x→∃ c,r.rel H x c∧∀ j u,c[j]? = some u→Gu H (A.add (i * r.sz+j))=some u
theorem AI.mono{α:Type}{r:Rp α}{H H':PH}{v:Value}{l:List α}(h:AI r H v l)(hs:Le H H'):AI r H' v l:=by
 obtain⟨a,cap,b,h2,h3,d,e⟩:=h.ex;refine⟨a,cap,b,h2,h3,d,fun A hA hl=>?_⟩;obtain⟨f,g⟩:=e A hA hl;refine⟨f,fun i x hx=>?_⟩;obtain⟨c,hc,hcell⟩:=g i x hx;exact⟨c,r.mono hs hc,fun j u hu=>GV hs (hcell j u hu)⟩
theorem AI.nil{α:Type}(r:Rp α)(H:PH):AI r H (.slice none 0 0) ([]:List α):=
 ⟨none,0,rfl,Nat.le_refl _,Nat.zero_le _,fun _=>rfl,fun _ h=>by cases h⟩
theorem AI.header{α:Type}{r:Rp α}{H:PH}{v:Value}{l:List α}(h:AI r H v l):∃ a cap,v=.slice a l.length cap:=by
 obtain⟨a,cap,b,_⟩:=h.ex;exact⟨a,cap,b⟩
def Rp.int(k:IntKind):Rp Int:=⟨1,fun _ x c=>c=[.int k x],fun h=>by simp [h],fun _ h=>h,fun h u hu=>by subst h;simp at hu;subst hu;rfl⟩
def Rp.byte:Rp UInt8:=⟨1,fun _ x c=>c=[.int .u8 (x.toNat:Int)],fun h=>by simp [h],fun _ h=>h,fun h u hu=>by subst h;simp at hu;subst hu;rfl⟩
def Rp.bool:Rp Bool:=⟨1,fun _ x c=>c=[.bool x],fun h=>by simp [h],fun _ h=>h,fun h u hu=>by subst h;simp at hu;subst hu;rfl⟩
def Rp.vec{α:Type}(r:Rp α):Rp (List α):=⟨1,fun H x c=>∃ v,c=[v]∧AI r H v x,fun h=>by obtain⟨v,h,_⟩:=h;simp [h],fun hs h=>by obtain⟨v,h,hv⟩:=h;exact⟨v,h,hv.mono hs⟩,
 fun h u hu=>by obtain⟨v,h,hv⟩:=h;subst h;simp at hu;subst hu;obtain⟨a,cap,e⟩:=hv.header;subst e;rfl⟩
def Rp.pair{α β:Type}(r:Rp α)(s:Rp β):Rp (α×β):=⟨r.sz+s.sz,fun H x c=>∃ c1 c2,c=c1++c2∧r.rel H x.1 c1∧s.rel H x.2 c2,
 fun h=>by obtain⟨c1,c2,e,a,h2⟩:=h;simp [e,r.len a,s.len h2],
 fun hs h=>by obtain⟨c1,c2,e,a,h2⟩:=h;exact⟨c1,c2,e,r.mono hs a,s.mono hs h2⟩,
 fun h u hu=>by
  obtain⟨c1,c2,e,a,h2⟩:=h;subst e
  rcases List.mem_append.1 hu with hu | hu
  ·exact r.one a u hu
  ·exact s.one h2 u hu⟩
inductive BG where
 | box (b:Nat) (cs:List Value) (t:TypeId)
 | row (v:Value) (e:TypeId) (sz n:Nat) (xs:List Value)
 | obj (b:Nat) (o:Obj)
abbrev Ha(l O:List BG):List BG:=l++O
def BG.block:BG→Option Nat
 | .box b _ _=>some b
 | .row v _ _ _ _=>v.ownBlock
 | .obj b _=>some b
def BG.ok(w:World):BG→Prop
 | .box b cs t=>w.heap[b]? = some (.cells cs.toArray t (0,0))
 | .row v e sz n xs=>w.ownsRow 0 e sz v n xs
 | .obj b o=>w.heap[b]? = some o
theorem BG.ok.lt{w:World}{r:BG}(h:r.ok w){b:Nat}(hb:r.block=some b):b<w.heap.size:=by
 cases r with
 | box b' cs t=>cases hb;exact lt_of_heap h
 | row v e sz n xs=>exact(World.ownsRow.lt h b hb).2
 | obj b' o=>cases hb;exact lt_of_heap h
theorem BG.ok.same{w w':World}{r:BG}(h:r.ok w)(hs:∀ b,r.block=some b→w'.heap[b]? = w.heap[b]?):r.ok w':=by
 cases r with
 | box b cs t=>show w'.heap[b]? = _;rw [hs b rfl];exact h
 | obj b o=>show w'.heap[b]? = _;rw [hs b rfl];exact h
 | row v e sz n xs=>
  refine⟨h.1,?_⟩
  rcases h.2 with hn | ⟨g,cap,cur,rfl,hb,hgg,rest⟩
  ·exact .inl hn
  ·refine .inr ⟨g,cap,cur,rfl,hb,?_,rest⟩;rw [hs g rfl];exact hgg
theorem BG.ok.ext[Dr]{w w':World}{r:BG}(h:r.ok w)(hx:Ext w w'):r.ok w':=h.same fun b hb=>hx.block b (h.lt hb)
def owned(O:List BG)(b:Nat):Bool:=O.any fun r=>r.block==some b
theorem CW{O:List BG}{b:Nat}:owned O b=true↔∃ r∈O,r.block=some b:=by simp [owned]
def fz(w:World)(O:List BG):PH:=fun b=>if owned O b then none else w.heap[b]?
theorem VM(w:World)(O:List BG):Le (fz w O) (hp w):=fun b o e=>by
 unfold fz at e
 split at e
 ·cases e
 ·exact e
structure AO [Dr] (a:World) (O:List BG) (w:World):Prop where
 ext:Ext a w
 res:∀ r∈O,r.ok w
 own:∀ r∈O,∀ b,r.block=some b→a.heap.size≤b
 Zu:O.Pairwise fun r s=>∀ b,r.block=some b→s.block≠some b
theorem AO.start[Dr](w:World):AO w [] w:=⟨Ext.refl w,(fun _ h=>by cases h),(fun _ h=>by cases h),List.Pairwise.nil⟩
theorem AO.arg[Dr]{a w:World}{O:List BG}(h:AO a O w):Le (hp a) (hp w):=h.ext.le
theorem AO.lt[Dr]{a w:World}{O:List BG}(h:AO a O w){b:Nat}(hb:owned O b=true):b<w.heap.size:=by
 obtain⟨r,hr,e⟩:=CW.1 hb;exact(h.res r hr).lt e
theorem AO.Aca[Dr]{a w:World}{O:List BG}(h:AO a O w):Le (hp a) (fz w O):=fun b o e=>by
 unfold fz;rw [if_neg]
 ·exact h.arg b o e
 ·intro ho;obtain⟨r,hr,e'⟩:=CW.1 ho;have:=h.own r hr b e';have:=lt_of_heap (w:=a) e;omega
theorem AO.call[Dr]{a w w':World}{O:List BG}(h:AO a O w)(hx:Ext w w'):AO a O w':=
 ⟨h.ext.trans hx,fun r hr=>(h.res r hr).ext hx,h.own,h.Zu⟩
theorem AV[Dr]{a w w':World}{O:List BG}(_h:AO a O w)(hx:Ext w w'):Le (fz w O) (fz w' O):=fun b o e=>by
 unfold fz at e ⊢
 split at e
 ·cases e
 ·rename_i ho;rw [if_neg ho];exact hx.le b o e
theorem AaI[Dr]{a w w':World}{O:List BG}(h:AO a O w):Le (nw w w') (fz w' O):=fun b o e=>by
 unfold nw at e
 split at e
 ·rename_i hb;unfold fz;rw [if_neg]
  ·exact e
  ·intro ho;have:=h.lt ho;omega
 ·cases e
theorem AO.drop[Dr]{a w:World}{O:List BG}{r:BG}(h:AO a (r::O) w):AO a O w:=
 ⟨h.ext,fun s hs=>h.res s (.tail _ hs),fun s hs=>h.own s (.tail _ hs),(List.pairwise_cons.1 h.Zu).2⟩
theorem Z4{w:World}{O:List BG}{r:BG}:Le (fz w (r::O)) (fz w O):=fun b o e=>by
 unfold fz at e ⊢
 split at e
 ·cases e
 ·rename_i ho;rw [if_neg]
  ·exact e
  ·intro h;apply ho;obtain⟨s,hs,e'⟩:=CW.1 h;exact CW.2 ⟨s,.tail _ hs,e'⟩
theorem AO.perm[Dr]{a w:World}{O O':List BG}(h:AO a O w)(hp:O'.Perm O):AO a O' w:=
 ⟨h.ext,fun r hr=>h.res r (hp.mem_iff.1 hr),fun r hr=>h.own r (hp.mem_iff.1 hr),
  (hp.symm.pairwise h.Zu (fun {_x _y} hxy b hb hx=>hxy b hx hb))⟩
theorem Ig{w:World}{O O':List BG}(hp:O'.Perm O):fz w O'=fz w O:=by
 funext b
 unfold fz
 have:owned O' b=owned O b:=by
  rw [Bool.eq_iff_iff,CW,CW];exact⟨fun⟨r,h,e⟩=>⟨r,hp.mem_iff.1 h,e⟩,fun⟨r,h,e⟩=>⟨r,hp.mem_iff.2 h,e⟩⟩
 rw [this]
theorem AO.AcE[Dr]{a w w':World}{O:List BG}{r r':BG}(h:AO a (r::O) w)(hdr:w.drawn≤w'.drawn)(hg:w.grownBy w' r.block)(hok:r'.ok w')(hb:∀ b,r'.block=some b→r.block=some b∨w.heap.size≤b):AO a (r'::O) w':=by
 have hh:=List.pairwise_cons.1 h.Zu
 have hsame:∀ s∈O,∀ b,s.block=some b→w'.heap[b]? = w.heap[b]?:=fun s hs b e=>by
  refine hg.block b ((h.res s (.tail _ hs)).lt e) (fun e'=>?_);exact hh.1 s hs b e'.symm e
 refine⟨⟨⟨hg.os.trans h.ext.os,hg.tape.trans h.ext.tape,hg.output.trans h.ext.output,Nat.le_trans h.ext.size hg.size,fun k hk=>?_⟩,fun o=>Nat.le_trans (h.ext.drawn o) hdr⟩,fun s hs=>?_,fun s hs b e=>?_,?_⟩
 ·rw [hg.block k (Nat.lt_of_lt_of_le hk h.ext.size) (fun e=>?_)]
  ·exact h.ext.block k hk
  ·have:=h.own r (.head _) k e.symm;omega
 ·cases hs with
  | head=>exact hok
  | tail _ hs=>exact(h.res s (.tail _ hs)).same (hsame s hs)
 ·cases hs with
  | head=>
   rcases hb b e with e' | e'
   ·exact h.own r (.head _) b e'
   ·exact Nat.le_trans h.ext.size e'
  | tail _ hs=>exact h.own s (.tail _ hs) b e
 ·refine List.pairwise_cons.2 ⟨fun s hs b e e'=>?_,hh.2⟩
  rcases hb b e with e'' | e''
  ·exact hh.1 s hs b e'' e'
  ·have:=(h.res s (.tail _ hs)).lt e';omega
theorem Z5[Dr]{c w w':World}{O:List BG}{r r':BG}(_h:AO c (r::O) w)(hg:w.grownBy w' r.block)(hb:∀ b,r'.block=some b→r.block=some b∨w.heap.size≤b):Le (fz w (r::O)) (fz w' (r'::O)):=fun b o e=>by
 unfold fz at e ⊢
 split at e
 ·cases e
 ·rename_i ho;have hlt:=lt_of_heap e;have hnr:r.block≠some b:=fun e'=>ho (CW.2 ⟨r,.head _,e'⟩);rw [if_neg]
  ·rw [hg.block b hlt (fun e'=>hnr e'.symm)];exact e
  ·intro hc;obtain⟨s,hs,e'⟩:=CW.1 hc
   cases hs with
   | head=>
    rcases hb b e' with a | a
    ·exact hnr a
    ·omega
   | tail _ hs=>exact ho (CW.2 ⟨s,.tail _ hs,e'⟩)
theorem AO.new[Dr]{a w w':World}{O:List BG}{r:BG}(h:AO a O w)(hx:Ext w w')(hok:r.ok w')(hb:∀ b,r.block=some b→w.heap.size≤b):AO a (r::O) w':=by
 have h':=h.call hx;refine⟨h'.ext,fun s hs=>?_,fun s hs b e=>?_,List.pairwise_cons.2 ⟨fun s hs b e e'=>?_,h.Zu⟩⟩
 ·cases hs with
  | head=>exact hok
  | tail _ hs=>exact h'.res s hs
 ·cases hs with
  | head=>exact Nat.le_trans h.ext.size (hb b e)
  | tail _ hs=>exact h.own s hs b e
 ·have:=hb b e;have:=(h.res s hs).lt e';omega
theorem O5[Dr]{a w w':World}{O:List BG}{r:BG}(_h:AO a O w)(hx:Ext w w')(hb:∀ b,r.block=some b→w.heap.size≤b):Le (fz w O) (fz w' (r::O)):=fun b o e=>by
 unfold fz at e ⊢
 split at e
 ·cases e
 ·rename_i ho;have hlt:=lt_of_heap e;rw [if_neg]
  ·exact hx.le b o e
  ·intro hc;obtain⟨s,hs,e'⟩:=CW.1 hc
   cases hs with
   | head=>have:=hb b e';omega
   | tail _ hs=>exact ho (CW.2 ⟨s,hs,e'⟩)
def Oo(w w':World)(v:Value):PH:=fun b=>if v.ownBlock=some b then none else nw w w' b
theorem Uk[Dr]{c w w':World}{O:List BG}{v:Value}{e:TypeId}{sz n:Nat}{xs:List Value}(h:AO c O w):Le (Oo w w' v) (fz w' (.row v e sz n xs::O)):=fun b o hb=>by
 unfold Oo at hb
 split at hb
 ·cases hb
 ·rename_i hne;have a:=AaI (w':=w') h b o hb;unfold fz at a ⊢
  split at a
  ·cases a
  ·rename_i ho;rw [if_neg]
   ·exact a
   ·intro hc;obtain⟨s,hs,e'⟩:=CW.1 hc
    cases hs with
    | head=>exact hne e'
    | tail _ hs=>exact ho (CW.2 ⟨s,hs,e'⟩)
theorem Ul{w w':World}{v:Value}:Le (Oo w w' v) (nw w w'):=fun b o hb=>by
 unfold Oo at hb
 split at hb
 ·cases hb
 ·exact hb
inductive AJ {α:Type} (r:Rp α) (H:PH):List α→List Value→Prop
 | nil:AJ r H [] []
 | cons {x:α} {l:List α} {c cs:List Value} (h:r.rel H x c) (t:AJ r H l cs):AJ r H (x::l) (c++cs)
section
variable {α:Type} {r:Rp α} {H H':PH}
theorem AJ.mono{l:List α}{cs:List Value}(h:AJ r H l cs)(hs:Le H H'):AJ r H' l cs:=by
 induction h with
 | nil=>exact .nil
 | cons h _ ih=>exact .cons (r.mono hs h) ih
theorem AJ.len{l:List α}{cs:List Value}(h:AJ r H l cs):cs.length=l.length * r.sz:=by
 induction h with
 | nil=>simp
 | cons h _ ih=>simp [ih,r.len h,Nat.add_mul,Nat.add_comm]
theorem AJ.one{l:List α}{cs:List Value}(h:AJ r H l cs):∀ u∈cs,u.oneCell'=true:=by
 induction h with
 | nil=>simp
 | cons h _ ih=>intro u hu;rcases List.mem_append.1 hu with hu | hu;exact r.one h u hu;exact ih u hu
theorem AJ.append{l m:List α}{cs ds:List Value}(h:AJ r H l cs)(k:AJ r H m ds):AJ r H (l++m) (cs++ds):=by
 induction h with
 | nil=>exact k
 | cons h _ ih=>rw [List.cons_append,List.append_assoc];exact .cons h ih
theorem AJ.single{x:α}{c:List Value}(h:r.rel H x c):AJ r H [x] c:=by simpa using AJ.cons h .nil
theorem AJ.at{l:List α}{cs:List Value}(h:AJ r H l cs):∀ i x,l[i]? = some x→∃ c,r.rel H x c∧∀ j u,c[j]? = some u→cs[i * r.sz+j]? = some u:=by
 induction h with
 | nil=>intro i x hx;cases hx
 | @cons y l c cs h _ ih=>
  intro i x hx
  cases i with
  | zero=>
   simp only [List.getElem?_cons_zero,Option.some.injEq] at hx;subst hx;refine⟨c,h,fun j u hu=>?_⟩;rw [Nat.zero_mul,Nat.zero_add,List.getElem?_append_left (List.getElem?_eq_some_iff.1 hu).1];exact hu
  | succ i=>
   simp only [List.getElem?_cons_succ] at hx;obtain⟨d,hd,hh⟩:=ih i x hx;refine⟨d,hd,fun j u hu=>?_⟩;rw [List.getElem?_append_right (by rw [r.len h,Nat.add_mul];omega),r.len h];rw [show(i+1) * r.sz+j - r.sz=i * r.sz+j from by rw [Nat.add_mul];omega];exact hh j u hu
end
def Own{α:Type}(e:TypeId)(r:Rp α)(w w':World)(v:Value)(l:List α):Prop:=
 ∃ xs,w'.ownsRow w.heap.size e r.sz v l.length xs∧AJ r (Oo w w' v) l xs
theorem OO{w:World}{b b':Nat}{e:TypeId}{sz n:Nat}{v:Value}{xs:List Value}(h:w.ownsRow b e sz v n xs)(hb:∀ k,v.ownBlock=some k→b'≤k):w.ownsRow b' e sz v n xs:=by
 refine⟨h.1,?_⟩
 rcases h.2 with hn | ⟨g,cap,cur,rfl,hbg,hgg,rest⟩
 ·exact .inl hn
 ·exact .inr ⟨g,cap,cur,rfl,hb g rfl,hgg,rest⟩
theorem Ms{α:Type}{r:Rp α}{w:World}{b:Nat}{e:TypeId}{v:Value}{l:List α}{xs:List Value}{H H':PH}(h:w.ownsRow b e r.sz v l.length xs)(he:AJ r H l xs)(hs:Le H H')
  (hb:∀ k,v.ownBlock=some k→∀ o,w.heap[k]? = some o→H' k=some o):AI r H' v l:=by
 rcases h.2 with ⟨rfl,hn⟩ | ⟨g,cap,cur,rfl,hbg,hgg,hnc,hcm,hcs,htake⟩
 ·have:l=[]:=List.eq_nil_of_length_eq_zero hn;subst this;exact AI.nil r H'
 ·refine⟨some ⟨g,0,none⟩,cap,rfl,hnc,hcm,(fun h=>by cases h),fun A hA _=>?_⟩
  cases hA
  refine⟨rfl,fun i x hx=>?_⟩;obtain⟨c,hc,hcell⟩:=he.at i x hx;refine⟨c,r.mono hs hc,fun j u hu=>?_⟩;have a:=hcell j u hu;rw [← htake,List.getElem?_take] at a
  split at a
  ·simp only [Addr.add_lit,Nat.zero_add,Gu];rw [hb g rfl _ hgg]
   simpa using a
  ·cases a
theorem Own.vec{α:Type}{e:TypeId}{r:Rp α}{w w':World}{v:Value}{l:List α}(h:Own e r w w' v l):AI r (nw w w') v l:=by
 obtain⟨xs,a,h2⟩:=h;refine Ms a h2 Ul fun k hk o ho=>?_;have:=(a.lt k hk).1;unfold nw;rw [if_pos this];exact ho
end Go.E
namespace Go.E
open Go Go.RowKit
inductive Tr where
 | tail (k:Nat)
 | q (i:Nat) (t:Tr)
 | h (i:Nat) (t:Tr)
 | h2 (i:Nat) (t:Tr) (j:Nat) (u:Tr)
 | h3 (i:Nat) (t:Tr) (j:Nat) (u:Tr) (l:Nat) (v:Tr)
def Tr.count:Tr→Nat
 | .tail _=>0
 | .q _ t=>t.count+1
 | .h _ t=>t.count+1
 | .h2 _ t _ _=>t.count+1
 | .h3 _ t _ _ _ _=>t.count+1
def Tr.last:Tr→Nat
 | .tail k=>k
 | .q _ t=>t.last
 | .h _ t=>t.last
 | .h2 _ t _ _=>t.last
 | .h3 _ t _ _ _ _=>t.last
def chainB(ops:Array Oper):Nat→Nat→Array Bool→Bool
 | 0,_,listed=>Region.ready .any ops listed==[]
 | m+1,k,listed=>Region.ready .any ops listed==[k]&&chainB ops m (k+1) (listed.setIfInBounds k true)
def AU(ops:Array Oper):Tr→Array Bool→Bool
 | .tail k,listed=>chainB ops (ops.size - k) k listed
 | .q i t,listed=>(Region.ready .any ops listed).contains i&&Region.free .any ops listed i&&Nat.blt i t.last&&AU ops t (listed.setIfInBounds i true)
 | .h i t,listed=>Region.ready .any ops listed==[i]&&Nat.blt i t.last&&AU ops t (listed.setIfInBounds i true)
 | .h2 i t j u,listed=>Region.ready .any ops listed==[i,j]&&Nat.blt i t.last&&Nat.blt j t.last&&t.count==u.count&&t.last==u.last&&AU ops t (listed.setIfInBounds i true)&&AU ops u (listed.setIfInBounds j true)
 | .h3 i t j u l v,listed=>Region.ready .any ops listed==[i,j,l]&&Nat.blt i t.last&&Nat.blt j t.last&&Nat.blt l t.last&&t.count==u.count&&t.last==u.last&&t.count==v.count&&t.last==v.last&&AU ops t (listed.setIfInBounds i true)&&AU ops u (listed.setIfInBounds j true)&&AU ops v (listed.setIfInBounds l true)
section
variable (P:Program) (ops:Array Oper)
def Sj(a:Act)(o:Oper)(K:Act→World→Prop):Result Next→Prop
 | .ok (.value v) w'=>K (a.put o.dst v) w'
 | .ok .skip w'=>K (a.put o.dst undef) w'
 | .ok (.enter f args) w'=>Calls P f args w' (fun e w''=>∃ v,e=.returned v∧K (a.put o.dst v) w'')
 | _=>False
def Um(o:Oper)(K:Act→World→Prop)(a:Act)(w:World):Prop:=
 if Region.wanted o (yielded ops a.tmps) then Sj P a o K ((execOp a.eval o).run P w) else K (a.put o.dst undef) w
def yx[Dr](o:Oper)(v:Value)(a:Act)(w:World):Prop:=
 (Region.wanted o (yielded ops a.tmps)=true∧∀ w',Ext w w'→match(execOp a.eval o).run P w' with
  | .ok (.value u) w''=>w''=w'∧u=v
  | .ok (.enter f args) w''=>w''=w'∧Calls P f args w' (fun e b=>e=.returned v∧Ext w' b)
  | _=>False)∨
 (Region.wanted o (yielded ops a.tmps)=false∧v=undef)
def X[Dr](Q:Exit→Act→World→Prop):Tr→World→Act→World→Prop
 | .tail k,_,a,w=>∀ w',Ext w w'→wpOps P ops Q (List.range' k (ops.size - k)) a w'
 | .q i t,b,a,w=>∃ o v,ops[i]? = some o∧yx P ops o v a b∧X Q t b (a.put o.dst v) w
 | .h i t,b,a,w=>∃ o,ops[i]? = some o∧∀ w',Ext w w'→Um P ops o (fun a'' w''=>∃ b',Ext b b'∧Ext b' w''∧X Q t b' a'' w'') a w'
 | .h2 i t j u,b,a,w=>(∃ o,ops[i]? = some o∧∀ w',Ext w w'→Um P ops o (fun a'' w''=>∃ b',Ext b b'∧Ext b' w''∧X Q t b' a'' w'') a w')∧
   (∃ o,ops[j]? = some o∧∀ w',Ext w w'→Um P ops o (fun a'' w''=>∃ b',Ext b b'∧Ext b' w''∧X Q u b' a'' w'') a w')
 | .h3 i t j u l v,b,a,w=>(∃ o,ops[i]? = some o∧∀ w',Ext w w'→Um P ops o (fun a'' w''=>∃ b',Ext b b'∧Ext b' w''∧X Q t b' a'' w'') a w')∧
   (∃ o,ops[j]? = some o∧∀ w',Ext w w'→Um P ops o (fun a'' w''=>∃ b',Ext b b'∧Ext b' w''∧X Q u b' a'' w'') a w')∧
   (∃ o,ops[l]? = some o∧∀ w',Ext w w'→Um P ops o (fun a'' w''=>∃ b',Ext b b'∧Ext b' w''∧X Q v b' a'' w'') a w')
def Y[Dr](Q:Exit→Act→World→Prop)(k:Nat)(b:World):Nat→Array Bool→Act→World→Prop
 | 0,listed,a,w=>chainB ops (ops.size - k) k listed=true∧∀ w',Ext w w'→wpOps P ops Q (List.range' k (ops.size - k)) a w'
 | m
  + 1,listed,a,w=>Region.ready .any ops listed≠[]∧∀ w',Ext w w'→∀ i∈Region.ready .any ops listed,∃ o,ops[i]? = some o∧
  Um P ops o (fun a'' w''=>Ext b w''∧Y Q k b m (listed.setIfInBounds i true) a'' w'') a w'
end
section
variable {P:Program} {ops:Array Oper} {Q:Exit→Act→World→Prop}
theorem WI{a:Act}{o:Oper}{K K':Act→World→Prop}(h:∀ a w,K a w→K' a w):∀ {r:Result Next},Sj P a o K r→Sj P a o K' r:=by
 intro r hr
 cases r with
 | ok nx w'=>
  cases nx <;> simp only [Sj] at hr ⊢
  case value v=>exact h _ _ hr
  case skip=>exact h _ _ hr
  case enter f args=>exact hr.mono fun e w'' ⟨v,he,hv⟩=>⟨v,he,h _ _ hv⟩
 | halt x w'=>simp only [Sj] at hr
theorem Ki{o:Oper}{K K':Act→World→Prop}(h:∀ a w,K a w→K' a w){a:Act}{w:World}(hh:Um P ops o K a w):Um P ops o K' a w:=by
 unfold Um at hh ⊢
 split
 ·rename_i hw;rw [if_pos hw] at hh;exact WI h hh
 ·rename_i hw;rw [if_neg hw] at hh;exact h _ _ hh
theorem Un{i:Nat}{o:Oper}(hi:ops[i]? = some o){K:Act→World→Prop}{a:Act}{w:World}(h:Um P ops o K a w):wpOp P ops Q i K a w:=by
 unfold wpOp;simp only [hi];unfold Um at h
 split
 ·rename_i hw;rw [if_pos hw] at h;refine .inl ?_;unfold Oper.wp;generalize (execOp a.eval o).run P w=r at h ⊢
  cases r with
  | ok nx w'=>
   cases nx <;> simp only [Sj] at h <;> simp only [Oper.upon]
   case value v=>exact h
   case skip=>exact h
   case enter f args=>exact h.mono fun e w'' ⟨v,he,hv⟩=>by subst he;exact hv
  | halt x w'=>simp only [Sj] at h
 ·rename_i hw;rw [if_neg hw] at h;exact h
theorem S5[Dr]{o:Oper}{v:Value}{a:Act}{w w':World}(h:yx P ops o v a w)(hx:Ext w w'){K:Act→World→Prop}(hK:∀ w'',Ext w' w''→K (a.put o.dst v) w''):Um P ops o K a w':=by
 unfold Um
 rcases h with ⟨hw,h⟩ | ⟨hw,rfl⟩
 ·rw [if_pos hw];have b:=h w' hx;generalize (execOp a.eval o).run P w'=r at b ⊢
  cases r with
  | ok nx c=>
   cases nx <;> simp only at b <;> simp only [Sj]
   case value u=>obtain⟨rfl,rfl⟩:=b;exact hK _ (Ext.refl _)
   case enter f args=>obtain⟨rfl,b⟩:=b;exact b.mono fun e w'' ⟨he,hv⟩=>⟨v,he,hK _ hv⟩
  | halt x c=>simp only at b
 ·rw [if_neg (by simp [hw])];exact hK _ (Ext.refl _)
theorem Abi[Dr]{o oj:Oper}{v u:Value}{a:Act}{w:World}(hs:∀ cs b,o.op≠.select cs b)(h3:∀ d,oj.dst=some d→d∉o.looksAt ops)(h:yx P ops o v a w):yx P ops o v (a.put oj.dst u) w:=by
 unfold yx at h ⊢;rw [wanted_put o a oj.dst u h3,execOp_put (ops:=ops) o hs a oj.dst u h3];exact h
def VN(ops:Array Oper)(k:Nat):Prop:=∀ listed,HeadInv .any ops k listed→∀ i,i<k→listed.getD i true=false→∀ t,k≤t→t∉Region.ready .any ops listed
theorem XD{k:Nat}(h:ops.size≤k∨(Region.sinkB .any ops k=true∧Region.chainB .any ops k=true)):VN ops k:=by
 intro listed inv i hi hun t ht hr
 rcases Nat.lt_or_ge k ops.size with hk | hk
 ·rcases h with h | ⟨a,h2⟩
  ·omega
  ·exact tail_waits a h2 hk inv _ i rfl hi hun t ht hr
 ·obtain⟨_,o,ho,_⟩:=mem_ready.1 hr;have:=(Array.getElem?_eq_some_iff.1 ho).1;omega
theorem Uo{m k:Nat}{listed:Array Bool}(h:chainB ops m k listed=true):∀ j∈Region.ready .any ops listed,j=k:=by
 intro j hj
 cases m with
 | zero=>simp only [chainB,beq_iff_eq] at h;rw [h] at hj;cases hj
 | succ m=>simp only [chainB,Bool.and_eq_true,beq_iff_eq] at h;rw [h.1] at hj;simpa using hj
theorem O6[Dr]{k:Nat}{b b':World}(hb:Ext b b'):∀ (m:Nat) (listed:Array Bool) (a:Act) (w:World),Y P ops Q k b' m listed a w→Y P ops Q k b m listed a w
 | 0,_,_,_,h=>h
 | m
  + 1,listed,a,w,h=>⟨h.1,fun w' hx i hi=>by
  obtain⟨o,ho,c⟩:=h.2 w' hx i hi;exact⟨o,ho,Ki (fun a'' w'' ⟨d,e⟩=>⟨hb.trans d,O6 hb m _ _ _ e⟩) c⟩⟩
theorem Z6[Dr]{b:World}{k i:Nat}{oi:Oper}{v:Value}(hw:VN ops k)(hi:ops[i]? = some oi)(hik:i<k)(hsel:∀ (j:Nat) (o:Oper) cs b,ops[j]? = some o→o.op≠.select cs b):
  ∀
   (m:Nat) (listed:Array Bool) (a:Act) (w:World),HeadInv .any ops k listed→
   (∀ j oj,ops[j]? = some oj→j≠i→listed.getD j true=false→(∀ e∈oj.after,Region.binds .any e=true→e.on≠i)→oi.apart ops oj=true)→
   i∈Region.ready .any ops listed→Ext b w→yx P ops oi v a b→
   Y P ops Q k b m (listed.setIfInBounds i true) (a.put oi.dst v) w→Y P ops Q k b (m+1) listed a w:=by
 intro m
 induction m with
 | zero=>
  intro listed a w inv hfree hr hb hy H;refine⟨fun h=>(by rw [h] at hr;cases hr),fun w' hx j hj=>?_⟩
  have hji:j=i:=by
   refine Decidable.byContradiction fun hne=>?_;have:=Uo H.1 j (ready_mono hj hne);subst this;exact hw listed inv i hik (mem_ready.1 hr).1 j (Nat.le_refl _) hj
  subst hji;exact⟨oi,hi,S5 hy (hb.trans hx) fun w'' hx'=>⟨(hb.trans hx).trans hx',H.1,fun d h3=>H.2 d ((hx.trans hx').trans h3)⟩⟩
 | succ m ih=>
  intro listed a w inv hfree hr hb hy H;refine⟨fun h=>(by rw [h] at hr;cases hr),fun w' hx j hj=>?_⟩
  by_cases hji:j=i
  ·subst hji;refine⟨oi,hi,S5 hy (hb.trans hx) fun w'' hx'=>⟨(hb.trans hx).trans hx',H.1,fun d h3=>H.2 d ((hx.trans hx').trans h3)⟩⟩
  ·obtain⟨oj,hoj,c⟩:=H.2 w' hx j (ready_mono hj hji);refine⟨oj,hoj,?_⟩;obtain⟨hjun,oj',hoj',hall⟩:=mem_ready.1 hj;obtain rfl:oj=oj':=Option.some.inj (hoj.symm.trans hoj')
   have hnot:∀ e∈oj.after,Region.binds .any e=true→e.on≠i:=fun e he hb heq=>by
    have c:=hall e he hb;have g:=(mem_ready.1 hr).1;rw [heq] at c
    rcases Nat.lt_or_ge i listed.size with h' | h'
    ·simp [h'] at g c;rw [g] at c;cases c
    ·simp [Array.getElem?_eq_none h'] at c
   obtain⟨l,n,p⟩:=Oper.apart_spec (hfree j oj hoj hji hjun hnot);have hsj:=fun cs b=>hsel j oj cs b hoj;have hsi:=fun cs b=>hsel i oi cs b hi
   have hjk:j<k:=by
    rcases Nat.lt_or_ge j k with h | h
    ·exact h
    ·exact absurd hj (hw listed inv i hik (mem_ready.1 hr).1 j h)
   have hfree':∀ k' ok,ops[k']? = some ok→k'≠i→(listed.setIfInBounds j true).getD k' true=false→
     (∀ e∈ok.after,Region.binds .any e=true→e.on≠i)→oi.apart ops ok=true:=fun k' ok hk hki hun hno=>by
    refine hfree k' ok hk hki ?_ hno
    by_cases hjk:j=k'
    ·subst hjk;exact hjun
    ·rw [getD_set_ne true hjk] at hun;exact hun
   have next:∀ u w'',Ext b w''→Y P ops Q k b m ((listed.setIfInBounds i true).setIfInBounds j true) ((a.put oi.dst v).put oj.dst u) w''→Y P ops Q k b (m+1) (listed.setIfInBounds j true) (a.put oj.dst u) w'':=by
    intro u w'' hx' hY;refine ih (listed.setIfInBounds j true) (a.put oj.dst u) w'' (inv.set hj hjk) hfree' (ready_mono hr (Ne.symm hji)) hx' (Abi hsi p hy) ?_;rw [Array.setIfInBounds_comm _ _ hji,← Act.put_comm a v u n];exact hY
   unfold Um at c ⊢;rw [wanted_put oj a oi.dst v l,execOp_put (ops:=ops) oj hsj a oi.dst v l] at c
   split
   ·rename_i hw;rw [if_pos hw] at c;generalize (execOp a.eval oj).run P w'=r at c ⊢
    cases r with
    | ok nx q=>
     cases nx <;> simp only [Sj] at c ⊢
     case value u=>exact⟨c.1,next _ _ c.1 c.2⟩
     case skip=>exact⟨c.1,next _ _ c.1 c.2⟩
     case enter f args=>exact c.mono fun e w'' ⟨u,he,hu⟩=>⟨u,he,hu.1,next _ _ hu.1 hu.2⟩
    | halt x q=>simp only [Sj] at c
   ·rename_i hw;rw [if_neg hw] at c;exact⟨c.1,next _ _ c.1 c.2⟩
theorem Ni{i j:Nat}(h:Nat.blt i j=true):i<j:=by simpa [Nat.blt_eq] using h
theorem Nj[Dr]{k:Nat}(hw:VN ops k)(hsel:∀ (j:Nat) (o:Oper) cs b,ops[j]? = some o→o.op≠.select cs b):
  ∀ (t:Tr) (listed:Array Bool) (b:World) (a:Act) (w:World),t.last=k→HeadInv .any ops k listed→AU ops t listed=true→Ext b w→X P ops Q t b a w→Y P ops Q k b t.count listed a w
 | .tail k',listed,b,a,w,hk,inv,hc,hb,h=>by
  obtain rfl:k'=k:=hk;exact⟨hc,h⟩
 | .q i t,listed,b,a,w,hk,inv,hc,hb,h=>by
  simp only [AU,Bool.and_eq_true] at hc;obtain⟨⟨⟨c1,c2⟩,c3⟩,c4⟩:=hc;obtain⟨o,v,ho,hy,hX⟩:=h;have hr:i∈Region.ready .any ops listed:=by simpa using c1
  have hlt:i<k:=by rw [← hk];exact Ni c3
  exact Z6 hw ho hlt hsel t.count listed a w inv (fun j oj=>Region.free_spec ho c2 j oj) hr hb hy (Nj hw hsel t _ _ _ _ hk (inv.set hr hlt) c4 hb hX)
 | .h i t,listed,b,a,w,hk,inv,hc,hb,h=>by
  simp only [AU,Bool.and_eq_true,beq_iff_eq] at hc;obtain⟨⟨c1,c3⟩,c4⟩:=hc;obtain⟨o,ho,hX⟩:=h;have hr:i∈Region.ready .any ops listed:=by simp [c1]
  have hlt:i<k:=by rw [← hk];exact Ni c3
  refine⟨by simp [c1],fun w' hx j hj=>?_⟩;obtain rfl:j=i:=by simpa [c1] using hj
  exact⟨o,ho,Ki (fun a'' w'' ⟨b',c,d,e⟩=>⟨c.trans d,O6 c _ _ _ _ (Nj hw hsel t _ b' _ _ hk (inv.set hr hlt) c4 d e)⟩) (hX w' hx)⟩
 | .h2 i t j u,listed,b,a,w,hk,inv,hc,hb,h=>by
  simp only [AU,Bool.and_eq_true,beq_iff_eq] at hc;obtain⟨⟨⟨⟨⟨⟨c1,c3⟩,c3'⟩,c5⟩,c6⟩,c4⟩,c4'⟩:=hc;obtain⟨⟨o,ho,hX⟩,⟨o',ho',hX'⟩⟩:=h;have hr:i∈Region.ready .any ops listed:=by simp [c1]
  have hr':j∈Region.ready .any ops listed:=by simp [c1]
  have hlt:i<k:=by rw [← hk];exact Ni c3
  have hlt':j<k:=by rw [← hk];exact Ni c3'
  have hk':u.last=k:=by rw [← c6];exact hk
  refine⟨by simp [c1],fun w' hx l hl=>?_⟩;have hl':l=i∨l=j:=by simpa [c1] using hl
  rcases hl' with rfl | rfl
  ·exact⟨o,ho,Ki (fun a'' w'' ⟨b',c,d,e⟩=>⟨c.trans d,O6 c _ _ _ _ (Nj hw hsel t _ b' _ _ hk (inv.set hr hlt) c4 d e)⟩) (hX w' hx)⟩
  ·refine⟨o',ho',Ki (fun a'' w'' ⟨b',c,d,e⟩=>⟨c.trans d,?_⟩) (hX' w' hx)⟩;have:=O6 c _ _ _ _ (Nj hw hsel u _ b' _ _ hk' (inv.set hr' hlt') c4' d e)
   show Y P ops Q k b t.count _ _ _
   rw [c5];exact this
 | .h3 i t j u m v,listed,b,a,w,hk,inv,hc,hb,h=>by
  simp only [AU,Bool.and_eq_true,beq_iff_eq] at hc;obtain⟨⟨⟨⟨⟨⟨⟨⟨⟨⟨c1,c3⟩,c3'⟩,c3''⟩,c5⟩,c6⟩,c7⟩,c8⟩,c4⟩,c4'⟩,c4''⟩:=hc;obtain⟨⟨o,ho,hX⟩,⟨o',ho',hX'⟩,⟨o'',ho'',hX''⟩⟩:=h;have hr:i∈Region.ready .any ops listed:=by simp [c1]
  have hr':j∈Region.ready .any ops listed:=by simp [c1]
  have hr'':m∈Region.ready .any ops listed:=by simp [c1]
  have hlt:i<k:=by rw [← hk];exact Ni c3
  have hlt':j<k:=by rw [← hk];exact Ni c3'
  have hlt'':m<k:=by rw [← hk];exact Ni c3''
  have hk':u.last=k:=by rw [← c6];exact hk
  have hk'':v.last=k:=by rw [← c8];exact hk
  refine⟨by simp [c1],fun w' hx l hl=>?_⟩;have hl':l=i∨l=j∨l=m:=by simpa [c1] using hl
  rcases hl' with rfl | rfl | rfl
  ·exact⟨o,ho,Ki (fun a'' w'' ⟨b',c,d,e⟩=>⟨c.trans d,O6 c _ _ _ _ (Nj hw hsel t _ b' _ _ hk (inv.set hr hlt) c4 d e)⟩) (hX w' hx)⟩
  ·refine⟨o',ho',Ki (fun a'' w'' ⟨b',c,d,e⟩=>⟨c.trans d,?_⟩) (hX' w' hx)⟩;have:=O6 c _ _ _ _ (Nj hw hsel u _ b' _ _ hk' (inv.set hr' hlt') c4' d e)
   show Y P ops Q k b t.count _ _ _
   rw [c5];exact this
  ·refine⟨o'',ho'',Ki (fun a'' w'' ⟨b',c,d,e⟩=>⟨c.trans d,?_⟩) (hX'' w' hx)⟩;have:=O6 c _ _ _ _ (Nj hw hsel v _ b' _ _ hk'' (inv.set hr'' hlt'') c4'' d e)
   show Y P ops Q k b t.count _ _ _
   rw [c7];exact this
theorem Nk:∀ (m k:Nat) (listed:Array Bool) (a:Act) (w:World),chainB ops m k listed=true→wpOps P ops Q (List.range' k m) a w→wpAny P .any ops Q m listed a w
 | 0,k,listed,a,w,h,hw=>by
  simp only [chainB,beq_iff_eq] at h;exact⟨h,by simpa [wpOps] using hw⟩
 | m+1,k,listed,a,w,h,hw=>by
  simp only [chainB,Bool.and_eq_true,beq_iff_eq] at h;refine wpAny_all h.1 (by simp) fun i hi=>?_;obtain rfl:i=k:=by simpa using hi
  rw [List.range'_succ,wpOps_cons] at hw;exact wpOp_mono (fun a' w' h'=>Nk m (i+1) _ a' w' h.2 h') hw
theorem QY[Dr]{k:Nat}{b:World}:∀ (m:Nat) (listed:Array Bool) (a:Act) (w:World),Y P ops Q k b m listed a w→wpAny P .any ops Q (m+(ops.size - k)) listed a w
 | 0,listed,a,w,h=>by rw [Nat.zero_add];exact Nk _ k listed a w h.1 (h.2 w (Ext.refl w))
 | m+1,listed,a,w,h=>by
  rw [show m+1+(ops.size - k)=(m+(ops.size - k))+1 by omega];refine⟨fun c=>absurd c h.1,fun i hi=>?_⟩;obtain⟨o,ho,hx⟩:=h.2 w (Ext.refl w) i hi;exact Un ho (Ki (fun a' w' h'=>QY m _ a' w' h'.2) hx)
theorem Sk(k:Nat):HeadInv .any ops k (Array.replicate ops.size false):=
 ⟨by simp,(fun j oj _ hl=>by rw [getD_replicate_false] at hl;cases hl),fun t _ ht=>by simp [ht]⟩
def QZ(l:List Oper)(t:Tr):Bool:=
 Region.noSelect l.toArray&&(Nat.ble l.length t.last||(Region.sinkB .any l.toArray t.last&&Region.chainB .any l.toArray t.last))&&AU l.toArray t (Array.replicate l.length false)&&Nat.beq (t.count+(l.length - t.last)) l.length
theorem Kj[Dr]{w:World}:Ext w {w with drawn:=w.drawn+1}:=⟨⟨rfl,rfl,rfl,Nat.le_refl _,fun _ _=>rfl⟩,fun _=>Nat.le_succ _⟩
theorem XE[Dr]{id:Nat}{l:List Oper}{a:Act}{w:World}(t:Tr)(hm:P.follows .mixedOrders=true)(hc:QZ l t=true)(h:X P l.toArray Q t {w with drawn:=w.drawn+1} a {w with drawn:=w.drawn+1}):(Code.region id l.toArray true).wp P Q a w:=by
 simp only [QZ,Bool.and_eq_true,Bool.or_eq_true] at hc;obtain⟨⟨⟨c1,c2⟩,c3⟩,c4⟩:=hc
 have hw:VN l.toArray t.last:=XD (by
  rcases c2 with c2 | c2
  ·left;simpa [Nat.ble_eq] using c2
  ·right;exact c2)
 have hlen:=Nat.eq_of_beq_eq_true c4;have hY:=Nj hw (Region.noSelect_spec c1) t (Array.replicate l.toArray.size false) _ a _ rfl (Sk _) (by simpa using c3) (Ext.refl _) h;have:=QY _ _ _ _ hY;refine wp_region_any hm ?_;have e:t.count+(l.toArray.size - t.last)=l.toArray.size:=by simpa using hlen
 rw [e] at this;exact this
end
def H8:List Oper→Nat→Option Oper
 | [],_=>none
 | o::_,0=>some o
 | _::l,i+1=>H8 l i
theorem EU:∀ (l:List Oper) (i:Nat),H8 l i=l[i]?
 | [],_=>rfl
 | _::_,0=>rfl
 | _::l,i+1=>by simpa [H8] using EU l i
def S6:Nat→List Oper→List Oper
 | 0,l=>l
 | _+1,[]=>[]
 | k+1,_::l=>S6 k l
theorem Up:∀ (k:Nat) (l:List Oper),S6 k l=l.drop k
 | 0,_=>by simp [S6]
 | _+1,[]=>by simp [S6]
 | k+1,_::l=>by simpa [S6] using Up k l
def D[Dr](P:Program)(n:Sz)(l:List Oper)(Q:Exit→Act→World→Prop)(t:Tr)(L:Env)(w:World):Prop:=∀ a,Fr n a L→X P l.toArray Q t w a w
def Bv[Dr](P:Program)(L:Env)(w:World)(op:Op)(ty:TypeId)(v:Value):Prop:=
 ∀ w',Ext w w'→∀ ρ,Vg L ρ→∀ dst pos af g,(execOp ρ ⟨dst,op,ty,pos,af,g⟩).run P w'=.ok (.value v) w'
section
variable {P:Program} {n:Sz} {l:List Oper} {Q:Exit→Act→World→Prop} {L:Env} {w:World} {t u:Tr} {i j:Nat}
 {d:Nat} {op:Op} {ty:TypeId} {pos:String} {af:Array Edge} {y:Code}
theorem VO[Dr]{id:Nat}(t:Tr)(hm:P.follows .mixedOrders=true)(hc:QZ l t=true)(h:D P n l Q t L {w with drawn:=w.drawn+1}):W P n (.region id l.toArray true) Q L w:=
 fun a fr=>XE t hm hc (h a fr)
theorem EH[Dr]{id:Nat}(t:Tr)(hm:P.follows .mixedOrders=true)(hc:QZ l t=true)(h:∀ w',Ext w w'→D P n l (OM P y Q) t L w'):W P n (.seq (.region id l.toArray true) y) Q L w:=
 A7 (VO t hm hc (h _ Kj))
theorem Nl[Dr]{id:Nat}(t:Tr)(hm:P.follows .mixedOrders=true)(hc:QZ l t=true)(h:∀ w',Ext w w'→D P n l Q t L w'):W P n (.region id l.toArray true) Q L w:=
 VO t hm hc (h _ Kj)
theorem BH[Dr]{v:Value}(hr:Bv P L w op ty v)(ho:H8 l i=some ⟨some d,op,ty,pos,af,none⟩)(hn:Nat.blt d n.n=true)(h:D P n l Q t ((d,v)::L) w):D P n l Q (.q i t) L w:=fun a fr=>by
 refine⟨_,v,by rw [EU] at ho;simpa using ho,.inl ⟨by simp [Region.wanted],fun w' hx=>?_⟩,h _ (fr.put hn)⟩;rw [hr w' hx _ fr.Qt];exact⟨rfl,rfl⟩
theorem GP[Dr]{v:Value}{j:Nat}{want b:Bool}{s:Nat}{oj:Oper}(hr:Bv P L w op ty v)(ho:H8 l i=some ⟨some d,op,ty,pos,af,some (j,want)⟩)(hj:H8 l j=some oj)(hd:oj.dst=some s)(hb:gt L s=some (.bool b))(hw:b=want)(hn:Nat.blt d n.n=true)
  (h:D P n l Q t ((d,v)::L) w):D P n l Q (.q i t) L w:=fun a fr=>by
 have hj':l.toArray[j]? = some oj:=by rw [EU] at hj;simpa using hj
 have hy:yielded l.toArray a.tmps j=some b:=by simp only [yielded,hj',Option.bind_some,hd,fr.get s _ hb]
 refine⟨_,v,by rw [EU] at ho;simpa using ho,.inl ⟨by simp [Region.wanted,hy,hw],fun w' hx=>?_⟩,h _ (fr.put hn)⟩;rw [hr w' hx _ fr.Qt];exact⟨rfl,rfl⟩
theorem LV[Dr]{j:Nat}{want b:Bool}{s:Nat}{oj:Oper}(ho:H8 l i=some ⟨some d,op,ty,pos,af,some (j,want)⟩)(hj:H8 l j=some oj)(hd:oj.dst=some s)(hb:gt L s=some (.bool b))(hw:b = !want)(hn:Nat.blt d n.n=true)
  (h:D P n l Q t ((d,undef)::L) w):D P n l Q (.q i t) L w:=fun a fr=>by
 have hj':l.toArray[j]? = some oj:=by rw [EU] at hj;simpa using hj
 have hy:yielded l.toArray a.tmps j=some b:=by simp only [yielded,hj',Option.bind_some,hd,fr.get s _ hb]
 exact⟨_,undef,by rw [EU] at ho;simpa using ho,.inr ⟨by simp [Region.wanted,hy,hw],rfl⟩,h _ (fr.put hn)⟩
theorem XF[Dr]{j:Nat}{want:Bool}{s:Nat}{oj:Oper}(ho:H8 l i=some ⟨some d,op,ty,pos,af,some (j,want)⟩)(hj:H8 l j=some oj)(hd:oj.dst=some s)(hb:gt L s=some undef)(hn:Nat.blt d n.n=true)
  (h:D P n l Q t ((d,undef)::L) w):D P n l Q (.q i t) L w:=fun a fr=>by
 have hj':l.toArray[j]? = some oj:=by rw [EU] at hj;simpa using hj
 have hy:yielded l.toArray a.tmps j=none:=by simp only [yielded,hj',Option.bind_some,hd,fr.get s _ hb,undef]
 exact⟨_,undef,by rw [EU] at ho;simpa using ho,.inr ⟨by simp [Region.wanted,hy],rfl⟩,h _ (fr.put hn)⟩
theorem Ad[Dr]{v:Value}(h:pu L op=some v):Bv P L w op ty v:=fun _ _ ρ hρ dst pos af _=>XA (dst:=dst) (pos:=pos) (af:=af) h ρ hρ
def puD(n:Sz)(l:List Oper):Nat→Tr→Env→Option (Tr×Env)
 | 0,t,L=>some (t,L)
 | k+1,.q i t,L=>match H8 l i with
  | some ⟨some d,op,_,_,_,none⟩=>match pu L op with
   | some v=>bif Nat.blt d n.n then puD n l k t ((d,v)::L) else none
   | none=>none
  | _=>none
 | _+1,_,_=>none
theorem CD[Dr]:∀ (k:Nat) {t t':Tr} {L L':Env},puD n l k t L=some (t',L')→D P n l Q t' L' w→D P n l Q t L w
 | 0,t,t',L,L',h,hD=>by simp only [puD,Option.some.injEq,Prod.mk.injEq] at h;obtain⟨rfl,rfl⟩:=h;exact hD
 | k+1,.tail _,t',L,L',h,hD=>by simp only [puD,reduceCtorEq] at h
 | k+1,.h _ _,t',L,L',h,hD=>by simp only [puD,reduceCtorEq] at h
 | k+1,.h2 _ _ _ _,t',L,L',h,hD=>by simp only [puD,reduceCtorEq] at h
 | k+1,.h3 _ _ _ _ _ _,t',L,L',h,hD=>by simp only [puD,reduceCtorEq] at h
 | k+1,.q i t,t',L,L',h,hD=>by
  simp only [puD] at h
  split at h
  ·rename_i d op ty pos af ho
   split at h
   ·rename_i v hv
    cases hd:Nat.blt d n.n with
    | false=>rw [hd] at h;cases h
    | true=>rw [hd] at h;exact BH (Ad hv) ho hd (CD k h hD)
   ·cases h
  ·cases h
theorem EI[Dr]{f:FuncId}{args:List Operand}{vs:List Value}{at_:Array TypeId}{v:Value}(ho:H8 l i=some ⟨some d,.call ⟨.value (.func f),args.toArray,at_⟩,ty,pos,af,none⟩)(ha:OL L args=some vs)(hn:Nat.blt d n.n=true)
  (hok:∀ w',Ext w w'→Ok P f vs w' (fun u w''=>Ext w' w''∧u=v)) (h:D P n l Q t ((d,v)::L) w):D P n l Q (.q i t) L w:=fun a fr=>by
 refine⟨_,v,by rw [EU] at ho;simpa using ho,.inl ⟨by simp [Region.wanted],fun w' hx=>?_⟩,h _ (fr.put hn)⟩;rw [Jr (hok w' hx).1 ha _ fr.Qt];exact⟨rfl,(hok w' hx).2.mono fun e w'' ⟨u,he,hx',hu⟩=>⟨by rw [he,hu],hx'⟩⟩
theorem Tj[Dr]{f:FuncId}{args:List Operand}{vs:List Value}{at_:Array TypeId}{v:Value}{j:Nat}{want b:Bool}{s:Nat}{oj:Oper}(ho:H8 l i=some ⟨some d,.call ⟨.value (.func f),args.toArray,at_⟩,ty,pos,af,some (j,want)⟩)
  (hj:H8 l j=some oj) (hd:oj.dst=some s) (hb:gt L s=some (.bool b)) (hw:b=want) (ha:OL L args=some vs) (hn:Nat.blt d n.n=true)
  (hok:∀ w',Ext w w'→Ok P f vs w' (fun u w''=>Ext w' w''∧u=v)) (h:D P n l Q t ((d,v)::L) w):D P n l Q (.q i t) L w:=fun a fr=>by
 have hj':l.toArray[j]? = some oj:=by rw [EU] at hj;simpa using hj
 have hy:yielded l.toArray a.tmps j=some b:=by simp only [yielded,hj',Option.bind_some,hd,fr.get s _ hb]
 refine⟨_,v,by rw [EU] at ho;simpa using ho,.inl ⟨by simp [Region.wanted,hy,hw],fun w' hx=>?_⟩,h _ (fr.put hn)⟩;have hrun:=Jr (P:=P) (w:=w') (ty:=ty) (pos:=pos) (af:=af) (at_:=at_) (dst:=some d) (hok w' hx).1 ha _ fr.Qt;have e:execOp a.eval ⟨some d,.call ⟨.value (.func f),args.toArray,at_⟩,ty,pos,af,some (j,want)⟩=execOp a.eval ⟨some d,.call ⟨.value (.func f),args.toArray,at_⟩,ty,pos,af,none⟩:=rfl;rw [e,hrun];exact⟨rfl,(hok w' hx).2.mono fun e w'' ⟨u,he,hx',hu⟩=>⟨by rw [he,hu],hx'⟩⟩
theorem Ck[Dr]{f:FuncId}{args:List Operand}{vs:List Value}{at_:Array TypeId}{R:World→Value→World→Prop}(ho:H8 l i=some ⟨some d,.call ⟨.value (.func f),args.toArray,at_⟩,ty,pos,af,none⟩)(ha:OL L args=some vs)(hn:Nat.blt d n.n=true)
  (hok:∀ w',Ext w w'→Ok P f vs w' (fun u w''=>Ext w' w''∧R w' u w'')) (h:∀ w' v w'',Ext w w'→Ext w' w''→R w' v w''→D P n l Q t ((d,v)::L) w''):D P n l Q (.h i t) L w:=fun a fr=>by
 refine⟨_,by rw [EU] at ho;simpa using ho,fun w' hx=>?_⟩;unfold Um;rw [if_pos (by simp [Region.wanted]),Jr (hok w' hx).1 ha _ fr.Qt];exact(hok w' hx).2.mono fun e w'' ⟨v,he,b,h2⟩=>⟨v,he,w'',hx.trans b,Ext.refl _,h w' v w'' hx b h2 _ (fr.put hn)⟩
theorem VP[Dr]{R:World→Value→World→Prop}(ho:H8 l i=some ⟨some d,op,ty,pos,af,none⟩)(hn:Nat.blt d n.n=true)
  (hok:∀ w',Ext w w'→∀ ρ,Vg L ρ→∃ v w'',(execOp ρ ⟨some d,op,ty,pos,af,none⟩).run P w'=.ok (.value v) w''∧Ext w' w''∧R w' v w'') (h:∀ w' v w'',Ext w w'→Ext w' w''→R w' v w''→D P n l Q t ((d,v)::L) w''):D P n l Q (.h i t) L w:=fun a fr=>by
 refine⟨_,by rw [EU] at ho;simpa using ho,fun w' hx=>?_⟩;obtain⟨v,w'',hrun,b,h2⟩:=hok w' hx _ fr.Qt;unfold Um;rw [if_pos (by simp [Region.wanted]),hrun];exact⟨w'',hx.trans b,Ext.refl _,h w' v w'' hx b h2 _ (fr.put hn)⟩
theorem Uq[Dr](b:D P n l Q (.h i t) L w)(h2:D P n l Q (.h j u) L w):D P n l Q (.h2 i t j u) L w:=fun a fr=>⟨b a fr,h2 a fr⟩
theorem AcF[Dr]{m:Nat}{v:Tr}(b:D P n l Q (.h i t) L w)(h2:D P n l Q (.h j u) L w)(h3:D P n l Q (.h m v) L w):D P n l Q (.h3 i t j u m v) L w:=fun a fr=>⟨b a fr,h2 a fr,h3 a fr⟩
theorem BQ[Dr]{k:Nat}(h:∀ w',Ext w w'→S P n l.toArray Q (S6 k l) L w'):D P n l Q (.tail k) L w:=fun a fr=>fun w' hx=>by
 have:=h w' hx a fr;rw [Up] at this;have e:=wpOps_eq_wpList (P:=P) (ops:=l.toArray) (Q:=Q) (l.drop k) k (fun j=>by simp);rw [List.length_drop] at e
 show wpOps P l.toArray Q (List.range' k (l.toArray.size - k)) a w'
 rw [List.size_toArray,e];exact this
theorem Js[Dr]{s:Nat}{b:Bool}(_hb:gt L s=some (.bool b))(a:b=true→D P n l Q t L w)(h2:b=false→D P n l Q t L w):D P n l Q t L w:=by
 cases b
 ·exact h2 rfl
 ·exact a rfl
theorem AQ{ops:Array Oper}{rest:List Oper}{s:Nat}{b:Bool}(_hb:gt L s=some (.bool b))(a:b=true→S P n ops Q rest L w)(h2:b=false→S P n ops Q rest L w):S P n ops Q rest L w:=by
 cases b
 ·exact h2 rfl
 ·exact a rfl
theorem A1[Dr]{c x y:Operand}{b:Bool}{v:Value}(hc:ev L c=some (.bool b))(hb:b=true)(hx:ev L x=some v):Bv P L w (.pick c x y) ty v:=fun w' _ ρ hρ dst pos af g=>by
 subst hb;simp [execOp,hρ c _ hc,hρ x _ hx,asBool]
theorem A3[Dr]{c x y:Operand}{b:Bool}{v:Value}(hc:ev L c=some (.bool b))(hb:b=false)(hx:ev L y=some v):Bv P L w (.pick c x y) ty v:=fun w' _ ρ hρ dst pos af g=>by
 subst hb;simp [execOp,hρ c _ hc,hρ y _ hx,asBool]
theorem Ae[Dr]{ops:Array Oper}{rest:List Oper}{v:Value}(hr:Bv P L w op ty v)(hn:Nat.blt d n.n=true)(h:S P n ops Q rest ((d,v)::L) w):S P n ops Q (⟨some d,op,ty,pos,af,none⟩::rest) L w:=
 Ds rfl rfl hn (fun ρ hρ=>hr w (Ext.refl w) ρ hρ _ _ _ _) h
end
end Go.E
end
noncomputable section
namespace Go.E
open Go Go.RowKit
def Zr(P:Program)(t:TypeId)(z:Value)(sz bt:Nat):Prop:=(P.info? t).map (fun i=>(i.zero,i.size,i.bytes))=some (some z,sz,bt)
theorem Zr.parts{P:Program}{t:TypeId}{z:Value}{sz bt:Nat}(h:Zr P t z sz bt):∃ i,P.info? t=some i∧i.zero=some z∧i.size=sz∧i.bytes=bt:=by
 unfold Zr at h
 cases hi:P.info? t with
 | none=>rw [hi] at h;cases h
 | some i=>rw [hi] at h;simp at h;exact⟨i,rfl,h.1,h.2.1,h.2.2⟩
def Tk:TypeDesc→Bool
 | .struct _ | .array _ _=>false
 | _=>true
def Ur:TypeDesc→Bool
 | .struct _ | .array _ _=>true
 | _=>false
def D8:List BG→Nat→Option BG
 | [],_=>none
 | r::_,0=>some r
 | _::l,i+1=>D8 l i
def Dc:List BG→Nat→BG→List BG
 | [],_,_=>[]
 | _::l,0,s=>s::l
 | r::l,i+1,s=>r::Dc l i s
def KK:List BG→Nat→List BG
 | [],_=>[]
 | _::l,0=>l
 | r::l,i+1=>r::KK l i
theorem Dy:∀ {O:List BG} {i:Nat} {r:BG},D8 O i=some r→O.Perm (r::KK O i)
 | r::l,0,s,h=>by simp only [D8,Option.some.injEq] at h;subst h;exact List.Perm.refl _
 | r::l,i+1,s,h=>((Dy (O:=l) (i:=i) h).cons r).trans (List.Perm.swap _ _ _)
theorem Ra:∀ {O:List BG} {i:Nat} {r:BG} (s:BG),D8 O i=some r→(Dc O i s).Perm (s::KK O i)
 | _r::_l,0,_,_s,_h=>List.Perm.refl _
 | r::l,i+1,_,s,h=>((Ra (O:=l) (i:=i) s h).cons r).trans (List.Perm.swap _ _ _)
section
variable {w0 w w':World} {O:List BG} {r r':BG} {i:Nat}
theorem AO.at[Dr](h:AO w0 O w)(hi:D8 O i=some r):r.ok w:=h.res r ((Dy hi).mem_iff.2 (.head _))
theorem AO.LH[Dr](h:AO w0 O w)(hi:D8 O i=some r)(hdr:w.drawn≤w'.drawn)(hg:w.grownBy w' r.block)(hok:r'.ok w')(hb:∀ b,r'.block=some b→r.block=some b∨w.heap.size≤b):AO w0 (Dc O i r') w':=
 ((h.perm (Dy hi).symm).AcE hdr hg hok hb).perm (Ra r' hi)
theorem Hz[Dr](h:AO w0 O w)(hi:D8 O i=some r)(hg:w.grownBy w' r.block)(hb:∀ b,r'.block=some b→r.block=some b∨w.heap.size≤b):Le (fz w O) (fz w' (Dc O i r')):=by
 rw [Ig (Ra r' hi),Ig (Dy hi)];exact Z5 (h.perm (Dy hi).symm) hg hb
theorem AO.AP[Dr](h:AO w0 O w)(hi:D8 O i=some r):AO w0 (KK O i) w:=(h.perm (Dy hi).symm).drop
theorem Al(hi:D8 O i=some r):Le (fz w O) (fz w (KK O i)):=by
 rw [Ig (Dy hi)];exact Z4
theorem Rb{k:Nat}(hi:D8 O i=some r)(hb:r.block=some k)(hdis:O.Pairwise fun r s=>∀ b,r.block=some b→s.block≠some b):fz w (KK O i) k=w.heap[k]?:=by
 unfold fz;rw [if_neg];intro ho;obtain⟨s,hs,e⟩:=CW.1 ho;have:=(Dy hi).pairwise hdis (fun {x y} hxy b hb hx=>hxy b hx hb);exact(List.pairwise_cons.1 this).1 s hs k hb e
end
section
variable {P:Program} {n:Sz} {ops:Array Oper} {Q:Exit→Act→World→Prop} {L:Env} {w w0:World} {O:List BG} {rest:List Oper}
 {d:Nat} {ty:TypeId} {pos:String} {af:Array Edge} {α:Type} {r:Rp α} {H:PH} {x y:Operand} {v:Value} {t e:TypeId}
theorem Bo[Dr]{l:List α}(hx:ev L x=some v)(ht:P.underlying t=some (.slice e))(hv:AI r H v l):Bv P L w (.call ⟨.builtin .len,#[x],#[t]⟩) ty (.int .i64 (l.length:Int)):=by
 obtain⟨a,cap,rfl⟩:=hv.header;intro w' _ ρ hρ dst pos af g;simp [execOp,resolve,hρ x _ hx,invoke,builtin,Builtin.len_,run_underlying ht,goInt]
theorem Rc[Dr]{a:Option Addr}{m cap:Nat}(hx:ev L x=some (.slice a m cap))(ht:P.underlying t=some (.slice e)):Bv P L w (.call ⟨.builtin .len,#[x],#[t]⟩) ty (.int .i64 (m:Int)):=by
 intro w' _ ρ hρ dst pos af g;simp [execOp,resolve,hρ x _ hx,invoke,builtin,Builtin.len_,run_underlying ht,goInt]
theorem KL{b sz m:Nat}{xs:List Value}(h:w.ownsRow b e sz v m xs):∃ a cap,v=.slice a m cap:=by
 rcases h.2 with ⟨rfl,hn⟩ | ⟨g,cap,cur,rfl,_⟩
 ·exact⟨none,0,by rw [hn]⟩
 ·exact⟨_,_,rfl⟩
theorem P4[Dr]{i sz m:Nat}{xs:List Value}{e':TypeId}(hx:ev L x=some v)(ht:P.underlying t=some (.slice e))(hL:AO w0 O w)(hi:D8 O i=some (.row v e' sz m xs)):Bv P L w (.call ⟨.builtin .len,#[x],#[t]⟩) ty (.int .i64 (m:Int)):=by
 obtain⟨a,cap,rfl⟩:=KL (hL.at hi);exact Rc hx ht
theorem Jt{A:Addr}(h:A.spot=none)(i j:Nat):(A.add i).add j=A.add (i+j):=by
 obtain⟨b,o,s⟩:=A
 cases h
 simp [Addr.add_lit,Nat.add_assoc]
theorem JX{A:Addr}(h:A.spot=none)(i:Nat):(A.add i).spot=none:=by
 obtain⟨b,o,s⟩:=A
 cases h
 simp [Addr.add_lit]
theorem GS.add{p:Addr}{c:List Value}(h:GS H p c)(k:Nat):GS H (p.add k) (c.drop k):=
 ⟨JX h.1 k,fun j u hu=>by rw [Jt h.1];exact h.2 (k+j) u (by simpa using hu)⟩
theorem GS.mono{H':PH}{p:Addr}{c:List Value}(h:GS H p c)(hs:Le H H'):GS H' p c:=⟨h.1,fun j u hu=>GV hs (h.2 j u hu)⟩
theorem AI.ptr{l:List α}(hv:AI r H v l)(m:Nat){z:α}(hl:l[m]? = some z):∃ (a:Addr) (cap:Nat) (c:List Value),v=.slice (some a) l.length cap∧r.rel H z c∧GS H (a.add (m * r.sz)) c:=by
 obtain⟨a,cap,b,h2,h3,d,f⟩:=hv.ex;have hlt:m<l.length:=(List.getElem?_eq_some_iff.1 hl).1
 cases a with
 | none=>have:=d rfl;omega
 | some A=>
  obtain⟨hs,hh⟩:=f A rfl (fun e=>by subst e;simp at hlt);obtain⟨c,hc,hcell⟩:=hh m z hl;exact⟨A,cap,c,b,hc,JX hs _,fun j u hu=>by rw [Jt hs];exact hcell j u hu⟩
theorem VQ[Dr]{l:List α}{k:IntKind}{i:Int}{zz:Value}{bt:Nat}(hx:ev L x=some v)(hy:ev L y=some (.int k i))(ht:P.underlying t=some (.slice e))(he:Zr P e zz r.sz bt)(hv:AI r H v l)(m:Nat)(hm:i=(m:Int)){z:α}(hl:l[m]? = some z):
  ∃ p c,r.rel H z c∧GS H p c∧∀ w,Bv P L w (.indexAddr t x y) ty (.pointer (some p)):=by
 obtain⟨a,cap,c,rfl,hc,hp⟩:=hv.ptr m hl;refine⟨_,c,hc,hp,fun w w' _ ρ hρ dst pos af g=>?_⟩;obtain⟨inf,b,h2,h3,d⟩:=he.parts;have hlt:m<l.length:=(List.getElem?_eq_some_iff.1 hl).1;subst hm;have f:(0:Int)≤(m:Int)∧(m:Int)<(l.length:Int):=by omega
 simp [execOp,hρ x _ hx,hρ y _ hy,Instr.indexAt,asIntOf,run_underlying ht,sizeOf,typeInfo,b,h3,hlt]
theorem Be[Dr]{p:Addr}{u:Value}{c:List Value}{dd:TypeDesc}(hx:ev L x=some (.pointer (some p)))(ht:P.underlying t=some dd)(hd:Tk dd=true)(hp':GS H p (u::c))(hs:Le H (hp w)):Bv P L w (.load t x) ty u:=by
 intro w' hw ρ hρ dst pos af g
 have hcell:w'.cell? p=some u:=by
  have:=hp'.2 0 u (by simp);rw [Addr.add_zero'] at this;exact cell_of (hs.ext hw) this
 cases dd <;> simp only [Tk,Bool.false_eq_true] at hd <;>
  simp [execOp,hρ x _ hx,Instr.loadAt,Instr.sureAddr,loadVar,isAgg,run_underlying ht,hcell]
theorem run_loadCellsFrom{p:Addr}(w:World):∀ (m i:Nat) (c:List Value) (acc:Array Value),c.length=m→(∀ j u,c[j]? = some u→w.cell? (p.add (i+j))=some u)→
  (loadCellsFrom p i m acc).run P w=.ok (acc++c.toArray) w
 | 0,i,c,acc,hl,_=>by
  have:c=[]:=List.eq_nil_of_length_eq_zero hl;subst this;simp [loadCellsFrom]
 | m+1,i,[],acc,hl,_=>by simp at hl
 | m+1,i,u::c,acc,hl,h=>by
  have a:w.cell? (p.add i)=some u:=by simpa using h 0 u (by simp)
  have ih:=run_loadCellsFrom w m (i+1) c (acc.push u) (by simpa using hl) (fun j v hv=>by have:=h (j+1) v (by simpa using hv);rwa [show i+(j+1)=i+1+j from by omega] at this);simp [loadCellsFrom,a,ih]
theorem C1[Dr]{p:Addr}{c:List Value}{dd:TypeDesc}{zz:Value}{bt:Nat}(hx:ev L x=some (.pointer (some p)))(ht:P.underlying t=some dd)(hd:Ur dd=true)(hz:Zr P t zz c.length bt)(hp':GS H p c)(hs:Le H (hp w)):Bv P L w (.load t x) ty (.agg c.toArray):=by
 intro w' hw ρ hρ dst pos af g;obtain⟨inf,a,h2,h3,b⟩:=hz.parts;have hload:=run_loadCellsFrom (P:=P) (p:=p) w' c.length 0 c #[] rfl (fun j u hu=>by rw [Nat.zero_add];exact cell_of (hs.ext hw) (hp'.2 j u hu))
 cases dd <;> simp only [Ur,Bool.false_eq_true] at hd <;>
  simp [execOp,hρ x _ hx,Instr.loadAt,Instr.sureAddr,loadVar,isAgg,run_underlying ht,loadCells,sizeOf,typeInfo,a,h3,hload]
theorem Af[Dr]{p:Addr}{fs:Array Field}{f:Nat}{fd:Field}{zz:Value}{sz bt:Nat}(hx:ev L x=some (.pointer (some p)))(ht:P.underlying t=some (.struct fs))(hf:fs[f]? = some fd)(hz:Zr P fd.type zz sz bt)(hne:sz≠0):
  Bv P L w (.fieldAddr t x f) ty (.pointer (some (p.add fd.offset))):=by
 intro w' hw ρ hρ dst pos af g;obtain⟨inf,a,h2,h3,b⟩:=hz.parts;simp [execOp,hρ x _ hx,Instr.fieldAt,run_underlying ht,hf,Instr.sureAddr,fieldPlace,sizeOf,typeInfo,a,h3,hne]
theorem AI.sub{l:List α}(hv:AI r H v l)(lo hi:Nat)(f:lo≤hi)(h2:hi≤l.length):∃ a cap,v=.slice a l.length cap∧AI r H (.slice (if cap=lo then a else a.map (·.add (lo * r.sz))) (hi - lo) (cap - lo)) ((l.drop lo).take (hi - lo)):=by
 obtain⟨a,cap,rfl,h2',h3,b,d⟩:=hv.ex;refine⟨a,cap,rfl,?_⟩;have hlen:((l.drop lo).take (hi - lo)).length=hi - lo:=by simp;omega
 refine⟨_,cap - lo,by rw [hlen],by rw [hlen];omega,by omega,?_,?_⟩
 ·intro ha
  split at ha
  ·rename_i e;omega
  ·cases a with
   | none=>have:=b rfl;omega
   | some A=>cases ha
 ·intro A hA hne
  have hpos:lo<hi:=by
   rcases Nat.lt_or_ge lo hi with h | h
   ·exact h
   ·exfalso;apply hne;simp;omega
  rw [if_neg (by omega)] at hA
  cases a with
  | none=>cases hA
  | some A0=>
   cases hA
   obtain⟨hs,hh⟩:=d A0 rfl (fun e=>by subst e;simp at h2;omega);refine⟨JX hs _,fun i z hz=>?_⟩;rw [List.getElem?_take] at hz
   split at hz
   ·rw [List.getElem?_drop] at hz;obtain⟨c,hc,hcell⟩:=hh (lo+i) z hz;refine⟨c,hc,fun j u hu=>?_⟩;rw [Jt hs,show lo * r.sz+(i * r.sz+j)=(lo+i) * r.sz+j from by rw [Nat.add_mul];omega];exact hcell j u hu
   ·cases hz
def loB(L:Env)(lo:Option Operand)(a:Nat):Prop:=match lo with | some o=>∃ k,ev L o=some (.int k (a:Int)) | none=>a=0
def hiB(L:Env)(hi:Option Operand)(b m:Nat):Prop:=match hi with | some o=>∃ k,ev L o=some (.int k (b:Int)) | none=>b=m
theorem VR[Dr]{l:List α}{lo hi:Option Operand}{zz:Value}{bt:Nat}(hx:ev L x=some v)(ht:P.underlying t=some (.slice e))(he:Zr P e zz r.sz bt)(hv:AI r H v l)(a b:Nat)
  (ha:loB L lo a) (hb:hiB L hi b l.length) (f:a≤b) (h2:b≤l.length) :
  ∃ v',AI r H v' ((l.drop a).take (b - a))∧∀ w,Bv P L w (.slice t x lo hi none) ty v':=by
 obtain⟨A,cap,d,hsub⟩:=hv.sub a b f h2;refine⟨_,hsub,fun w w' _ ρ hρ dst pos af g=>?_⟩;obtain⟨inf,c,u,j,y⟩:=he.parts;obtain⟨A',cap',k,o,p,q,s⟩:=hv.ex;have hcc:cap=cap':=by rw [d] at k;cases k;rfl
 have hbc:b≤cap:=by omega
 subst d;have z:(b:Int)≤(cap:Int):=by omega
 have e3:(a:Int)≤(b:Int):=by omega
 cases lo with
 | none=>
  simp only [loB] at ha;subst ha
  cases hi with
  | none=>
   simp only [hiB] at hb;subst hb;simp [execOp,hρ x _ hx,Instr.sliceAt,run_underlying ht,Instr.slice,Instr.sliceBounds,sizeOf,typeInfo,c]
  | some i=>
   obtain⟨n,hb⟩:=hb;simp [execOp,hρ x _ hx,hρ i _ hb,Instr.sliceAt,run_underlying ht,Instr.slice,Instr.sliceBounds,Instr.sliceBound,asIntOf,sizeOf,typeInfo,c,hbc]
 | some m=>
  obtain⟨k1,ha⟩:=ha
  cases hi with
  | none=>
   simp only [hiB] at hb;subst hb;simp [execOp,hρ x _ hx,hρ m _ ha,Instr.sliceAt,run_underlying ht,Instr.slice,Instr.sliceBounds,Instr.sliceBound,asIntOf,sizeOf,typeInfo,c,j,f]
  | some i=>
   obtain⟨n,hb⟩:=hb;simp [execOp,hρ x _ hx,hρ m _ ha,hρ i _ hb,Instr.sliceAt,run_underlying ht,Instr.slice,Instr.sliceBounds,Instr.sliceBound,asIntOf,sizeOf,typeInfo,c,j,hbc,f]
theorem getD_some{β:Type}[Inhabited β]{l:List β}{m:Nat}(h:m<l.length):l[m]? = some (l.getD m default):=by simp [h]
theorem Bb[Dr][Inhabited α]{l:List α}{k:IntKind}{i:Int}{zz:Value}{bt:Nat}(hx:ev L x=some v)(hy:ev L y=some (.int k i))(ht:P.underlying t=some (.slice e))(he:Zr P e zz r.sz bt)(hv:AI r H v l)(m:Nat)(hm:i=(m:Int))(hlt:m<l.length)(hn:Nat.blt d n.n=true)
  (h:∀ p c,r.rel H (l.getD m default) c→GS H p c→S P n ops Q rest ((d,.pointer (some p))::L) w):S P n ops Q (⟨some d,.indexAddr t x y,ty,pos,af,none⟩::rest) L w:=by
 obtain⟨p,c,a,h2,h3⟩:=VQ (P:=P) (ty:=ty) hx hy ht he hv m hm (getD_some hlt);exact Ae (h3 w) hn (h p c a h2)
theorem HE[Dr][Inhabited α]{lo:List Oper}{ix:Nat}{tr:Tr}{l:List α}{k:IntKind}{i:Int}{zz:Value}{bt:Nat}(ho:H8 lo ix=some ⟨some d,.indexAddr t x y,ty,pos,af,none⟩)(hx:ev L x=some v)(hy:ev L y=some (.int k i))(ht:P.underlying t=some (.slice e))(he:Zr P e zz r.sz bt)(hv:AI r H v l)(m:Nat)(hm:i=(m:Int))(hlt:m<l.length)(hn:Nat.blt d n.n=true)
  (h:∀ p c,r.rel H (l.getD m default) c→GS H p c→D P n lo Q tr ((d,.pointer (some p))::L) w):D P n lo Q (.q ix tr) L w:=by
 obtain⟨p,c,a,h2,h3⟩:=VQ (P:=P) (ty:=ty) hx hy ht he hv m hm (getD_some hlt);exact BH (h3 w) ho hn (h p c a h2)
theorem Tl[Dr]{l:List α}{lo hi:Option Operand}{zz:Value}{bt:Nat}(hx:ev L x=some v)(ht:P.underlying t=some (.slice e))(he:Zr P e zz r.sz bt)(hv:AI r H v l)(a b:Nat)
  (ha:loB L lo a) (hb:hiB L hi b l.length) (hab:a≤b∧b≤l.length) (hn:Nat.blt d n.n=true)
  (h:∀ v',AI r H v' ((l.drop a).take (b - a))→S P n ops Q rest ((d,v')::L) w):S P n ops Q (⟨some d,.slice t x lo hi none,ty,pos,af,none⟩::rest) L w:=by
 obtain⟨v',c,h2⟩:=VR (P:=P) (ty:=ty) hx ht he hv a b ha hb hab.1 hab.2;exact Ae (h2 w) hn (h v' c)
theorem Z7[Dr]{lop:List Oper}{ix:Nat}{tr:Tr}{l:List α}{lo hi:Option Operand}{zz:Value}{bt:Nat}(ho:H8 lop ix=some ⟨some d,.slice t x lo hi none,ty,pos,af,none⟩)(hx:ev L x=some v)(ht:P.underlying t=some (.slice e))(he:Zr P e zz r.sz bt)(hv:AI r H v l)(a b:Nat)
  (ha:loB L lo a) (hb:hiB L hi b l.length) (hab:a≤b∧b≤l.length) (hn:Nat.blt d n.n=true)
  (h:∀ v',AI r H v' ((l.drop a).take (b - a))→D P n lop Q tr ((d,v')::L) w):D P n lop Q (.q ix tr) L w:=by
 obtain⟨v',c,h2⟩:=VR (P:=P) (ty:=ty) hx ht he hv a b ha hb hab.1 hab.2;exact BH (h2 w) ho hn (h v' c)
theorem AI.one{l:List α}(h:AI r H v l):v.oneCell'=true:=by obtain⟨a,c,rfl⟩:=h.header;rfl
end
end Go.E
namespace Go.E
open Go Go.RowKit
theorem Cj:∀ u∈([]:List Value),u.oneCell'=true:=fun _ h=>by cases h
theorem AH{v:Value}{l:List Value}(hv:v.oneCell'=true)(hl:∀ u∈l,u.oneCell'=true):∀ u∈v::l,u.oneCell'=true:=fun u hu=>by
 cases hu with
 | head=>exact hv
 | tail _ h=>exact hl u h
theorem C0[Dr](w:World)(o:Obj):Ext w (w.alloc o):=⟨(Below.refl _ _).alloc (Nat.le_refl _) o,fun _=>Nat.le_refl _⟩
theorem Nn[Dr]{w w':World}(hd:w.drawn≤w'.drawn)(h:w.grownBy w' none):Ext w w':=⟨⟨h.os,h.tape,h.output,h.size,fun k hk=>h.block k hk (by simp)⟩,fun _=>hd⟩
def Us:List Value→Nat→Value→List Value
 | [],_,_=>[]
 | _::l,0,v=>v::l
 | u::l,i+1,v=>u::Us l i v
theorem VS:∀ (l:List Value) (i:Nat) (v:Value),Us l i v=l.set i v
 | [],_,_=>by simp [Us]
 | _::_,0,_=>by simp [Us]
 | _::l,i+1,v=>by simp [Us,VS l i v]
section
variable {P:Program} {n:Sz} {ops:Array Oper} {Q:Exit→Act→World→Prop} {L:Env} {w w0:World} {O:List BG} {rest:List Oper}
 {d:Nat} {ty:TypeId} {pos:String} {af:Array Edge} {α:Type} {r:Rp α} {H:PH} {x y:Operand} {v:Value} {t e:TypeId}
theorem S7{z:Value}{sz bt:Nat}(hz:Zr P t z sz bt)(w:World)(ρ:Operand→Value)(o:Oper)(ho:o.op=.alloc t):(execOp ρ o).run P w=.ok (.value (.pointer (some ⟨w.heap.size,0,none⟩))) (w.alloc (.cells z.cells t)):=by
 obtain⟨inf,a,h2,h3,b⟩:=hz.parts;simp [execOp,ho,Instr.alloc,zeroValue,typeInfo,a,h2,newVar,newRow]
theorem Tm[Dr]{cs:List Value}(hL:AO w0 O w):AO w0 (.box w.heap.size cs t::O) (w.alloc (.cells cs.toArray t)):=
 hL.new (C0 _ _) (heap_alloc_new w _) (fun b hb=>by cases hb;exact Nat.le_refl _)
theorem P5[Dr]{cs:List Value}(hL:AO w0 O w):Le (fz w O) (fz (w.alloc (.cells cs.toArray t)) (.box w.heap.size cs t::O)):=
 O5 hL (C0 _ _) (fun b hb=>by cases hb;exact Nat.le_refl _)
theorem AG[Dr]{z:Value}{sz bt:Nat}{cs:List Value}(hz:Zr P t z sz bt)(hc:z.cells.toList=cs)(hn:Nat.blt d n.n=true)(hL:AO w0 O w)
  (h:∀ w' b,AO w0 (.box b cs t::O) w'→Le (fz w O) (fz w' (.box b cs t::O))→Ext w w'→S P n ops Q rest ((d,.pointer (some ⟨b,0,none⟩))::L) w'):S P n ops Q (⟨some d,.alloc t,ty,pos,af,none⟩::rest) L w:=by
 subst hc;refine Ds rfl rfl hn (fun ρ _=>S7 hz w ρ _ rfl) ?_;have e:(Obj.cells z.cells t:Obj)=.cells z.cells.toList.toArray t:=by simp
 rw [e];exact h _ _ (Tm hL) (P5 hL) (C0 _ _)
theorem CK[Dr]{cs:List Value}(hx:ev L x=some v)(hc:v.cells.toList=cs)(hn:Nat.blt d n.n=true)(hL:AO w0 O w)
  (h:∀ w' b,AO w0 (.box b cs t::O) w'→Le (fz w O) (fz w' (.box b cs t::O))→Ext w w'→S P n ops Q rest ((d,.pointer (some ⟨b,0,none⟩))::L) w'):S P n ops Q (⟨some d,.box t x,ty,pos,af,none⟩::rest) L w:=by
 subst hc;refine Ds (v:=.pointer (some ⟨w.heap.size,0,none⟩)) (w':=w.alloc (.cells v.cells t)) rfl rfl hn (fun ρ hρ=>by simp [execOp,hρ x _ hx,Instr.box,newVar,newRow]) ?_;have e:(Obj.cells v.cells t:Obj)=.cells v.cells.toList.toArray t:=by simp
 rw [e];exact h _ _ (Tm hL) (P5 hL) (C0 _ _)
theorem AT[Dr]{i b:Nat}{cs:List Value}{t':TypeId}(hL:AO w0 O w)(hi:D8 O i=some (.box b cs t')):GS (hp w) ⟨b,0,none⟩ cs:=
 ⟨rfl,fun j u hu=>by
  have:=hL.at hi;rw [Addr.add_lit,Nat.zero_add,Uj,cell_of_row w b j _ _ _ this]
  simpa using hu⟩
theorem Re:∀ (cs:List Value) (o:Nat) (u:Value),nth cs o=some u→∃ c,cs.drop o=u::c
 | _::cs,0,u,h=>by simp only [nth,Option.some.injEq] at h;subst h;exact⟨cs,rfl⟩
 | _::cs,o+1,u,h=>Re cs o u h
theorem Ag[Dr](i:Nat){b off:Nat}{cs:List Value}{t':TypeId}{u:Value}{dd:TypeDesc}(hx:ev L x=some (.pointer (some ⟨b,off,none⟩)))(ht:P.underlying t=some dd)(hd:Tk dd=true)(hL:AO w0 O w)(hi:D8 O i=some (.box b cs t'))(hu:nth cs off=some u):Bv P L w (.load t x) ty u:=by
 obtain⟨c,hc⟩:=Re cs off u hu;have a:=(AT hL hi).add off;rw [hc,Addr.add_lit,Nat.zero_add] at a;exact Be hx ht hd a (Le.refl _)
theorem AE[Dr](i:Nat){b:Nat}{cs:List Value}{t':TypeId}{dd:TypeDesc}{zz:Value}{bt:Nat}(hx:ev L x=some (.pointer (some ⟨b,0,none⟩)))(ht:P.underlying t=some dd)(hd:Ur dd=true)(hz:Zr P t zz cs.length bt)(hL:AO w0 O w)(hi:D8 O i=some (.box b cs t')):Bv P L w (.load t x) ty (.agg cs.toArray):=
 C1 hx ht hd hz (AT hL hi) (Le.refl _)
theorem LW(w:World)(g:Nat)(cur cs:Array Value)(t:TypeId)(hg:w.heap[g]? = some (.cells cur t (0,0))):(w.setRow g cs).heap[g]? = some (.cells cs t (0,0)):=setRow_heap w g cur cs t (0,0) hg
theorem Np(w:World)(g:Nat)(cs:Array Value):w.grownBy (w.setRow g cs) (some g):=
 ⟨rfl,rfl,rfl,by simp,fun k _ hk=>setRow_other w g k _ (fun e=>hk (by simp [e]))⟩
theorem Aj[Dr](i:Nat){b:Nat}{cs vs:List Value}{t':TypeId}{zz:Value}{bt:Nat}(hx:ev L x=some (.pointer (some ⟨b,0,none⟩)))(hy:ev L y=some v)(hc:v.cells.toList=vs)(hz:Zr P t zz vs.length bt)(hL:AO w0 O w)(hi:D8 O i=some (.box b cs t'))(hlen:cs.length=vs.length)(a:∀ u∈vs,u.oneCell'=true)
  (h:∀ w',AO w0 (Dc O i (.box b vs t')) w'→Le (fz w O) (fz w' (Dc O i (.box b vs t')))→S P n ops Q rest L w'):S P n ops Q (⟨none,.store t x y,ty,pos,af,none⟩::rest) L w:=by
 subst hc;obtain⟨inf,c,f,d,g⟩:=hz.parts;have hb:w.heap[b]? = some (.cells cs.toArray t' (0,0)):=hL.at hi;have hst:=run_storeCells_at P b 0 t' v.cells.toList 0 cs.toArray w hb (by simp at hlen ⊢;omega) a;simp only [Nat.zero_add,List.take_zero,List.nil_append] at hst;have hdrop:cs.drop v.cells.toList.length=[]:=by simp at hlen ⊢;omega
 simp only [hdrop,List.append_nil,Array.toArray_toList] at hst;have hsz:v.cells.size=inf.size:=by rw [d];simp
 refine LU (w':=w.setRow b v.cells) rfl rfl (fun ρ hρ=>by
  simp [execOp,hρ x _ hx,hρ y _ hy,Instr.storeAt,Instr.sureAddr,storeVar,sizeOf,typeInfo,c,hsz,hst]) ?_
 have hg:=Np w b v.cells
 have hok:BG.ok (w.setRow b v.cells) (.box b v.cells.toList t'):=by
  show(w.setRow b v.cells).heap[b]? = _
  simpa using LW w b cs.toArray v.cells t' hb
 exact h _ (hL.LH hi (Nat.le_refl _) hg hok (fun b' e=>.inl e)) (Hz hL hi hg (fun b' e=>.inl e))
theorem Bi[Dr](i:Nat){b off:Nat}{cs:List Value}{t':TypeId}{zz:Value}{bt:Nat}(hx:ev L x=some (.pointer (some ⟨b,off,none⟩)))(hy:ev L y=some v)(hv:v.oneCell'=true)(hz:Zr P t zz 1 bt)(hL:AO w0 O w)(hi:D8 O i=some (.box b cs t'))(hlt:Nat.blt off cs.length=true)
  (h:∀ w',AO w0 (Dc O i (.box b (Us cs off v) t')) w'→Le (fz w O) (fz w' (Dc O i (.box b (Us cs off v) t')))→S P n ops Q rest L w'):S P n ops Q (⟨none,.store t x y,ty,pos,af,none⟩::rest) L w:=by
 obtain⟨inf,a,d,c,f⟩:=hz.parts;have hb:w.heap[b]? = some (.cells cs.toArray t' (0,0)):=hL.at hi;have hlt':=Ni hlt;have hvc:v.cells = #[v]:=by cases v <;> simp_all [Value.cells,Value.oneCell']
 have hst:=run_storeCells_at P b off t' [v] 0 cs.toArray w hb (by simp;omega) (by simpa using hv);have hcell:w.cell? ⟨b,off,none⟩=some cs[off]:=by rw [cell_of_row w b off _ _ _ hb];simp [hlt']
 have hfz:w.frozen? ⟨b,off,none⟩=false:=frozen_of_row w b off _ _ hb
 refine LU (w':=w.setCell ⟨b,off,none⟩ v) rfl rfl (fun ρ hρ=>by
  simp [execOp,hρ x _ hx,hρ y _ hy,Instr.storeAt,Instr.sureAddr,storeVar,sizeOf,typeInfo,a,c,hvc,storeCells,run_store,hv,Addr.add_zero',hcell,hfz]) ?_
 have hsame:=heap_setCell_same w b off cs.toArray t' v hb;have hg:w.grownBy (w.setCell ⟨b,off,none⟩ v) (some b):=⟨rfl,rfl,rfl,by simp,fun k _ hk=>heap_setCell_other w ⟨b,off,none⟩ k v (fun e=>hk (by simp [e]))⟩
 have hok:BG.ok (w.setCell ⟨b,off,none⟩ v) (.box b (Us cs off v) t'):=by
  show(w.setCell ⟨b,off,none⟩ v).heap[b]? = _
  rw [hsame,VS];simp
 exact h _ (hL.LH hi (Nat.le_refl _) hg hok (fun b' e=>.inl e)) (Hz hL hi hg (fun b' e=>.inl e))
theorem Bs[Dr]{f:FuncId}{args:List Operand}{vs:List Value}{at_:Array TypeId}{R:Value→World→Prop}(ha:OL L args=some vs)(hn:Nat.blt d n.n=true)(hL:AO w0 O w)(hok:Ok P f vs w (fun v w'=>Ext w w'∧R v w'))
  (h:∀ v w',R v w'→Ext w w'→AO w0 O w'→Le (fz w O) (fz w' O)→S P n ops Q rest ((d,v)::L) w'):S P n ops Q (⟨some d,.call ⟨.value (.func f),args.toArray,at_⟩,ty,pos,af,none⟩::rest) L w:=
 DA ha hn hok fun v w' ⟨hx,hR⟩=>h v w' hR hx (hL.call hx) (AV hL hx)
theorem AF[Dr]{f:FuncId}{args:List Operand}{vs:List Value}{at_:Array TypeId}{v:Value}(ha:OL L args=some vs)(hn:Nat.blt d n.n=true)(hL:AO w0 O w)(hok:Ok P f vs w (fun u w'=>Ext w w'∧u=v))
  (h:∀ w',Ext w w'→AO w0 O w'→Le (fz w O) (fz w' O)→S P n ops Q rest ((d,v)::L) w'):S P n ops Q (⟨some d,.call ⟨.value (.func f),args.toArray,at_⟩,ty,pos,af,none⟩::rest) L w:=
 Bs (R:=fun u _=>u=v) ha hn hL hok fun u w' hu hx a h2=>by subst hu;exact h w' hx a h2
def Z8(L:Env):List (Nat×Operand)→Option (List (Nat×Value))
 | []=>some []
 | (i,x)::l=>match ev L x,Z8 L l with
  | some v,some vs=>some ((i,v)::vs)
  | _,_=>none
theorem Vg.Z9{ρ:Operand→Value}(h:Vg L ρ):∀ (l:List (Nat×Operand)) (vs:List (Nat×Value)),Z8 L l=some vs→l.map (fun(i,x)=>(i,ρ x))=vs
 | [],vs,e=>by simp only [Z8,Option.some.injEq] at e;simpa using e
 | (i,x)::l,vs,e=>by
  unfold Z8 at e
  split at e
  ·rename_i v us a h2;cases e;simp [h x v a,Vg.Z9 h l us h2]
  ·cases e
theorem AZ[Dr]{ps:List (Nat×Operand)}{vs:List (Nat×Value)}{u:Value}(hp:Z8 L ps=some vs)(hr:∀ w,(Instr.build t vs.toArray).run P w=.ok u w):Bv P L w (.build t ps.toArray) ty u:=by
 intro w' _ ρ hρ dst pos af g;have e:=hρ.Z9 _ _ hp;have e':(ps.toArray.map fun(i,x)=>(i,ρ x))=vs.toArray:=by rw [← e];simp
 simp [execOp,e',hr w',-List.map_toArray]
def Src(H:PH)(sz:Nat)(v:Value)(m:Nat)(news:List Value):Prop:=
 news.length=m * sz∧∃ a cap,v=.slice a m cap∧m≤cap∧cap≤maxLen∧(a=none→cap=0)∧∀ A,a=some A→m≠0→A.spot=none∧∀ j u,news[j]? = some u→Gu H (A.add j)=some u
theorem Src.mono{H':PH}{sz m:Nat}{news:List Value}(h:Src H sz v m news)(hs:Le H H'):Src H' sz v m news:=by
 obtain⟨c,a,cap,h2,h3,d,e,b⟩:=h;exact⟨c,a,cap,h2,h3,d,e,fun A hA hm=>⟨(b A hA hm).1,fun j u hu=>GV hs ((b A hA hm).2 j u hu)⟩⟩
theorem AI.elems{l:List α}(hv:AI r H v l):∃ news,AJ r H l news∧Src H r.sz v l.length news:=by
 obtain⟨a,cap,f,h2,h3,e,g⟩:=hv.ex
 cases a with
 | none=>
  have:l.length=0:=by have:=e rfl;omega
  have:l=[]:=List.eq_nil_of_length_eq_zero this;subst this;exact⟨[],.nil,by simp,none,cap,f,h2,h3,e,fun A hA=>by cases hA⟩
 | some A=>
  by_cases hl:l=[]
  ·subst hl;exact⟨[],.nil,by simp,some A,cap,f,h2,h3,e,fun _ _ hm=>absurd rfl hm⟩
  obtain⟨hs,hh⟩:=g A rfl hl
  have key:∀ (m:List α) (k:Nat),(∀ i x,m[i]? = some x→∃ c,r.rel H x c∧∀ j u,c[j]? = some u→Gu H (A.add ((k+i) * r.sz+j))=some u)→
    ∃ news,AJ r H m news∧∀ j u,news[j]? = some u→Gu H (A.add (k * r.sz+j))=some u:=by
   intro m
   induction m with
   | nil=>intro k _;exact⟨[],.nil,fun j u hu=>by cases hu⟩
   | cons x m ih=>
    intro k hm;obtain⟨c,hc,hcell⟩:=hm 0 x (by simp);obtain⟨news,b,d⟩:=ih (k+1) (fun i y hy=>by have:=hm (i+1) y (by simpa using hy);rwa [show k+(i+1)=k+1+i from by omega] at this);refine⟨c++news,.cons hc b,fun j u hu=>?_⟩
    rcases Nat.lt_or_ge j c.length with hj | hj
    ·rw [List.getElem?_append_left hj] at hu;have:=hcell j u hu
     rwa [Nat.add_zero] at this
    ·rw [List.getElem?_append_right hj] at hu;have:=d _ u hu;rw [r.len hc] at this hj;rw [show k * r.sz+j=(k+1) * r.sz+(j - r.sz) from by rw [Nat.add_mul];omega];exact this
  obtain⟨news,b,d⟩:=key l 0 (fun i x hx=>by rw [Nat.zero_add];exact hh i x hx);refine⟨news,b,b.len,some A,cap,f,h2,h3,e,fun A' hA' _=>?_⟩
  cases hA'
  exact⟨hs,fun j u hu=>by have:=d j u hu;rwa [Nat.zero_mul,Nat.zero_add] at this⟩
theorem Rf{l:List α}{news:List Value}(he:AJ r H l news)(h:Src H r.sz v l.length news):AI r H v l:=by
 obtain⟨g,a,cap,h2,h3,b,d,f⟩:=h;refine⟨a,cap,h2,h3,b,d,fun A hA hl=>?_⟩;obtain⟨hs,hh⟩:=f A hA (fun e=>hl (List.eq_nil_of_length_eq_zero e));refine⟨hs,fun i x hx=>?_⟩;obtain⟨c,hc,hcell⟩:=he.at i x hx;exact⟨c,hc,fun j u hu=>hh _ u (hcell j u hu)⟩
theorem Vj[Dr]{i sz bt m k:Nat}{zz u:Value}{xs news:List Value}(ht:P.underlying t=some (.slice e))(hz:Zr P e zz sz bt)(hzs:zz.cells.size=sz)(hsz:0<sz)(hL:AO w0 O w)(hi:D8 O i=some (.row v e sz m xs))(hs:Src (hp w) sz u k news)(n:∀ c∈news,c.oneCell'=true)
  (hby:(m+k) * bt≤140737488355328) (hm:m+k≤9223372036854775807) :
  ∃ v' w',(Builtin.append_ #[t,t] ty #[v,u]).run P w=.ok v' w'∧AO w0 (Dc O i (.row v' e sz (m+k) (xs++news))) w'∧Le (fz w O) (fz w' (Dc O i (.row v' e sz (m+k) (xs++news)))):=by
 obtain⟨inf,f,l,o,p⟩:=hz.parts;have hown:w.ownsRow 0 e sz v m xs:=hL.at hi;obtain⟨hl,a,cap,hu,x,y,q,r⟩:=hs;have s:m+k≤maxLen:=by unfold maxLen;omega
 have fin:∀ v' w',w.drawn≤w'.drawn→w'.ownsRow 0 e sz v' (m+k) (xs++news)→w.grownBy w' v.ownBlock→(∀ b,v'.ownBlock=some b→v.ownBlock=some b∨w.heap.size≤b)→
   AO w0 (Dc O i (.row v' e sz (m+k) (xs++news))) w'∧Le (fz w O) (fz w' (Dc O i (.row v' e sz (m+k) (xs++news)))):=fun v' w' hdr h2 h3 hb=>
  ⟨hL.LH hi hdr h3 h2 hb,Hz (r':=.row v' e sz (m+k) (xs++news)) hL hi h3 hb⟩
 by_cases h:k=0
 ·subst h;have hn:news=[]:=List.eq_nil_of_length_eq_zero (by simpa using hl);subst hn;refine⟨v,w,?_,?_⟩
  ·obtain⟨va,vc,rfl⟩:=KL hown
   have hle:m≤vc:=by
    rcases hown.2 with ⟨he,hn⟩ | ⟨g,cap,cur,he,_,_,hnc,_⟩
    ·cases he;omega
    ·cases he;exact hnc
   subst hu
   cases a with
   | none=>cases va <;> simp [Builtin.append_,run_underlying ht,sizeOf,typeInfo,f,Builtin.lenOf,Builtin.firstCells,hle,storeCells]
   | some A=>cases va <;> simp [Builtin.append_,run_underlying ht,sizeOf,typeInfo,f,Builtin.lenOf,Builtin.firstCells,hle,storeCells,loadCells,loadCellsFrom]
  ·have:=fin v w (Nat.le_refl _) (by simpa using hown) (World.grownBy.refl w _) (fun b hb=>.inl hb);exact this
 ·cases a with
  | none=>have:=q rfl;omega
  | some A=>
   subst hu;obtain⟨hspot,hcell⟩:=r A rfl h;obtain⟨v',w',hr,h2,h3,z⟩:=run_append_own (P:=P) w 0 t ty e inf zz sz bt ht f l o p hzs hsz v m xs hown A k cap news hl (fun j c hc=>hcell j c hc) n s hby (Nat.zero_le _);refine⟨v',w',hr,fin v' w' (NO _ _ _ _ hr) h2 h3 fun b hb=>?_⟩;subst o;subst p
   rcases hown.2 with ⟨rfl,rfl⟩ | ⟨g,cp,cur,rfl,hbg,hg,hnc,hcm,hcs,htake⟩
   ·have d:=run_append_nil (P:=P) w t ty e inf zz ht f l A k cap news hl (fun j c hc=>hcell j c hc) (by omega) (by omega) (by simp only [Nat.zero_add] at hby;omega);rw [hr] at d;simp only [Result.ok.injEq] at d;rw [d.1] at hb
    right;cases hb;exact Nat.le_refl _
   ·by_cases hroom:m+k≤cp
    ·have hfit:m * inf.size+news.length≤cur.size:=by rw [hl,hcs,← Nat.add_mul];exact Nat.mul_le_mul_right _ hroom
     have d:=run_append_room (P:=P) w t ty e inf ht f g m cp cur hg A k cap news hl (fun j c hc=>hcell j c hc) n hroom hfit;rw [hr] at d;simp only [Result.ok.injEq] at d;rw [d.1] at hb
     left;exact hb
    ·have holds:∀ j u,xs[j]? = some u→w.cell? ((⟨g,0,none⟩:Addr).add j)=some u:=hown.cells (g:=g) rfl;have d:=run_append_grow (P:=P) w t ty e inf zz ht f l ⟨g,0,none⟩ m cp xs hown.1 holds A k cap news hl (fun j c hc=>hcell j c hc) (by omega) (by omega) (growslice_fits (by omega) hby);rw [hr] at d;simp only [Result.ok.injEq] at d;rw [d.1] at hb
     right;cases hb;exact Nat.le_refl _
theorem Rg[Dr](i:Nat){sz bt m k:Nat}{zz u:Value}{xs news:List Value}(hx:ev L x=some v)(hy:ev L y=some u)(ht:P.underlying t=some (.slice e))(hz:Zr P e zz sz bt)(hzs:zz.cells.size=sz)(hsz:0<sz)(hn:Nat.blt d n.n=true)(hL:AO w0 O w)(hi:D8 O i=some (.row v e sz m xs))(hs:Src (hp w) sz u k news)(a:∀ c∈news,c.oneCell'=true)
  (hby:(m+k) * bt≤140737488355328∧m+k≤9223372036854775807)
  (h:∀ v' w',AO w0 (Dc O i (.row v' e sz (m+k) (xs++news))) w'→Le (fz w O) (fz w' (Dc O i (.row v' e sz (m+k) (xs++news))))→S P n ops Q rest ((d,v')::L) w') :
  S P n ops Q (⟨some d,.call ⟨.builtin .append,#[x,y],#[t,t]⟩,ty,pos,af,none⟩::rest) L w:=by
 obtain⟨v',w',hr,hL',hle⟩:=Vj (ty:=ty) ht hz hzs hsz hL hi hs a hby.1 hby.2;refine Ds (v:=v') (w':=w') rfl rfl hn (fun ρ hρ=>?_) (h v' w' hL' hle);simp [execOp,resolve,invoke,builtin,hρ x _ hx,hρ y _ hy,hr]
theorem K7[Dr]{w':World}{sz m:Nat}{xs:List Value}(hL:AO w0 O w)(hx:Ext w w')(ho:w'.ownsRow w.heap.size e sz v m xs):AO w0 (.row v e sz m xs::O) w'∧Le (fz w O) (fz w' (.row v e sz m xs::O)):=by
 have hb:∀ b,BG.block (.row v e sz m xs)=some b→w.heap.size≤b:=fun b hb=>(ho.lt b hb).1;exact⟨hL.new hx (OO ho (fun _ _=>Nat.zero_le _)) hb,O5 hL hx hb⟩
theorem QH[Dr](hL:AO w0 O w)(e:TypeId)(sz:Nat):AO w0 (.row (.slice none 0 0) e sz 0 []::O) w∧Le (fz w O) (fz w (.row (.slice none 0 0) e sz 0 []::O)):=
 K7 hL (Ext.refl w) (World.ownsRow_nil w _ e sz)
theorem Abj[Dr]{bt m:Nat}{k k':IntKind}{zz:Value}{c c':Int}(hx:ev L x=some (.int k c))(hy:ev L y=some (.int k' c'))(hcc:c=m∧c'=m)(ht:P.underlying t=some (.slice e))(hz:Zr P e zz 1 bt)(hzc:zz.cells = #[zz])(hn:Nat.blt d n.n=true)(hL:AO w0 O w)(hm:bt * m≤281474976710656∧m≤9223372036854775807)
  (h:∀ v' w',Ext w w'→AO w0 (.row v' e 1 m (List.replicate m zz)::O) w'→Le (fz w O) (fz w' (.row v' e 1 m (List.replicate m zz)::O))→S P n ops Q rest ((d,v')::L) w') :
  S P n ops Q (⟨some d,.makeSlice t x y,ty,pos,af,none⟩::rest) L w:=by
 obtain⟨inf,a,b,f,g⟩:=hz.parts;obtain⟨rfl,rfl⟩:=hcc;obtain⟨w',hr,ho,hg⟩:=run_make_full (P:=P) w w.heap.size t e inf zz 1 ht a b f k k' m (by rw [g];exact hm.1) (by unfold maxLen;omega) (Nat.le_refl _);rw [hzc,Nat.mul_one,toList_madeCells_one] at ho;have hx':=Nn (NO _ _ _ _ hr) hg;obtain⟨i,h2⟩:=K7 hL hx' ho;exact Ds rfl rfl hn (fun ρ hρ=>by simp [execOp,hρ x _ hx,hρ y _ hy,hr]) (h _ _ hx' i h2)
theorem AaL[Dr]{ps:List (Nat×Operand)}{vs:List (Nat×Value)}{len sz:Nat}{cs:List Value}(hp':Z8 L ps=some vs)(hr:∀ w,(Instr.buildSlice t len vs.toArray).run P w=.ok (.slice (some ⟨w.heap.size,0,none⟩) len len) (w.alloc (.cells cs.toArray e)))(hc:cs.length=len * sz)(hlen:len≤9223372036854775807)(hn:Nat.blt d n.n=true)(hL:AO w0 O w)
  (h:∀ u w',Ext w w'→AO w0 O w'→Le (fz w O) (fz w' O)→Src (nw w w') sz u len cs→w'.ownsRow w.heap.size e sz u len cs→S P n ops Q rest ((d,u)::L) w') :
  S P n ops Q (⟨some d,.buildSlice t len ps.toArray,ty,pos,af,none⟩::rest) L w:=by
 have hx:=C0 w (.cells cs.toArray e);refine Ds rfl rfl hn (fun ρ hρ=>?_) (h _ _ hx (hL.call hx) (AV hL hx) ⟨hc,some ⟨w.heap.size,0,none⟩,len,rfl,Nat.le_refl _,by unfold maxLen;omega,(fun e=>by cases e),fun A hA _=>?_⟩ ?_)
 ·have a:=hρ.Z9 _ _ hp';have e':(ps.toArray.map fun(i,x)=>(i,ρ x))=vs.toArray:=by rw [← a];simp
  simp [execOp,e',hr w,-List.map_toArray]
 ·cases hA
  refine⟨rfl,fun j u hu=>?_⟩;simp only [Addr.add_lit,Nat.zero_add,Gu,nw,Nat.le_refl,if_true,heap_alloc_new]
  simpa using hu
 ·have:=World.ownsRow_lit (base:=w.heap.size) (e:=e) (size:=sz) w cs.toArray len (Nat.le_refl _) (by unfold maxLen;omega) (by simpa using hc)
  simpa using this
def Nq(v:Value)(k:Nat)(p:Addr):Prop:=v.ownBlock=some p.block∧p.off=k∧p.spot=none
theorem XG[Dr](i:Nat){sz bt m:Nat}{zz:Value}{xs:List Value}{k:IntKind}{c:Int}(hx:ev L x=some v)(hy:ev L y=some (.int k c))(ht:P.underlying t=some (.slice e))(hz:Zr P e zz sz bt)(hL:AO w0 O w)(hi:D8 O i=some (.row v e sz m xs))(j:Nat)(hj:c=(j:Int))(hlt:j<m):
  ∃ p,Nq v (j * sz) p∧∀ w,Bv P L w (.indexAddr t x y) ty (.pointer (some p)):=by
 obtain⟨inf,a,d,b,f⟩:=hz.parts;have hown:w.ownsRow 0 e sz v m xs:=hL.at hi
 rcases hown.2 with ⟨rfl,rfl⟩ | ⟨g,cp,cur,rfl,hbg,hg,hnc,hcm,hcs,htake⟩
 ·omega
 ·subst hj;refine⟨⟨g,j * sz,none⟩,⟨rfl,rfl,rfl⟩,fun w w' _ ρ hρ dst pos af gd=>?_⟩;have l:(0:Int)≤(j:Int)∧(j:Int)<(m:Int):=by omega
  simp [execOp,hρ x _ hx,hρ y _ hy,Instr.indexAt,asIntOf,run_underlying ht,sizeOf,typeInfo,a,b,hlt,Addr.add_lit]
theorem KM[Dr](i:Nat){sz bt m:Nat}{zz:Value}{xs:List Value}{k:IntKind}{c:Int}(hx:ev L x=some v)(hy:ev L y=some (.int k c))(ht:P.underlying t=some (.slice e))(hz:Zr P e zz sz bt)(hL:AO w0 O w)(hi:D8 O i=some (.row v e sz m xs))(j:Nat)(hj:c=(j:Int))(hlt:j<m)(hn:Nat.blt d n.n=true)
  (h:∀ p,Nq v (j * sz) p→S P n ops Q rest ((d,.pointer (some p))::L) w):S P n ops Q (⟨some d,.indexAddr t x y,ty,pos,af,none⟩::rest) L w:=by
 obtain⟨p,a,h2⟩:=XG (P:=P) (ty:=ty) i hx hy ht hz hL hi j hj hlt;exact Ae (h2 w) hn (h p a)
theorem XH[Dr]{i sz m k:Nat}{xs:List Value}{p:Addr}{u:Value}{e':TypeId}(hL:AO w0 O w)(hi:D8 O i=some (.row v e' sz m xs))(hp':Nq v k p)(hu:xs[k]? = some u):w.cell? p=some u:=by
 have hown:w.ownsRow 0 e' sz v m xs:=hL.at hi;obtain⟨a,h2,h3⟩:=hp';obtain⟨b,o,s⟩:=p;simp only at a h2 h3;subst h2;subst h3;have hc:=hown.cells a o u hu
 rwa [Addr.add_lit,Nat.zero_add] at hc
theorem XI[Dr](i:Nat){sz bt m k:Nat}{zz u:Value}{xs:List Value}{p:Addr}{e':TypeId}(hx:ev L x=some (.pointer (some p)))(hy:ev L y=some u)(hv:u.oneCell'=true)(hz:Zr P t zz 1 bt)(hL:AO w0 O w)(hi:D8 O i=some (.row v e' sz m xs))(hp':Nq v k p)(hlt:k<xs.length)
  (h:∀ w',AO w0 (Dc O i (.row v e' sz m (xs.set k u))) w'→Le (fz w O) (fz w' (Dc O i (.row v e' sz m (xs.set k u))))→S P n ops Q rest L w'):S P n ops Q (⟨none,.store t x y,ty,pos,af,none⟩::rest) L w:=by
 obtain⟨inf,c,f,d,j⟩:=hz.parts;have hown:w.ownsRow 0 e' sz v m xs:=hL.at hi;have hcell:=XH hL hi hp' (List.getElem?_eq_getElem hlt);obtain⟨a,h2,h3⟩:=hp';obtain⟨b,o,s⟩:=p;simp only at a h2 h3;subst h2;subst h3
 rcases hown.2 with ⟨rfl,rfl⟩ | ⟨g,cp,cur,rfl,hbg,hg,hnc,hcm,hcs,htake⟩
 ·simp [Value.ownBlock] at a
 ·simp only [Value.ownBlock,Option.some.injEq] at a;subst a;have hst:=hown.stored o u;have hfz:w.frozen? ⟨g,o,none⟩=false:=hown.frozenAt o;have hvc:u.cells = #[u]:=by cases u <;> simp_all [Value.cells,Value.oneCell']
  refine LU (w':=w.setCell ⟨g,o,none⟩ u) rfl rfl (fun ρ hρ=>by
   simp [execOp,hρ x _ hx,hρ y _ hy,Instr.storeAt,Instr.sureAddr,storeVar,sizeOf,typeInfo,c,d,hvc,storeCells,run_store,hv,Addr.add_zero',hcell,hfz]) ?_
  exact h _ (hL.LH hi (by rw [drawn_setCell];exact Nat.le_refl _) hst.2 hst.1 (fun b e=>.inl e)) (Hz (r':=.row (.slice (some ⟨g,0,none⟩) m cp) e' sz m (xs.set o u)) hL hi hst.2 (fun b e=>.inl e))
theorem AO.AcG[Dr]{i:Nat}{l:List α}{xs:List Value}{e':TypeId}(hL:AO w0 O w)(hi:D8 O i=some (.row v e' r.sz l.length xs))(he:AJ r (fz w O) l xs):AI r (hp w) v l:=
 Ms (hL.at hi) he (VM w O) (fun _k _ _o ho=>ho)
theorem Own.take[Dr]{w':World}{l:List α}(hL:AO w0 O w)(hx:Ext w w')(h:Own e r w w' v l):∃ xs,AO w0 (.row v e r.sz l.length xs::O) w'∧Le (fz w O) (fz w' (.row v e r.sz l.length xs::O))∧AJ r (fz w' (.row v e r.sz l.length xs::O)) l xs:=by
 obtain⟨xs,a,h2⟩:=h;obtain⟨h3,b⟩:=K7 hL hx a;exact⟨xs,h3,b,h2.mono (Uk hL)⟩
end
theorem row_one{w:World}{v:Value}{e:TypeId}{sz n:Nat}{xs:List Value}(h:BG.ok w (.row v e sz n xs)):v.oneCell'=true:=by
 obtain⟨a,c,rfl⟩:=KL (b:=0) h;rfl
theorem XJ{α:Type}{r:Rp α}{f:α→Value}(hf:∀ H x c,r.rel H x c→c=[f x]){H:PH}{l:List α}{xs:List Value}(h:AJ r H l xs):xs=l.map f:=by
 induction h with
 | nil=>rfl
 | cons h _ ih=>rw [hf _ _ _ h,ih];rfl
def bv(b:UInt8):Value:=.int .u8 (b.toNat:Int)
theorem Ut{H:PH}{l:List UInt8}{xs:List Value}(h:AJ Rp.byte H l xs):xs=l.map bv:=XJ (fun _ _ _ h=>h) h
def nf(w0 w:World)(O:List BG):PH:=fun b=>if w0.heap.size≤b then fz w O b else none
theorem ZA{w0 w w':World}{O O':List BG}(h:Le (fz w O) (fz w' O')):Le (nf w0 w O) (nf w0 w' O'):=fun b o e=>by
 unfold nf at e ⊢
 split at e
 ·rename_i hb;rw [if_pos hb];exact h b o e
 ·cases e
theorem AaM{w0 w:World}{O:List BG}:Le (nf w0 w O) (fz w O):=fun b o e=>by
 unfold nf at e
 split at e
 ·exact e
 ·cases e
theorem AaN{w0 w:World}{O:List BG}:Le (nf w0 w O) (nw w0 w):=fun b o e=>by
 unfold nf at e
 split at e
 ·rename_i hb;unfold nw;rw [if_pos hb];exact VM w O b o e
 ·cases e
theorem Acb[Dr]{w0 w w':World}{O:List BG}(h:AO w0 O w):Le (nw w w') (nf w0 w' O):=fun b o e=>by
 have a:=AaI (w':=w') h b o e;unfold nw at e
 split at e
 ·rename_i hb;unfold nf;rw [if_pos (Nat.le_trans h.ext.size hb)];exact a
 ·cases e
theorem Abk{w0 w:World}{O:List BG}{i:Nat}{v:Value}{e:TypeId}{sz n:Nat}{xs:List Value}(hi:D8 O i=some (.row v e sz n xs)):Le (nf w0 w O) (Oo w0 w v):=fun b o h=>by
 have a:=AaN b o h;have h2:=AaM b o h;unfold Oo;rw [if_neg]
 ·exact a
 ·intro hb;unfold fz at h2;rw [if_pos (CW.2 ⟨_,(Dy hi).mem_iff.2 (.head _),hb⟩)] at h2
  cases h2
theorem H0(b:UInt8):IntKind.i64.wrap (b.toNat:Int)=(b.toNat:Int):=by
 have:=b.toNat_lt;exact wrap64 (by omega) (by omega)
section
variable {P:Program} {n:Sz} {ops:Array Oper} {Q:Exit→Act→World→Prop} {L:Env} {w w0:World} {O:List BG} {rest:List Oper}
 {d:Nat} {ty:TypeId} {pos:String} {af:Array Edge} {α:Type} {r:Rp α} {H:PH} {x y:Operand} {v:Value} {t t' e:TypeId}
theorem Acd[Dr]{op:BinOp}{k:IntKind}{a b c s:Int}(hx:ev L x=some (.int k a))(hy:ev L y=some (.int k b))(ho:arI op a b=some c)(hw:k.wrap c=s):Bv P L w (.binOp op t x y t') ty (.int k s):=by
 intro w' _ ρ hρ dst pos af g;subst hw
 cases op <;> simp only [arI,Option.some.injEq,reduceCtorEq] at ho <;> subst ho <;>
  simp [execOp,hρ x _ hx,hρ y _ hy,eqGuard,binOp,Op.intArith]
theorem AK[Dr]{op:BinOp}{a b c:Int}(hx:ev L x=some (.int .i64 a))(hy:ev L y=some (.int .i64 b))(ho:arI op a b=some c)(d : -9223372036854775808≤c∧c≤9223372036854775807):Bv P L w (.binOp op t x y t') ty (.int .i64 c):=
 Acd hx hy ho (wrap64 d.1 d.2)
theorem Ace[Dr]{a b:Int}(hx:ev L x=some (.int .i64 a))(hy:ev L y=some (.int .i64 b))(c:0≤a∧a≤9223372036854775807∧0<b):Bv P L w (.binOp .quo t x y t') ty (.int .i64 (a / b)):=by
 intro w' _ ρ hρ dst pos af g;have hb:b≠0:=by omega
 have⟨d,e⟩:=Z1 c.1 c.2.2;simp [execOp,hρ x _ hx,hρ y _ hy,eqGuard,binOp,Op.intDiv,hb,XB c.1,wrap64 (x:=a / b) (by omega) (by omega)]
theorem Acf[Dr]{a b:Int}{k:IntKind}(hx:ev L x=some (.int k a))(hy:ev L y=some (.int k b))(c:0≤a∧0<b):Bv P L w (.binOp .rem t x y t') ty (.int k (a % b)):=by
 intro w' _ ρ hρ dst pos af g;have hb:b≠0:=by omega
 simp [execOp,hρ x _ hx,hρ y _ hy,eqGuard,binOp,Op.intDiv,hb,XC c.1]
theorem EV[Dr]{k k':IntKind}{a s:Int}{u:TypeDesc}(hs:P.underlying t=some u)(ht:P.underlying t'=some (.int k))(hx:ev L x=some (.int k' a))(hw:k.wrap a=s):Bv P L w (.convert t t' x) ty (.int k s):=by
 intro w' _ ρ hρ dst pos af g;subst hw;simp [execOp,hρ x _ hx,convert,run_underlying hs,run_underlying ht,Conv.intToInt]
def Acg:BinOp→UInt8→UInt8→Option UInt8
 | .xor,a,b=>some (a ^^^ b)
 | .and,a,b=>some (a &&& b)
 | .or,a,b=>some (a ||| b)
 | _,_,_=>none
theorem ofInt8(a:UInt8):BitVec.ofInt 8 (a.toNat:Int)=a.toBitVec:=by
 apply BitVec.eq_of_toNat_eq;have:=a.toNat_lt;simp
theorem Abl[Dr]{op:BinOp}{a b c:UInt8}(hx:ev L x=some (.int .u8 (a.toNat:Int)))(hy:ev L y=some (.int .u8 (b.toNat:Int)))(ho:Acg op a b=some c):Bv P L w (.binOp op t x y t') ty (.int .u8 (c.toNat:Int)):=by
 intro w' _ ρ hρ dst pos af g;have hc:=c.toNat_lt
 cases op <;> simp only [Acg,Option.some.injEq,reduceCtorEq] at ho <;> subst ho
 ·have e:(Op.intBits .and .u8 (a.toNat:Int) (b.toNat:Int)).run P w'=.ok (.int .u8 ((a &&& b).toNat:Int)) w':=by
   show Result.ok (Value.int .u8 (IntKind.u8.wrap ((BitVec.ofInt 8 (a.toNat:Int) &&& BitVec.ofInt 8 (b.toNat:Int)).toNat:Int))) w'=_
   rw [ofInt8,ofInt8,show(a.toBitVec &&& b.toBitVec).toNat=(a &&& b).toNat from rfl,Vi (by omega) (by omega)]
  simp only [execOp,hρ x _ hx,hρ y _ hy,eqGuard,binOp,Sem.run_bind,ne_eq,not_true_eq_false,if_false,Bool.not_false,if_true,Sem.run_pure,Result.andThen_ok,e]
 ·have e:(Op.intBits .or .u8 (a.toNat:Int) (b.toNat:Int)).run P w'=.ok (.int .u8 ((a ||| b).toNat:Int)) w':=by
   show Result.ok (Value.int .u8 (IntKind.u8.wrap ((BitVec.ofInt 8 (a.toNat:Int) ||| BitVec.ofInt 8 (b.toNat:Int)).toNat:Int))) w'=_
   rw [ofInt8,ofInt8,show(a.toBitVec ||| b.toBitVec).toNat=(a ||| b).toNat from rfl,Vi (by omega) (by omega)]
  simp only [execOp,hρ x _ hx,hρ y _ hy,eqGuard,binOp,Sem.run_bind,ne_eq,not_true_eq_false,if_false,Bool.not_false,if_true,Sem.run_pure,Result.andThen_ok,e]
 ·have e:(Op.intBits .xor .u8 (a.toNat:Int) (b.toNat:Int)).run P w'=.ok (.int .u8 ((a ^^^ b).toNat:Int)) w':=by
   show Result.ok (Value.int .u8 (IntKind.u8.wrap ((BitVec.ofInt 8 (a.toNat:Int) ^^^ BitVec.ofInt 8 (b.toNat:Int)).toNat:Int))) w'=_
   rw [ofInt8,ofInt8,show(a.toBitVec ^^^ b.toBitVec).toNat=(a ^^^ b).toNat from rfl,Vi (by omega) (by omega)]
  simp only [execOp,hρ x _ hx,hρ y _ hy,eqGuard,binOp,Sem.run_bind,ne_eq,not_true_eq_false,if_false,Bool.not_false,if_true,Sem.run_pure,Result.andThen_ok,e]
def XK:BinOp→Nat→Nat→Option Nat
 | .xor,a,b=>some (a ^^^ b)
 | .and,a,b=>some (a &&& b)
 | .or,a,b=>some (a ||| b)
 | _,_,_=>none
theorem ZB[Dr]{op:BinOp}{a b c:Nat}{p q:Int}(hx:ev L x=some (.int .i64 p))(hy:ev L y=some (.int .i64 q))(hpa:p=a)(hqb:q=b)(ho:XK op a b=some c)(ha:a<2 ^ 63)(hb:b<2 ^ 63):Bv P L w (.binOp op t x y t') ty (.int .i64 (c:Int)):=by
 intro w' _ ρ hρ dst pos af g;subst hpa;subst hqb;have ea:(BitVec.ofInt 64 (a:Int)).toNat=a:=by simp;omega
 have eb:(BitVec.ofInt 64 (b:Int)).toNat=b:=by simp;omega
 cases op <;> simp only [XK,Option.some.injEq,reduceCtorEq] at ho <;> subst ho
 ·have hlt:a &&& b<2 ^ 63:=Nat.and_lt_two_pow _ hb
  have e:(Op.intBits .and .i64 (a:Int) (b:Int)).run P w'=.ok (.int .i64 ((a &&& b:Nat):Int)) w':=by
   show Result.ok (Value.int .i64 (IntKind.i64.wrap ((BitVec.ofInt 64 (a:Int) &&& BitVec.ofInt 64 (b:Int)).toNat:Int))) w'=_
   rw [BitVec.toNat_and,ea,eb,wrap64 (by omega) (by omega)]
  simp only [execOp,hρ x _ hx,hρ y _ hy,eqGuard,binOp,Sem.run_bind,ne_eq,not_true_eq_false,if_false,Bool.not_false,if_true,Sem.run_pure,Result.andThen_ok,e]
 ·have hlt:a ||| b<2 ^ 63:=Nat.or_lt_two_pow ha hb
  have e:(Op.intBits .or .i64 (a:Int) (b:Int)).run P w'=.ok (.int .i64 ((a ||| b:Nat):Int)) w':=by
   show Result.ok (Value.int .i64 (IntKind.i64.wrap ((BitVec.ofInt 64 (a:Int) ||| BitVec.ofInt 64 (b:Int)).toNat:Int))) w'=_
   rw [BitVec.toNat_or,ea,eb,wrap64 (by omega) (by omega)]
  simp only [execOp,hρ x _ hx,hρ y _ hy,eqGuard,binOp,Sem.run_bind,ne_eq,not_true_eq_false,if_false,Bool.not_false,if_true,Sem.run_pure,Result.andThen_ok,e]
 ·have hlt:a ^^^ b<2 ^ 63:=Nat.xor_lt_two_pow ha hb
  have e:(Op.intBits .xor .i64 (a:Int) (b:Int)).run P w'=.ok (.int .i64 ((a ^^^ b:Nat):Int)) w':=by
   show Result.ok (Value.int .i64 (IntKind.i64.wrap ((BitVec.ofInt 64 (a:Int) ^^^ BitVec.ofInt 64 (b:Int)).toNat:Int))) w'=_
   rw [BitVec.toNat_xor,ea,eb,wrap64 (by omega) (by omega)]
  simp only [execOp,hρ x _ hx,hρ y _ hy,eqGuard,binOp,Sem.run_bind,ne_eq,not_true_eq_false,if_false,Bool.not_false,if_true,Sem.run_pure,Result.andThen_ok,e]
theorem AaO[Dr]{k k':IntKind}{a s m:Int}{c:Nat}(hx:ev L x=some (.int k a))(hy:ev L y=some (.int k' (c:Int)))(hm:(2:Int) ^ c=m)(hc:c≤k.bits)(hw:k.wrap (a * m)=s):Bv P L w (.binOp .shl t x y t') ty (.int k s):=by
 intro w' _ ρ hρ dst pos af g;subst hm;subst hw;have : ¬ ((c:Int)<0):=by omega
 simp [execOp,hρ x _ hx,hρ y _ hy,eqGuard,binOp,Op.shift,this,Nat.min_eq_left hc]
theorem S8[Dr]{k k':IntKind}{a m:Int}{c:Nat}(hx:ev L x=some (.int k a))(hy:ev L y=some (.int k' (c:Int)))(hm:(2:Int) ^ c=m)(hc:c≤k.bits):Bv P L w (.binOp .shr t x y t') ty (.int k (a / m)):=by
 intro w' _ ρ hρ dst pos af g;subst hm;have : ¬ ((c:Int)<0):=by omega
 have e:a.fdiv (2 ^ c)=a / 2 ^ c:=Int.fdiv_eq_ediv_of_nonneg a (by exact Int.le_of_lt (Int.pow_pos (by decide)));simp [execOp,hρ x _ hx,hρ y _ hy,eqGuard,binOp,Op.shift,this,Nat.min_eq_left hc,e]
theorem VT[Dr]{xs ys:Array Value}{q:Bool}(hx:ev L x=some (.agg xs))(hy:ev L y=some (.agg ys))(hg:P.eqGuardType P.depth t=false)(he:∀ w,(Op.equalIn 10000 t (.agg xs) (.agg ys)).run P w=.ok q w):Bv P L w (.binOp .eql t x y t') ty (.bool q):=by
 intro w' _ ρ hρ dst pos af g;simp [execOp,hρ x _ hx,hρ y _ hy,run_eqGuard_agg w' .eql t x y xs ys hg,run_eql_struct,he w']
theorem JG[Dr]{xs ys:Array Value}{q:Bool}(hx:ev L x=some (.agg xs))(hy:ev L y=some (.agg ys))(hg:P.eqGuardType P.depth t=false)(he:∀ w,(Op.equalIn 10000 t (.agg xs) (.agg ys)).run P w=.ok q w):Bv P L w (.binOp .neq t x y t') ty (.bool (!q)):=by
 intro w' _ ρ hρ dst pos af g;simp [execOp,hρ x _ hx,hρ y _ hy,run_eqGuard_agg w' .neq t x y xs ys hg,run_neq_struct,he w']
theorem Abm {f0 f1 : Field} {d f : IntKind} (ht : P.underlying t = some (.struct (P.fieldsOf t))) (hp : P.stoodInHeld t = false) (hf : (P.fieldsOf t).toList = [f0, f1]) (g : f0.name ≠ "_" ∧ f0.offset = 0) (h : f1.name ≠ "_" ∧ f1.offset = 1)
  (i:P.underlying f0.type=some (.int d)) (j:P.underlying f1.type=some (.int f)) (a b c e:Int) (w:World) :
  (Op.equalIn 10000 t (.agg #[.int d a,.int f b]) (.agg #[.int d c,.int f e])).run P w=.ok (decide (a=c∧b=e)) w:=by
 rw [run_equalIn_struct w 9999 t _ _ ht hp,hf]
 have key:∀ dd:Nat,(Op.eqFields (dd+1) #[.int d a,.int f b] #[.int d c,.int f e] [f0,f1]).run P w=.ok (decide (a=c∧b=e)) w:=by
  intro dd
  by_cases k:a=c <;> by_cases l:b=e <;>
   simp [Op.eqFields,g.1,h.1,g.2,h.2,part,isAgg,run_underlying i,run_underlying j,run_equalIn_int w dd _ _ _ _ _ i,run_equalIn_int w dd _ _ _ _ _ j,k,l]
 exact key 9998
theorem foldl_push:∀ (l:List UInt8) (s:ByteArray),(l.map (fun b=>((b.toNat:Nat):Int))).foldl (fun r n=>r.push (UInt8.ofNat n.toNat)) s=⟨s.data++l.toArray⟩
 | [],s=>by simp
 | b::l,s=>by
  rw [List.map_cons,List.foldl_cons,foldl_push l];simp [ByteArray.push]
theorem MJ[Dr]{l:List UInt8}(hx:ev L x=some v)(ht:P.underlying t=some (.slice e))(he:P.underlying e=some (.int .u8))(ht':P.underlying t'=some .string)(hv:AI .byte H v l)(hs:Le H (hp w)):Bv P L w (.convert t t' x) ty (.string ⟨l.toArray⟩):=by
 intro w' hw ρ hρ dst pos af g;obtain⟨news,c,d⟩:=hv.elems;obtain rfl:=Ut c;obtain⟨k,a,cap,rfl,h3,m,f,i⟩:=d
 cases a with
 | none=>
  have:l.length=0:=by have:=f rfl;omega
  have:l=[]:=List.eq_nil_of_length_eq_zero this;subst this;simp [execOp,hρ x _ hx,run_convert_bytes_string w' t t' e none _ cap ht he ht',Conv.bytesToString]
  rfl
 | some A=>
  have hload:(loadCells A l.length).run P w'=.ok ((l.map (fun b=>((b.toNat:Nat):Int))).map (Value.int .u8)).toArray w':=by
   by_cases hl:l.length=0
   ·have:l=[]:=List.eq_nil_of_length_eq_zero hl;subst this;simp [loadCells,loadCellsFrom]
   ·have:=run_loadCellsFrom (P:=P) (p:=A) w' l.length 0 (l.map bv) #[] (by simp) (fun j u hu=>by rw [Nat.zero_add];exact cell_of (hs.ext hw) ((i A rfl hl).2 j u hu));unfold loadCells;rw [this];simp [bv,Function.comp_def]
  have hb:=run_bytesToString w' A l.length cap _ hload;rw [foldl_push] at hb;simp [execOp,hρ x _ hx,run_convert_bytes_string w' t t' e (some A) _ cap ht he ht',hb]
theorem KN[Dr]{l m:List UInt8}(hx:ev L x=some (.string ⟨l.toArray⟩))(hy:ev L y=some (.string ⟨m.toArray⟩)):Bv P L w (.binOp .eql t x y t') ty (.bool (decide (l=m))):=by
 intro w' _ ρ hρ dst pos af g;have e:(l==m)=decide (l=m):=by rw [Bool.eq_iff_iff];simp
 simp [execOp,hρ x _ hx,hρ y _ hy,eqGuard,binOp,Op.stringOp,e]
theorem WJ{f:FuncId}{args:List Operand}{vs:List Value}{at_:Array TypeId}{dst:Option Tmp}{cap:List Value}{fo:Operand}(hc:HR P f)(hf:ev L fo=some (.func (.func f) #[] cap.toArray))(ha:OL L args=some vs)(ρ:Operand→Value)(hρ:Vg L ρ):
  (execOp ρ ⟨dst,.call ⟨.value fo,args.toArray,at_⟩,ty,pos,af,none⟩).run P w=.ok (.enter f (vs++cap).toArray) w:=by
 obtain ⟨fn, c, a, h2, h3⟩ := hc;have b := hρ.map _ _ ha;have h2' : ¬ fn.name = "runtime.NumGoroutine" := by simpa using h2
 simp [execOp,resolve,hρ fo _ hf,Deferred.ofValue,b,invoke,callFunc,a,h2',h3]
theorem Eh{f:FuncId}{args:List Operand}{vs:List Value}{at_:Array TypeId}{cap:List Value}{fo:Operand}{R:Value→World→Prop}(hf:ev L fo=some (.func (.func f) #[] cap.toArray))(ha:OL L args=some vs)(hn:Nat.blt d n.n=true)(hok:Ok P f (vs++cap) w R)
  (h:∀ v w',R v w'→S P n ops Q rest ((d,v)::L) w'):S P n ops Q (⟨some d,.call ⟨.value fo,args.toArray,at_⟩,ty,pos,af,none⟩::rest) L w:=
 P0 rfl fun a fr=>by
  unfold Oper.wp;rw [WJ hok.1 hf ha _ fr.Qt];refine hok.2.mono fun e w' ⟨v,he,hv⟩=>?_;subst he;exact h v w' hv _ (fr.put hn)
inductive ZC (P:Program) (L:Env) (w:World):ResultVar→Value→Prop
 | tmp {t:Nat} {v:Value} (h:gt L t=some v):ZC P L w (.tmp t) v
 | cell {s t:Nat} {b:Nat} {cs:List Value} {zz:Value} {bt:Nat} {dd:TypeDesc} (h:gt L s=some (.pointer (some ⟨b,0,none⟩))) (ht:P.underlying t=some dd) (hd:Ur dd=true) (hz:Zr P t zz cs.length bt) (hp':GS (hp w) ⟨b,0,none⟩ cs):ZC P L w (.cell s t) (.agg cs.toArray)
def Tn(tmps:Array Value):ResultVar→Sem Value
 | .tmp t=>pure (tmps.getD t undef)
 | .cell a t=>do loadVar t (← asAddr (tmps.getD a undef))
theorem O7(fn:Func)(tmps:Array Value):results fn tmps=(do let vs ← fn.results.mapM (Tn tmps);pure (if h:vs.size=1 then vs[0] else .tuple vs)):=by
 unfold results
 congr 1
theorem ZC.run{a:Act}{q:ResultVar}(fr:Fr n a L)(h:ZC P L w q v):(Tn a.tmps q).run P w=.ok v w:=by
 cases h with
 | tmp h=>have:=fr.get _ _ h;simp [Tn,Array.getD_eq_getD_getElem?,this]
 | cell h ht hd hz hp'=>
  rename_i s t b cs zz bt dd;have:=fr.get _ _ h;obtain⟨inf,c,e,d,f⟩:=hz.parts;have hload:=run_loadCellsFrom (P:=P) (p:=⟨b,0,none⟩) w cs.length 0 cs #[] rfl (fun j u hu=>by rw [Nat.zero_add];exact hp'.2 j u hu)
  cases dd <;> simp only [Ur,Bool.false_eq_true] at hd <;>
   simp [Tn,Array.getD_eq_getD_getElem?,this,asAddr,loadVar,isAgg,run_underlying ht,loadCells,sizeOf,typeInfo,c,d,hload]
theorem BB{k₀:Nat}{fn:Func}{R:Value→World→Prop}{q:ResultVar}(hl:fn.results = #[q])(h:ZC P L w q v)(hR:R v w):At ⟨k₀,[]⟩ (MI P fn R) .ret L w:=
 fun a fr=>⟨fr.defers,v,by rw [O7,hl];simp [h.run fr],v,rfl,hR⟩
theorem C9{k₀:Nat}{fn:Func}{R:Value→World→Prop}{q q':ResultVar}{v':Value}(hl:fn.results = #[q,q'])(h:ZC P L w q v)(h':ZC P L w q' v')(hR:R (.tuple #[v,v']) w):At ⟨k₀,[]⟩ (MI P fn R) .ret L w:=
 fun a fr=>⟨fr.defers,_,by rw [O7,hl];simp [h.run fr,h'.run fr],_,rfl,hR⟩
theorem ZD{k₀:Nat}{fn:Func}{R:Value→World→Prop}(hl:fn.results = #[])(hR:R (.tuple #[]) w):At ⟨k₀,[]⟩ (MI P fn R) .ret L w:=
 fun _a fr=>⟨fr.defers,_,results_none hl _ _ _,_,rfl,hR⟩
theorem Ju{k₀:Nat}{fn:Func}{R:Value→World→Prop}(hl:fn.results = #[])(hR:R (.tuple #[]) w):At ⟨k₀,[]⟩ (MI P fn R) .normal L w:=
 fun _a fr=>⟨fr.defers,_,results_none hl _ _ _,_,rfl,hR⟩
end
end Go.E
namespace Go.E
open Go Go.RowKit
def MK(n:Nat)(done:List Nat):Array Bool:=done.foldr (fun i a=>a.setIfInBounds i true) (Array.replicate n false)
section
variable {P:Program} {n:Sz} {l:List Oper} {Q:Exit→Act→World→Prop} {L:Env} {w:World} {y:Code} {fuel:Nat} {m:Nat} {done:List Nat}
theorem WK{i:Nat}{o:Oper}{K:Act→World→Prop}{a:Act}(ho:H8 l i=some o)(h:wpList P l.toArray (Exit.then K Q) [o] a w)(_hQ:∀ e a w,e≠.normal→Exit.then K Q e a w→Q e a w):wpOp P l.toArray Q i K a w:=by
 have ho':l.toArray[i]? = some o:=by rw [EU] at ho;simpa using ho
 unfold wpOp;simp only [ho'];simp only [wpList] at h
 split
 ·rename_i hw;rw [if_pos hw] at h
  rcases h with h | ⟨b,h2⟩
  ·left
   unfold Oper.wp at h ⊢;generalize (execOp a.eval o).run P w=r at h ⊢
   cases r with
   | ok nx w'=>
    cases nx <;> simp only [Oper.upon] at h ⊢
    case value v=>exact h
    case skip=>exact h
    case defer=>exact h
    case enter f args=>
     exact h.mono fun e w'' he=>by
      cases e with
      | returned v=>exact he
      | panicked ch=>exact he
      | outgrown=>exact he
    case row=>exact h
   | halt hh w'=>cases hh <;> simp only [Oper.upon] at h ⊢ <;> exact h
  ·exact .inr ⟨b,h2⟩
 ·rename_i hw;rw [if_neg hw] at h;exact h
end
section
variable {P:Program} {n:Sz} {lo:List Oper} {Q:Exit→Act→World→Prop} {L:Env} {w w0:World} {O:List BG} {tr:Tr} {ix:Nat}
 {d:Nat} {ty:TypeId} {pos:String} {af:Array Edge} {α:Type} {r:Rp α} {x y:Operand} {v:Value} {t e:TypeId}
theorem Abn[Dr]{bt m:Nat}{k k':IntKind}{zz:Value}{c c':Int}(ho:H8 lo ix=some ⟨some d,.makeSlice t x y,ty,pos,af,none⟩)(hx:ev L x=some (.int k c))(hy:ev L y=some (.int k' c'))(hcc:c=m∧c'=m)(ht:P.underlying t=some (.slice e))(hz:Zr P e zz 1 bt)(hzc:zz.cells = #[zz])(hn:Nat.blt d n.n=true)(hL:AO w0 O w)(hm:bt * m≤281474976710656∧m≤9223372036854775807)
  (h:∀ v' w',Ext w w'→AO w0 (.row v' e 1 m (List.replicate m zz)::O) w'→Le (fz w O) (fz w' (.row v' e 1 m (List.replicate m zz)::O))→D P n lo Q tr ((d,v')::L) w'):D P n lo Q (.h ix tr) L w:=by
 obtain⟨inf,g,i,j,l⟩:=hz.parts;obtain⟨rfl,rfl⟩:=hcc;refine VP (R:=fun b v' w'=>w'.ownsRow b.heap.size e 1 v' m (List.replicate m zz)) ho hn (fun b a ρ hρ=>?_) (fun b v' w' a f hR=>?_)
 ·obtain⟨w',hr,ho',hg⟩:=run_make_full (P:=P) b b.heap.size t e inf zz 1 ht g i j k k' m (by rw [l];exact hm.1) (by unfold maxLen;omega) (Nat.le_refl _);rw [hzc,Nat.mul_one,toList_madeCells_one] at ho';exact⟨_,w',by simp [execOp,hρ x _ hx,hρ y _ hy,hr],Nn (NO _ _ _ _ hr) hg,ho'⟩
 ·obtain⟨o,h2⟩:=K7 (hL.call a) f hR;exact h v' w' (a.trans f) o ((AV hL a).trans h2)
theorem Le.mono{A B C:PH}(h:Le A B)(k:Le B C):Le A C:=h.trans k
theorem AO.pick[Dr]{i:Nat}{q:BG}(h:AO w0 O w)(hi:D8 O i=some q):AO w0 (q::KK O i) w:=h.perm (Dy hi).symm
end
end Go.E
namespace Go.E
open Go Go.RowKit
section
variable {P:Program} {L:Env} {w:World} {x y:Operand} {ty t t':TypeId}
theorem Ach[Dr]{a b:Int}(hx:ev L x=some (.int .i64 a))(hy:ev L y=some (.int .i64 b)):Bv P L w (.call ⟨.builtin .max,#[x,y],#[t,t']⟩) ty (.int .i64 (max a b)):=by
 intro w' _ ρ hρ dst pos af g;simp [execOp,resolve,hρ x _ hx,hρ y _ hy,invoke,builtin,Builtin.max_,Builtin.max2]
 by_cases h:a<b
 ·simp [h,show max a b=b by omega]
 ·simp [h,show max a b=a by omega]
end
def un(A B:PH):PH:=fun b=>match B b with
 | some o=>some o
 | none=>A b
theorem Rh{A B C:PH}(hA:Le A C)(hB:Le B C):Le (un A B) C:=fun b o e=>by
 unfold un at e
 cases h:B b with
 | some o'=>rw [h] at e;cases e;exact hB b o h
 | none=>rw [h] at e;exact hA b o e
theorem FX{A B:PH}:Le B (un A B):=fun b o e=>by unfold un;rw [e]
theorem JJ{w w':World}{A:PH}(hA:Le A (hp w)):Le A (un A (nw w w')):=fun b o e=>by
 have hb:b<w.heap.size:=lt_of_heap (hA b o e);unfold un nw;rw [if_neg (by omega)];exact e
end Go.E
end
noncomputable section
namespace Go.L
abbrev BL(x:Int):Prop:=-9223372036854775808≤x∧x≤9223372036854775807
def AU{α:Type}(p:Prop)[Decidable p](k:Option α):Option α:=if p then k else none
theorem EN{α:Type}{p:Prop}[Decidable p]{k:Option α}{e:α}(h:AU p k=some e):p∧k=some e:=by
 unfold AU at h
 split at h
 ·rename_i hp;exact⟨hp,h⟩
 ·cases h
theorem An{α:Type}{p:Prop}[Decidable p]{k:Option α}(h:p):AU p k=k:=by unfold AU;rw [if_pos h]
theorem bind_some{α β:Type}{m:Option α}{f:α→Option β}{e:β}(h:m.bind f=some e):∃ x,m=some x∧f x=some e:=Option.bind_eq_some_iff.1 h
theorem Az{α:Type}{p G:Prop}[Decidable p]{k:Option α}{e:α}(h:AU p k=some e)(f:p→k=some e→G):G:=f (EN h).1 (EN h).2
theorem Ax{α β:Type}{G:Prop}{m:Option α}{f:α→Option β}{e:β}(h:m.bind f=some e)(k:∀ x,m=some x→f x=some e→G):G:=by
 obtain⟨x,a,h2⟩:=bind_some h;exact k x a h2
theorem G5{α:Type}{b:Bool}{x y:Option α}{e:α}(hb:b=true)(h:(if b then x else y)=some e):x=some e:=by rw [if_pos hb] at h;exact h
theorem G6{α:Type}{b:Bool}{x y:Option α}{e:α}(hb:b=false)(h:(if b then x else y)=some e):y=some e:=by rw [if_neg (by rw [hb];decide)] at h;exact h
theorem BO{α:Type}{p:Prop}[Decidable p]{x y:Option α}{e:α}(hb:p)(h:(if p then x else y)=some e):x=some e:=by rw [if_pos hb] at h;exact h
theorem BP{α:Type}{p:Prop}[Decidable p]{x y:Option α}{e:α}(hb : ¬ p)(h:(if p then x else y)=some e):y=some e:=by rw [if_neg hb] at h;exact h
section
variable {σ ρ:Type}
def FT(b:σ→Option (σ ⊕ ρ)):Nat→σ→Option ρ
 | 0,_=>none
 | n+1,s=>(b s).bind fun e=>match e with | .inl s'=>FT b n s' | .inr r=>some r
def BV(b:σ→Option (σ ⊕ ρ))(n:Nat)(r:ρ):σ ⊕ ρ→Prop
 | .inl s=>FT b n s=some r
 | .inr x=>x=r
theorem AX{b:σ→Option (σ ⊕ ρ)}{n:Nat}{s:σ}{r:ρ}(h:FT b n s=some r):∃ m e,n=m+1∧b s=some e∧BV b m r e:=by
 cases n with
 | zero=>cases h
 | succ m=>
  obtain⟨e,a,h2⟩:=Option.bind_eq_some_iff.1 h;refine⟨m,e,rfl,a,?_⟩
  cases e with
  | inl s'=>exact h2
  | inr x=>exact Option.some.inj h2
theorem BV.out{b:σ→Option (σ ⊕ ρ)}{n:Nat}{r:ρ}{e:σ ⊕ ρ}{m:Option ρ}(h:m.map Sum.inr=some e)(hm:BV b n r e):m=some r:=by
 cases m with
 | none=>cases h
 | some x=>cases h;exact congrArg some hm
theorem BV.again{b:σ→Option (σ ⊕ ρ)}{n:Nat}{r:ρ}{e:σ ⊕ ρ}{s:σ}(h:some (Sum.inl s)=some e)(hm:BV b n r e):FT b n s=some r:=by cases h;exact hm
theorem Ri{b:σ→Option (σ ⊕ ρ)}:∀ {n:Nat} {s:σ} {r:ρ} (k:Nat),FT b n s=some r→FT b (n+k) s=some r
 | 0,_,_,_,h=>by cases h
 | n+1,s,r,k,h=>by
  obtain⟨m,e,hm,a,h2⟩:=AX h;obtain rfl:n=m:=by omega
  rw [show n+1+k=(n+k)+1 by omega,FT,a]
  cases e with
  | inl s'=>exact Ri k h2
  | inr x=>exact congrArg some h2
theorem ZE{b:σ→Option (σ ⊕ ρ)}{n m:Nat}{s:σ}{r q:ρ}(h:FT b n s=some r)(k:FT b m s=some q):r=q:=by
 have a:=Ri m h;have h2:=Ri n k;rw [Nat.add_comm] at h2;exact Option.some.inj (a.symm.trans h2)
def run(b:σ→Option (σ ⊕ ρ))(s:σ):Option ρ:=
 open Classical in if h : ∃ r, ∃ n, FT b n s = some r then some h.choose else none
theorem To{b:σ→Option (σ ⊕ ρ)}{n:Nat}{s:σ}{r:ρ}(h:FT b n s=some r):run b s=some r:=by
 have hx:∃ r,∃ n,FT b n s=some r:=⟨r,n,h⟩;unfold run;rw [dif_pos hx];obtain⟨m,hm⟩:=hx.choose_spec;rw [ZE hm h]
theorem AY{b:σ→Option (σ ⊕ ρ)}{s:σ}{r:ρ}(h:run b s=some r):∃ n,FT b n s=some r:=by
 unfold run at h
 split at h
 ·rename_i hx
  cases h
  exact hx.choose_spec
 ·cases h
theorem BA{b:σ→Option (σ ⊕ ρ)}{s s':σ}(h:b s=some (.inl s')):run b s=run b s':=by
 cases hr:run b s' with
 | some r=>
  obtain⟨n,hn⟩:=AY hr;exact To (n:=n+1) (by rw [FT,h];exact hn)
 | none=>
  cases hs:run b s with
  | none=>rfl
  | some r=>
   obtain⟨n,hn⟩:=AY hs;obtain⟨m,e,_,a,h2⟩:=AX hn;rw [h] at a;cases a;rw [To h2] at hr;cases hr
theorem Bm{b:σ→Option (σ ⊕ ρ)}{s:σ}{m:Option ρ}(h:b s=m.map .inr):run b s=m:=by
 cases m with
 | some r=>exact To (n:=1) (by rw [FT,h];rfl)
 | none=>
  cases hs:run b s with
  | none=>rfl
  | some r=>
   obtain⟨n,hn⟩:=AY hs;obtain⟨m,e,_,a,h2⟩:=AX hn;rw [h] at a;cases a
theorem P6{b:σ→Option (σ ⊕ ρ)}(st:Nat→σ)(k:Nat){m:Option ρ}(step:∀ i,i<k→b (st i)=some (.inl (st (i+1))))(last:b (st k)=m.map .inr)(i:Nat)(hi:i≤k):run b (st i)=m:=by
 have key:∀ d i,i+d=k→run b (st i)=m:=by
  intro d
  induction d with
  | zero=>intro i h;rw [Nat.add_zero] at h;subst h;exact Bm last
  | succ d ih=>intro i h;rw [BA (step i (by omega))];exact ih (i+1) (by omega)
 exact key (k - i) i (by omega)
end
def u8(a:Int):UInt8:=UInt8.ofNat (a % 256).toNat
theorem Rj(a:Int):((u8 a).toNat:Int)=a % 256:=by
 unfold u8;rw [UInt8.toNat_ofNat'];omega
theorem Aci(b:UInt8):u8 (b.toNat:Int)=b:=by
 apply UInt8.toNat.inj;have h:=Rj (b.toNat:Int);have:=b.toNat_lt;omega
end Go.L
namespace Go.E
open Go Go.RowKit
def gz(H:PH)(w0 w:World)(O:List BG):PH:=un H (nf w0 w O)
section
variable {H:PH} {w0 w w':World} {O O':List BG}
theorem Qj{A B:PH}(hA:Le A (hp w0))(hB:∀ b o,B b=some o→w0.heap.size≤b):Le A (un A B):=fun b o e=>by
 have hb:b<w0.heap.size:=lt_of_heap (hA b o e);unfold un
 cases h:B b with
 | none=>exact e
 | some o'=>have:=hB b o' h;omega
theorem Acj{b:Nat}{o:Obj}(h:nf w0 w O b=some o):w0.heap.size≤b:=by
 unfold nf at h
 split at h
 ·assumption
 ·cases h
theorem Ah(hH:Le H (hp w0)):Le H (gz H w0 w O):=Qj hH (fun _ _ h=>Acj h)
theorem OP:Le (nf w0 w O) (gz H w0 w O):=FX
theorem Sl{A B C:PH}(hA:Le A (un A C))(h:Le B C):Le (un A B) (un A C):=Rh hA (h.trans FX)
theorem Ab(hH:Le H (hp w0))(h:Le (fz w O) (fz w' O')):Le (gz H w0 w O) (gz H w0 w' O'):=Sl (Ah hH) (ZA h)
theorem XL[Dr](hH:Le H (hp w0))(hL:AO w0 O w):Le (gz H w0 w O) (fz w O):=Rh (hH.trans hL.Aca) AaM
theorem As[Dr](hH:Le H (hp w0))(hL:AO w0 O w):Le (gz H w0 w O) (hp w):=(XL hH hL).trans (VM _ _)
theorem Rk[Dr](hL:AO w0 O w):Le (nw w w') (gz H w0 w' O):=(Acb hL).trans FX
theorem Dv[Dr](hH:Le H (hp w0))(hL:AO w0 O w)(hx:Ext w w'):Le (un (gz H w0 w O) (nw w w')) (gz H w0 w' O):=Rh (Ab hH (AV hL hx)) (Rk hL)
theorem Dm(hH:Le H (hp w0)):Le (gz H w0 w O) (un H (nw w0 w)):=Rh (JJ hH) (AaN.trans FX)
theorem AO.rG[Dr](_:AO w0 O w)(H:PH):Le (gz H w0 w O) (gz H w0 w O):=Le.refl _
end
def C2{α:Type}(e:TypeId)(r:Rp α)(H:PH)(w w':World)(v:Value)(l:List α):Prop:=
 ∃ xs,w'.ownsRow w.heap.size e r.sz v l.length xs∧AJ r (un H (Oo w w' v)) l xs
section
variable {α:Type} {e:TypeId} {r:Rp α} {H:PH} {w0 w w':World} {O:List BG} {v:Value} {l:List α} {i:Nat} {xs:List Value}
theorem Uu{b:Nat}{o:Obj}(h:Oo w w' v b=some o):w.heap.size≤b:=by
 unfold Oo nw at h
 split at h
 ·cases h
 ·split at h
  ·assumption
  ·cases h
theorem C2.vec(hH:Le H (hp w))(h:C2 e r H w w' v l):AI r (un H (nw w w')) v l:=by
 obtain⟨xs,a,h2⟩:=h;refine Ms a h2 (Rh (JJ hH) (Ul.trans FX)) fun k hk o ho=>?_;have:=(a.lt k hk).1;apply FX;unfold nw;rw [if_pos this];exact ho
theorem C2.CA[Dr](h:C2 e r (gz H w0 w O) w w' v l)(hH:Le H (hp w0))(hL:AO w0 O w)(hx:Ext w w'):AI r (gz H w0 w' O) v l:=(h.vec (As hH hL)).mono (Dv hH hL hx)
theorem C2.take[Dr](h:C2 e r (gz H w0 w O) w w' v l)(hH:Le H (hp w0))(hL:AO w0 O w)(hx:Ext w w'):∃ xs,AO w0 (.row v e r.sz l.length xs::O) w'∧Le (fz w O) (fz w' (.row v e r.sz l.length xs::O))∧AJ r (gz H w0 w' (.row v e r.sz l.length xs::O)) l xs:=by
 obtain⟨xs,c,h2⟩:=h;obtain⟨h3,a⟩:=K7 hL hx c;refine⟨xs,h3,a,h2.mono (Rh (Ab hH a) (fun b o hb=>OP b o ?_))⟩;have hge:w0.heap.size≤b:=Nat.le_trans hL.ext.size (Uu hb);unfold nf;rw [if_pos hge];exact Uk hL b o hb
theorem C2.nil{H:PH}:C2 e r H w w' (.slice none 0 0) ([]:List α):=⟨[],World.ownsRow_nil w' _ e _,.nil⟩
theorem AO.GQ[Dr](hL:AO w0 O w)(hH:Le H (hp w0))(hi:D8 O i=some (.row v e r.sz l.length xs))(he:AJ r (gz H w0 w O) l xs):C2 e r H w0 w v l:=
 ⟨xs,OO (hL.at hi) (fun k hk=>hL.own _ ((Dy hi).mem_iff.2 (.head _)) k hk),he.mono (Rh (Qj hH (fun _ _ h=>Uu h)) ((Abk hi).trans FX))⟩
theorem AO.CA[Dr](hL:AO w0 O w)(hH:Le H (hp w0))(hi:D8 O i=some (.row v e r.sz l.length xs))(he:AJ r (gz H w0 w O) l xs):AI r (gz H w0 w (KK O i)) v l:=
 Ms (hL.at hi) he (Ab hH (Al hi)) (fun k hk o ho=>OP k o (by
  unfold nf;rw [if_pos (hL.own _ ((Dy hi).mem_iff.2 (.head _)) k hk),Rb hi hk hL.Zu];exact ho))
theorem AO.Tp[Dr](hL:AO w0 O w)(hH:Le H (hp w0))(hi:D8 O i=some (.row v e r.sz l.length xs))(he:AJ r (gz H w0 w O) l xs):AI r (hp w) v l:=hL.AcG hi (he.mono (XL hH hL))
end
def Rp.st:Rp (List UInt8):=⟨1,fun _ x c=>c=[.string ⟨x.toArray⟩],fun h=>by simp [h],fun _ h=>h,fun h u hu=>by subst h;simp at hu;subst hu;rfl⟩
theorem AJ.set{α:Type}{r:Rp α}{H:PH}{l:List α}{cs:List Value}{x:α}{u:Value}(h:AJ r H l cs)(hx:r.rel H x [u]):∀ i,i<l.length→AJ r H (l.set i x) (cs.set (i * r.sz) u):=by
 have hsz:r.sz=1:=(r.len hx).symm
 induction h with
 | nil=>intro i hi;cases hi
 | @cons y l c cs h t ih=>
  intro i hi;have hc:c.length=1:=by rw [r.len h,hsz]
  obtain⟨z,rfl⟩:=List.length_eq_one_iff.1 hc
  cases i with
  | zero=>rw [Nat.zero_mul];exact .cons hx t
  | succ i=>
   rw [hsz,Nat.mul_one] at *;simp only [List.length_cons] at hi;have:=ih i (by omega);rw [Nat.mul_one] at this;exact .cons h this
section
variable {P:Program} {n:Sz} {ops:Array Oper} {Q:Exit→Act→World→Prop} {L:Env} {w w0:World} {O:List BG} {rest:List Oper}
 {d:Nat} {ty:TypeId} {pos:String} {af:Array Edge} {α:Type} {r:Rp α} {x y:Operand} {v u:Value} {t t' e:TypeId} {H:PH}
abbrev JE(bt n:Nat):Prop:=n * bt≤140737488355328∧n≤9223372036854775807
theorem Bq[Dr](i:Nat){bt:Nat}{zz:Value}{l m:List α}{xs:List Value}(hx:ev L x=some v)(hy:ev L y=some u)(ht:P.underlying t=some (.slice e))(hz:Zr P e zz r.sz bt)(hzs:zz.cells.size=r.sz)(hsz:0<r.sz)(hn:Nat.blt d n.n=true)
  (hH:Le H (hp w0)) (hL:AO w0 O w) (hi:D8 O i=some (.row v e r.sz l.length xs)) (he:AJ r (gz H w0 w O) l xs) (hm:AI r (gz H w0 w O) u m) (hby:JE bt (l.length+m.length))
  (h:∀ v' w' xs',AO w0 (Dc O i (.row v' e r.sz (l++m).length xs')) w'→Le (fz w O) (fz w' (Dc O i (.row v' e r.sz (l++m).length xs')))→AJ r (gz H w0 w' (Dc O i (.row v' e r.sz (l++m).length xs'))) (l++m) xs'→S P n ops Q rest ((d,v')::L) w') :
  S P n ops Q (⟨some d,.call ⟨.builtin .append,#[x,y],#[t,t]⟩,ty,pos,af,none⟩::rest) L w:=by
 obtain⟨news,a,hs⟩:=hm.elems;refine Rg i hx hy ht hz hzs hsz hn hL hi (hs.mono (As hH hL)) a.one hby fun v' w' b h2=>?_;rw [← List.length_append] at b h2;exact h v' w' _ b h2 ((he.append a).mono (Ab hH h2))
theorem KO[Dr](i:Nat){bt k j:Nat}{zz:Value}{l:List α}{xs:List Value}{p:Addr}{z:α}(hx:ev L x=some (.pointer (some p)))(hy:ev L y=some u)(hu:u.oneCell'=true)(hz:Zr P t zz 1 bt)(hH:Le H (hp w0))(hL:AO w0 O w)(hi:D8 O i=some (.row v e r.sz l.length xs))(he:AJ r (gz H w0 w O) l xs)
  (hp':Nq v k p) (hk:k=j * r.sz) (hj:j<l.length) (hz':r.rel (gz H w0 w O) z [u])
  (h:∀ w' xs',AO w0 (Dc O i (.row v e r.sz (l.set j z).length xs')) w'→Le (fz w O) (fz w' (Dc O i (.row v e r.sz (l.set j z).length xs')))→AJ r (gz H w0 w' (Dc O i (.row v e r.sz (l.set j z).length xs'))) (l.set j z) xs'→S P n ops Q rest L w') :
  S P n ops Q (⟨none,.store t x y,ty,pos,af,none⟩::rest) L w:=by
 subst hk;have hlen:=he.len;have hsz:r.sz=1:=(r.len hz').symm;refine XI i hx hy hu hz hL hi hp' (by rw [hlen,hsz];omega) fun w' a h2=>?_;have b:l.length=(l.set j z).length:=by simp
 rw [b] at a h2;exact h w' _ a h2 ((he.set hz' j hj).mono (Ab hH h2))
theorem Bu[Dr]{ps:List (Nat×Operand)}{vs:List (Nat×Value)}{cs:List Value}{l:List α}(hp':Z8 L ps=some vs)(hr:∀ w,(Instr.buildSlice t l.length vs.toArray).run P w=.ok (.slice (some ⟨w.heap.size,0,none⟩) l.length l.length) (w.alloc (.cells cs.toArray e)))(hn:Nat.blt d n.n=true)(hlen:l.length≤9223372036854775807)(hH:Le H (hp w0))(hL:AO w0 O w)(he:AJ r (gz H w0 w O) l cs)
  (h:∀ u w',Ext w w'→AO w0 O w'→Le (fz w O) (fz w' O)→AI r (gz H w0 w' O) u l→S P n ops Q rest ((d,u)::L) w') :
  S P n ops Q (⟨some d,.buildSlice t l.length ps.toArray,ty,pos,af,none⟩::rest) L w:=
 AaL (sz:=r.sz) hp' hr he.len hlen hn hL fun u w' hx hL' hle hs _=>h u w' hx hL' hle (Rf (he.mono (Ab hH hle)) (hs.mono (Rk hL)))
theorem JK[Dr]{ps:List (Nat×Operand)}{vs:List (Nat×Value)}{cs:List Value}{l:List α}(hp':Z8 L ps=some vs)(hr:∀ w,(Instr.buildSlice t l.length vs.toArray).run P w=.ok (.slice (some ⟨w.heap.size,0,none⟩) l.length l.length) (w.alloc (.cells cs.toArray e)))(hn:Nat.blt d n.n=true)(hlen:l.length≤9223372036854775807)(hH:Le H (hp w0))(hL:AO w0 O w)(he:AJ r (gz H w0 w O) l cs)
  (h:∀ u w' xs,AO w0 (.row u e r.sz l.length xs::O) w'→Le (fz w O) (fz w' (.row u e r.sz l.length xs::O))→AJ r (gz H w0 w' (.row u e r.sz l.length xs::O)) l xs→S P n ops Q rest ((d,u)::L) w') :
  S P n ops Q (⟨some d,.buildSlice t l.length ps.toArray,ty,pos,af,none⟩::rest) L w:=
 AaL (sz:=r.sz) hp' hr he.len hlen hn hL fun u w' hx _ _ _ ho=>by
  obtain⟨a,h2⟩:=K7 hL hx ho;exact h u w' _ a h2 (he.mono (Ab hH h2))
theorem Tq[Dr]{bt:Nat}{k k':IntKind}{zz:Value}{c c':Int}{z:α}(hx:ev L x=some (.int k c))(hy:ev L y=some (.int k' c'))(hcc:c'=c)(ht:P.underlying t=some (.slice e))(hz:Zr P e zz r.sz bt)(hzc:zz.cells = #[zz])(hrz:∀ G,r.rel G z [zz])(hn:Nat.blt d n.n=true)(_hH:Le H (hp w0))(hL:AO w0 O w)(hm:0≤c∧(bt:Int) * c≤281474976710656∧c≤9223372036854775807)
  (h:∀ v' w' xs,AO w0 (.row v' e r.sz (List.replicate c.toNat z).length xs::O) w'→Le (fz w O) (fz w' (.row v' e r.sz (List.replicate c.toNat z).length xs::O))→AJ r (gz H w0 w' (.row v' e r.sz (List.replicate c.toNat z).length xs::O)) (List.replicate c.toNat z) xs→S P n ops Q rest ((d,v')::L) w') :
  S P n ops Q (⟨some d,.makeSlice t x y,ty,pos,af,none⟩::rest) L w:=by
 have hsz:r.sz=1:=(r.len (hrz H)).symm;obtain⟨m,rfl⟩:=Int.eq_ofNat_of_zero_le hm.1;subst hcc;rw [hsz] at hz;refine Abj (m:=m) hx hy ⟨rfl,rfl⟩ ht hz hzc hn hL ⟨by have:=hm.2.1;rw [← Int.natCast_mul] at this;exact Int.ofNat_le.1 this,by omega⟩ fun v' w' _ a h2=>?_;have b:m=(List.replicate (m:Int).toNat z).length:=by simp
 have f:BG.row v' e 1 m (List.replicate m zz)=.row v' e r.sz (List.replicate (m:Int).toNat z).length (List.replicate m zz):=by rw [hsz,← b]
 rw [f] at a h2;refine h v' w' _ a h2 ?_
 have key:∀ (G:PH) (k:Nat),AJ r G (List.replicate k z) (List.replicate k zz):=fun G k=>by
  induction k with
  | zero=>exact .nil
  | succ k ih=>exact .cons (c:=[zz]) (hrz G) ih
 exact key _ _
end
section
variable {P:Program} {n:Sz} {lo:List Oper} {Q:Exit→Act→World→Prop} {L:Env} {w w0:World} {O:List BG} {tr:Tr} {ix:Nat}
 {d:Nat} {ty:TypeId} {pos:String} {af:Array Edge} {α:Type} {r:Rp α} {x y:Operand} {v:Value} {t e:TypeId} {H:PH}
theorem Nr[Dr]{ps:List (Nat×Operand)}{vs:List (Nat×Value)}{cs:List Value}{l:List α}(ho:H8 lo ix=some ⟨some d,.buildSlice t l.length ps.toArray,ty,pos,af,none⟩)(hp':Z8 L ps=some vs)(hr:∀ w,(Instr.buildSlice t l.length vs.toArray).run P w=.ok (.slice (some ⟨w.heap.size,0,none⟩) l.length l.length) (w.alloc (.cells cs.toArray e)))(hn:Nat.blt d n.n=true)(hlen:l.length≤9223372036854775807)(hH:Le H (hp w0))(hL:AO w0 O w)(he:AJ r (gz H w0 w O) l cs)
  (h:∀ u w',Ext w w'→AO w0 O w'→Le (fz w O) (fz w' O)→AI r (gz H w0 w' O) u l→D P n lo Q tr ((d,u)::L) w'):D P n lo Q (.h ix tr) L w:=by
 refine VP (R:=fun b u w'=>Src (nw b w') r.sz u l.length cs) ho hn (fun b a ρ hρ=>?_) (fun b u w' a c hR=>?_)
 ·have g:=hρ.Z9 _ _ hp';have e':(ps.toArray.map fun(i,x)=>(i,ρ x))=vs.toArray:=by rw [← g];simp
  refine⟨_,_,by simp [execOp,e',hr b,-List.map_toArray],C0 b (.cells cs.toArray e),he.len,some ⟨b.heap.size,0,none⟩,l.length,rfl,Nat.le_refl _,by unfold maxLen;omega,(fun e=>by cases e),fun A hA _=>?_⟩
  cases hA
  refine⟨rfl,fun j u hu=>?_⟩;simp only [Addr.add_lit,Nat.zero_add,Gu,nw,Nat.le_refl,if_true,heap_alloc_new]
  simpa using hu
 ·have f:=hL.call a;have hle:=(AV hL a).trans (AV f c);exact h u w' (a.trans c) (f.call c) hle (Rf (he.mono (Ab hH hle)) (hR.mono (Rk f)))
theorem JY[Dr]{bt:Nat}{k k':IntKind}{zz:Value}{c c':Int}{z:α}(ho:H8 lo ix=some ⟨some d,.makeSlice t x y,ty,pos,af,none⟩)(hx:ev L x=some (.int k c))(hy:ev L y=some (.int k' c'))(hcc:c'=c)(ht:P.underlying t=some (.slice e))(hz:Zr P e zz r.sz bt)(hzc:zz.cells = #[zz])(hrz:∀ G,r.rel G z [zz])(hn:Nat.blt d n.n=true)(_hH:Le H (hp w0))(hL:AO w0 O w)(hm:0≤c∧(bt:Int) * c≤281474976710656∧c≤9223372036854775807)
  (h:∀ v' w' xs,AO w0 (.row v' e r.sz (List.replicate c.toNat z).length xs::O) w'→Le (fz w O) (fz w' (.row v' e r.sz (List.replicate c.toNat z).length xs::O))→AJ r (gz H w0 w' (.row v' e r.sz (List.replicate c.toNat z).length xs::O)) (List.replicate c.toNat z) xs→D P n lo Q tr ((d,v')::L) w'):D P n lo Q (.h ix tr) L w:=by
 have hsz:r.sz=1:=(r.len (hrz H)).symm;obtain⟨m,rfl⟩:=Int.eq_ofNat_of_zero_le hm.1;subst hcc;rw [hsz] at hz;refine Abn (m:=m) ho hx hy ⟨rfl,rfl⟩ ht hz hzc hn hL ⟨by have:=hm.2.1;rw [← Int.natCast_mul] at this;exact Int.ofNat_le.1 this,by omega⟩ fun v' w' _ a h2=>?_;have b:m=(List.replicate (m:Int).toNat z).length:=by simp
 have f:BG.row v' e 1 m (List.replicate m zz)=.row v' e r.sz (List.replicate (m:Int).toNat z).length (List.replicate m zz):=by rw [hsz,← b]
 rw [f] at a h2;refine h v' w' _ a h2 ?_
 have key:∀ (G:PH) (k:Nat),AJ r G (List.replicate k z) (List.replicate k zz):=fun G k=>by
  induction k with
  | zero=>exact .nil
  | succ k ih=>exact .cons (c:=[zz]) (hrz G) ih
 exact key _ _
end
end Go.E
end
noncomputable section
namespace Go.E
open Go Go.RowKit
theorem AW{i:Int}{n:Nat}(h:0≤i∧i<(n:Int)):i.toNat<n:=by omega
theorem EM{i n:Int}(h:0≤i∧i<n):i=(i.toNat:Int):=(Int.toNat_of_nonneg h.1).symm
theorem CE{p:Prop}[Decidable p](h:(!decide p)=true): ¬ p:=by simpa using h
theorem CF{p:Prop}[Decidable p](h:(!decide p)=false):p:=by simpa using h
section
variable {α:Type} {P:Program} {n:Sz} {Q:Exit→Act→World→Prop} {L:Env} {w:World} {x y:Code} {t:Operand} {A B:Option α} {e:α}
theorem Bl{b:Bool}(hc:ev L t=some (.bool b))(h:(if b then A else B)=some e)(ht:b=true→A=some e→W P n x Q L w)(hf:b=false→B=some e→W P n y Q L w):W P n (.cond t x y) Q L w:=
 Vf hc (fun c=>ht c (Go.L.G5 c h)) (fun c=>hf c (Go.L.G6 c h))
theorem AM{p:Prop}[Decidable p](hc:ev L t=some (.bool (decide p)))(h:(if p then A else B)=some e)(ht:p→A=some e→W P n x Q L w)(hf : ¬ p→B=some e→W P n y Q L w):W P n (.cond t x y) Q L w:=
 AcD hc (fun c=>ht c (Go.L.BO c h)) (fun c=>hf c (Go.L.BP c h))
theorem Cl{p:Prop}[Decidable p](hc:ev L t=some (.bool (!decide p)))(h:(if p then A else B)=some e)(ht : ¬ p→B=some e→W P n x Q L w)(hf:p→A=some e→W P n y Q L w):W P n (.cond t x y) Q L w:=
 AbZ hc (fun c=>ht c (Go.L.BP c h)) (fun c=>hf c (Go.L.BO c h))
end
theorem Nq.add{v:Value}{k:Nat}{p:Addr}(h:Nq v k p)(j:Nat):Nq v (k+j) (p.add j):=by
 obtain⟨b,o,s⟩:=p;obtain⟨a,h2,h3⟩:=h;simp only at a h2 h3;subst h3;exact⟨by simpa [Addr.add_lit] using a,by simp [Addr.add_lit,h2],by simp [Addr.add_lit]⟩
def Plain{α:Type}(r:Rp α):Prop:=∀ {H H':PH} {x:α} {c:List Value},r.rel H x c→r.rel H' x c
theorem Vk:Plain .byte:=fun h=>h
theorem AJ.Ts{α:Type}{r:Rp α}(hp:Plain r){H H':PH}{l:List α}{cs:List Value}(h:AJ r H l cs):AJ r H' l cs:=by
 induction h with
 | nil=>exact .nil
 | cons h _ ih=>exact .cons (hp h) ih
theorem C2.Ts{α:Type}{e:TypeId}{r:Rp α}{H1 H2:PH}{w w':World}{v:Value}{l:List α}(h:C2 e r H1 w w' v l)(hp:Plain r):C2 e r H2 w w' v l:=by
 obtain⟨xs,a,h2⟩:=h;exact⟨xs,a,h2.Ts hp⟩
section
variable {P:Program} {L:Env} {w:World} {x y z:Operand} {ty t t' t'' e:TypeId}
theorem HS(a:Int):IntKind.u8.wrap a=((Go.L.u8 a).toNat:Int):=by rw [QG,Go.L.Rj]
def ar8:BinOp→UInt8→UInt8→Option UInt8
 | .add,a,b=>some (a+b)
 | .sub,a,b=>some (a - b)
 | .mul,a,b=>some (a * b)
 | _,_,_=>none
theorem XM{op:BinOp}{a b c:UInt8}(h:ar8 op a b=some c):∃ s,arI op (a.toNat:Int) (b.toNat:Int)=some s∧IntKind.u8.wrap s=(c.toNat:Int):=by
 have ha:=a.toNat_lt;have hb:=b.toNat_lt
 cases op <;> simp only [ar8,Option.some.injEq,reduceCtorEq] at h <;> subst h
 ·refine⟨_,rfl,?_⟩;rw [QG,UInt8.toNat_add];omega
 ·refine⟨_,rfl,?_⟩;rw [QG,UInt8.toNat_sub];omega
 ·refine⟨_,rfl,?_⟩;rw [QG,UInt8.toNat_mul,← Int.natCast_mul];omega
theorem Uv[Dr]{op:BinOp}{a b c:UInt8}(hx:ev L x=some (.int .u8 (a.toNat:Int)))(hy:ev L y=some (.int .u8 (b.toNat:Int)))(ho:ar8 op a b=some c):Bv P L w (.binOp op t x y t') ty (.int .u8 (c.toNat:Int)):=by
 obtain⟨s,d,h2⟩:=XM ho;exact Acd hx hy d h2
theorem Abo[Dr]{op:BinOp}{c:Nat}{p q:Int}(hx:ev L x=some (.int .i64 p))(hy:ev L y=some (.int .i64 q))(ho:XK op p.toNat q.toNat=some c)(h:(0≤p∧p<2 ^ 63)∧(0≤q∧q<2 ^ 63)):Bv P L w (.binOp op t x y t') ty (.int .i64 (c:Int)):=
 ZB hx hy (by omega) (by omega) ho (by omega) (by omega)
theorem Abp[Dr]{a:UInt8}{c:Nat}{k':IntKind}(hx:ev L x=some (.int .u8 (a.toNat:Int)))(hy:ev L y=some (.int k' (c:Int)))(hc:c<8):Bv P L w (.binOp .shr t x y t') ty (.int .u8 ((a >>> (UInt8.ofNat c)).toNat:Int)):=by
 have h:=S8 (P:=P) (w:=w) (t:=t) (t':=t') (ty:=ty) hx hy rfl (show c≤IntKind.u8.bits by simp [IntKind.bits];omega)
 have e:(a.toNat:Int) / 2 ^ c=((a >>> (UInt8.ofNat c)).toNat:Int):=by
  rw [UInt8.toNat_shiftRight,UInt8.toNat_ofNat',Nat.mod_eq_of_lt (show c<2 ^ 8 by omega),Nat.mod_eq_of_lt hc,Nat.shiftRight_eq_div_pow];simp
 rw [e] at h;exact h
theorem De[Dr]{l:List UInt8}(hx:ev L x=some (.string ⟨l.toArray⟩))(ht:P.underlying t=some .string):Bv P L w (.call ⟨.builtin .len,#[x],#[t]⟩) ty (.int .i64 (l.length:Int)):=by
 intro w' _ ρ hρ dst pos af g;have:(ByteArray.mk l.toArray).size=l.length:=by simp [ByteArray.size]
 simp [execOp,resolve,hρ x _ hx,invoke,builtin,Builtin.len_,run_underlying ht,goInt,this]
theorem ML[Dr]{l m:List UInt8}(hx:ev L x=some (.string ⟨l.toArray⟩))(hy:ev L y=some (.string ⟨m.toArray⟩)):Bv P L w (.binOp .neq t x y t') ty (.bool (!decide (l=m))):=by
 intro w' _ ρ hρ dst pos af g;have e:(l==m)=decide (l=m):=by rw [Bool.eq_iff_iff];simp
 simp [execOp,hρ x _ hx,hρ y _ hy,eqGuard,binOp,Op.stringOp,e]
theorem Dw[Dr]{l m:List UInt8}(hx:ev L x=some (.string ⟨l.toArray⟩))(hy:ev L y=some (.string ⟨m.toArray⟩))(h:l.length+m.length≤9223372036854775807):Bv P L w (.binOp .add t x y t') ty (.string ⟨(l++m).toArray⟩):=by
 intro w' _ ρ hρ dst pos af g;have c:(ByteArray.mk l.toArray).size=l.length:=by simp [ByteArray.size]
 have f:(ByteArray.mk m.toArray).size=m.length:=by simp [ByteArray.size]
 have o:ByteArray.mk l.toArray++ByteArray.mk m.toArray=ByteArray.mk (l++m).toArray:=by
  apply ByteArray.ext;simp
 have p : ¬ (IntKind.i64.max<((l.length+m.length:Nat):Int)):=by
  have:IntKind.i64.max=9223372036854775807:=by decide
  omega
 simp only [execOp,hρ x _ hx,hρ y _ hy,eqGuard,binOp,Op.stringOp,c,f,o];simp;omega
end
section
variable {P:Program} {n:Sz} {ops:Array Oper} {Q:Exit→Act→World→Prop} {L:Env} {w w0:World} {O:List BG} {rest:List Oper} {lop:List Oper} {ix:Nat} {tr:Tr}
 {d:Nat} {ty:TypeId} {pos:String} {af:Array Edge} {α:Type} {r:Rp α} {x a b:Operand} {v:Value} {t e:TypeId} {H:PH} {l:List α} {k k':IntKind} {i j:Int} {zz:Value} {bt:Nat}
theorem XN[Dr](hx:ev L x=some v)(ha:ev L a=some (.int k i))(hb:ev L b=some (.int k' j))(ht:P.underlying t=some (.slice e))(he:Zr P e zz r.sz bt)(hv:AI r H v l)(hc:0≤i∧i≤j∧j≤(l.length:Int))(hn:Nat.blt d n.n=true)
  (h:∀ v',AI r H v' ((l.drop i.toNat).take (j.toNat - i.toNat))→S P n ops Q rest ((d,v')::L) w):S P n ops Q (⟨some d,.slice t x (some a) (some b) none,ty,pos,af,none⟩::rest) L w:=
 Tl hx ht he hv i.toNat j.toNat ⟨k,by rw [Int.toNat_of_nonneg (by omega)];exact ha⟩ ⟨k',by rw [Int.toNat_of_nonneg (by omega)];exact hb⟩ (by omega) hn h
theorem Uw[Dr](hx:ev L x=some v)(ha:ev L a=some (.int k i))(ht:P.underlying t=some (.slice e))(he:Zr P e zz r.sz bt)(hv:AI r H v l)(hc:0≤i∧i≤(l.length:Int))(hn:Nat.blt d n.n=true)
  (h:∀ v',AI r H v' (l.drop i.toNat)→S P n ops Q rest ((d,v')::L) w):S P n ops Q (⟨some d,.slice t x (some a) none none,ty,pos,af,none⟩::rest) L w:=
 Tl hx ht he hv i.toNat l.length ⟨k,by rw [Int.toNat_of_nonneg (by omega)];exact ha⟩ rfl (by omega) hn fun v' h'=>h v' (by rwa [List.take_of_length_le (by simp)] at h')
theorem Ux[Dr](hx:ev L x=some v)(hb:ev L b=some (.int k' j))(ht:P.underlying t=some (.slice e))(he:Zr P e zz r.sz bt)(hv:AI r H v l)(hc:0≤j∧j≤(l.length:Int))(hn:Nat.blt d n.n=true)
  (h:∀ v',AI r H v' (l.take j.toNat)→S P n ops Q rest ((d,v')::L) w):S P n ops Q (⟨some d,.slice t x none (some b) none,ty,pos,af,none⟩::rest) L w:=
 Tl hx ht he hv 0 j.toNat rfl ⟨k',by rw [Int.toNat_of_nonneg (by omega)];exact hb⟩ (by omega) hn fun v' h'=>h v' (by simpa using h')
theorem Uy[Dr](ho:H8 lop ix=some ⟨some d,.slice t x (some a) none none,ty,pos,af,none⟩)(hx:ev L x=some v)(ha:ev L a=some (.int k i))(ht:P.underlying t=some (.slice e))(he:Zr P e zz r.sz bt)(hv:AI r H v l)(hc:0≤i∧i≤(l.length:Int))(hn:Nat.blt d n.n=true)
  (h:∀ v',AI r H v' (l.drop i.toNat)→D P n lop Q tr ((d,v')::L) w):D P n lop Q (.q ix tr) L w:=
 Z7 ho hx ht he hv i.toNat l.length ⟨k,by rw [Int.toNat_of_nonneg (by omega)];exact ha⟩ rfl (by omega) hn fun v' h'=>h v' (by rwa [List.take_of_length_le (by simp)] at h')
theorem Mt[Dr]{z:Value}{sz:Nat}{cs:List Value}(ho:H8 lop ix=some ⟨some d,.alloc t,ty,pos,af,none⟩)(hz:Zr P t z sz bt)(hc:z.cells.toList=cs)(hn:Nat.blt d n.n=true)(hL:AO w0 O w)
  (h:∀ w' b,AO w0 (.box b cs t::O) w'→Le (fz w O) (fz w' (.box b cs t::O))→D P n lop Q tr ((d,.pointer (some ⟨b,0,none⟩))::L) w'):D P n lop Q (.h ix tr) L w:=by
 subst hc;refine VP (R:=fun a u w'=>u=.pointer (some ⟨a.heap.size,0,none⟩)∧w'=a.alloc (.cells z.cells.toList.toArray t)) ho hn (fun a c ρ hρ=>?_) (fun a u w' c f hR=>?_)
 ·refine⟨_,_,S7 hz a ρ _ rfl,C0 _ _,rfl,by simp⟩
 ·obtain⟨rfl,rfl⟩:=hR;have e:=hL.call c;exact h _ _ (Tm e) ((AV hL c).trans (P5 e))
end
end Go.E
namespace Go.E
open Go Go.RowKit
theorem AJ.c1{α:Type}{r:Rp α}{H:PH}{x:α}{l:List α}{a:Value}{cs:List Value}(h:r.rel H x [a])(t:AJ r H l cs):AJ r H (x::l) (a::cs):=.cons (c:=[a]) h t
theorem AJ.c2{α:Type}{r:Rp α}{H:PH}{x:α}{l:List α}{a b:Value}{cs:List Value}(h:r.rel H x [a,b])(t:AJ r H l cs):AJ r H (x::l) (a::b::cs):=.cons (c:=[a,b]) h t
theorem AJ.c3{α:Type}{r:Rp α}{H:PH}{x:α}{l:List α}{a b d:Value}{cs:List Value}(h:r.rel H x [a,b,d])(t:AJ r H l cs):AJ r H (x::l) (a::b::d::cs):=.cons (c:=[a,b,d]) h t
theorem AJ.c4{α:Type}{r:Rp α}{H:PH}{x:α}{l:List α}{a b d e:Value}{cs:List Value}(h:r.rel H x [a,b,d,e])(t:AJ r H l cs):AJ r H (x::l) (a::b::d::e::cs):=.cons (c:=[a,b,d,e]) h t
theorem AJ.c5{α:Type}{r:Rp α}{H:PH}{x:α}{l:List α}{a b d e f:Value}{cs:List Value}(h:r.rel H x [a,b,d,e,f])(t:AJ r H l cs):AJ r H (x::l) (a::b::d::e::f::cs):=.cons (c:=[a,b,d,e,f]) h t
theorem AJ.c6{α:Type}{r:Rp α}{H:PH}{x:α}{l:List α}{a b d e f g:Value}{cs:List Value}(h:r.rel H x [a,b,d,e,f,g])(t:AJ r H l cs):AJ r H (x::l) (a::b::d::e::f::g::cs):=.cons (c:=[a,b,d,e,f,g]) h t
theorem AJ.c7{α:Type}{r:Rp α}{H:PH}{x:α}{l:List α}{a b d e f g i:Value}{cs:List Value}(h:r.rel H x [a,b,d,e,f,g,i])(t:AJ r H l cs):AJ r H (x::l) (a::b::d::e::f::g::i::cs):=.cons (c:=[a,b,d,e,f,g,i]) h t
theorem AJ.c8{α:Type}{r:Rp α}{H:PH}{x:α}{l:List α}{a b d e f g i j:Value}{cs:List Value}(h:r.rel H x [a,b,d,e,f,g,i,j])(t:AJ r H l cs):AJ r H (x::l) (a::b::d::e::f::g::i::j::cs):=.cons (c:=[a,b,d,e,f,g,i,j]) h t
theorem CB[Dr]{α:Type}(r:Rp α){w0 w:World}{O:List BG}(H:PH)(e:TypeId)(hL:AO w0 O w):
  AO w0 (.row (.slice none 0 0) e r.sz ([]:List α).length []::O) w∧Le (fz w O) (fz w (.row (.slice none 0 0) e r.sz ([]:List α).length []::O))∧AJ r (gz H w0 w (.row (.slice none 0 0) e r.sz ([]:List α).length []::O)) [] []:=
 ⟨(QH hL e r.sz).1,(QH hL e r.sz).2,.nil⟩
def HF(Q:Exit→Act→World→Prop):Prop:=∀ c a (d:Option Tmp) (v:Value) w,Q (.panic c) (a.put d v) w→Q (.panic c) a w
section
variable {P:Program} {n:Sz} {Q:Exit→Act→World→Prop}
theorem Mu{fn:Func}{R:Value→World→Prop}:HF (MI P fn R):=fun _ _ d _ _ h=>by cases d <;> exact h
theorem Vl{y:Code}(h:HF Q):HF (OM P y Q):=fun c a d v w k=>h c a d v w k
theorem Mv{σ:Type}{I:σ→Env}{R:σ→World→Prop}(h:HF Q):HF (Uh n I R Q):=fun c a d v w k=>h c a d v w k
theorem QI{σ:Type}{I:σ→Env}{R:σ→World→Prop}{μ:σ→Nat}{x:σ}(h:HF Q):HF (QU n I R μ x Q):=fun c a d v w k=>h c a d v w k
theorem IB{id:Nat}(h:HF Q):HF (Exit.inBlock id Q):=fun c a d v w k=>h c a d v w k
end
section
variable {P:Program} {n:Sz} {m fuel:Nat} {l:List Oper} {Q:Exit→Act→World→Prop} {L:Env} {w w0:World} {done:List Nat} {i d:Nat} {op:Op} {ty:TypeId} {pos:String} {af:Array Edge}
def P7(l:List Oper)(m:Nat)(done:List Nat)(i:Nat):Bool:=
 Region.noSelect l.toArray&&Region.free .any l.toArray (MK m done) i&&(Region.ready .any l.toArray (MK m done)).contains i
end
section
variable {P:Program} {n:Sz} {m fuel:Nat} {lo:List Oper} {Q:Exit→Act→World→Prop} {L:Env} {w w0:World} {done:List Nat} {i d:Nat} {ty:TypeId} {pos:String} {af:Array Edge} {α:Type} {r:Rp α} {H:PH} {x y:Operand} {v:Value} {t e:TypeId} {O:List BG}
end
end Go.E
namespace Go.E
open Go Go.RowKit
theorem AO.AcI[Dr]{w0 w w':World}{O:List BG}{g:Nat}(h:AO w0 O w)(hg:w.grownBy w' (some g))(hdr:w.drawn≤w'.drawn)(hge:w0.heap.size≤g)(hno:owned O g=false):AO w0 O w':=by
 have hs:∀ r∈O,∀ b,r.block=some b→w'.heap[b]? = w.heap[b]?:=fun r hr b hb=>by
  refine hg.block b ((h.res r hr).lt hb) (fun e=>?_);have e':b=g:=by simpa [eq_comm] using e
  have:owned O b=true:=CW.2 ⟨r,hr,hb⟩;rw [e',hno] at this;cases this
 refine⟨⟨⟨hg.os.trans h.ext.os,hg.tape.trans h.ext.tape,hg.output.trans h.ext.output,Nat.le_trans h.ext.size hg.size,fun k hk=>?_⟩,fun o=>Nat.le_trans (h.ext.drawn o) hdr⟩,fun r hr=>(h.res r hr).same (hs r hr),h.own,h.Zu⟩
 have hne : ¬ (some k=some g):=fun e=>by
  have e':k=g:=by simpa using e
  omega
 rw [hg.block k (Nat.lt_of_lt_of_le hk h.ext.size) hne];exact h.ext.block k hk
section
variable {P:Program} {L:Env} {w:World} {x y:Operand} {ty t t':TypeId}
end
theorem cells_one{v:Value}(h:v.oneCell'=true):v.cells.toList=[v]:=by cases v <;> simp_all [Value.cells,Value.oneCell']
section
variable {P:Program} {n:Sz} {ops:Array Oper} {Q:Exit→Act→World→Prop} {L:Env} {w w0:World} {O:List BG} {rest:List Oper} {d:Nat} {ty:TypeId} {pos:String} {af:Array Edge} {x:Operand} {v:Value} {t e:TypeId} {H:PH}
theorem Tt[Dr](hx:ev L x=some v)(a:v.oneCell'=true)(hn:Nat.blt d n.n=true)(hL:AO w0 O w)
  (h:∀ w' b,AO w0 (.box b [v] t::O) w'→Le (fz w O) (fz w' (.box b [v] t::O))→Ext w w'→S P n ops Q rest ((d,.pointer (some ⟨b,0,none⟩))::L) w'):S P n ops Q (⟨some d,.box t x,ty,pos,af,none⟩::rest) L w:=
 CK hx (cells_one a) hn hL h
theorem XO[Dr](i:Nat){l:List UInt8}{xs:List Value}(hx:ev L x=some v)(ht:P.underlying t=some (.slice e))(he:P.underlying e=some (.int .u8))(hn:Nat.blt d n.n=true)(_hH:Le H (hp w0))(hL:AO w0 O w)(hi:D8 O i=some (.row v e 1 l.length xs))(hel:AJ .byte (gz H w0 w O) l xs)(hne:l≠[])
  (h:∀ w',AO w0 (KK O i) w'→Le (fz w O) (fz w' (KK O i))→AI .byte (gz H w0 w' (KK O i)) v l→S P n ops Q rest ((d,v)::L) w') :
  S P n ops Q (⟨some d,.convert t t x,ty,pos,af,none⟩::rest) L w:=by
 have hown:w.ownsRow 0 e 1 v l.length xs:=hL.at hi
 rcases hown.2 with ⟨_,f⟩ | ⟨g,cap,cur,rfl,hb,hg,hnc,hcm,hcs,htake⟩
 ·exact absurd (List.eq_nil_of_length_eq_zero f) hne
 have hgl:=lt_of_heap hg
 have hfr:w.freeze ⟨g,cur.size,none⟩ 1={w with heap:=w.heap.setIfInBounds g (.cells cur e (cur.size,cur.size+1))}:=by
  unfold World.freeze;rw [if_neg (by decide)]
  congr 1
  apply Array.ext_getElem?;intro k;rw [Array.getElem?_modify,Array.getElem?_setIfInBounds]
  by_cases hk:g=k
  ·subst hk;rw [if_pos rfl,if_pos rfl,if_pos hgl,hg];rfl
  ·rw [if_neg hk,if_neg hk]
 have hrun:(convert t t (.slice (some ⟨g,0,none⟩) l.length cap)).run P w=.ok (.slice (some ⟨g,0,none⟩) l.length cap) (w.freeze ⟨g,cur.size,none⟩ 1):=by
  simp [convert,run_underlying ht,run_underlying he,markStringish,shape,freeze,Sem.run,World.shape?,hg]
 rw [hfr] at hrun
 have hgr:w.grownBy {w with heap:=w.heap.setIfInBounds g (.cells cur e (cur.size,cur.size+1))} (some g):=
  ⟨rfl,rfl,rfl,by simp,fun k _ hne=>by
   show(w.heap.setIfInBounds g _)[k]? = _
   rw [Array.getElem?_setIfInBounds,if_neg (fun e=>hne (by rw [e]))]⟩
 have hmem:BG.row (.slice (some ⟨g,0,none⟩) l.length cap) e 1 l.length xs∈O:=(Dy hi).mem_iff.2 (.head _);have hge:w0.heap.size≤g:=hL.own _ hmem g rfl
 have hno:owned (KK O i) g=false:=by
  cases hc:owned (KK O i) g with
  | false=>rfl
  | true=>
   obtain⟨r,hr,hb'⟩:=CW.1 hc;have hd:=List.pairwise_cons.1 (hL.perm (Dy hi).symm).Zu;exact absurd hb' (hd.1 r hr g rfl)
 have hL':=(hL.AP hi).AcI hgr (Nat.le_refl _) hge hno
 have hle:Le (fz w O) (fz {w with heap:=w.heap.setIfInBounds g (.cells cur e (cur.size,cur.size+1))} (KK O i)):=fun b o hbo=>by
  have hbg:b≠g:=fun e=>by
   subst e;unfold fz at hbo;rw [if_pos (CW.2 ⟨_,hmem,rfl⟩)] at hbo
   cases hbo
  have a:=Al (w:=w) hi b o hbo;unfold fz at a ⊢
  split at a
  ·cases a
  ·rename_i ho;rw [if_neg ho]
   show(w.heap.setIfInBounds g _)[b]? = some o
   rw [Array.getElem?_setIfInBounds,if_neg (fun e=>hbg e.symm)];exact a
 refine Ds rfl rfl hn (fun ρ hρ=>by simp [execOp,hρ x _ hx,hrun]) (h _ hL' hle ?_);refine⟨some ⟨g,0,none⟩,cap,rfl,hnc,hcm,(fun h=>by cases h),fun A hA _=>?_⟩
 cases hA
 refine⟨rfl,fun j y hy=>?_⟩;obtain⟨c,hc,hcell⟩:=hel.at j y hy;refine⟨c,hc,fun k u hu=>?_⟩;have a:=hcell k u hu;rw [← htake,List.getElem?_take] at a
 split at a
 ·have hgz:gz H w0 {w with heap:=w.heap.setIfInBounds g (.cells cur e (cur.size,cur.size+1))} (KK O i) g=some (.cells cur e (cur.size,cur.size+1)):=by
   apply OP;unfold nf fz;rw [if_pos hge,hno]
   show(w.heap.setIfInBounds g _)[g]? = _
   rw [Array.getElem?_setIfInBounds,if_pos rfl,if_pos hgl]
  simp only [Addr.add_lit,Nat.zero_add,Gu,hgz]
  simpa using a
 ·cases a
end
theorem GS.part{H:PH}{p:Addr}{c:List Value}(h:GS H p c)(m:Nat):GS H p (c.take m):=
 ⟨h.1,fun j u hu=>h.2 j u (by
  rw [List.getElem?_take] at hu
  split at hu
  ·exact hu
  ·cases hu)⟩
section
variable {P:Program} {L:Env} {w w0:World} {O:List BG} {x:Operand} {ty t:TypeId} {H:PH}
theorem Rl[Dr](i m:Nat){b off:Nat}{cs c:List Value}{t':TypeId}{dd:TypeDesc}{zz:Value}{bt:Nat}(hx:ev L x=some (.pointer (some ⟨b,off,none⟩)))(ht:P.underlying t=some dd)(hd:Ur dd=true)(hz:Zr P t zz c.length bt)(hL:AO w0 O w)(hi:D8 O i=some (.box b cs t'))(hc:(cs.drop off).take m=c):Bv P L w (.load t x) ty (.agg c.toArray):=by
 have a:=((AT hL hi).add off).part m;rw [hc,Addr.add_lit,Nat.zero_add] at a;exact C1 hx ht hd hz a (Le.refl _)
theorem Tu{α:Type}{r:Rp α}{v:Value}{l:List α}(h:AI r H v l):(v=.slice none 0 0∧l=[])∨∃ A n c,v=.slice (some A) n c:=by
 obtain⟨a,cap,b,h2,_,d,_⟩:=h.ex
 cases a with
 | none=>
  have hc:=d rfl;have hl:l.length=0:=by omega
  left
  rw [b,hl,hc];exact⟨rfl,List.eq_nil_of_length_eq_zero hl⟩
 | some A=>exact .inr ⟨A,_,_,b⟩
theorem Tv[Dr]{y:Operand}{e t':TypeId}(hx:ev L x=some (.slice none 0 0))(hy:ev L y=some (.slice none 0 0))(ht:P.underlying t=some (.slice e)):Bv P L w (.binOp .eql t x y t') ty (.bool true):=by
 intro w' _ ρ hρ dst pos af g;have key:∀ dd:Nat,(Op.equalIn (dd+1) t (.slice none 0 0) (.slice none 0 0)).run P w'=.ok true w':=fun dd=>by simp [Op.equalIn,run_underlying ht]
 have a:(Op.equal t (.slice none 0 0) (.slice none 0 0)).run P w'=.ok true w':=key 9999;simp [execOp,hρ x _ hx,hρ y _ hy,eqGuard,binOp,a]
theorem Tw[Dr]{v:Value}{y:Operand}{e t':TypeId}(hx:ev L x=some v)(hy:ev L y=some (.slice none 0 0))(ht:P.underlying t=some (.slice e))(hv:∃ A n c,v=.slice (some A) n c):Bv P L w (.binOp .eql t x y t') ty (.bool false):=by
 obtain⟨A,n,c,rfl⟩:=hv;intro w' _ ρ hρ dst pos af g;have key:∀ dd:Nat,(Op.equalIn (dd+1) t (.slice (some A) n c) (.slice none 0 0)).run P w'=.ok false w':=fun dd=>by simp [Op.equalIn,run_underlying ht]
 have a:(Op.equal t (.slice (some A) n c) (.slice none 0 0)).run P w'=.ok false w':=key 9999;simp [execOp,hρ x _ hx,hρ y _ hy,eqGuard,binOp,a]
theorem Tx[Dr]{α:Type}(r:Rp α){e:TypeId}(hL:AO w0 O w)(hH:Le H (hp w0)):C2 e r H w0 w (.slice none 0 0) ([]:List α):=
 (CB r H e hL).1.GQ (i:=0) hH rfl (CB r H e hL).2.2
end
end Go.E
namespace Go.E
open Go Go.RowKit
section
variable {P:Program} {n:Sz} {ops:Array Oper} {Q:Exit→Act→World→Prop} {L:Env} {w w0:World} {O:List BG} {rest:List Oper} {d:Nat} {ty:TypeId} {pos:String} {af:Array Edge} {x y:Operand} {t tn e:TypeId} {H:PH}
theorem VU[Dr]{a:Option Addr}{m c:Nat}(hx:ev L x=some (.slice a m c))(ht:P.underlying t=some (.slice e)):Bv P L w (.call ⟨.builtin .cap,#[x],#[t]⟩) ty (.int .i64 (c:Int)):=by
 intro w' _ ρ hρ dst pos af g;simp [execOp,resolve,invoke,builtin,hρ x _ hx,Builtin.cap_,run_underlying ht]
 rfl
theorem VV[Dr]{k kn:IntKind}{zz:Value}{bt m:Nat}(hx:ev L x=some (.slice none 0 0))(hy:ev L y=some (.int k (m:Int)))(ht:P.underlying t=some (.slice e))(htn:P.underlying tn=some (.int kn))(hz:Zr P e zz 1 bt)(hzc:zz.cells = #[zz])(hn:Nat.blt d n.n=true)(c:0<m)(a:(m:Int)≤9223372036854775807)(b:m * bt≤281474976710656)
  (h:∀ g cap cur w',Ext w w'→w.heap.size≤g→w'.heap[g]? = some (.cells cur e (0,0))→cap≤maxLen→cur.size=cap→S P n ops Q rest ((d,.slice (some ⟨g,0,none⟩) m cap)::L) w') :
  S P n ops Q (⟨some d,.call ⟨.builtin .append,#[x,y],#[t,tn]⟩,ty,pos,af,none⟩::rest) L w:=by
 obtain⟨inf,f,i,j,l⟩:=hz.parts;have hr:=Lib.run_append_nil_zeros (P:=P) w t tn ty e inf zz k kn ht htn f i m c (by rw [j];decide) a (by rw [l];exact b);have hge:=grownCap_ge w m 0 e;have hsz:∀ k,(Builtin.zeroCells zz.cells k).size=k:=fun k=>by rw [hzc];simp [Builtin.zeroCells]
 refine Ds (v:=.slice (some ⟨w.heap.size,0,none⟩) m (grownCap w m 0 e)) (w':=w.drew.alloc (.cells (Builtin.zeroCells zz.cells m++Builtin.zeroCells zz.cells (grownCap w m 0 e - m)) e)) rfl rfl hn (fun ρ hρ=>by simp [execOp,resolve,invoke,builtin,hρ x _ hx,hρ y _ hy,hr]) (h _ _ (Builtin.zeroCells zz.cells m++Builtin.zeroCells zz.cells (grownCap w m 0 e - m)) _ ?_ (Nat.le_refl _) ?_ (grownCap_le_maxLen w m 0 e (by unfold maxLen;omega)) ?_)
 ·exact(show Ext w w.drew from Kj).trans (C0 _ _)
 ·show(w.heap.push _)[w.heap.size]? = _
  simp
 ·rw [Array.size_append,hsz,hsz];omega
theorem XP[Dr]{g m cap:Nat}{k:IntKind}{zz:Value}{bt:Nat}(hx:ev L x=some (.slice (some ⟨g,0,none⟩) m cap))(hy:ev L y=some (.int k 0))(ht:P.underlying t=some (.slice e))(hz:Zr P e zz 1 bt):Bv P L w (.slice t x none (some y) none) ty (.slice (some ⟨g,0,none⟩) 0 cap):=by
 obtain⟨inf,a,_,_,_⟩:=hz.parts;intro w' _ ρ hρ dst pos af gd;simp [execOp,hρ x _ hx,hρ y _ hy,Instr.sliceAt,run_underlying ht,Instr.slice,Instr.sliceBounds,Instr.sliceBound,asIntOf,sizeOf,typeInfo,a];exact fun _=>by rw [Addr.add_lit]
theorem Rm[Dr]{k:IntKind}{zz:Value}{bt:Nat}(hx:ev L x=some (.slice none 0 0))(hy:ev L y=some (.int k 0))(ht:P.underlying t=some (.slice e))(hz:Zr P e zz 1 bt):Bv P L w (.slice t x none (some y) none) ty (.slice none 0 0):=by
 obtain⟨inf,a,_,_,_⟩:=hz.parts;intro w' _ ρ hρ dst pos af gd;simp [execOp,hρ x _ hx,hρ y _ hy,Instr.sliceAt,run_underlying ht,Instr.slice,Instr.sliceBounds,Instr.sliceBound,asIntOf,sizeOf,typeInfo,a]
theorem ZF[Dr]{α:Type}{r:Rp α}{bt:Nat}{k k':IntKind}{zz:Value}{c:Int}(hx:ev L x=some (.int k 0))(hy:ev L y=some (.int k' c))(ht:P.underlying t=some (.slice e))(hz:Zr P e zz r.sz bt)(hn:Nat.blt d n.n=true)(hL:AO w0 O w)(hm:0≤c∧(bt:Int) * c≤281474976710656∧c≤9223372036854775807)
  (h:∀ v' w' xs,AO w0 (.row v' e r.sz ([]:List α).length xs::O) w'→Le (fz w O) (fz w' (.row v' e r.sz ([]:List α).length xs::O))→AJ r (gz H w0 w' (.row v' e r.sz ([]:List α).length xs::O)) [] xs→S P n ops Q rest ((d,v')::L) w') :
  S P n ops Q (⟨some d,.makeSlice t x y,ty,pos,af,none⟩::rest) L w:=by
 obtain⟨inf,a,b,f,g⟩:=hz.parts;obtain⟨m,rfl⟩:=Int.eq_ofNat_of_zero_le hm.1;obtain⟨w',hr,ho,hg⟩:=run_make_own (P:=P) w w.heap.size t e inf zz r.sz ht a b f k k' m (by rw [g];have:=hm.2.1;rw [← Int.natCast_mul] at this;exact Int.ofNat_le.1 this) (by unfold maxLen;omega) (Nat.le_refl _);have hx':=Nn (NO _ _ _ _ hr) hg;obtain⟨i,h2⟩:=K7 hL hx' ho;exact Ds rfl rfl hn (fun ρ hρ=>by simp [execOp,hρ x _ hx,hρ y _ hy,hr]) (h _ _ _ i h2 .nil)
theorem G7[Dr]{l:List UInt8}{k:IntKind}{i:Int}(hx:ev L x=some (.string ⟨l.toArray⟩))(hy:ev L y=some (.int k i))(ht:P.underlying t=some .string)(hi:0≤i∧i<(l.length:Int)):Bv P L w (.index t x y) ty (.int .u8 ((l.getD i.toNat default).toNat:Int)):=by
 intro w' _ ρ hρ dst pos af g;have a:i.toNat<l.length:=by omega
 have h2:(⟨l.toArray⟩:ByteArray)[i.toNat]? = some (l.getD i.toNat default):=by
  have hb:i.toNat<(⟨l.toArray⟩:ByteArray).size:=a;rw [show l.getD i.toNat default=(⟨l.toArray⟩:ByteArray)[i.toNat] by rw [List.getD_eq_getElem?_getD,List.getElem?_eq_getElem a];rfl];simp [hb]
 simp [execOp,hρ x _ hx,hρ y _ hy,Instr.index,asIntOf,run_underlying ht,hi.1,h2]
end
end Go.E
namespace Go.E
open Go Go.RowKit
section
variable {P:Program} {n:Sz} {m fuel:Nat} {l:List Oper} {Q:Exit→Act→World→Prop} {L:Env} {w w0:World} {done:List Nat} {i d:Nat} {op:Op} {ty:TypeId} {pos:String} {af:Array Edge}
end
end Go.E
namespace Go.E
open Go Go.RowKit
theorem run_loadBytes{P:Program}{w:World}:∀ (l:List UInt8) (A:Addr) (acc:ByteArray),A.spot=none→(∀ i x,l[i]? = some x→w.cell? (A.add i)=some (.int .u8 (x.toNat:Int)))→
  (Extern.Bytes.loadBytes A l.length acc).run P w=.ok ⟨acc.data++l.toArray⟩ w
 | [],A,acc,_,_=>by simp [Extern.Bytes.loadBytes]
 | b::l,A,acc,hs,h=>by
  have a:=h 0 b rfl;rw [Addr.add_zero'] at a;have ih:=run_loadBytes (P:=P) (w:=w) l (A.add 1) (acc.push b) (JX hs 1) (fun i x hx=>by rw [Jt hs,Nat.add_comm];exact h (i+1) x hx);have e:((b.toNat:Int).toNat).toUInt8=b:=by simp
  simp only [List.length_cons,Extern.Bytes.loadBytes,Sem.run_bind];have hl:(load A).run P w=.ok (.int .u8 (b.toNat:Int)) w:=by simp [load,Sem.run,a]
  rw [hl];simp only [Result.andThen_ok,e,ih];simp
theorem Qk{P:Program}{w:World}{H:PH}{v:Value}{l:List UInt8}(hv:AI .byte H v l)(hs:Le H (hp w)):(Extern.Bytes.bytesOf v).run P w=.ok ⟨l.toArray⟩ w:=by
 obtain⟨a,cap,rfl,h2,h3,b,d⟩:=hv.ex
 cases a with
 | none=>
  have:cap=0:=b rfl;have hl:l=[]:=List.eq_nil_of_length_eq_zero (by omega);subst hl
  rfl
 | some A=>
  by_cases hl:l=[]
  ·subst hl;rfl
  ·obtain⟨e,f⟩:=d A rfl hl
   have:=run_loadBytes (P:=P) (w:=w) l A .empty e (fun i x hx=>by
    obtain⟨c,hc,hcell⟩:=f i x hx;obtain rfl:c=[.int .u8 (x.toNat:Int)]:=hc;have:=hcell 0 _ rfl;rw [show(Rp.byte).sz=1 from rfl,Nat.mul_one,Nat.add_zero] at this;exact cell_of hs this)
   show(Extern.Bytes.loadBytes A l.length .empty).run P w=_
   rw [this];simp
section
variable {P:Program} {L:Env} {w:World} {x y:Operand} {ty:TypeId} {H H':PH} {u v:Value}
theorem Abq [Dr] {f : FuncId} {fn : Func} {at_ : Array TypeId} {l m : List UInt8} (hf : P.funcs[f]? = some fn) (a : (fn.name == "runtime.NumGoroutine") = false) (h2 : fn.body.isNone = true) (h3 : Extern.findNext fn = none) (b : Extern.find fn = some Extern.BytealgCompare.compare)
  (hx:ev L x=some u) (hy:ev L y=some v) (hu:AI .byte H u l) (hsu:Le H (hp w)) (hv:AI .byte H' v m) (hsv:Le H' (hp w)):Bv P L w (.call ⟨.value (.func f),#[x,y],at_⟩) ty (.int .i64 (Lib.compareBytes l m)):=by
 intro w' hw ρ hρ dst pos af g;have c:ρ (.func f)=.func (.func f) #[] #[]:=hρ _ _ rfl;have d:=Qk (P:=P) hu (hsu.ext hw);have i:=Qk (P:=P) hv (hsv.ext hw)
 have hc:(Extern.BytealgCompare.compare #[u,v]).run P w'=.ok (.int .i64 (Lib.compareBytes l m)) w':=by
  show Sem.run P (do pure (goInt (Extern.BytealgCompare.cmp (← Extern.Bytes.bytesOf u) (← Extern.Bytes.bytesOf v)))) w'=_
  simp only [Sem.run_bind,d,i,Result.andThen_ok,Sem.run_pure,Lib.cmp_eq];simp [goInt]
 have hcall:(callFunc f #[u,v]).run P w'=.ok (.value (.int .i64 (Lib.compareBytes l m))) w':=by
  rw [run_callFunc_extern hf a h2 h3 b,hc];rfl
 simp [execOp,resolve,c,hρ x _ hx,hρ y _ hy,Deferred.ofValue,invoke,hcall]
end
end Go.E
namespace Go.E
open Go Go.RowKit
section
variable {P:Program} {L:Env} {w:World} {x y:Operand} {ty t t' e:TypeId}
theorem Ack[Dr]{a:Int}(hx:ev L x=some (.int .i64 a))(h:Go.L.BL (-a)):Bv P L w (.unOp .neg t x) ty (.int .i64 (-a)):=by
 intro w' _ ρ hρ dst pos af g;have e:=wrap64 h.1 h.2;simp [execOp,hρ x _ hx,Op.unary,Op.intArith,e]
theorem C4[Dr]{p:Addr}(hx:ev L x=some (.pointer (some p))):Bv P L w (.nilCheck x) ty (.pointer (some p)):=by
 intro w' _ ρ hρ dst pos af g;simp [execOp,hρ x _ hx]
theorem Abr [Dr] {f : FuncId} {fn : Func} {at_ : Array TypeId} {l m : List UInt8} (hf : P.funcs[f]? = some fn) (a : (fn.name == "runtime.NumGoroutine") = false) (h2 : fn.body.isNone = true) (h3 : Extern.findNext fn = none) (b : Extern.find fn = some Extern.BytealgCompare.compare)
  (hx:ev L x=some (.string ⟨l.toArray⟩)) (hy:ev L y=some (.string ⟨m.toArray⟩)):Bv P L w (.call ⟨.value (.func f),#[x,y],at_⟩) ty (.int .i64 (Lib.compareBytes l m)):=by
 intro w' hw ρ hρ dst pos af g;have c:ρ (.func f)=.func (.func f) #[] #[]:=hρ _ _ rfl
 have hc:(Extern.BytealgCompare.compare #[.string ⟨l.toArray⟩,.string ⟨m.toArray⟩]).run P w'=.ok (.int .i64 (Lib.compareBytes l m)) w':=by
  show Sem.run P (do pure (goInt (Extern.BytealgCompare.cmp (← Extern.Bytes.bytesOf (.string ⟨l.toArray⟩)) (← Extern.Bytes.bytesOf (.string ⟨m.toArray⟩))))) w'=_
  simp only [Extern.Bytes.bytesOf,Sem.run_bind,Result.andThen_ok,Sem.run_pure,Lib.cmp_eq];simp [goInt]
 have hcall:(callFunc f #[.string ⟨l.toArray⟩,.string ⟨m.toArray⟩]).run P w'=.ok (.value (.int .i64 (Lib.compareBytes l m))) w':=by
  rw [run_callFunc_extern hf a h2 h3 b,hc];rfl
 simp [execOp,resolve,c,hρ x _ hx,hρ y _ hy,Deferred.ofValue,invoke,hcall]
theorem VW[Dr]{a:UInt8}(hx:ev L x=some (.int .u8 (a.toNat:Int)))(ht:P.underlying t=some (.int .u8))(ht':P.underlying t'=some .string)(ha:a.toNat<128):Bv P L w (.convert t t' x) ty (.string ⟨[a].toArray⟩):=by
 intro w' _ ρ hρ dst pos af g;have hv:Utf8.valid (a.toNat:Int)=true:=by simp [Utf8.valid];omega
 have e:Utf8.encode (a.toNat:Int)=⟨[a].toArray⟩:=by
  unfold Utf8.encode;rw [if_pos hv,Int.toNat_natCast,if_pos (by omega)];simp only [UInt8.ofNat_toNat]
 simp [execOp,hρ x _ hx,convert,run_underlying ht,run_underlying ht',Conv.intToString,e]
end
section
variable {P:Program} {n:Sz} {ops:Array Oper} {Q:Exit→Act→World→Prop} {L:Env} {w w0:World} {O:List BG} {rest:List Oper} {d:Nat} {ty:TypeId} {pos:String} {af:Array Edge} {x:Operand} {t t' e:TypeId} {H:PH}
theorem P8[Dr](w:World)(e:TypeId){l:List UInt8}(hl:l.length≤9223372036854775807):Ext w (Lib.bytesWorld w e ⟨l.toArray⟩)∧AI .byte (nw w (Lib.bytesWorld w e ⟨l.toArray⟩)) (.slice (some ⟨w.heap.size,0,none⟩) l.length (grownCap w l.length 0 e)) l:=by
 have hs:(ByteArray.mk l.toArray).size=l.length:=by simp [ByteArray.size]
 refine⟨⟨⟨rfl,rfl,rfl,?_,fun k hk=>?_⟩,fun _=>(by first | exact Nat.le_refl _ | exact Nat.le_succ _)⟩,⟨some ⟨w.heap.size,0,none⟩,_,rfl,grownCap_ge _ _ _ _,grownCap_le_maxLen _ _ _ _ (by unfold maxLen;omega),(fun h=>by cases h),fun A hA _=>?_⟩⟩
 ·rw [Lib.bytesWorld_size];omega
 ·exact Lib.bytesWorld_at_old w e _ k hk
 ·cases hA
  refine⟨rfl,fun i b hb=>⟨_,rfl,fun j u hu=>?_⟩⟩;have hi:=(List.getElem?_eq_some_iff.1 hb).1
  cases j with
  | zero=>
   simp only [List.getElem?_cons_zero,Option.some.injEq] at hu;subst hu
   show Gu _ (Addr.add ⟨w.heap.size,0,none⟩ (i * 1+0))=_
   have:=Lib.bytesWorld_cell w e ⟨l.toArray⟩ i (by rw [hs];exact hi);simp only [Addr.add_lit,Nat.zero_add,Nat.mul_one,Nat.add_zero,Gu,nw,Nat.le_refl,if_true];unfold World.cell? at this;rw [show(l.toArray.toList.getD i 0)=b by simp [List.getD_eq_getElem?_getD,hb]] at this;exact this
  | succ j=>cases hu
theorem XQ[Dr]{l:List UInt8}{u:TypeDesc}(hx:ev L x=some (.string ⟨l.toArray⟩))(ht:P.underlying t=some u)(ht':P.underlying t'=some (.slice e))(he:P.underlying e=some (.int .u8))(hn:Nat.blt d n.n=true)(hL:AO w0 O w)(hl:l.length≤9223372036854775807)
  (h:∀ v w',Ext w w'→AO w0 O w'→Le (fz w O) (fz w' O)→AI .byte (gz H w0 w' O) v l→S P n ops Q rest ((d,v)::L) w'):S P n ops Q (⟨some d,.convert t t' x,ty,pos,af,none⟩::rest) L w:=by
 obtain⟨a,h2⟩:=P8 w e hl;have hs:(ByteArray.mk l.toArray).size=l.length:=by simp [ByteArray.size]
 refine Ds (v:=.slice (some ⟨w.heap.size,0,none⟩) l.length (grownCap w l.length 0 e)) (w':=Lib.bytesWorld w e ⟨l.toArray⟩) rfl rfl hn (fun ρ hρ=>?_) (h _ _ a (hL.call a) (AV hL a) (h2.mono (Rk hL)));have:=Lib.run_convert_string_bytes (P:=P) w t t' e ⟨l.toArray⟩ ht ht' he;rw [hs] at this;simp [execOp,hρ x _ hx,this]
end
def VX(O:List BG)(i:Nat):List BG:=match D8 O i with | some q=>q::KK O i | none=>O
def Ty:List BG→List Nat→List BG
 | O,[]=>O
 | O,i::l=>Ty (VX O i) l
theorem Vm(O:List BG)(i:Nat):O.Perm (VX O i):=by
 unfold VX
 split
 ·rename_i q hq;exact Dy hq
 ·exact List.Perm.refl _
theorem Ns:∀ (l:List Nat) (O:List BG),O.Perm (Ty O l)
 | [],_O=>List.Perm.refl _
 | i::l,O=>(Vm O i).trans (Ns l (VX O i))
theorem AO.C5[Dr]{w0 w:World}{O O':List BG}(l:List Nat)(h:AO w0 O w)(e:Ty O l=O'):AO w0 O' w:=e ▸ h.perm (Ns l O).symm
theorem B6[Dr]{w0 w:World}{O O':List BG}(l:List Nat)(_:AO w0 O w)(_:AO w0 O' w)(e:Ty O l=O'):Le (fz w O) (fz w O'):=by
 rw [← e,Ig (Ns l O).symm];exact Le.refl _
abbrev DZ[Dr](w0:World)(O:List BG)(w:World)(P:List BG→Prop):Prop:=AO w0 O w∧P O
end Go.E
end
