/-
  The library's functions that platforms call, by the shelf's contracts: strings.Cut, Contains, Split, Join, Compare; slices.ContainsFunc and SortFunc at pairs.
  How a law's walk becomes its row, where the row lists utf8's tables: the contract, the witness's world.
  billetref03.Name: a text is a name just if 'nameB' says so.
  Configurations: how one lies in memory; what is wrong with its tenants and limits.
  conf.Check and the reference's own: what is wrong with a configuration.
  billetref07.Check: what is wrong with a configuration.
  More small laws: a struct loaded whole inside a region that draws its order.
  bound and the reference's own: what they hand back, of any configuration.
  billetref07: Right, Classes: the walks.
-/
import Derived.Shelf.Strings.Search3
import Derived.Shelf.Strings.Cut
import Derived.Shelf.Strings.Split
import Derived.Shelf.Strings.OnBuilder
import Derived.Shelf.Small.Strs
import Derived.Shelf.Small.Bits
import Derived.Shelf.SlicesQ.IndexFunc
import Derived.Shelf.SlSortCmp.SmallK
import Derived.Test.YtjmlimogmmikoaaGreatDoorSx01
import Derived.Test.YtjmlimogmmikoaaGreatDoorCards
import Derived.Test.YtjmlimogmmikoaaGreatDoorTie
import Derived.Deep.DeepHandedRow
import Derived.Shelf.Vars
import Derived.SevenTiedAt
import Derived.Deep.DeepCutAuto
namespace Go.Proofs.YtjmlimogmmikoaaGreatDoor
open Go.Shelf Go.RowKit
open Go.Sort hiding Below
def Tryz.lays106_ren : Go.Shelf.Ren := ⟨fun | 106 => 220 | 213 => 246 | 265 => 270 | n => n, fun | 9 => 9 | 3 => 3 | n => n, fun | n => n⟩
theorem Tryz.lays106 : Go.Proofs.Lays.n106 Tryz.prog Tryz.lays106_ren := {
  mixed := by kernel_rfl
  f106 := Tryz.func220.trans (congrArg some (by kernel_rfl))
  f213 := Tryz.func246.trans (congrArg some (by kernel_rfl))
  f265 := Tryz.func270.trans (congrArg some (by kernel_rfl))
  t3 := Tryz.underlying3
  a3 := Tryz.isAgg3
  z3 := Tryz.sizeOf3
  v3 := Tryz.zeroValue3
  t9 := Tryz.underlying9
  a9 := Tryz.isAgg9
  z9 := Tryz.sizeOf9
  v9 := Tryz.zeroValue9 }
def Tryz.lays144_ren : Go.Shelf.Ren := ⟨fun | 144 => 258 | 143 => 290 | 219 => 310 | 217 => 317 | 225 => 318 | 224 => 319 | 267 => 320 | 266 => 325 | 314 => 326 | n => n, fun | 9 => 9 | 4 => 4 | 3 => 3 | 5 => 5 | 46 => 360 | 146 => 459 | 51 => 391 | n => n, fun | 1 => 0 | n => n⟩
theorem Tryz.lays144 : Go.Proofs.Lays.n144 Tryz.prog Tryz.lays144_ren := {
  mixed := by kernel_rfl
  f143 := Tryz.func290.trans (congrArg some (by kernel_rfl))
  f144 := Tryz.func258.trans (congrArg some (by kernel_rfl))
  f217 := Tryz.func317.trans (congrArg some (by kernel_rfl))
  f219 := Tryz.func310.trans (congrArg some (by kernel_rfl))
  f224 := Tryz.func319.trans (congrArg some (by kernel_rfl))
  f225 := Tryz.func318.trans (congrArg some (by kernel_rfl))
  f266 := Tryz.func325.trans (congrArg some (by kernel_rfl))
  f267 := Tryz.func320.trans (congrArg some (by kernel_rfl))
  f314 := Tryz.func326.trans (congrArg some (by kernel_rfl))
  t3 := Tryz.underlying3
  a3 := Tryz.isAgg3
  z3 := Tryz.sizeOf3
  v3 := Tryz.zeroValue3
  t4 := Tryz.underlying4
  a4 := Tryz.isAgg4
  z4 := Tryz.sizeOf4
  v4 := Tryz.zeroValue4
  t5 := Tryz.underlying5
  a5 := Tryz.isAgg5
  z5 := Tryz.sizeOf5
  v5 := Tryz.zeroValue5
  t9 := Tryz.underlying9
  a9 := Tryz.isAgg9
  z9 := Tryz.sizeOf9
  v9 := Tryz.zeroValue9
  t46 := Tryz.underlying360
  a46 := Tryz.isAgg360
  z46 := Tryz.sizeOf360
  v46 := Tryz.zeroValue360
  t51 := Tryz.underlying391
  a51 := Tryz.isAgg391
  z51 := Tryz.sizeOf391
  v51 := Tryz.zeroValue391
  t146 := Tryz.underlying459
  a146 := Tryz.isAgg459
  z146 := Tryz.sizeOf459
  v146 := Tryz.zeroValue459
  g1 := by kernel_rfl }
def Tryz.lays145_ren : Go.Shelf.Ren := ⟨fun | 145 => 257 | 220 => 291 | 219 => 310 | 217 => 317 | 225 => 318 | 224 => 319 | 267 => 320 | 266 => 325 | 314 => 326 | n => n, fun | 9 => 9 | 4 => 4 | 59 => 379 | 3 => 3 | 5 => 5 | 46 => 360 | 146 => 459 | 51 => 391 | n => n, fun | 1 => 0 | n => n⟩
theorem Tryz.lays145 : Go.Proofs.Lays.n145 Tryz.prog Tryz.lays145_ren := {
  mixed := by kernel_rfl
  f145 := Tryz.func257.trans (congrArg some (by kernel_rfl))
  f217 := Tryz.func317.trans (congrArg some (by kernel_rfl))
  f219 := Tryz.func310.trans (congrArg some (by kernel_rfl))
  f220 := Tryz.func291.trans (congrArg some (by kernel_rfl))
  f224 := Tryz.func319.trans (congrArg some (by kernel_rfl))
  f225 := Tryz.func318.trans (congrArg some (by kernel_rfl))
  f266 := Tryz.func325.trans (congrArg some (by kernel_rfl))
  f267 := Tryz.func320.trans (congrArg some (by kernel_rfl))
  f314 := Tryz.func326.trans (congrArg some (by kernel_rfl))
  t3 := Tryz.underlying3
  a3 := Tryz.isAgg3
  z3 := Tryz.sizeOf3
  v3 := Tryz.zeroValue3
  t4 := Tryz.underlying4
  a4 := Tryz.isAgg4
  z4 := Tryz.sizeOf4
  v4 := Tryz.zeroValue4
  t5 := Tryz.underlying5
  a5 := Tryz.isAgg5
  z5 := Tryz.sizeOf5
  v5 := Tryz.zeroValue5
  t9 := Tryz.underlying9
  a9 := Tryz.isAgg9
  z9 := Tryz.sizeOf9
  v9 := Tryz.zeroValue9
  t46 := Tryz.underlying360
  a46 := Tryz.isAgg360
  z46 := Tryz.sizeOf360
  v46 := Tryz.zeroValue360
  t51 := Tryz.underlying391
  a51 := Tryz.isAgg391
  z51 := Tryz.sizeOf391
  v51 := Tryz.zeroValue391
  t59 := Tryz.underlying379
  a59 := Tryz.isAgg379
  z59 := Tryz.sizeOf379
  v59 := Tryz.zeroValue379
  t146 := Tryz.underlying459
  a146 := Tryz.isAgg459
  z146 := Tryz.sizeOf459
  v146 := Tryz.zeroValue459
  g1 := by kernel_rfl }
def Tryz.lays146_ren : Go.Shelf.Ren := ⟨fun | 146 => 240 | 221 => 256 | 268 => 288 | 138 => 289 | 143 => 290 | 195 => 307 | 197 => 308 | 218 => 309 | 219 => 310 | 260 => 316 | 217 => 317 | 225 => 318 | 224 => 319 | 267 => 320 | 266 => 325 | 314 => 326 | n => n, fun | 9 => 9 | 31 => 352 | 3 => 3 | 4 => 4 | 0 => 0 | 105 => 438 | 21 => 21 | 5 => 5 | 46 => 360 | 119 => 455 | 139 => 458 | 138 => 457 | 146 => 459 | 51 => 391 | n => n, fun | 1 => 0 | 3 => 1 | 4 => 2 | n => n⟩
theorem Tryz.lays146 : Go.Proofs.Lays.n146 Tryz.prog Tryz.lays146_ren := {
  mixed := by kernel_rfl
  f138 := Tryz.func289.trans (congrArg some (by kernel_rfl))
  f143 := Tryz.func290.trans (congrArg some (by kernel_rfl))
  f146 := Tryz.func240.trans (congrArg some (by kernel_rfl))
  f195 := Tryz.func307.trans (congrArg some (by kernel_rfl))
  f197 := Tryz.func308.trans (congrArg some (by kernel_rfl))
  f217 := Tryz.func317.trans (congrArg some (by kernel_rfl))
  f218 := Tryz.func309.trans (congrArg some (by kernel_rfl))
  f219 := Tryz.func310.trans (congrArg some (by kernel_rfl))
  f221 := Tryz.func256.trans (congrArg some (by kernel_rfl))
  f224 := Tryz.func319.trans (congrArg some (by kernel_rfl))
  f225 := Tryz.func318.trans (congrArg some (by kernel_rfl))
  f260 := Tryz.func316.trans (congrArg some (by kernel_rfl))
  f266 := Tryz.func325.trans (congrArg some (by kernel_rfl))
  f267 := Tryz.func320.trans (congrArg some (by kernel_rfl))
  f268 := Tryz.func288.trans (congrArg some (by kernel_rfl))
  f314 := Tryz.func326.trans (congrArg some (by kernel_rfl))
  t0 := Tryz.underlying0
  a0 := Tryz.isAgg0
  z0 := Tryz.sizeOf0
  v0 := Tryz.zeroValue0
  t3 := Tryz.underlying3
  a3 := Tryz.isAgg3
  z3 := Tryz.sizeOf3
  v3 := Tryz.zeroValue3
  t4 := Tryz.underlying4
  a4 := Tryz.isAgg4
  z4 := Tryz.sizeOf4
  v4 := Tryz.zeroValue4
  t5 := Tryz.underlying5
  a5 := Tryz.isAgg5
  z5 := Tryz.sizeOf5
  v5 := Tryz.zeroValue5
  t9 := Tryz.underlying9
  a9 := Tryz.isAgg9
  z9 := Tryz.sizeOf9
  v9 := Tryz.zeroValue9
  t21 := Tryz.underlying21
  a21 := Tryz.isAgg21
  z21 := Tryz.sizeOf21
  v21 := Tryz.zeroValue21
  t31 := Tryz.underlying352
  a31 := Tryz.isAgg352
  z31 := Tryz.sizeOf352
  v31 := Tryz.zeroValue352
  t46 := Tryz.underlying360
  a46 := Tryz.isAgg360
  z46 := Tryz.sizeOf360
  v46 := Tryz.zeroValue360
  t51 := Tryz.underlying391
  a51 := Tryz.isAgg391
  z51 := Tryz.sizeOf391
  v51 := Tryz.zeroValue391
  t105 := Tryz.underlying438
  a105 := Tryz.isAgg438
  z105 := Tryz.sizeOf438
  v105 := Tryz.zeroValue438
  t119 := Tryz.underlying455
  a119 := Tryz.isAgg455
  z119 := Tryz.sizeOf455
  t138 := Tryz.underlying457
  a138 := Tryz.isAgg457
  z138 := Tryz.sizeOf457
  v138 := Tryz.zeroValue457
  t139 := Tryz.underlying458
  a139 := Tryz.isAgg458
  z139 := Tryz.sizeOf458
  v139 := Tryz.zeroValue458
  t146 := Tryz.underlying459
  a146 := Tryz.isAgg459
  z146 := Tryz.sizeOf459
  v146 := Tryz.zeroValue459
  g1 := by kernel_rfl
  g3 := by kernel_rfl
  g4 := by kernel_rfl }
def Tryz.lays156_ren : Go.Shelf.Ren := ⟨fun | 156 => 247 | 165 => 271 | 166 => 272 | 169 => 273 | 240 => 297 | 241 => 298 | 276 => 312 | 277 => 313 | n => n, fun | 31 => 352 | 9 => 9 | 3 => 3 | 4 => 4 | 0 => 0 | 20 => 20 | 72 => 396 | 76 => 400 | 70 => 393 | 37 => 394 | 75 => 399 | 127 => 429 | 164 => 443 | 5 => 5 | 80 => 402 | n => n, fun | n => n⟩
theorem Tryz.lays156 : Go.Proofs.Lays.n156 Tryz.prog Tryz.lays156_ren := {
  mixed := by kernel_rfl
  f156 := Tryz.func247.trans (congrArg some (by kernel_rfl))
  f165 := Tryz.func271.trans (congrArg some (by kernel_rfl))
  f166 := Tryz.func272.trans (congrArg some (by kernel_rfl))
  f169 := Tryz.func273.trans (congrArg some (by kernel_rfl))
  f240 := Tryz.func297.trans (congrArg some (by kernel_rfl))
  f241 := Tryz.func298.trans (congrArg some (by kernel_rfl))
  f276 := Tryz.func312.trans (congrArg some (by kernel_rfl))
  f277 := Tryz.func313.trans (congrArg some (by kernel_rfl))
  t0 := Tryz.underlying0
  a0 := Tryz.isAgg0
  z0 := Tryz.sizeOf0
  v0 := Tryz.zeroValue0
  t3 := Tryz.underlying3
  a3 := Tryz.isAgg3
  z3 := Tryz.sizeOf3
  v3 := Tryz.zeroValue3
  t4 := Tryz.underlying4
  a4 := Tryz.isAgg4
  z4 := Tryz.sizeOf4
  v4 := Tryz.zeroValue4
  t9 := Tryz.underlying9
  a9 := Tryz.isAgg9
  z9 := Tryz.sizeOf9
  v9 := Tryz.zeroValue9
  t20 := Tryz.underlying20
  a20 := Tryz.isAgg20
  z20 := Tryz.sizeOf20
  v20 := Tryz.zeroValue20
  t31 := Tryz.underlying352
  a31 := Tryz.isAgg352
  z31 := Tryz.sizeOf352
  v31 := Tryz.zeroValue352
  t37 := Tryz.underlying394
  a37 := Tryz.isAgg394
  z37 := Tryz.sizeOf394
  v37 := Tryz.zeroValue394
  t70 := Tryz.underlying393
  a70 := Tryz.isAgg393
  z70 := Tryz.sizeOf393
  v70 := Tryz.zeroValue393
  t72 := Tryz.underlying396
  a72 := Tryz.isAgg396
  z72 := Tryz.sizeOf396
  v72 := Tryz.zeroValue396
  t75 := Tryz.underlying399
  a75 := Tryz.isAgg399
  z75 := Tryz.sizeOf399
  v75 := Tryz.zeroValue399
  t76 := Tryz.underlying400
  a76 := Tryz.isAgg400
  z76 := Tryz.sizeOf400
  v76 := Tryz.zeroValue400
  t127 := Tryz.underlying429
  a127 := Tryz.isAgg429
  z127 := Tryz.sizeOf429
  v127 := Tryz.zeroValue429
  t164 := Tryz.underlying443
  a164 := Tryz.isAgg443
  z164 := Tryz.sizeOf443
  v164 := Tryz.zeroValue443 }
theorem Tryz.Builder_Extra_156 : Builder.Extra Tryz.prog Tryz.lays156_ren := {
  sizeBuilder := by kernel_rfl
  liesBuilder := by kernel_rfl
  t5 := Tryz.underlying5
  a5 := Tryz.isAgg5
  z5 := Tryz.sizeOf5
  v5 := Tryz.zeroValue5
  infoByte := by kernel_rfl
  cellsByte := by kernel_rfl
  sizeByte := by kernel_rfl
  neB5 := by decide }
def Tryz.lays125_ren : Go.Shelf.Ren := ⟨fun | 125 => 245 | 128 => 268 | 129 => 269 | n => n, fun | 46 => 360 | 3 => 3 | 51 => 391 | 53 => 26 | 4 => 4 | 5 => 5 | 9 => 9 | n => n, fun | n => n⟩
theorem Tryz.lays125 : Go.Proofs.Lays.n125 Tryz.prog Tryz.lays125_ren := {
  mixed := by kernel_rfl
  f125 := Tryz.func245.trans (congrArg some (by kernel_rfl))
  f128 := Tryz.func268.trans (congrArg some (by kernel_rfl))
  f129 := Tryz.func269.trans (congrArg some (by kernel_rfl))
  t3 := Tryz.underlying3
  a3 := Tryz.isAgg3
  z3 := Tryz.sizeOf3
  v3 := Tryz.zeroValue3
  t4 := Tryz.underlying4
  a4 := Tryz.isAgg4
  z4 := Tryz.sizeOf4
  v4 := Tryz.zeroValue4
  t5 := Tryz.underlying5
  a5 := Tryz.isAgg5
  z5 := Tryz.sizeOf5
  v5 := Tryz.zeroValue5
  t9 := Tryz.underlying9
  a9 := Tryz.isAgg9
  z9 := Tryz.sizeOf9
  v9 := Tryz.zeroValue9
  t46 := Tryz.underlying360
  a46 := Tryz.isAgg360
  z46 := Tryz.sizeOf360
  v46 := Tryz.zeroValue360
  t51 := Tryz.underlying391
  a51 := Tryz.isAgg391
  z51 := Tryz.sizeOf391
  v51 := Tryz.zeroValue391
  t53 := Tryz.underlying26
  a53 := Tryz.isAgg26
  z53 := Tryz.sizeOf26
  v53 := Tryz.zeroValue26 }
def Tryz.hasPair_ren : Go.Shelf.Ren := ⟨fun | 8 => 242 | 6 => 259 | n => n, fun | 22 => 326 | 23 => 331 | 25 => 357 | 4 => 4 | 3 => 3 | 0 => 0 | n => n, fun | n => n⟩
theorem Tryz.hasPair : Go.Proofs.SlLaysH0.n8 Tryz.prog Tryz.hasPair_ren := {
  mixed := by kernel_rfl
  f6 := ⟨Tryz.f259.name, by decide, Tryz.func259.trans (congrArg some (by kernel_rfl))⟩
  f8 := ⟨Tryz.f242.name, by decide, Tryz.func242.trans (congrArg some (by kernel_rfl))⟩
  t0 := Tryz.underlying0
  a0 := Tryz.isAgg0
  z0 := Tryz.sizeOf0
  v0 := Tryz.zeroValue0
  t3 := Tryz.underlying3
  a3 := Tryz.isAgg3
  z3 := Tryz.sizeOf3
  v3 := Tryz.zeroValue3
  t4 := Tryz.underlying4
  a4 := Tryz.isAgg4
  z4 := Tryz.sizeOf4
  v4 := Tryz.zeroValue4
  t22 := Tryz.underlying326
  a22 := Tryz.isAgg326
  z22 := Tryz.sizeOf326
  v22 := Tryz.zeroValue326
  t25 := Tryz.underlying357
  a25 := Tryz.isAgg357
  z25 := Tryz.sizeOf357
  v25 := Tryz.zeroValue357 }
def Tryz.sortPair_ren : Go.Shelf.Ren := ⟨fun | 6 => 218 | 15 => 245 | 14 => 244 | 28 => 268 | 29 => 269 | 20 => 260 | 21 => 261 | 22 => 262 | 23 => 263 | 24 => 264 | 25 => 265 | 26 => 266 | 27 => 267 | 46 => 292 | 47 => 293 | 48 => 294 | 49 => 295 | 50 => 296 | 57 => 311 | n => n, fun | 22 => 326 | 24 => 331 | 25 => 333 | 3 => 3 | 39 => 360 | 0 => 0 | 53 => 391 | 55 => 26 | 4 => 4 | 46 => 385 | 45 => 384 | 50 => 240 | 5 => 5 | 9 => 9 | 66 => 423 | 70 => 427 | 76 => 441 | 77 => 314 | n => n, fun | n => n⟩
theorem Tryz.sortPair : Go.Proofs.SlLaysF0.n6 Tryz.prog Tryz.sortPair_ren := {
  mixed := by kernel_rfl
  f6 := ⟨Tryz.f218.name, by decide, Tryz.func218.trans (congrArg some (by kernel_rfl))⟩
  f14 := ⟨Tryz.f244.name, by decide, Tryz.func244.trans (congrArg some (by kernel_rfl))⟩
  f15 := Tryz.func245.trans (congrArg some (by kernel_rfl))
  f20 := ⟨Tryz.f260.name, by decide, Tryz.func260.trans (congrArg some (by kernel_rfl))⟩
  f21 := ⟨Tryz.f261.name, by decide, Tryz.func261.trans (congrArg some (by kernel_rfl))⟩
  f22 := ⟨Tryz.f262.name, by decide, Tryz.func262.trans (congrArg some (by kernel_rfl))⟩
  f23 := ⟨Tryz.f263.name, by decide, Tryz.func263.trans (congrArg some (by kernel_rfl))⟩
  f24 := ⟨Tryz.f264.name, by decide, Tryz.func264.trans (congrArg some (by kernel_rfl))⟩
  f25 := ⟨Tryz.f265.name, by decide, Tryz.func265.trans (congrArg some (by kernel_rfl))⟩
  f26 := ⟨Tryz.f266.name, by decide, Tryz.func266.trans (congrArg some (by kernel_rfl))⟩
  f27 := ⟨Tryz.f267.name, by decide, Tryz.func267.trans (congrArg some (by kernel_rfl))⟩
  f28 := Tryz.func268.trans (congrArg some (by kernel_rfl))
  f29 := Tryz.func269.trans (congrArg some (by kernel_rfl))
  f46 := ⟨Tryz.f292.name, by decide, Tryz.func292.trans (congrArg some (by kernel_rfl))⟩
  f47 := Tryz.func293.trans (congrArg some (by kernel_rfl))
  f48 := Tryz.func294.trans (congrArg some (by kernel_rfl))
  f49 := ⟨Tryz.f295.name, by decide, Tryz.func295.trans (congrArg some (by kernel_rfl))⟩
  f50 := ⟨Tryz.f296.name, by decide, Tryz.func296.trans (congrArg some (by kernel_rfl))⟩
  f57 := ⟨Tryz.f311.name, by decide, Tryz.func311.trans (congrArg some (by kernel_rfl))⟩
  t0 := Tryz.underlying0
  a0 := Tryz.isAgg0
  z0 := Tryz.sizeOf0
  v0 := Tryz.zeroValue0
  t3 := Tryz.underlying3
  a3 := Tryz.isAgg3
  z3 := Tryz.sizeOf3
  v3 := Tryz.zeroValue3
  t4 := Tryz.underlying4
  a4 := Tryz.isAgg4
  z4 := Tryz.sizeOf4
  v4 := Tryz.zeroValue4
  t5 := Tryz.underlying5
  a5 := Tryz.isAgg5
  z5 := Tryz.sizeOf5
  v5 := Tryz.zeroValue5
  t9 := Tryz.underlying9
  a9 := Tryz.isAgg9
  z9 := Tryz.sizeOf9
  v9 := Tryz.zeroValue9
  t22 := Tryz.underlying326
  a22 := Tryz.isAgg326
  z22 := Tryz.sizeOf326
  v22 := Tryz.zeroValue326
  t25 := Tryz.underlying333
  a25 := Tryz.isAgg333
  z25 := Tryz.sizeOf333
  v25 := Tryz.zeroValue333
  t39 := Tryz.underlying360
  a39 := Tryz.isAgg360
  z39 := Tryz.sizeOf360
  v39 := Tryz.zeroValue360
  t45 := Tryz.underlying384
  a45 := Tryz.isAgg384
  z45 := Tryz.sizeOf384
  v45 := Tryz.zeroValue384
  t46 := Tryz.underlying385
  a46 := Tryz.isAgg385
  z46 := Tryz.sizeOf385
  v46 := Tryz.zeroValue385
  t50 := Tryz.underlying240
  a50 := Tryz.isAgg240
  z50 := Tryz.sizeOf240
  v50 := Tryz.zeroValue240
  t53 := Tryz.underlying391
  a53 := Tryz.isAgg391
  z53 := Tryz.sizeOf391
  v53 := Tryz.zeroValue391
  t55 := Tryz.underlying26
  a55 := Tryz.isAgg26
  z55 := Tryz.sizeOf26
  v55 := Tryz.zeroValue26
  t66 := Tryz.underlying423
  a66 := Tryz.isAgg423
  z66 := Tryz.sizeOf423
  v66 := Tryz.zeroValue423
  t70 := Tryz.underlying427
  a70 := Tryz.isAgg427
  z70 := Tryz.sizeOf427
  v70 := Tryz.zeroValue427
  t76 := Tryz.underlying441
  a76 := Tryz.isAgg441
  z76 := Tryz.sizeOf441
  v76 := Tryz.zeroValue441
  t77 := Tryz.underlying314
  a77 := Tryz.isAgg314
  z77 := Tryz.sizeOf314
  v77 := Tryz.zeroValue314 }
def Ready (w : World) : Prop := ∃ m, w.cell? ⟨0, 0, none⟩ = some (.int .i64 m)
theorem Ready.below {w w' : World} (h : Ready w) (hb : Below w.heap.size w w') : Ready w' := by
  obtain ⟨m, hm⟩ := h
  exact ⟨m, by rw [hb.cell (World.block_lt_of_cell? w _ hm)]; exact hm⟩
theorem cut_any (c : UInt8) (s : ByteArray) (w : World) (hr : Ready w) (hs : s.size < 4294967281) :
    Calls Tryz.prog 257 #[.string s, .string ⟨#[c]⟩] w fun e w' => e = .returned (.tuple #[.string (ba (Lib.cut s.data.toList [c]).1), .string (ba (Lib.cut s.data.toList [c]).2.1), .bool (Lib.cut s.data.toList [c]).2.2]) ∧ Below w.heap.size w w' := by
  obtain ⟨m, hm⟩ := hr
  refine (Any.strings_Cut Tryz.lays145 s ⟨#[c]⟩ m w hs hm).mono ?_
  rintro e w' ⟨he, n, rfl⟩
  exact ⟨he, ⟨rfl, rfl, rfl, Nat.le_refl _, fun _ _ => rfl⟩⟩
theorem contains_any (c : UInt8) (s : ByteArray) (w : World) (hr : Ready w) (hs : s.size < 4294967281) :
    Calls Tryz.prog 258 #[.string s, .string ⟨#[c]⟩] w fun e w' => e = .returned (.bool (Lib.contains s.data.toList [c])) ∧ w = w' := by
  obtain ⟨m, hm⟩ := hr
  exact (Any.strings_Contains Tryz.lays144 s ⟨#[c]⟩ m w hs hm).mono fun _ _ ⟨he, hw⟩ => ⟨he, hw.symm⟩
theorem split_any (c : UInt8) (s : ByteArray) (w : World) (hr : Ready w) (hs : s.size < 4294967281) :
    Calls Tryz.prog 240 #[.string s, .string ⟨#[c]⟩] w fun e w' => e = .returned (.slice (some ⟨w.heap.size, 0, none⟩) (splitL c s.data.toList).length (splitL c s.data.toList).length) ∧
      w.alloc (.cells ((splitL c s.data.toList).map fun p => Value.string (ba p)).toArray 9) = w' := by
  obtain ⟨m, hm⟩ := hr
  refine (Any.strings_Split Tryz.lays146 (by kernel_rfl) s ⟨#[c]⟩ m w hs hm (Nat.le_refl 1)).mono ?_
  rintro e w' ⟨he, rfl⟩
  have e1 : Lib.countB s ⟨#[c]⟩ + 1 = (splitL c s.data.toList).length := (splitL_length c s.data.toList).symm
  rw [e1] at he
  refine ⟨he, ?_⟩
  rw [splitB_pieces, List.map_map]
  rfl
theorem compare_any (a b : ByteArray) (w : World) : Calls Tryz.prog 220 #[.string a, .string b] w fun e w' => e = .returned (.int .i64 (Lib.compareBytes a.data.toList b.data.toList)) ∧ w = w' :=
  (Any.strings_Compare Tryz.lays106 a b w).mono fun _ _ ⟨he, hw⟩ => ⟨he, hw.symm⟩
theorem join_any (bk o c : Nat) (xs : List ByteArray) (sep : ByteArray) (w : World) (hcells : ∀ (j : Nat) x, xs[j]? = some x → w.cell? ⟨bk, o + j, none⟩ = some (.string x)) (hbk : bk < w.heap.size) (hN : xs.length ≤ 140737488355328) (hcap : xs.length ≤ c)
    (hlen : (Lib.join (xs.map (·.data.toList)) sep.data.toList).length ≤ 140737488355328) :
    Calls Tryz.prog 247 #[.slice (some ⟨bk, o, none⟩) xs.length c, .string sep] w fun e w' => e = .returned (.string (ba (Lib.join (xs.map (·.data.toList)) sep.data.toList))) ∧ Below w.heap.size w w' :=
  Any.strings_Join Tryz.lays156 Tryz.Builder_Extra_156 bk o c xs sep w hcells hbk hN hcap hlen
theorem join_none (a : Option Addr) (c : Nat) (sep : ByteArray) (w : World) :
    Calls Tryz.prog 247 #[.slice a 0 c, .string sep] w fun e w' => e = .returned (.string ⟨#[]⟩) ∧ w = w' :=
  (Any.strings_Join_none Tryz.lays156 Tryz.Builder_Extra_156 a c sep w).mono fun _ _ ⟨he, hw⟩ => ⟨he, hw.symm⟩
def encP (p : Pr) : List Value := [.string p.1, .string p.2]
theorem encP_len (p : Pr) : (encP p).length = 2 := rfl
theorem encP_one (p : Pr) : ∀ v ∈ encP p, v.oneCell' = true := by
  intro v hv
  simp [encP] at hv
  rcases hv with rfl | rfl <;> rfl
set_option maxHeartbeats 1000000 in
theorem cmpP_any (x y : Pr) (W : World) : Calls Tryz.prog 219 #[.agg (encP x).toArray, .agg (encP y).toArray] W fun e w' => e = .returned (.int .i64 (kCmp x y)) ∧ ∃ q os', w' = grow (W.drewN q) os' := by
  show Calls Tryz.prog 219 #[.agg #[.string x.1, .string x.2], .agg #[.string y.1, .string y.2]] W _
  go_enter Tryz.func219, Tryz.ntmps219
  go_wp2_with fail
  refine (compare_any _ _ _).mono ?_
  rintro e w' ⟨rfl, rfl⟩
  go_wp2
  go_ret
  exact ⟨ret_int rfl, 0, _, by rw [alloc_eq_grow, alloc_eq_grow, grow_grow]; rfl⟩
theorem cmpLaysP (blk off size : Nat) (w : World) : CmpLays Tryz.prog 219 #[] encP 2 kCmp blk off size w := fun _ _ _ _ x y => cmpP_any x y _
theorem swoP : SWO (ltOf kCmp) := ⟨fun x => kLt_irrefl x, fun x y z h1 h2 => kLt_trans (p := x) (q := y) (r := z) h1 h2, fun x y z h1 h2 => kLt_ntrans (p := x) (q := y) (r := z) h1 h2⟩
theorem hlenP (n : Nat) (W : World) (h : n ≤ 12) : Calls Tryz.prog 245 #[.int .u64 n] W fun e w' => (∃ l : Int, e = .returned (.int .i64 l)) ∧ w' = W :=
  (Any.bits_Len Tryz.lays125 n W (by omega) (by omega)).mono fun _ _ ⟨he, hw⟩ => ⟨⟨_, he⟩, hw⟩
theorem sort_any (blk off cap : Nat) (d : Array Pr) (w : World) (hH : HoldsK encP 2 w blk off d) (hblk : blk < w.heap.size) (h12 : d.size ≤ 12) :
    Calls Tryz.prog 218 #[.slice (some ⟨blk, off, none⟩) d.size cap, .func (.func 219) #[] #[]] w fun e w' => e = .returned (.tuple #[]) ∧ ∃ d' n os, PermIn 0 d.size d d' ∧ SortedIn (ltOf kCmp) 0 d.size d' ∧ w' = sortWorldK encP 2 w blk off n d' os :=
  AnyQ.slices_SortFunc_small_sorted Tryz.sortPair 2 Tryz.isAgg331 Tryz.sizeOf331 encP encP_len encP_one kCmp 219 #[] swoP blk off cap d w (enters_of Tryz.func219 (by kernel_rfl) rfl) (cmpLaysP _ _ _ _) hH hblk h12 hlenP
end Go.Proofs.YtjmlimogmmikoaaGreatDoor
namespace Go.Proofs.YtjmlimogmmikoaaGreatDoor
open Go.ChangeShapes Go.WideShapes Go.ChangeAt Go.RowKit
theorem ready_shaped {w : World} (h : w.ShapedOpen Tryz.prog) : Ready w :=
  cell_of_shapedOpen_int (g := 0) (t := 3) (zero := #[.int .i64 0]) h (by decide +kernel) (by kernel_rfl) rfl (by kernel_rfl) (by kernel_rfl) Tryz.underlying3
section
variable {H : Type} {enc : TypeId × Value → H} {P : Program}
theorem law_contract {C : Checked} {f : FuncId} {fn : Func} {s : ChangeSpec} {ts : List TypeId} {tb : TypeId} (hC : C.prog = P)
    (hp : fn.params.toList = ts) (hl : laidOutB P = true) (hr : ∀ t, t ∈ ts → P.readableRec t = true ∧ t < P.types.size) (hv : s.vars = [])
    (hs : ∀ ds : List (DataW H), ds.length = ts.length → s.fn H ds = { results := [.lit (.bool true)], args := ds }) (hrt : fn.resultTypes = #[tb]) (hb4 : P.underlying tb = some .bool)
    {W : World} {base : Nat} {args : Array Value} {ds gs : List (DataW H)} {before : List MemPlace}
    (hval : ∀ (j : Nat) t v, fn.params[j]? = some t → args[j]? = some v → Value.okWide C.prog W .any base t v)
    (hW : DataW.Whole enc C.prog fn.params.toList s.vars false W args.toList ds gs before)
    (hz : (DataW.weightsEach C.prog (fn.params.toList ++ []) (ds ++ gs)).all (· ≤ reachBytes) = true)
    (walk : ∀ (args : List Value) (ps : List MemPlace), (∀ (j : Nat) t v, ts[j]? = some t → args[j]? = some v → Value.okWide P W .any base t v) →
      DataW.TrodAll enc P W 0 (fun _ => true) true ts args ds ps → (∀ x ∈ DataW.weightsEach P ts ds, x ≤ 140737488351232) → Calls P f args.toArray W fun e W' => e = .returned (.bool true) ∧ Below W.heap.size W W') :
    Calls C.prog f args W fun e W' => ∃ v, e = .returned v ∧ s.post enc C.prog fn false true false false W args v W' := by
  subst hC
  have hW' := hW
  obtain ⟨p, q, hA, hV, rfl, _, _⟩ := hW
  have hg : gs = [] := by
    rw [hv] at hV
    cases gs with
    | nil => rfl
    | cons g r => simp [DataW.TrodVars] at hV
  subst hg
  rw [List.append_nil, List.append_nil, hp] at hz
  rw [hp] at hA
  have hval' : ∀ (j : Nat) t v, ts[j]? = some t → args.toList[j]? = some v → Value.okWide C.prog W .any base t v := fun j t v h1 h2 => hval j t v (by rw [← hp] at h1; simpa using h1) (by simpa using h2)
  refine (walk args.toList p hval' hA (reach_le hz)).mono fun e W' ⟨he, hb⟩ => ?_
  exact ⟨_, he, law_post hl (by rw [hp]; exact hr) hv (fun ds h => hs ds (by rw [h, ← hp]; simp)) hrt hb4 hW' hb⟩
end
def flat1 : DataW Unit → List Value
  | .agg l => l.filterMap fun | .lit (.int k x) => some (.int k x) | _ => none
  | _ => []
def flat2 : DataW Unit → List Value
  | .agg l => l.flatMap flat1
  | _ => []
def layIn (cs : Array Value) : Obj → Obj
  | .cells _ t frozen => .cells cs t frozen
  | o => o
noncomputable def laidWorld (os : Os) : World :=
  { World.holding Tryz.prog os ⟨#[], #[], []⟩ with heap := ((World.holding Tryz.prog os ⟨#[], #[], []⟩).heap.modify 2 (layIn (flat2 Rows.laid_unicode_utf8_acceptRanges).toArray)).modify 1 (layIn (flat1 Rows.laid_unicode_utf8_first).toArray) }
theorem laid_met (os : Os) (args : Array Value) : laidMet Tryz.prog Rows.stateEntriesRow.laid ((laidWorld os).forCall (fun _ _ => 0) ⟨#[], args, []⟩).memory :=
  laidMet_of_run' 8 (by kernel_rfl) (by kernel_rfl)
end Go.Proofs.YtjmlimogmmikoaaGreatDoor
namespace Go.Proofs.YtjmlimogmmikoaaGreatDoor
open Go.RowKit
end Go.Proofs.YtjmlimogmmikoaaGreatDoor
namespace Go.Proofs.YtjmlimogmmikoaaGreatDoor
open Go.RowKit Go.Maps Go.WideMaps
structure Ten where
  name : ByteArray
  weight : Int
  quota : Int
def TensAt (w : World) (v : Value) (ts : List Ten) : Prop :=
  ∃ a cap, v = .slice a ts.length cap ∧ ts.length ≤ 140737488351232 ∧ ∀ (i : Nat) t, ts[i]? = some t → t.name.size ≤ 140737488351232 ∧ ∃ b off, a = some ⟨b, off, none⟩ ∧
    w.cell? ⟨b, off + i * 3, none⟩ = some (.string t.name) ∧ w.cell? ⟨b, off + i * 3 + 1, none⟩ = some (.int .i64 t.weight) ∧ w.cell? ⟨b, off + i * 3 + 2, none⟩ = some (.int .i64 t.quota)
def IntsAt (w : World) (v : Value) (ls : List Int) : Prop :=
  ∃ a cap, v = .slice a ls.length cap ∧ ls.length ≤ 140737488351232 ∧ ∀ (i : Nat) n, ls[i]? = some n → ∃ b off, a = some ⟨b, off, none⟩ ∧ w.cell? ⟨b, off + i, none⟩ = some (.int .i64 n)
theorem TensAt.below {w w' : World} {v : Value} {ts : List Ten} (h : TensAt w v ts) (hb : Below w.heap.size w w') : TensAt w' v ts := by
  obtain ⟨a, cap, rfl, hl, hc⟩ := h
  refine ⟨a, cap, rfl, hl, fun i t ht => ?_⟩
  obtain ⟨hs, b, off, ha, h0, h1, h2⟩ := hc i t ht
  exact ⟨hs, b, off, ha, cell_below hb h0, cell_below hb h1, cell_below hb h2⟩
theorem IntsAt.below {w w' : World} {v : Value} {ls : List Int} (h : IntsAt w v ls) (hb : Below w.heap.size w w') : IntsAt w' v ls := by
  obtain ⟨a, cap, rfl, hl, hc⟩ := h
  refine ⟨a, cap, rfl, hl, fun i t ht => ?_⟩
  obtain ⟨b, off, ha, h0⟩ := hc i t ht
  exact ⟨b, off, ha, cell_below hb h0⟩
def tenBad (t : Ten) : Bool := decide (t.weight < 1) || (decide (16 < t.weight) || (decide (t.quota < 1) || decide (256 < t.quota)))
def seenB (l : List ByteArray) (n : ByteArray) : Bool := l.any fun x => x.data.toList == n.data.toList
def tensF : List ByteArray → List Ten → Int
  | _, [] => 0
  | seen, t :: r => if nameB t.name = false then 5 else if tenBad t = true then 1 else if seenB seen t.name = true then 8 else tensF (seen ++ [t.name]) r
def tensE (ts : List Ten) : Int := if ts.length < 1 ∨ 6 < ts.length then 9 else tensF [] ts
def metL (l : List ByteArray) : List Lit := l.map fun n => .string n.data.toList
def metD {H : Type} (l : List ByteArray) : DataW H := setOf (.lit (.int .i64 1)) (metL l)
theorem atKey_fold {H : Type} (u : DataW H) (k : Lit) (z : DataW H) : ∀ (acc : List Lit) (m : DataW H), IsMap m → (∀ x ∈ acc, WideAt.IsKeyLit x) → (acc.foldl (fun m x => m.put x u) m).atKey k z = if acc.any (fun x => x.sameKey k) = true then u else m.atKey k z
  | [], m, _, _ => by simp
  | x :: r, m, hm, hk => by
    rw [List.foldl_cons, atKey_fold u k z r (m.put x u) (hm.put x u) (fun y hy => hk y (List.mem_cons_of_mem _ hy)), List.any_cons]
    by_cases h : r.any (fun x => x.sameKey k) = true
    · simp [h]
    · by_cases hx : x = k
      · subst hx
        simp [h, atKey_put_same hm (hk x (by simp)), WideAt.sameKey_self (hk x (by simp))]
      · simp [h, sameKey_ne hx, atKey_put_other (Ne.symm hx)]
theorem metD_at {H : Type} (l : List ByteArray) (n : ByteArray) (z : DataW H) : (metD l : DataW H).atKey (.string n.data.toList) z = if seenB l n = true then .lit (.int .i64 1) else z := by
  unfold metD setOf
  rw [atKey_fold _ _ _ _ _ isMap_empty (by intro x hx; simp [metL] at hx; obtain ⟨y, _, rfl⟩ := hx; trivial)]
  have h1 : (metL l).any (fun x => x.sameKey (.string n.data.toList)) = seenB l n := by
    unfold metL seenB
    rw [List.any_map]
    rfl
  rw [h1]
  rfl
theorem metD_snoc {H : Type} (l : List ByteArray) (n : ByteArray) : (metD l : DataW H).put (.string n.data.toList) (.lit (.int .i64 1)) = metD (l ++ [n]) := by
  unfold metD metL
  rw [List.map_append, List.map_singleton, setOf_snoc]
theorem key_string : Keyed Tryz.prog 9 := string_keyed Tryz.underlying9
theorem zero_int (w : World) : (zeroValue 3).run Tryz.prog w = .ok (.int .i64 0) w := by kernel_rfl
theorem tens_step {ts : List Ten} {k : Nat} {t : Ten} (h : ts[k]? = some t) : ts.drop k = t :: ts.drop (k + 1) ∧ (ts.take (k + 1)).map Ten.name = (ts.take k).map Ten.name ++ [t.name] := by
  obtain ⟨hk, rfl⟩ := List.getElem?_eq_some_iff.1 h
  refine ⟨List.drop_eq_getElem_cons hk, ?_⟩
  rw [List.take_succ_eq_append_getElem hk, List.map_append]
  rfl
set_option maxRecDepth 100000 in
set_option maxHeartbeats 1000000 in
theorem tenants_any (v : Value) (ts : List Ten) (w : World) (hT : TensAt w v ts) :
    Calls Tryz.prog 62 #[v] w fun e w' => e = .returned (.int .i64 (tensE ts)) ∧ Below w.heap.size w w' := by
  obtain ⟨a, cap, rfl, hlen, hcell⟩ := hT
  by_cases h1 : ts.length < 1
  · have H := Lib.hid (show tensE ts = 9 by unfold tensE; rw [if_pos (.inl h1)])
    go_enter Tryz.func62, Tryz.ntmps62
    go_wp2
    go_ret
    exact ⟨ret_int H.out.symm, Below.refl _ _⟩
  · by_cases h6 : 6 < ts.length
    · have H := Lib.hid (show tensE ts = 9 by unfold tensE; rw [if_pos (.inr h6)])
      go_enter Tryz.func62, Tryz.ntmps62
      go_wp2
      go_ret
      exact ⟨ret_int H.out.symm, Below.refl _ _⟩
    · have H := Lib.hid (show tensE ts = tensF [] ts by unfold tensE; rw [if_neg (by omega)])
      have HC := Lib.hid hcell; clear hcell
      have hmm := @run_makeMap Tryz.prog
      go_enter Tryz.func62, Tryz.ntmps62
      go_wp2
      go_loopw [17] (fun i wr => ∃ k : Nat, k ≤ ts.length ∧ i = .int .i64 k ∧ tensF ((ts.take k).map Ten.name) (ts.drop k) = tensE ts ∧ wr.ownsMap Tryz.prog 9 (plainElem Tryz.prog 3) w.heap.size k (metD (H := Unit) ((ts.take k).map Ten.name)) ∧ Below w.heap.size w wr)
        (fun i _ => ts.length - (intOf i).toNat)
      case atStart => exact ⟨0, Nat.zero_le _, rfl, by rw [H.out]; simp, World.ownsMap_made _ _ _ _, (Below.refl _ _).alloc (Nat.le_refl _) _⟩
      case round =>
        obtain ⟨k, hk, rfl, hf, hown, hb⟩ := hrel
        have HF := Lib.hid hf; clear hf
        have HO := Lib.hid hown; clear hown
        by_cases hlt : k < ts.length
        · obtain ⟨t, ht⟩ : ∃ t, ts[k]? = some t := ⟨_, List.getElem?_eq_getElem hlt⟩
          obtain ⟨hsz, b, off, rfl, c0, c1, c2⟩ := HC.out k t ht
          have HT := Lib.hid ht; clear ht
          have hblt := World.block_lt_of_cell? w _ c0
          have d0 := (hb.cell (p := ⟨b, off + k * 3, none⟩) hblt).trans c0
          have d1 := (hb.cell (p := ⟨b, off + k * 3 + 1, none⟩) hblt).trans c1
          have d2 := (hb.cell (p := ⟨b, off + k * 3 + 2, none⟩) hblt).trans c2
          clear c0 c1 c2 hblt
          go_wp2_with fail
          refine (name_any _ _ hsz).mono ?_
          rintro e w2 ⟨rfl, hb2⟩
          have hsz1 : w.heap.size < wr.heap.size := HO.out.lt
          have hcell2 : ∀ j (u : Value), (#[Value.string t.name, Value.int IntKind.i64 t.weight, Value.int IntKind.i64 t.quota] : Array Value)[j]? = some u → w2.cell? ⟨wr.heap.size, j, none⟩ = some u := fun j u hu => cell_below hb2 (cell_alloc_at hu)
          have e0 := hcell2 0 _ rfl
          have e1 := hcell2 1 _ rfl
          have e2 := hcell2 2 _ rfl
          clear hcell2
          have hb3 : Below w.heap.size w w2 := (hb.alloc (by omega) _).trans (hb2.mono (by simp; omega))
          have hstep := tens_step HT.out
          by_cases hn : nameB t.name = false
          · have HE := Lib.hid (show tensE ts = 5 by rw [← HF.out, hstep.1, tensF, if_pos hn])
            rw [hn]
            clear hn hstep
            go_wp2
            go_ret
            exact ⟨ret_int HE.out.symm, hb3⟩
          · have hn' : nameB t.name = true := by simpa using hn
            rw [hn']
            by_cases b1 : t.weight < 1
            · have HE := Lib.hid (show tensE ts = 1 by rw [← HF.out, hstep.1, tensF, if_neg hn, if_pos (by simp [tenBad, b1])])
              clear hn hn' hstep
              go_wp2
              go_ret
              exact ⟨ret_int HE.out.symm, hb3⟩
            by_cases b2 : 16 < t.weight
            · have HE := Lib.hid (show tensE ts = 1 by rw [← HF.out, hstep.1, tensF, if_neg hn, if_pos (by simp [tenBad, b2])])
              clear hn hn' hstep
              go_wp2
              go_ret
              exact ⟨ret_int HE.out.symm, hb3⟩
            by_cases b3 : t.quota < 1
            · have HE := Lib.hid (show tensE ts = 1 by rw [← HF.out, hstep.1, tensF, if_neg hn, if_pos (by simp [tenBad, b3])])
              clear hn hn' hstep
              go_wp2
              go_ret
              exact ⟨ret_int HE.out.symm, hb3⟩
            by_cases b4 : 256 < t.quota
            · have HE := Lib.hid (show tensE ts = 1 by rw [← HF.out, hstep.1, tensF, if_neg hn, if_pos (by simp [tenBad, b4])])
              clear hn hn' hstep
              go_wp2
              go_ret
              exact ⟨ret_int HE.out.symm, hb3⟩
            have hgood : ¬ tenBad t = true := by simp [tenBad]; omega
            have hown2 : w2.ownsMap Tryz.prog 9 (plainElem Tryz.prog 3) w.heap.size k (metD (H := Unit) ((ts.take k).map Ten.name)) := (HO.out.alloc _).kept (grown_of_below hb2) (by simp)
            have HO2 := Lib.hid hown2
            clear hown2
            have hkey : keyOf Tryz.prog 9 (.string t.name) = some (.string t.name.data.toList) := keyOf_string_mk Tryz.underlying9 (by unfold maxLen; omega)
            obtain ⟨c, hrun, hat, _⟩ := HO2.out.lookup_int key_string Tryz.underlying141 Tryz.underlying3 (zero_int _) hkey
            rw [metD_at] at hat
            by_cases hs : seenB ((ts.take k).map Ten.name) t.name = true
            · rw [if_pos hs] at hat
              obtain rfl : (1 : Int) = c := by simpa using hat
              have HE := Lib.hid (show tensE ts = 8 by rw [← HF.out, hstep.1, tensF, if_neg hn, if_neg hgood, if_pos hs])
              clear hn hn' hstep hgood hs hat
              go_wp2
              go_ret
              exact ⟨ret_int HE.out.symm, hb3⟩
            · rw [if_neg hs] at hat
              obtain rfl : (0 : Int) = c := by simpa using hat
              have HE := Lib.hid (show tensF ((ts.take (k + 1)).map Ten.name) (ts.drop (k + 1)) = tensE ts by rw [← HF.out, hstep.1, tensF, if_neg hn, if_neg hgood, if_neg hs, hstep.2])
              have HS := Lib.hid hstep.2
              clear hn hn' hstep hgood hs hat
              go_wp2_with (at_mapUpdate; go_must (refine wpList_mapUpdate_own _ rfl _ _ _ 141 rfl 9 3 key_string Tryz.underlying141 _ w.heap.size k _ rfl HO2.out (by unfold maxLen; omega) _ _ _ rfl rfl hkey (.lit (.int .i64 1)) [] (plainElem_int Tryz.underlying3 (by decide)) ?_); intro w3 hown3 hg3)
              have HO3 := Lib.hid (show w3.ownsMap Tryz.prog 9 (plainElem Tryz.prog 3) w.heap.size (k + 1) (metD (H := Unit) ((ts.take (k + 1)).map Ten.name)) by rw [HS.out, ← metD_snoc]; exact hown3)
              have hb4 := hb3.grown hg3 hb3.size (fun j hj => by cases hj; exact Nat.le_refl _)
              clear hown3 hg3 hrun
              go_wp2
              go_roundw
              case rel => exact ⟨k + 1, by omega, by go_num, HE.out, HO3.out, hb4⟩
              case measure => simp [intOf]; omega
        · have hk2 : k = ts.length := by omega
          subst hk2
          have HE := Lib.hid (show tensE ts = 0 by rw [← HF.out, List.drop_length]; rfl)
          go_wp2
          go_ret
          exact ⟨ret_int HE.out.symm, hb⟩
end Go.Proofs.YtjmlimogmmikoaaGreatDoor
namespace Go.Proofs.YtjmlimogmmikoaaGreatDoor
open Go.RowKit
structure Cfg where
  ts : List Ten
  ls : List Int
  q : Int
  cost : Int
  cap : Int
  invs : Int
  weight : Int
  pools : Int
  retries : Int
  preempts : Int
  base : Int
  most : Int
  lease : Int
  dead : Int
  keep : Int
  keys : Int
  percent : Int
  workers : Int
  watch : Int
def CfgAt (w : World) (tv lv : Value) (c : Cfg) : Prop := TensAt w tv c.ts ∧ IntsAt w lv c.ls
theorem CfgAt.below {w w' : World} {tv lv : Value} {c : Cfg} (h : CfgAt w tv lv c) (hb : Below w.heap.size w w') : CfgAt w' tv lv c := ⟨h.1.below hb, h.2.below hb⟩
structure CfgCells (cs : Array Value) (tv lv : Value) (c : Cfg) : Prop where
  size : cs.size = 19
  f0 : cs[0]? = some tv
  f1 : cs[1]? = some lv
  f2 : cs[2]? = some (.int .i64 c.q)
  f3 : cs[3]? = some (.int .i64 c.cost)
  f4 : cs[4]? = some (.int .i64 c.cap)
  f5 : cs[5]? = some (.int .i64 c.invs)
  f6 : cs[6]? = some (.int .i64 c.weight)
  f7 : cs[7]? = some (.int .i64 c.pools)
  f8 : cs[8]? = some (.int .i64 c.retries)
  f9 : cs[9]? = some (.int .i64 c.preempts)
  f10 : cs[10]? = some (.int .i64 c.base)
  f11 : cs[11]? = some (.int .i64 c.most)
  f12 : cs[12]? = some (.int .i64 c.lease)
  f13 : cs[13]? = some (.int .i64 c.dead)
  f14 : cs[14]? = some (.int .i64 c.keep)
  f15 : cs[15]? = some (.int .i64 c.keys)
  f16 : cs[16]? = some (.int .i64 c.percent)
  f17 : cs[17]? = some (.int .i64 c.workers)
  f18 : cs[18]? = some (.int .i64 c.watch)
theorem cfg_lit {cs : Array Value} {tv lv : Value} {c : Cfg} (h : CfgCells cs tv lv c) : cs = #[tv, lv, .int .i64 c.q, .int .i64 c.cost, .int .i64 c.cap, .int .i64 c.invs, .int .i64 c.weight, .int .i64 c.pools, .int .i64 c.retries, .int .i64 c.preempts, .int .i64 c.base, .int .i64 c.most, .int .i64 c.lease, .int .i64 c.dead, .int .i64 c.keep, .int .i64 c.keys, .int .i64 c.percent, .int .i64 c.workers, .int .i64 c.watch] := by
  obtain ⟨hs, f0, f1, f2, f3, f4, f5, f6, f7, f8, f9, f10, f11, f12, f13, f14, f15, f16, f17, f18⟩ := h
  obtain ⟨l⟩ := cs
  match l, hs with
  | [a0, a1, a2, a3, a4, a5, a6, a7, a8, a9, a10, a11, a12, a13, a14, a15, a16, a17, a18], _ =>
    simp at f0 f1 f2 f3 f4 f5 f6 f7 f8 f9 f10 f11 f12 f13 f14 f15 f16 f17 f18
    subst f0 f1 f2 f3 f4 f5 f6 f7 f8 f9 f10 f11 f12 f13 f14 f15 f16 f17 f18
    rfl
theorem cfg_info : (Tryz.prog.info? 25).map (·.size) = some 19 := by kernel_rfl
def inB (n a b : Int) : Bool := decide (a ≤ n) && decide (n ≤ b)
def limF : Int → List Int → Bool
  | _, [] => true
  | last, n :: r => if n ≤ last then false else if 1048576 < n then false else limF n r
def aOk (c : Cfg) : Bool := inB c.q 1 64 && inB c.cost 1 64 && inB c.cap 1 32 && inB c.invs 1 8 && inB c.weight 1 16 && inB c.pools 1 8
def bOk (c : Cfg) : Bool := inB c.retries 0 5 && inB c.preempts 0 5 && inB c.base 1 1048576 && inB c.most c.base 1048576 && inB c.lease 1 1048576
def dOk (c : Cfg) : Bool := inB c.dead 1 32 && inB c.keep 1 64 && inB c.keys 1 32 && inB c.percent 1 100 && inB c.workers 1 16 && inB c.watch 0 16
def checkE (c : Cfg) : Int := if tensE c.ts ≠ 0 then tensE c.ts else if 3 < c.ls.length then 9 else if limF 0 c.ls = false ∨ (aOk c && bOk c && dOk c) = false then 1 else 0
theorem ints_step {ls : List Int} {k : Nat} {n : Int} (h : ls[k]? = some n) : ls.drop k = n :: ls.drop (k + 1) := by
  obtain ⟨hk, rfl⟩ := List.getElem?_eq_some_iff.1 h
  exact List.drop_eq_getElem_cons hk
set_option maxHeartbeats 1000000 in
theorem limits_any (v : Value) (ls : List Int) (w : World) (hL : IntsAt w v ls) :
    Calls Tryz.prog 63 #[v] w fun e w' => e = .returned (.bool (limF 0 ls)) ∧ w = w' := by
  obtain ⟨a, cap, rfl, hlen, hcell⟩ := hL
  have HC := Lib.hid hcell; clear hcell
  go_enter Tryz.func63, Tryz.ntmps63
  go_wp2
  go_loop [3, 8] (fun x i => ∃ (k : Nat) (last : Int), k ≤ ls.length ∧ i = .int .i64 k ∧ x = .int .i64 last ∧ limF last (ls.drop k) = limF 0 ls) (fun _ i => ls.length - (intOf i).toNat)
  case atStart => exact ⟨0, 0, Nat.zero_le _, rfl, rfl, rfl⟩
  case round =>
    obtain ⟨k, last, hk, rfl, rfl, hf⟩ := hrel
    have HF := Lib.hid hf; clear hf
    by_cases hlt : k < ls.length
    · obtain ⟨n, hn⟩ : ∃ n, ls[k]? = some n := ⟨_, List.getElem?_eq_getElem hlt⟩
      obtain ⟨b, off, rfl, c0⟩ := HC.out k n hn
      have hst := ints_step hn
      by_cases h1 : n ≤ last
      · have HE := Lib.hid (show limF 0 ls = false by rw [← HF.out, hst, limF, if_pos h1])
        clear hst hn
        go_wp2
        go_ret
        exact ⟨ret_bool HE.out.symm, rfl⟩
      · by_cases h2 : 1048576 < n
        · have HE := Lib.hid (show limF 0 ls = false by rw [← HF.out, hst, limF, if_neg h1, if_pos h2])
          clear hst hn
          go_wp2
          go_ret
          exact ⟨ret_bool HE.out.symm, rfl⟩
        · have HE := Lib.hid (show limF n (ls.drop (k + 1)) = limF 0 ls by rw [← HF.out, hst, limF, if_neg h1, if_neg h2])
          clear hst hn
          go_wp2
          go_round
          case rel => exact ⟨k + 1, n, by omega, by go_num, rfl, HE.out⟩
          case measure => simp [intOf]; omega
    · have HE := Lib.hid (show limF 0 ls = true by rw [← HF.out, List.drop_eq_nil_of_le (by omega)]; rfl)
      go_wp2
      go_ret
      exact ⟨ret_bool HE.out.symm, rfl⟩
set_option maxHeartbeats 400000 in
theorem spanok_any (n a b : Int) (w : World) :
    Calls Tryz.prog 67 #[.agg #[.int .i64 n, .int .i64 a, .int .i64 b]] w fun e w' => e = .returned (.bool (inB n a b)) ∧ Below w.heap.size w w' := by
  by_cases h1 : a ≤ n
  · by_cases h2 : n ≤ b
    · have H := Lib.hid (show inB n a b = true by simp [inB, h1, h2])
      go_enter Tryz.func67, Tryz.ntmps67
      go_wp2
      go_ret
      exact ⟨ret_bool H.out.symm, (Below.refl _ _).alloc (Nat.le_refl _) _⟩
    · have H := Lib.hid (show inB n a b = false by simp [inB, h2])
      go_enter Tryz.func67, Tryz.ntmps67
      go_wp2
      go_ret
      exact ⟨ret_bool H.out.symm, (Below.refl _ _).alloc (Nat.le_refl _) _⟩
  · have H := Lib.hid (show inB n a b = false by simp [inB, h1])
    go_enter Tryz.func67, Tryz.ntmps67
    go_wp2
    go_ret
    exact ⟨ret_bool H.out.symm, (Below.refl _ _).alloc (Nat.le_refl _) _⟩
set_option maxHeartbeats 400000 in
theorem spanbad_any (n a b : Int) (w : World) :
    Calls Tryz.prog 66 #[.agg #[.int .i64 n, .int .i64 a, .int .i64 b]] w fun e w' => e = .returned (.bool (!inB n a b)) ∧ Below w.heap.size w w' := by
  go_enter Tryz.func66, Tryz.ntmps66
  go_wp2_with fail
  refine (spanok_any _ _ _ _).mono ?_
  rintro e w1 ⟨rfl, hb⟩
  go_wp2
  go_ret
  exact ⟨rfl, ((Below.refl _ _).alloc (Nat.le_refl _) _).trans (hb.mono (by simp))⟩
def spanL (c : Cfg) : List (Int × Int × Int) := [(c.q, 1, 64), (c.cost, 1, 64), (c.cap, 1, 32), (c.invs, 1, 8), (c.weight, 1, 16), (c.pools, 1, 8), (c.retries, 0, 5), (c.preempts, 0, 5), (c.base, 1, 1048576), (c.most, c.base, 1048576), (c.lease, 1, 1048576), (c.dead, 1, 32), (c.keep, 1, 64), (c.keys, 1, 32), (c.percent, 1, 100), (c.workers, 1, 16), (c.watch, 0, 16)]
def spanCells (c : Cfg) : Array Value := #[.int .i64 c.q, .int .i64 1, .int .i64 64, .int .i64 c.cost, .int .i64 1, .int .i64 64, .int .i64 c.cap, .int .i64 1, .int .i64 32, .int .i64 c.invs, .int .i64 1, .int .i64 8, .int .i64 c.weight, .int .i64 1, .int .i64 16, .int .i64 c.pools, .int .i64 1, .int .i64 8, .int .i64 c.retries, .int .i64 0, .int .i64 5, .int .i64 c.preempts, .int .i64 0, .int .i64 5, .int .i64 c.base, .int .i64 1, .int .i64 1048576, .int .i64 c.most, .int .i64 (c.base), .int .i64 1048576, .int .i64 c.lease, .int .i64 1, .int .i64 1048576, .int .i64 c.dead, .int .i64 1, .int .i64 32, .int .i64 c.keep, .int .i64 1, .int .i64 64, .int .i64 c.keys, .int .i64 1, .int .i64 32, .int .i64 c.percent, .int .i64 1, .int .i64 100, .int .i64 c.workers, .int .i64 1, .int .i64 16, .int .i64 c.watch, .int .i64 0, .int .i64 16]
theorem spanL_len (c : Cfg) : (spanL c).length = 17 := rfl
theorem spanCells_at (c : Cfg) : ∀ (k : Nat) (s : Int × Int × Int), (spanL c)[k]? = some s → (spanCells c)[k * 3]? = some (.int .i64 s.1) ∧ (spanCells c)[k * 3 + 1]? = some (.int .i64 s.2.1) ∧ (spanCells c)[k * 3 + 2]? = some (.int .i64 s.2.2)
  | 0, _, h => by cases h; exact ⟨rfl, rfl, rfl⟩
  | 1, _, h => by cases h; exact ⟨rfl, rfl, rfl⟩
  | 2, _, h => by cases h; exact ⟨rfl, rfl, rfl⟩
  | 3, _, h => by cases h; exact ⟨rfl, rfl, rfl⟩
  | 4, _, h => by cases h; exact ⟨rfl, rfl, rfl⟩
  | 5, _, h => by cases h; exact ⟨rfl, rfl, rfl⟩
  | 6, _, h => by cases h; exact ⟨rfl, rfl, rfl⟩
  | 7, _, h => by cases h; exact ⟨rfl, rfl, rfl⟩
  | 8, _, h => by cases h; exact ⟨rfl, rfl, rfl⟩
  | 9, _, h => by cases h; exact ⟨rfl, rfl, rfl⟩
  | 10, _, h => by cases h; exact ⟨rfl, rfl, rfl⟩
  | 11, _, h => by cases h; exact ⟨rfl, rfl, rfl⟩
  | 12, _, h => by cases h; exact ⟨rfl, rfl, rfl⟩
  | 13, _, h => by cases h; exact ⟨rfl, rfl, rfl⟩
  | 14, _, h => by cases h; exact ⟨rfl, rfl, rfl⟩
  | 15, _, h => by cases h; exact ⟨rfl, rfl, rfl⟩
  | 16, _, h => by cases h; exact ⟨rfl, rfl, rfl⟩
  | n + 17, s, h => by
    rw [List.getElem?_eq_none (by rw [spanL_len]; omega)] at h
    cases h
theorem spans_all (c : Cfg) : (spanL c).all (fun s => inB s.1 s.2.1 s.2.2) = (aOk c && bOk c && dOk c) := by
  simp [spanL, aOk, bOk, dOk, Bool.and_assoc]
set_option maxRecDepth 100000 in
set_option maxHeartbeats 1000000 in
theorem spans_any (cs : Array Value) (tv lv : Value) (c : Cfg) (w : World) (hc : CfgCells cs tv lv c) :
    Calls Tryz.prog 65 #[.agg cs] w fun e w' => e = .returned (.slice (some ⟨w.heap.size + 1, 0, none⟩) 17 17) ∧ (w.alloc (.cells cs 25)).alloc (.cells (spanCells c) 115) = w' := by
  obtain rfl := cfg_lit hc
  clear hc
  go_enter Tryz.func65, Tryz.ntmps65
  go_wp2
  go_ret
  exact ⟨rfl, rfl⟩
def firstBad (l : List (Int × Int × Int)) : Bool := l.any fun s => !inB s.1 s.2.1 s.2.2
set_option maxHeartbeats 1000000 in
theorem spanix_any (c : Cfg) (g : Nat) (w : World) (hc : ∀ (j : Nat) u, (spanCells c)[j]? = some u → w.cell? ⟨g, j, none⟩ = some u) :
    Calls Tryz.prog 129 #[.slice (some ⟨g, 0, none⟩) 17 17, .func (.func 66) #[] #[]] w fun e w' => (∃ n : Int, e = .returned (.int .i64 n) ∧ (decide (0 ≤ n) = firstBad (spanL c))) ∧ Below w.heap.size w w' := by
  go_enter Tryz.func129, Tryz.ntmps129
  go_wp2
  go_loopw [8] (fun i wr => ∃ k : Nat, k ≤ 17 ∧ i = .int .i64 k ∧ (∀ (j : Nat) s, j < k → (spanL c)[j]? = some s → inB s.1 s.2.1 s.2.2 = true) ∧ Below w.heap.size w wr) (fun i _ => 17 - (intOf i).toNat)
  case atStart => exact ⟨0, by omega, rfl, fun j s hj => by omega, Below.refl _ _⟩
  case round =>
    obtain ⟨k, hk, rfl, hno, hb⟩ := hrel
    have HN := Lib.hid hno; clear hno
    by_cases hlt : k < 17
    · obtain ⟨s, hs⟩ : ∃ s, (spanL c)[k]? = some s := ⟨_, List.getElem?_eq_getElem (by rw [spanL_len]; exact hlt)⟩
      obtain ⟨s0, s1, s2⟩ := s
      obtain ⟨c0, c1, c2⟩ := spanCells_at c k _ hs
      have d0 := cell_below hb (hc _ _ c0)
      have d1 := cell_below hb (hc _ _ c1)
      have d2 := cell_below hb (hc _ _ c2)
      simp only [] at d0 d1 d2
      have HS := Lib.hid hs
      clear c0 c1 c2 hs
      go_wp2_with fail
      refine (spanbad_any _ _ _ _).mono ?_
      rintro e w2 ⟨rfl, hb2⟩
      rcases Bool.eq_false_or_eq_true (inB s0 s1 s2) with hh | hh
      · have HH := Lib.hid hh
        rw [hh]
        clear hh
        go_wp2
        go_roundw
        case rel =>
          refine ⟨k + 1, by omega, by go_num, fun j s hj hs => ?_, hb.trans (hb2.mono hb.size)⟩
          rcases Nat.lt_or_ge j k with h | h
          · exact HN.out j s h hs
          · obtain rfl : j = k := by omega
            rw [HS.out] at hs
            cases hs
            exact HH.out
        case measure => simp [intOf]; omega
      · have HH := Lib.hid (show firstBad (spanL c) = true by
          unfold firstBad
          rw [List.any_eq_true]
          exact ⟨_, List.mem_of_getElem? HS.out, by simp [hh]⟩)
        rw [hh]
        clear hh
        go_wp2
        go_ret
        exact ⟨⟨_, rfl, by rw [HH.out]; simp⟩, hb.trans (hb2.mono hb.size)⟩
    · have HH := Lib.hid (show firstBad (spanL c) = false by
        unfold firstBad
        rw [List.any_eq_false]
        intro s hs
        obtain ⟨j, hj, rfl⟩ := List.getElem_of_mem hs
        have := HN.out j _ (by rw [spanL_len] at hj; omega) (List.getElem?_eq_getElem hj)
        simp [this])
      go_wp2
      go_ret
      exact ⟨⟨_, rfl, by rw [HH.out]; rfl⟩, hb⟩
set_option maxHeartbeats 1000000 in
theorem spanhas_any (c : Cfg) (g : Nat) (w : World) (hc : ∀ (j : Nat) u, (spanCells c)[j]? = some u → w.cell? ⟨g, j, none⟩ = some u) :
    Calls Tryz.prog 64 #[.slice (some ⟨g, 0, none⟩) 17 17, .func (.func 66) #[] #[]] w fun e w' => e = .returned (.bool (firstBad (spanL c))) ∧ Below w.heap.size w w' := by
  have HC := Lib.hid hc; clear hc
  go_enter Tryz.func64, Tryz.ntmps64
  go_wp2_with fail
  refine (spanix_any c g _ HC.out).mono ?_
  rintro e w1 ⟨⟨n, rfl, hn⟩, hb⟩
  have HN := Lib.hid hn; clear hn
  go_wp2
  go_ret
  exact ⟨ret_bool HN.out, hb⟩
theorem firstBad_eq (c : Cfg) : firstBad (spanL c) = !(aOk c && bOk c && dOk c) := by
  rw [← spans_all, firstBad, List.all_eq_not_any_not]
  simp
set_option maxHeartbeats 1000000 in
theorem check_tens (cs : Array Value) (tv lv : Value) (c : Cfg) (w : World) (hc : CfgCells cs tv lv c) (hC : CfgAt w tv lv c) (h0 : tensE c.ts ≠ 0) :
    Calls Tryz.prog 21 #[.agg cs] w fun e w' => e = .returned (.int .i64 (checkE c)) ∧ Below w.heap.size w w' := by
  obtain ⟨hT, hL⟩ := hC
  have f0 := hc.f0
  have HE := Lib.hid (show checkE c = tensE c.ts by unfold checkE; rw [if_pos h0])
  have hne : (tensE c.ts != 0) = true := by rw [bne_iff_ne]; exact h0
  clear hc h0
  go_enter Tryz.func21, Tryz.ntmps21
  go_wp2_with fail
  refine (tenants_any _ _ _ (hT.below ((Below.refl _ _).alloc (Nat.le_refl _) _))).mono ?_
  rintro e w1 ⟨rfl, hb⟩
  go_wp2
  go_ret
  exact ⟨ret_int HE.out.symm, ((Below.refl _ _).alloc (Nat.le_refl _) _).trans (hb.mono (by simp))⟩
set_option maxHeartbeats 1000000 in
theorem check_many (cs : Array Value) (tv lv : Value) (c : Cfg) (w : World) (hc : CfgCells cs tv lv c) (hC : CfgAt w tv lv c) (h0 : tensE c.ts = 0) (h3 : 3 < c.ls.length) :
    Calls Tryz.prog 21 #[.agg cs] w fun e w' => e = .returned (.int .i64 (checkE c)) ∧ Below w.heap.size w w' := by
  obtain ⟨hT, hL⟩ := hC
  have f0 := hc.f0
  have HE := Lib.hid (show checkE c = 9 by unfold checkE; rw [if_neg (by simp [h0]), if_pos h3])
  have HC := Lib.hid hc
  obtain ⟨la, lcap, rfl, hlen, _⟩ := hL
  have H0 := Lib.hid h0
  clear hc h0
  go_enter Tryz.func21, Tryz.ntmps21
  go_wp2_with fail
  refine (tenants_any _ _ _ (hT.below ((Below.refl _ _).alloc (Nat.le_refl _) _))).mono ?_
  rintro e w1 ⟨rfl, hb⟩
  rw [H0.out]
  have c1 := cell_below hb (cell_alloc_at (t := 25) HC.out.f1)
  go_wp2
  go_ret
  exact ⟨ret_int HE.out.symm, ((Below.refl _ _).alloc (Nat.le_refl _) _).trans (hb.mono (by simp))⟩
set_option maxHeartbeats 1000000 in
theorem check_lim (cs : Array Value) (tv lv : Value) (c : Cfg) (w : World) (hc : CfgCells cs tv lv c) (hC : CfgAt w tv lv c) (h0 : tensE c.ts = 0) (h3 : ¬ 3 < c.ls.length) (hl : limF 0 c.ls = false) :
    Calls Tryz.prog 21 #[.agg cs] w fun e w' => e = .returned (.int .i64 (checkE c)) ∧ Below w.heap.size w w' := by
  obtain ⟨hT, hL⟩ := hC
  have f0 := hc.f0
  have HE := Lib.hid (show checkE c = 1 by unfold checkE; rw [if_neg (by simp [h0]), if_neg h3, if_pos (.inl hl)])
  have HC := Lib.hid hc
  have HL := Lib.hid hL
  obtain ⟨la, lcap, rfl, hlen, _⟩ := hL
  have H0 := Lib.hid h0
  have HLi := Lib.hid hl
  clear hc h0 hl
  go_enter Tryz.func21, Tryz.ntmps21
  go_wp2_with fail
  refine (tenants_any _ _ _ (hT.below ((Below.refl _ _).alloc (Nat.le_refl _) _))).mono ?_
  rintro e w1 ⟨rfl, hb⟩
  rw [H0.out]
  have c1 := cell_below hb (cell_alloc_at (t := 25) HC.out.f1)
  have hb1 : Below w.heap.size w w1 := ((Below.refl _ _).alloc (Nat.le_refl _) _).trans (hb.mono (by simp))
  go_wp2_with fail
  refine (limits_any _ _ _ (HL.out.below hb1)).mono ?_
  rintro e w2 ⟨rfl, rfl⟩
  rw [HLi.out]
  go_wp2
  go_ret
  exact ⟨ret_int HE.out.symm, hb1⟩
set_option maxHeartbeats 1000000 in
theorem check_end (cs : Array Value) (tv lv : Value) (c : Cfg) (w : World) (hc : CfgCells cs tv lv c) (hC : CfgAt w tv lv c) (h0 : tensE c.ts = 0) (h3 : ¬ 3 < c.ls.length) (hl : limF 0 c.ls = true) :
    Calls Tryz.prog 21 #[.agg cs] w fun e w' => e = .returned (.int .i64 (checkE c)) ∧ Below w.heap.size w w' := by
  obtain ⟨hT, hL⟩ := hC
  have f0 := hc.f0
  have HE := Lib.hid (show checkE c = if (aOk c && bOk c && dOk c) = false then 1 else 0 by unfold checkE; rw [if_neg (by simp [h0]), if_neg h3]; simp [hl])
  have HC := Lib.hid hc
  have HL := Lib.hid hL
  obtain ⟨la, lcap, rfl, hlen, _⟩ := hL
  have H0 := Lib.hid h0
  have HLi := Lib.hid hl
  clear hc h0 hl
  go_enter Tryz.func21, Tryz.ntmps21
  go_wp2_with fail
  refine (tenants_any _ _ _ (hT.below ((Below.refl _ _).alloc (Nat.le_refl _) _))).mono ?_
  rintro e w1 ⟨rfl, hb⟩
  rw [H0.out]
  have c1 := cell_below hb (cell_alloc_at (t := 25) HC.out.f1)
  have hb1 : Below w.heap.size w w1 := ((Below.refl _ _).alloc (Nat.le_refl _) _).trans (hb.mono (by simp))
  have hgB := (hb.block w.heap.size (by simp)).trans (heap_alloc_new w _)
  have HG := Lib.hid hgB
  clear hgB
  go_wp2_with fail
  refine (limits_any _ _ _ (HL.out.below hb1)).mono ?_
  rintro e w2 ⟨rfl, rfl⟩
  rw [HLi.out]
  go_wp2_with (refine wpList_load_agg 25 HG.out Tryz.underlying25 rfl (by rw [HC.out.size]; exact cfg_info) rfl _ rfl rfl ?_)
  refine (spans_any _ _ _ c _ HC.out).mono ?_
  rintro e w3 ⟨rfl, rfl⟩
  go_wp2_with fail
  refine (spanhas_any c _ _ (fun j u hu => ?_)).mono ?_
  · have := cell_alloc_at (w := w1.alloc (.cells cs 25)) (t := 115) hu
    simpa using this
  rintro e w3 ⟨rfl, hb3⟩
  have hb4 : Below w.heap.size w w3 := ((hb1.alloc hb1.size _).alloc (by have := hb1.size; simp; omega) _).trans (hb3.mono (by have := hb1.size; simp; omega))
  rcases Bool.eq_false_or_eq_true (aOk c && bOk c && dOk c) with ha | ha
  · have HF := Lib.hid (show firstBad (spanL c) = false by rw [firstBad_eq, ha]; rfl)
    have HA := Lib.hid ha
    clear ha
    rw [HF.out]
    go_wp2
    go_ret
    exact ⟨ret_int (by rw [HE.out, if_neg (by simp [HA.out])]), hb4⟩
  · have HF := Lib.hid (show firstBad (spanL c) = true by rw [firstBad_eq, ha]; rfl)
    have HA := Lib.hid ha
    clear ha
    rw [HF.out]
    go_wp2
    go_ret
    exact ⟨ret_int (by rw [HE.out, if_pos HA.out]), hb4⟩
theorem check_any (cs : Array Value) (tv lv : Value) (c : Cfg) (w : World) (hc : CfgCells cs tv lv c) (hC : CfgAt w tv lv c) :
    Calls Tryz.prog 21 #[.agg cs] w fun e w' => e = .returned (.int .i64 (checkE c)) ∧ Below w.heap.size w w' := by
  by_cases h0 : tensE c.ts = 0
  · by_cases h3 : 3 < c.ls.length
    · exact check_many cs tv lv c w hc hC h0 h3
    · rcases Bool.eq_false_or_eq_true (limF 0 c.ls) with hl | hl
      · exact check_end cs tv lv c w hc hC h0 h3 hl
      · exact check_lim cs tv lv c w hc hC h0 h3 hl
  · exact check_tens cs tv lv c w hc hC h0
end Go.Proofs.YtjmlimogmmikoaaGreatDoor
namespace Go.Proofs.YtjmlimogmmikoaaGreatDoor
open Go.RowKit
end Go.Proofs.YtjmlimogmmikoaaGreatDoor
namespace Go.Proofs.YtjmlimogmmikoaaGreatDoor
open Go.RowKit
end Go.Proofs.YtjmlimogmmikoaaGreatDoor
namespace Go.Proofs.YtjmlimogmmikoaaGreatDoor
open Go.RowKit
def classesV (c : Cfg) : Int := if checkE c = 0 then (c.ls.length : Int) + 1 else 0
theorem cfg_sz {cs : Array Value} {tv lv : Value} {c : Cfg} (hc : CfgCells cs tv lv c) : (Tryz.prog.info? 25).map (·.size) = some cs.size := by rw [hc.size]; exact cfg_info
theorem inB_iff {n a b : Int} : inB n a b = true ↔ a ≤ n ∧ n ≤ b := by simp [inB]
set_option maxHeartbeats 1000000 in
theorem classes_any (cs : Array Value) (tv lv : Value) (c : Cfg) (w : World) (hc : CfgCells cs tv lv c) (hC : CfgAt w tv lv c) :
    Calls Tryz.prog 77 #[.agg cs] w fun e w' => e = .returned (.int .i64 (classesV c)) ∧ Below w.heap.size w w' := by
  have HC := Lib.hid hc; clear hc
  obtain ⟨la, lcap, hlv, hlen, _⟩ := id hC.2
  subst hlv
  have HCA := Lib.hid hC; clear hC
  by_cases h0 : checkE c = 0
  · have HV := Lib.hid (show classesV c = (c.ls.length : Int) + 1 by unfold classesV; rw [if_pos h0])
    have H0 := Lib.hid h0
    clear h0
    go_enter Tryz.func77, Tryz.ntmps77
    go_wp2_with (refine wpList_load_agg 25 (heap_alloc_new w _) Tryz.underlying25 rfl (cfg_sz HC.out) rfl _ rfl rfl ?_)
    refine (check_any _ _ _ c _ HC.out (HCA.out.below box_below)).mono ?_
    rintro e w1 ⟨rfl, hb⟩
    rw [H0.out]
    have c1 := cell_below hb (cell_alloc_at (t := 25) HC.out.f1)
    go_wp2
    go_ret
    exact ⟨ret_int HV.out.symm, box_below2 hb⟩
  · have HV := Lib.hid (show classesV c = 0 by unfold classesV; rw [if_neg h0])
    have H0 := Lib.hid (show (checkE c != 0) = true by rw [bne_iff_ne]; exact h0)
    clear h0
    go_enter Tryz.func77, Tryz.ntmps77
    go_wp2_with (refine wpList_load_agg 25 (heap_alloc_new w _) Tryz.underlying25 rfl (cfg_sz HC.out) rfl _ rfl rfl ?_)
    refine (check_any _ _ _ c _ HC.out (HCA.out.below box_below)).mono ?_
    rintro e w1 ⟨rfl, hb⟩
    have hne := H0.out
    go_wp2
    go_ret
    exact ⟨ret_int HV.out.symm, box_below2 hb⟩
end Go.Proofs.YtjmlimogmmikoaaGreatDoor
namespace Go.Proofs.YtjmlimogmmikoaaGreatDoor
open Go.RowKit
end Go.Proofs.YtjmlimogmmikoaaGreatDoor
