/-
slices.SortFunc at this program: what it does to a row of structs of the call's own. bits.Len at this program. Sorting nothing. Plain data and plain functions, 7: orders for sorting.
Conditions: those that each theorem states.
-/
import Derived.Test.YtookcfeogbeooaaGreatDoorM9
import Derived.Shelf.SlGeneric
import Derived.Shelf.SlSortCmp.WholeK
import Derived.Ground.SlsfProg
import Derived.Shelf.Small.Bits
import Derived.Ground.NamesProg
set_option linter.all false
set_option maxRecDepth 100000
set_option maxHeartbeats 8000000
set_option autoImplicit true
set_option relaxedAutoImplicit true
namespace Go.Proofs
open Go.Shelf
def Tryz.sf192_ren : Go.Shelf.Ren := ⟨fun | 6 => 192 | 15 => 72 | 14 => 228 | 28 => 127 | 29 => 128 | 20 => 266 | 21 => 267 | 22 => 268 | 23 => 269 | 24 => 270 | 25 => 271 | 26 => 272 | 27 => 273 | 46 => 294 | 47 => 177 | 48 => 178 | 49 => 295 | 50 => 296 | 57 => 304 | n => n, fun | 22 => 116 | 24 => 128 | 25 => 261 | 3 => 3 | 39 => 138 | 0 => 0 | 53 => 201 | 55 => 203 | 4 => 4 | 46 => 194 | 45 => 193 | 50 => 133 | 5 => 5 | 9 => 9 | 66 => 246 | 70 => 250 | 76 => 275 | 77 => 276 | n => n, fun | n => n⟩
theorem Tryz.sf192 : Go.Proofs.SlLaysF0.n6 Tryz.prog Tryz.sf192_ren := {
 mixed := by kernel_rfl
 f6 := ⟨Tryz.f192.name, by decide, Tryz.func192.trans (congrArg some (by kernel_rfl))⟩
 f14 := ⟨Tryz.f228.name, by decide, Tryz.func228.trans (congrArg some (by kernel_rfl))⟩
 f15 := Tryz.func72.trans (congrArg some (by kernel_rfl))
 f20 := ⟨Tryz.f266.name, by decide, Tryz.func266.trans (congrArg some (by kernel_rfl))⟩
 f21 := ⟨Tryz.f267.name, by decide, Tryz.func267.trans (congrArg some (by kernel_rfl))⟩
 f22 := ⟨Tryz.f268.name, by decide, Tryz.func268.trans (congrArg some (by kernel_rfl))⟩
 f23 := ⟨Tryz.f269.name, by decide, Tryz.func269.trans (congrArg some (by kernel_rfl))⟩
 f24 := ⟨Tryz.f270.name, by decide, Tryz.func270.trans (congrArg some (by kernel_rfl))⟩
 f25 := ⟨Tryz.f271.name, by decide, Tryz.func271.trans (congrArg some (by kernel_rfl))⟩
 f26 := ⟨Tryz.f272.name, by decide, Tryz.func272.trans (congrArg some (by kernel_rfl))⟩
 f27 := ⟨Tryz.f273.name, by decide, Tryz.func273.trans (congrArg some (by kernel_rfl))⟩
 f28 := Tryz.func127.trans (congrArg some (by kernel_rfl))
 f29 := Tryz.func128.trans (congrArg some (by kernel_rfl))
 f46 := ⟨Tryz.f294.name, by decide, Tryz.func294.trans (congrArg some (by kernel_rfl))⟩
 f47 := Tryz.func177.trans (congrArg some (by kernel_rfl))
 f48 := Tryz.func178.trans (congrArg some (by kernel_rfl))
 f49 := ⟨Tryz.f295.name, by decide, Tryz.func295.trans (congrArg some (by kernel_rfl))⟩
 f50 := ⟨Tryz.f296.name, by decide, Tryz.func296.trans (congrArg some (by kernel_rfl))⟩
 f57 := ⟨Tryz.f304.name, by decide, Tryz.func304.trans (congrArg some (by kernel_rfl))⟩
 t0 := Tryz.underlying0
 a0 := Tryz.isAgg0
 z0 := Tryz.sizeOf0
 v0 := Tryz.zeroValue0
 t3 := Tryz.underlying3
 a3 := Tryz.isAgg3
 z3 := Tryz.sizeOf3
 v3 := Tryz.zeroValue3
 t4 := Tryz.underlying4
 a4 := Tryz.isAgg4
 z4 := Tryz.sizeOf4
 v4 := Tryz.zeroValue4
 t5 := Tryz.underlying5
 a5 := Tryz.isAgg5
 z5 := Tryz.sizeOf5
 v5 := Tryz.zeroValue5
 t9 := Tryz.underlying9
 a9 := Tryz.isAgg9
 z9 := Tryz.sizeOf9
 v9 := Tryz.zeroValue9
 t22 := Tryz.underlying116
 a22 := Tryz.isAgg116
 z22 := Tryz.sizeOf116
 v22 := Tryz.zeroValue116
 t25 := Tryz.underlying261
 a25 := Tryz.isAgg261
 z25 := Tryz.sizeOf261
 v25 := Tryz.zeroValue261
 t39 := Tryz.underlying138
 a39 := Tryz.isAgg138
 z39 := Tryz.sizeOf138
 v39 := Tryz.zeroValue138
 t45 := Tryz.underlying193
 a45 := Tryz.isAgg193
 z45 := Tryz.sizeOf193
 v45 := Tryz.zeroValue193
 t46 := Tryz.underlying194
 a46 := Tryz.isAgg194
 z46 := Tryz.sizeOf194
 v46 := Tryz.zeroValue194
 t50 := Tryz.underlying133
 a50 := Tryz.isAgg133
 z50 := Tryz.sizeOf133
 v50 := Tryz.zeroValue133
 t53 := Tryz.underlying201
 a53 := Tryz.isAgg201
 z53 := Tryz.sizeOf201
 v53 := Tryz.zeroValue201
 t55 := Tryz.underlying203
 a55 := Tryz.isAgg203
 z55 := Tryz.sizeOf203
 v55 := Tryz.zeroValue203
 t66 := Tryz.underlying246
 a66 := Tryz.isAgg246
 z66 := Tryz.sizeOf246
 v66 := Tryz.zeroValue246
 t70 := Tryz.underlying250
 a70 := Tryz.isAgg250
 z70 := Tryz.sizeOf250
 v70 := Tryz.zeroValue250
 t76 := Tryz.underlying275
 a76 := Tryz.isAgg275
 z76 := Tryz.sizeOf275
 v76 := Tryz.zeroValue275
 t77 := Tryz.underlying276
 a77 := Tryz.isAgg276
 z77 := Tryz.sizeOf276
 v77 := Tryz.zeroValue276 }
def Tryz.sf151_ren : Go.Shelf.Ren := ⟨fun | 6 => 151 | 15 => 72 | 14 => 194 | 28 => 127 | 29 => 128 | 20 => 229 | 21 => 230 | 22 => 231 | 23 => 232 | 24 => 233 | 25 => 234 | 26 => 235 | 27 => 236 | 46 => 274 | 47 => 177 | 48 => 178 | 49 => 275 | 50 => 276 | 57 => 297 | n => n, fun | 22 => 117 | 24 => 222 | 25 => 224 | 3 => 3 | 39 => 138 | 0 => 0 | 53 => 201 | 55 => 203 | 4 => 4 | 46 => 194 | 45 => 193 | 50 => 133 | 5 => 5 | 9 => 9 | 66 => 246 | 70 => 250 | 76 => 275 | 77 => 276 | n => n, fun | n => n⟩
theorem Tryz.sf151 : Go.Proofs.SlLaysF0.n6 Tryz.prog Tryz.sf151_ren := {
 mixed := by kernel_rfl
 f6 := ⟨Tryz.f151.name, by decide, Tryz.func151.trans (congrArg some (by kernel_rfl))⟩
 f14 := ⟨Tryz.f194.name, by decide, Tryz.func194.trans (congrArg some (by kernel_rfl))⟩
 f15 := Tryz.func72.trans (congrArg some (by kernel_rfl))
 f20 := ⟨Tryz.f229.name, by decide, Tryz.func229.trans (congrArg some (by kernel_rfl))⟩
 f21 := ⟨Tryz.f230.name, by decide, Tryz.func230.trans (congrArg some (by kernel_rfl))⟩
 f22 := ⟨Tryz.f231.name, by decide, Tryz.func231.trans (congrArg some (by kernel_rfl))⟩
 f23 := ⟨Tryz.f232.name, by decide, Tryz.func232.trans (congrArg some (by kernel_rfl))⟩
 f24 := ⟨Tryz.f233.name, by decide, Tryz.func233.trans (congrArg some (by kernel_rfl))⟩
 f25 := ⟨Tryz.f234.name, by decide, Tryz.func234.trans (congrArg some (by kernel_rfl))⟩
 f26 := ⟨Tryz.f235.name, by decide, Tryz.func235.trans (congrArg some (by kernel_rfl))⟩
 f27 := ⟨Tryz.f236.name, by decide, Tryz.func236.trans (congrArg some (by kernel_rfl))⟩
 f28 := Tryz.func127.trans (congrArg some (by kernel_rfl))
 f29 := Tryz.func128.trans (congrArg some (by kernel_rfl))
 f46 := ⟨Tryz.f274.name, by decide, Tryz.func274.trans (congrArg some (by kernel_rfl))⟩
 f47 := Tryz.func177.trans (congrArg some (by kernel_rfl))
 f48 := Tryz.func178.trans (congrArg some (by kernel_rfl))
 f49 := ⟨Tryz.f275.name, by decide, Tryz.func275.trans (congrArg some (by kernel_rfl))⟩
 f50 := ⟨Tryz.f276.name, by decide, Tryz.func276.trans (congrArg some (by kernel_rfl))⟩
 f57 := ⟨Tryz.f297.name, by decide, Tryz.func297.trans (congrArg some (by kernel_rfl))⟩
 t0 := Tryz.underlying0
 a0 := Tryz.isAgg0
 z0 := Tryz.sizeOf0
 v0 := Tryz.zeroValue0
 t3 := Tryz.underlying3
 a3 := Tryz.isAgg3
 z3 := Tryz.sizeOf3
 v3 := Tryz.zeroValue3
 t4 := Tryz.underlying4
 a4 := Tryz.isAgg4
 z4 := Tryz.sizeOf4
 v4 := Tryz.zeroValue4
 t5 := Tryz.underlying5
 a5 := Tryz.isAgg5
 z5 := Tryz.sizeOf5
 v5 := Tryz.zeroValue5
 t9 := Tryz.underlying9
 a9 := Tryz.isAgg9
 z9 := Tryz.sizeOf9
 v9 := Tryz.zeroValue9
 t22 := Tryz.underlying117
 a22 := Tryz.isAgg117
 z22 := Tryz.sizeOf117
 v22 := Tryz.zeroValue117
 t25 := Tryz.underlying224
 a25 := Tryz.isAgg224
 z25 := Tryz.sizeOf224
 v25 := Tryz.zeroValue224
 t39 := Tryz.underlying138
 a39 := Tryz.isAgg138
 z39 := Tryz.sizeOf138
 v39 := Tryz.zeroValue138
 t45 := Tryz.underlying193
 a45 := Tryz.isAgg193
 z45 := Tryz.sizeOf193
 v45 := Tryz.zeroValue193
 t46 := Tryz.underlying194
 a46 := Tryz.isAgg194
 z46 := Tryz.sizeOf194
 v46 := Tryz.zeroValue194
 t50 := Tryz.underlying133
 a50 := Tryz.isAgg133
 z50 := Tryz.sizeOf133
 v50 := Tryz.zeroValue133
 t53 := Tryz.underlying201
 a53 := Tryz.isAgg201
 z53 := Tryz.sizeOf201
 v53 := Tryz.zeroValue201
 t55 := Tryz.underlying203
 a55 := Tryz.isAgg203
 z55 := Tryz.sizeOf203
 v55 := Tryz.zeroValue203
 t66 := Tryz.underlying246
 a66 := Tryz.isAgg246
 z66 := Tryz.sizeOf246
 v66 := Tryz.zeroValue246
 t70 := Tryz.underlying250
 a70 := Tryz.isAgg250
 z70 := Tryz.sizeOf250
 v70 := Tryz.zeroValue250
 t76 := Tryz.underlying275
 a76 := Tryz.isAgg275
 z76 := Tryz.sizeOf275
 v76 := Tryz.zeroValue275
 t77 := Tryz.underlying276
 a77 := Tryz.isAgg276
 z77 := Tryz.sizeOf276
 v77 := Tryz.zeroValue276 }
def Tryz.sf114_ren : Go.Shelf.Ren := ⟨fun | 6 => 114 | 15 => 72 | 14 => 171 | 28 => 127 | 29 => 128 | 20 => 201 | 21 => 202 | 22 => 203 | 23 => 204 | 24 => 205 | 25 => 206 | 26 => 207 | 27 => 208 | 46 => 254 | 47 => 177 | 48 => 178 | 49 => 255 | 50 => 256 | 57 => 281 | n => n, fun | 22 => 22 | 24 => 26 | 25 => 190 | 3 => 3 | 39 => 138 | 0 => 0 | 53 => 201 | 55 => 203 | 4 => 4 | 46 => 194 | 45 => 193 | 50 => 133 | 5 => 5 | 9 => 9 | 66 => 246 | 70 => 250 | 76 => 275 | 77 => 276 | n => n, fun | n => n⟩
theorem Tryz.sf114 : Go.Proofs.SlLaysF0.n6 Tryz.prog Tryz.sf114_ren := {
 mixed := by kernel_rfl
 f6 := ⟨Tryz.f114.name, by decide, Tryz.func114.trans (congrArg some (by kernel_rfl))⟩
 f14 := ⟨Tryz.f171.name, by decide, Tryz.func171.trans (congrArg some (by kernel_rfl))⟩
 f15 := Tryz.func72.trans (congrArg some (by kernel_rfl))
 f20 := ⟨Tryz.f201.name, by decide, Tryz.func201.trans (congrArg some (by kernel_rfl))⟩
 f21 := ⟨Tryz.f202.name, by decide, Tryz.func202.trans (congrArg some (by kernel_rfl))⟩
 f22 := ⟨Tryz.f203.name, by decide, Tryz.func203.trans (congrArg some (by kernel_rfl))⟩
 f23 := ⟨Tryz.f204.name, by decide, Tryz.func204.trans (congrArg some (by kernel_rfl))⟩
 f24 := ⟨Tryz.f205.name, by decide, Tryz.func205.trans (congrArg some (by kernel_rfl))⟩
 f25 := ⟨Tryz.f206.name, by decide, Tryz.func206.trans (congrArg some (by kernel_rfl))⟩
 f26 := ⟨Tryz.f207.name, by decide, Tryz.func207.trans (congrArg some (by kernel_rfl))⟩
 f27 := ⟨Tryz.f208.name, by decide, Tryz.func208.trans (congrArg some (by kernel_rfl))⟩
 f28 := Tryz.func127.trans (congrArg some (by kernel_rfl))
 f29 := Tryz.func128.trans (congrArg some (by kernel_rfl))
 f46 := ⟨Tryz.f254.name, by decide, Tryz.func254.trans (congrArg some (by kernel_rfl))⟩
 f47 := Tryz.func177.trans (congrArg some (by kernel_rfl))
 f48 := Tryz.func178.trans (congrArg some (by kernel_rfl))
 f49 := ⟨Tryz.f255.name, by decide, Tryz.func255.trans (congrArg some (by kernel_rfl))⟩
 f50 := ⟨Tryz.f256.name, by decide, Tryz.func256.trans (congrArg some (by kernel_rfl))⟩
 f57 := ⟨Tryz.f281.name, by decide, Tryz.func281.trans (congrArg some (by kernel_rfl))⟩
 t0 := Tryz.underlying0
 a0 := Tryz.isAgg0
 z0 := Tryz.sizeOf0
 v0 := Tryz.zeroValue0
 t3 := Tryz.underlying3
 a3 := Tryz.isAgg3
 z3 := Tryz.sizeOf3
 v3 := Tryz.zeroValue3
 t4 := Tryz.underlying4
 a4 := Tryz.isAgg4
 z4 := Tryz.sizeOf4
 v4 := Tryz.zeroValue4
 t5 := Tryz.underlying5
 a5 := Tryz.isAgg5
 z5 := Tryz.sizeOf5
 v5 := Tryz.zeroValue5
 t9 := Tryz.underlying9
 a9 := Tryz.isAgg9
 z9 := Tryz.sizeOf9
 v9 := Tryz.zeroValue9
 t22 := Tryz.underlying22
 a22 := Tryz.isAgg22
 z22 := Tryz.sizeOf22
 v22 := Tryz.zeroValue22
 t25 := Tryz.underlying190
 a25 := Tryz.isAgg190
 z25 := Tryz.sizeOf190
 v25 := Tryz.zeroValue190
 t39 := Tryz.underlying138
 a39 := Tryz.isAgg138
 z39 := Tryz.sizeOf138
 v39 := Tryz.zeroValue138
 t45 := Tryz.underlying193
 a45 := Tryz.isAgg193
 z45 := Tryz.sizeOf193
 v45 := Tryz.zeroValue193
 t46 := Tryz.underlying194
 a46 := Tryz.isAgg194
 z46 := Tryz.sizeOf194
 v46 := Tryz.zeroValue194
 t50 := Tryz.underlying133
 a50 := Tryz.isAgg133
 z50 := Tryz.sizeOf133
 v50 := Tryz.zeroValue133
 t53 := Tryz.underlying201
 a53 := Tryz.isAgg201
 z53 := Tryz.sizeOf201
 v53 := Tryz.zeroValue201
 t55 := Tryz.underlying203
 a55 := Tryz.isAgg203
 z55 := Tryz.sizeOf203
 v55 := Tryz.zeroValue203
 t66 := Tryz.underlying246
 a66 := Tryz.isAgg246
 z66 := Tryz.sizeOf246
 v66 := Tryz.zeroValue246
 t70 := Tryz.underlying250
 a70 := Tryz.isAgg250
 z70 := Tryz.sizeOf250
 v70 := Tryz.zeroValue250
 t76 := Tryz.underlying275
 a76 := Tryz.isAgg275
 z76 := Tryz.sizeOf275
 v76 := Tryz.zeroValue275
 t77 := Tryz.underlying276
 a77 := Tryz.isAgg276
 z77 := Tryz.sizeOf276
 v77 := Tryz.zeroValue276 }
def Tryz.sf216_ren : Go.Shelf.Ren := ⟨fun | 6 => 216 | 15 => 72 | 14 => 262 | 28 => 127 | 29 => 128 | 20 => 285 | 21 => 286 | 22 => 287 | 23 => 288 | 24 => 289 | 25 => 290 | 26 => 291 | 27 => 292 | 46 => 301 | 47 => 177 | 48 => 178 | 49 => 302 | 50 => 303 | 57 => 306 | n => n, fun | 22 => 82 | 24 => 166 | 25 => 209 | 3 => 3 | 39 => 138 | 0 => 0 | 53 => 201 | 55 => 203 | 4 => 4 | 46 => 194 | 45 => 193 | 50 => 133 | 5 => 5 | 9 => 9 | 66 => 246 | 70 => 250 | 76 => 275 | 77 => 276 | n => n, fun | n => n⟩
theorem Tryz.sf216 : Go.Proofs.SlLaysF0.n6 Tryz.prog Tryz.sf216_ren := {
 mixed := by kernel_rfl
 f6 := ⟨Tryz.f216.name, by decide, Tryz.func216.trans (congrArg some (by kernel_rfl))⟩
 f14 := ⟨Tryz.f262.name, by decide, Tryz.func262.trans (congrArg some (by kernel_rfl))⟩
 f15 := Tryz.func72.trans (congrArg some (by kernel_rfl))
 f20 := ⟨Tryz.f285.name, by decide, Tryz.func285.trans (congrArg some (by kernel_rfl))⟩
 f21 := ⟨Tryz.f286.name, by decide, Tryz.func286.trans (congrArg some (by kernel_rfl))⟩
 f22 := ⟨Tryz.f287.name, by decide, Tryz.func287.trans (congrArg some (by kernel_rfl))⟩
 f23 := ⟨Tryz.f288.name, by decide, Tryz.func288.trans (congrArg some (by kernel_rfl))⟩
 f24 := ⟨Tryz.f289.name, by decide, Tryz.func289.trans (congrArg some (by kernel_rfl))⟩
 f25 := ⟨Tryz.f290.name, by decide, Tryz.func290.trans (congrArg some (by kernel_rfl))⟩
 f26 := ⟨Tryz.f291.name, by decide, Tryz.func291.trans (congrArg some (by kernel_rfl))⟩
 f27 := ⟨Tryz.f292.name, by decide, Tryz.func292.trans (congrArg some (by kernel_rfl))⟩
 f28 := Tryz.func127.trans (congrArg some (by kernel_rfl))
 f29 := Tryz.func128.trans (congrArg some (by kernel_rfl))
 f46 := ⟨Tryz.f301.name, by decide, Tryz.func301.trans (congrArg some (by kernel_rfl))⟩
 f47 := Tryz.func177.trans (congrArg some (by kernel_rfl))
 f48 := Tryz.func178.trans (congrArg some (by kernel_rfl))
 f49 := ⟨Tryz.f302.name, by decide, Tryz.func302.trans (congrArg some (by kernel_rfl))⟩
 f50 := ⟨Tryz.f303.name, by decide, Tryz.func303.trans (congrArg some (by kernel_rfl))⟩
 f57 := ⟨Tryz.f306.name, by decide, Tryz.func306.trans (congrArg some (by kernel_rfl))⟩
 t0 := Tryz.underlying0
 a0 := Tryz.isAgg0
 z0 := Tryz.sizeOf0
 v0 := Tryz.zeroValue0
 t3 := Tryz.underlying3
 a3 := Tryz.isAgg3
 z3 := Tryz.sizeOf3
 v3 := Tryz.zeroValue3
 t4 := Tryz.underlying4
 a4 := Tryz.isAgg4
 z4 := Tryz.sizeOf4
 v4 := Tryz.zeroValue4
 t5 := Tryz.underlying5
 a5 := Tryz.isAgg5
 z5 := Tryz.sizeOf5
 v5 := Tryz.zeroValue5
 t9 := Tryz.underlying9
 a9 := Tryz.isAgg9
 z9 := Tryz.sizeOf9
 v9 := Tryz.zeroValue9
 t22 := Tryz.underlying82
 a22 := Tryz.isAgg82
 z22 := Tryz.sizeOf82
 v22 := Tryz.zeroValue82
 t25 := Tryz.underlying209
 a25 := Tryz.isAgg209
 z25 := Tryz.sizeOf209
 v25 := Tryz.zeroValue209
 t39 := Tryz.underlying138
 a39 := Tryz.isAgg138
 z39 := Tryz.sizeOf138
 v39 := Tryz.zeroValue138
 t45 := Tryz.underlying193
 a45 := Tryz.isAgg193
 z45 := Tryz.sizeOf193
 v45 := Tryz.zeroValue193
 t46 := Tryz.underlying194
 a46 := Tryz.isAgg194
 z46 := Tryz.sizeOf194
 v46 := Tryz.zeroValue194
 t50 := Tryz.underlying133
 a50 := Tryz.isAgg133
 z50 := Tryz.sizeOf133
 v50 := Tryz.zeroValue133
 t53 := Tryz.underlying201
 a53 := Tryz.isAgg201
 z53 := Tryz.sizeOf201
 v53 := Tryz.zeroValue201
 t55 := Tryz.underlying203
 a55 := Tryz.isAgg203
 z55 := Tryz.sizeOf203
 v55 := Tryz.zeroValue203
 t66 := Tryz.underlying246
 a66 := Tryz.isAgg246
 z66 := Tryz.sizeOf246
 v66 := Tryz.zeroValue246
 t70 := Tryz.underlying250
 a70 := Tryz.isAgg250
 z70 := Tryz.sizeOf250
 v70 := Tryz.zeroValue250
 t76 := Tryz.underlying275
 a76 := Tryz.isAgg275
 z76 := Tryz.sizeOf275
 v76 := Tryz.zeroValue275
 t77 := Tryz.underlying276
 a77 := Tryz.isAgg276
 z77 := Tryz.sizeOf276
 v77 := Tryz.zeroValue276 }
end Go.Proofs
namespace Go.Proofs.YtookcfeogbeooaaGreatDoor
open Go Go.Proofs Go.Sort Go.RowKit Go.Shelf
def SortLaw (f k : Nat) : Prop := ∀ (α : Type) [Inhabited α] (enc : α → LV) (_ : ∀ x, (enc x).length = k) (_ : ∀ x, ∀ v ∈ enc x, v.oneCell' = true) (cf : α → α → Int) (_ : SWO (ltOf cf)) (g : Nat) (cb : Array Value) (blk cap : Nat) (d : Array α) (w : World),
 (∀ args w, (callFunc g args).run PP w = .ok (.enter g args) w) → CmpLays PP g cb enc k cf blk 0 d.size w → HoldsK enc k w blk 0 d → blk < w.heap.size → d.size < 4611686018427387904 →
 Calls PP f #[.slice (some ⟨blk, 0, none⟩) d.size cap, .func (.func g) #[] cb] w fun e w' => e = .returned (.tuple #[]) ∧ ∃ d' n os, PermIn 0 d.size d d' ∧ SortedIn (ltOf cf) 0 d.size d' ∧ w' = sortWorldK enc k w blk 0 n d' os
theorem law192 : SortLaw 192 2 := fun _ _ e0 hk h1 cf hO g cb blk cap d w eg hc hH hb hs => AnyQ.slices_SortFunc Tryz.sf192 2 Tryz.isAgg128 Tryz.sizeOf128 e0 hk h1 cf hO g cb blk 0 cap d w eg hc hH hb hs
theorem law151 : SortLaw 151 3 := fun _ _ e0 hk h1 cf hO g cb blk cap d w eg hc hH hb hs => AnyQ.slices_SortFunc Tryz.sf151 3 Tryz.isAgg222 Tryz.sizeOf222 e0 hk h1 cf hO g cb blk 0 cap d w eg hc hH hb hs
theorem law114 : SortLaw 114 2 := fun _ _ e0 hk h1 cf hO g cb blk cap d w eg hc hH hb hs => AnyQ.slices_SortFunc Tryz.sf114 2 Tryz.isAgg26 Tryz.sizeOf26 e0 hk h1 cf hO g cb blk 0 cap d w eg hc hH hb hs
theorem law216 : SortLaw 216 3 := fun _ _ e0 hk h1 cf hO g cb blk cap d w eg hc hH hb hs => AnyQ.slices_SortFunc Tryz.sf216 3 Tryz.isAgg166 Tryz.sizeOf166 e0 hk h1 cf hO g cb blk 0 cap d w eg hc hH hb hs
section
variable {H : Ghost} {X : Type} {r : Rep X}
theorem Step.sortedK {w : World} {n b m c e k : Nat} {os : Array Obj} {d : Array Value} {cs : LV} (hs : St H [.row e k (.slice (some ⟨b, 0, none⟩) m c) m cs] w) (hd : d.size = m * k) :
  Step H [.row e k (.slice (some ⟨b, 0, none⟩) m c) m cs] w H [.row e k (.slice (some ⟨b, 0, none⟩) m c) m d.toList] (grow (putRow id (Sort.ahead w n) b 0 d) os) := by
 have h8 : w.ownsRow 0 e k (.slice (some ⟨b, 0, none⟩) m c) m cs := hs.own (.row e k (.slice (some ⟨b, 0, none⟩) m c) m cs) (by simp)
 rcases h8.2 with ⟨h1, h2⟩ | ⟨g, cap, cur, hv, hg, hh, hn, hc, hsz, htake⟩
 ·cases h1
 ·injection hv with hv1 hv2 hv3
  injection hv1 with hv1
  injection hv1 with hv1
  subst hv1 hv3
  have b4 : b < w.heap.size := (Array.getElem?_eq_some_iff.1 hh).1
  have h4 : (putRow id (Sort.ahead w n) b 0 d).heap.size = w.heap.size := by simp [putRow, mapBlock, Sort.ahead]
  have h6 : ∀ q, q < w.heap.size → q ≠ b → (grow (putRow id (Sort.ahead w n) b 0 d) os).heap[q]? = w.heap[q]? := fun q hk b5 => by
   simp only [grow]
   rw [Array.getElem?_append_left (by rw [h4]; exact hk)]
   simp [putRow, mapBlock, Sort.ahead, Array.getElem?_modify, Ne.symm b5]
  have h7 : (grow (putRow id (Sort.ahead w n) b 0 d) os).heap[b]? = some (.cells (putCells id 0 d cur) e (0, 0)) := by
   simp only [grow]
   rw [Array.getElem?_append_left (by rw [h4]; exact b4)]
   simp [putRow, mapBlock, Sort.ahead, Array.getElem?_modify, hh, onCells]
  have h9 := hs.apart b (by simp [fps, HL.fp, vblk])
  refine ⟨⟨fun g p h5 => ?_, fun x hx => ?_, fun g h5 => ?_, by simp [fps, HL.fp, vblk]⟩, Ghost.le.refl _, rfl, rfl, rfl, by simp [grow, h4], fun g h5 b6 => h6 g h5 (fun e => b6 (by rw [e]; simp [fps, HL.fp, vblk])), fun g p h5 => .inl (by rw [h5]; simp), fun g h5 => .inl h5, fun _ => by simp [grow, putRow, mapBlock, Sort.ahead]⟩
  ·rw [h6 g (hs.lt h5) (fun e => by rw [e, h9.1] at h5; cases h5)]
   exact hs.ghost g p h5
  ·simp only [List.mem_singleton] at hx
   subst hx
   refine ⟨by simp [hd], .inr ⟨b, c, _, rfl, Nat.zero_le _, h7, hn, hc, by simp [putCells, hsz], ?_⟩⟩
   rw [← hd]
   have := putCells_take id d cur (by rw [hd, hsz]; exact Nat.mul_le_mul_right k hn)
   simpa using this
  ·have : g = b := by simpa [fps, HL.fp, vblk] using h5
   subst this
   exact ⟨h9.1, by simp [grow, h4]; omega⟩
theorem grow_of_step (h : Step H [] w H' [] w') : ∃ q os, w' = grow (w.drewN q) os := by
 refine ⟨w'.drawn - w.drawn, w'.heap.extract w.heap.size w'.heap.size, ?_⟩
 have h1 : w.heap ++ w'.heap.extract w.heap.size w'.heap.size = w'.heap := by
  apply Array.ext_getElem?
  intro i
  rcases Nat.lt_or_ge i w.heap.size with hi | hi
  ·rw [Array.getElem?_append_left hi]
   exact (h.old i hi (by simp [fps])).symm
  ·rw [Array.getElem?_append_right hi, Array.getElem?_extract]
   have := h.size
   split
   ·congr 1; omega
   ·rw [Array.getElem?_eq_none oM]
 have h2 := h.drawn trivial
 have h3 := h.os
 have h4 := h.tape
 have h5 := h.output
 obtain ⟨a, b, c, d, e⟩ := w'
 simp only at h1 h2 h3 h4 h5 ⊢
 simp only [grow, World.drewN]
 rw [h1, ← h3, ← h4, ← h5]
 congr 1
 omega
abbrev El (r : Rep X) (H : Ghost) (xs : List X) : Type := { p : X × LV // p.1 ∈ xs ∧ r.rel H p.1 p.2 }
theorem els_of (h : Reps r H ys cs) : ∀ {xs : List X}, (∀ y ∈ ys, y ∈ xs) → ∃ ps : List (El r H xs), ps.map (fun p => p.1.1) = ys ∧ ps.flatMap (fun p => p.1.2) = cs := by
 induction h with
 | nil => intro xs _; exact ⟨[], rfl, rfl⟩
 | @cons y ys c cs hy _ ih =>
  intro xs hm
  obtain ⟨ps, h1, h2⟩ := ih (xs := xs) fun z hz => hm z (by simp [hz])
  exact ⟨⟨(y, c), hm y (by simp), hy⟩ :: ps, by simp [h1], by simp [h2]⟩
theorem reps_els (ps : List (El r H xs)) : Reps r H (ps.map fun p => p.1.1) (ps.flatMap fun p => p.1.2) := by
 induction ps with
 | nil => exact .nil
 | cons p ps ih => rw [List.map_cons, List.flatMap_cons]; exact .cons p.2.2 ih
theorem flatK_eq {α : Type} [Inhabited α] (enc : α → LV) (k : Nat) (hk : ∀ x, (enc x).length = k) (hk0 : 0 < k) (ps : List α) : flatK enc k ps.toArray = (ps.flatMap enc).toArray := by
 have hl : ∀ qs : List α, (qs.flatMap enc).length = qs.length * k := fun qs => by
  induction qs with
  | nil => simp
  | cons q qs ih => rw [List.flatMap_cons, List.length_append, ih, hk, List.length_cons, Nat.add_mul]; omega
 have k0 : ∀ (qs : List α) (t : Nat), t < qs.length * k → ∃ x, qs[t / k]? = some x ∧ (qs.flatMap enc)[t]? = (enc x)[t % k]? := by
  intro qs
  induction qs with
  | nil => intro t ht; simp at ht
  | cons q qs ih =>
   intro t ht
   rw [List.length_cons, Nat.add_mul, Nat.one_mul] at ht
   rw [List.flatMap_cons]
   rcases Nat.lt_or_ge t k with h | h
   ·refine ⟨q, by rw [Nat.div_eq_of_lt h]; rfl, ?_⟩
    rw [List.getElem?_append_left (by rw [hk]; exact h), Nat.mod_eq_of_lt h]
   ·obtain ⟨x, h1, h2⟩ := ih (t - k) oM
    have hd : t / k = (t - k) / k + 1 := Nat.div_eq_sub_div hk0 h
    refine ⟨x, by rw [hd, List.getElem?_cons_succ]; exact h1, ?_⟩
    rw [List.getElem?_append_right (by rw [hk]; exact h), hk, h2, Nat.mod_eq_sub_mod h]
 apply Array.ext
 ·simp [flatK, hl]
 ·intro t h1 h2
  have ht : t < ps.length * k := by simpa [flatK] using h1
  obtain ⟨x, hx, hg⟩ := k0 ps t ht
  obtain ⟨h5, h6⟩ := gE hx
  have h4 : t % k < (enc x).length := by rw [hk]; exact Nat.mod_lt _ hk0
  have e1 : (flatK enc k ps.toArray)[t] = (enc x)[t % k]'h4 := by
   simp only [flatK, Array.getElem_map, Array.getElem_range]
   rw [getElem!_pos ps.toArray (t / k) (by simpa using h5)]
   simp only [List.getElem_toArray, h6]
   rw [getElem!_pos (enc x) (t % k) h4]
  rw [e1]
  have h3 : t < (ps.flatMap enc).length := by simpa using h2
  rw [List.getElem?_eq_getElem h3, List.getElem?_eq_getElem h4] at hg
  simp only [Option.some.injEq] at hg
  simpa using hg.symm
theorem sortCt {e m c : Nat} {B : OA} {caps : LV} (law : SortLaw f k) (hrk : r.k = k) (hk0 : 0 < k) (hr : Reps r H xs cs) (hne : xs ≠ []) (hm : m < 4611686018427387904) (cf : X → X → Int) (hO : ∀ x ∈ xs, ∀ y ∈ xs, ∀ z ∈ xs, ¬ cf x x < 0 ∧ (cf x y < 0 → cf y z < 0 → cf x z < 0) ∧ (¬ cf x y < 0 → ¬ cf y z < 0 → ¬ cf x z < 0)) (eg : ∀ (args : Array Value) (w : World), (callFunc g args).run PP w = .ok (.enter g args) w) (hcmp : ∀ x ∈ xs, ∀ y ∈ xs, ∀ cx cy, r.rel H x cx → r.rel H y cy → CtD PP g ([.agg cx.toArray, .agg cy.toArray] ++ caps : LV).toArray H [] fun v H' O' => O' = [] ∧ v = .int .i64 (cf x y)) :
  Ct PP f #[.slice B m c, .func (.func g) #[] caps.toArray] H [.row e k (.slice B m c) m cs] fun v H' O' => ∃ ys cs', O' = [.row e k (.slice B m c) m cs'] ∧ Reps r H ys cs' ∧ ys.Perm xs ∧ ys.Pairwise fun x y => ¬ cf y x < 0 := by
 intro w hs
 have h8 : w.ownsRow 0 e k (.slice B m c) m cs := hs.own (.row e k (.slice B m c) m cs) (by simp)
 have hlen : xs.length = m := by
  have h1 := h8.1
  have h2 := hr.len
  rw [hrk, h1] at h2
  exact (Nat.eq_of_mul_eq_mul_right hk0 h2).symm
 have hm0 : 0 < m := by rw [← hlen]; exact List.length_pos_iff.2 hne
 rcases h8.2 with ⟨h1, h2⟩ | ⟨b, cap, cur, hv, hg, hh, hn, hc, hsz, htake⟩
 ·omega
 injection hv with h1 h2 h3
 subst h1 h3
 obtain ⟨ps, d0, d3⟩ := els_of hr (xs := xs) fun y hy => hy
 have d8 : ps ≠ [] := by rintro rfl; exact hne d0.symm
 obtain ⟨p0, e3⟩ := List.exists_mem_of_ne_nil ps d8
 letI : Inhabited (El r H xs) := ⟨p0⟩
 let e0 : El r H xs → LV := fun p => p.1.2
 let c0 : El r H xs → El r H xs → Int := fun p q => cf p.1.1 q.1.1
 have h7 : ∀ x, (e0 x).length = k := fun x => by rw [← hrk]; exact r.len x.2.2
 have h4 : ∀ qs : List (El r H xs), flatK e0 k qs.toArray = (qs.flatMap e0).toArray := flatK_eq e0 k h7 hk0
 have d2 : ∀ qs : List (El r H xs), (qs.flatMap e0).length = qs.length * k := fun qs => by
  induction qs with
  | nil => simp
  | cons q qs ih => rw [List.flatMap_cons, List.length_append, ih, h7, List.length_cons, Nat.add_mul]; omega
 have b6 : ps.length = m := by have := congrArg List.length d0; rw [List.length_map, hlen] at this; exact this
 have d4 : SWO (ltOf c0) := by
  refine ⟨fun x => ?_, fun x y z => ?_, fun x y z => ?_⟩
  ·have := (hO _ x.2.1 _ x.2.1 _ x.2.1).1
   simp [ltOf, c0]; omega
  ·have := (hO _ x.2.1 _ y.2.1 _ z.2.1).2.1
   simp only [ltOf, c0, decide_eq_true_eq]; exact this
  ·have := (hO _ x.2.1 _ y.2.1 _ z.2.1).2.2
   simp only [ltOf, c0, decide_eq_false_iff_not]; exact this
 have hH : HoldsK e0 k w b 0 ps.toArray := by
  unfold HoldsK
  rw [h4]
  intro j hj
  have e1 : j < cs.length := by rw [← d3]; simpa using hj
  refine ⟨?_, by simp [World.frozen?, hh]⟩
  have := h8.cells (g := b) rfl j cs[j] (by simp [e1])
  rw [addr_add] at this
  rw [this, getElem!_pos _ j hj]
  simp only [id, List.getElem_toArray]
  congr 1
  exact List.getElem_of_eq d3.symm _
 have d5 : CmpLays PP g caps.toArray e0 k c0 b 0 ps.toArray.size w := by
  intro m' os dk d9 x y
  have b5 : dk.toList.length = m := by simpa [b6] using d9
  have b7 := Step.sortedK (n := m') (os := os) (d := flatK e0 k dk) hs (by
   have := h4 dk.toList
   rw [Array.toArray_toList] at this
   rw [this]
   have h2 := d2 dk.toList
   rw [b5] at h2
   rw [List.size_toArray, h2])
  have b9 : St H [] (sortWorldK e0 k w b 0 m' dk os) := b7.st.sub (List.nil_sublist _)
  have d1 := hcmp _ x.2.1 _ y.2.1 _ _ x.2.2 y.2.2 _ b9
  have ea : ([.agg x.1.2.toArray, .agg y.1.2.toArray] ++ caps : LV).toArray = #[.agg (e0 x).toArray, .agg (e0 y).toArray] ++ caps.toArray := by simp [e0]
  rw [ea] at d1
  refine d1.mono ?_
  rintro e2 w' ⟨v, H', O', rfl, ⟨rfl, rfl⟩, c1⟩
  exact ⟨rfl, grow_of_step c1⟩
 have b4 := law (El r H xs) e0 h7 (fun x => r.one x.2.2) c0 d4 g caps.toArray b c ps.toArray w eg d5 hH (Array.getElem?_eq_some_iff.1 hh).1 (by simpa [b6] using hm)
 have h6 : ps.toArray.size = m := by simpa using b6
 rw [h6] at b4
 refine b4.mono ?_
 rintro e2 w' ⟨rfl, d', n, os, h5, h9, rfl⟩
 have d7 : d'.size = m := by rw [h5.1, h6]
 have b5 : d'.toList.length = m := by simpa using d7
 have b8 := h4 d'.toList
 rw [Array.toArray_toList] at b8
 have b7 := Step.sortedK (n := n) (os := os) (d := flatK e0 k d') hs (by rw [b8, List.size_toArray, d2 d'.toList, b5])
 refine ⟨_, H, _, rfl, ⟨d'.toList.map fun p => p.1.1, (flatK e0 k d').toList, rfl, ?_, ?_, ?_⟩, b7.any⟩
 ·rw [b8]
  exact reps_els d'.toList
 ·have h := h5.2.2
  have h2 : (d'.extract 0 m).toList = d'.toList := by simp; exact List.take_of_length_le oM
  have h3 : (ps.toArray.extract 0 m).toList = ps := by simp; exact List.take_of_length_le oM
  rw [h2, h3] at h
  have := h.map fun p => p.1.1
  rwa [d0] at this
 ·rw [List.pairwise_map, List.pairwise_iff_getElem]
  intro i j hi hj d6
  have := h9 i j (Nat.zero_le _) d6 (by rw [← b5]; exact hj)
  rw [getElem!_pos d' j (by simpa using hj), getElem!_pos d' i (by simpa using hi)] at this
  simp only [ltOf, c0, decide_eq_false_iff_not] at this
  simpa using this
end
end Go.Proofs.YtookcfeogbeooaaGreatDoor

namespace Go.Proofs
open Go.Shelf
def Tryz.lays125_ren : Go.Shelf.Ren := ⟨fun | 125 => 72 | 128 => 127 | 129 => 128 | n => n, fun | 46 => 138 | 3 => 3 | 51 => 201 | 53 => 203 | 4 => 4 | 5 => 5 | 9 => 9 | n => n, fun | n => n⟩
theorem Tryz.lays125 : Go.Proofs.Lays.n125 Tryz.prog Tryz.lays125_ren := {
 mixed := by kernel_rfl
 f125 := Tryz.func72.trans (congrArg some (by kernel_rfl))
 f128 := Tryz.func127.trans (congrArg some (by kernel_rfl))
 f129 := Tryz.func128.trans (congrArg some (by kernel_rfl))
 t3 := Tryz.underlying3
 a3 := Tryz.isAgg3
 z3 := Tryz.sizeOf3
 v3 := Tryz.zeroValue3
 t4 := Tryz.underlying4
 a4 := Tryz.isAgg4
 z4 := Tryz.sizeOf4
 v4 := Tryz.zeroValue4
 t5 := Tryz.underlying5
 a5 := Tryz.isAgg5
 z5 := Tryz.sizeOf5
 v5 := Tryz.zeroValue5
 t9 := Tryz.underlying9
 a9 := Tryz.isAgg9
 z9 := Tryz.sizeOf9
 v9 := Tryz.zeroValue9
 t46 := Tryz.underlying138
 a46 := Tryz.isAgg138
 z46 := Tryz.sizeOf138
 v46 := Tryz.zeroValue138
 t51 := Tryz.underlying201
 a51 := Tryz.isAgg201
 z51 := Tryz.sizeOf201
 v51 := Tryz.zeroValue201
 t53 := Tryz.underlying203
 a53 := Tryz.isAgg203
 z53 := Tryz.sizeOf203
 v53 := Tryz.zeroValue203 }
theorem Tryz.bits_Len (x : Int) (w : World) (h0 : 0 ≤ x) (h1 : x ≤ 18446744073709551615) :
  Calls Tryz.prog 72 #[.int .u64 x] w fun e w' => e = .returned (.int .i64 (Lib.bitLen x.toNat)) ∧ w' = w := Any.bits_Len Tryz.lays125 x w h0 h1
end Go.Proofs
namespace Go.Proofs.YtookcfeogbeooaaGreatDoor
open Go Go.Proofs
theorem c72 {x : Int} (h0 : 0 ≤ x) (h1 : x ≤ 18446744073709551615) : Ct PP 72 #[.int .u64 x] H [] fun v H' O' => O' = [] ∧ v = .int .i64 (Lib.bitLen x.toNat) := by
 intro w hs
 refine (Tryz.bits_Len x w h0 h1).mono ?_
 rintro e w' ⟨rfl, rfl⟩
 exact ⟨_, H, [], rfl, ⟨rfl, rfl⟩, StepG.refl hs⟩
end Go.Proofs.YtookcfeogbeooaaGreatDoor

namespace Go.Proofs.YtookcfeogbeooaaGreatDoor
open Go Go.Proofs
section
open Go.Proofs.Tryz
attribute [local irreducible] TK Yl OpK AnyT wpList Code.wp
theorem c266 {B : OA} {c g : Nat} {caps : LV} : Ct PP 266 #[.slice B 0 c, .int .i64 0, .int .i64 0, .func (.func g) #[] caps.toArray] H [] fun v H' O' => O' = [] ∧ v = .tuple #[] := by
 refine cB func266 ntmps266 fun I hD hI h5 => ?_
 refine g7a ?_
 intros
 refine lp0 (fun D E H' O m => H = H' ∧ m = 0 ∧ O = [] ∧ E = D) [0, 1, 2, 3, 8] [] ⟨rfl, rfl, rfl, rfl⟩ ?_
 rintro _ _ _ _ ⟨rfl, rfl, rfl, rfl⟩ _ h6
 refine g7b ?_
 intros
 refine cD ?_ ?_ <;> intro h4
 ·exfalso; first | omega | contradiction
 refine TK.exit (TK.keep [] dC rfl (TK.end0 results266 ?_))
 exact ⟨rfl, rfl⟩
theorem c228 {B : OA} {c g : Nat} {caps : LV} {l : Int} : Ct PP 228 #[.slice B 0 c, .int .i64 0, .int .i64 0, .int .i64 l, .func (.func g) #[] caps.toArray] H [] fun v H' O' => O' = [] ∧ v = .tuple #[] := by
 refine cB func228 ntmps228 fun I hD hI h6 => ?_
 refine g9b ?_
 intros
 refine lp0 (fun D E H' O m => H = H' ∧ m = 0 ∧ O = [] ∧ E = D) [0, 1, 2, 3, 4, 10, 11] [] ⟨rfl, rfl, rfl, rfl⟩ ?_
 rintro _ _ _ _ ⟨rfl, rfl, rfl, rfl⟩ _ h5
 refine g14c ?_
 intros
 refine cD ?_ ?_ <;> intro h4
 refine g6a ?_
 intros
 refine sq rfl (fS hD rfl call266 rfl c266 ?_)
 rintro v0 rfl
 refine g1 ?_
 refine TK.ret (TK.ret0 results228 ?_)
 exact ⟨rfl, rfl⟩
 ·exfalso; first | omega | contradiction
theorem c192z {B : OA} {c g : Nat} {caps : LV} : Ct PP 192 #[.slice B 0 c, .func (.func g) #[] caps.toArray] H [] fun v H' O' => O' = [] ∧ v = .tuple #[] := by
 refine cB func192 ntmps192 fun I hD hI h4 => ?_
 refine g11a ?_
 intros
 refine sq rfl (fS hD rfl call72 rfl (c72 dC dC) ?_)
 rintro v2 rfl
 refine g1 ?_
 refine sq rfl (fS hD rfl call228 rfl c228 ?_)
 rintro v3 rfl
 refine TK.nil (TK.keep [] dC rfl (TK.end0 results192 ?_))
 exact ⟨rfl, rfl⟩
theorem c229 {B : OA} {c g : Nat} {caps : LV} : Ct PP 229 #[.slice B 0 c, .int .i64 0, .int .i64 0, .func (.func g) #[] caps.toArray] H [] fun v H' O' => O' = [] ∧ v = .tuple #[] := by
 refine cB func229 ntmps229 fun I hD hI h5 => ?_
 refine g7a ?_
 intros
 refine lp0 (fun D E H' O m => H = H' ∧ m = 0 ∧ O = [] ∧ E = D) [0, 1, 2, 3, 8] [] ⟨rfl, rfl, rfl, rfl⟩ ?_
 rintro _ _ _ _ ⟨rfl, rfl, rfl, rfl⟩ _ h6
 refine g7b ?_
 intros
 refine cD ?_ ?_ <;> intro h4
 ·exfalso; first | omega | contradiction
 refine TK.exit (TK.keep [] dC rfl (TK.end0 results229 ?_))
 exact ⟨rfl, rfl⟩
theorem c194 {B : OA} {c g : Nat} {caps : LV} {l : Int} : Ct PP 194 #[.slice B 0 c, .int .i64 0, .int .i64 0, .int .i64 l, .func (.func g) #[] caps.toArray] H [] fun v H' O' => O' = [] ∧ v = .tuple #[] := by
 refine cB func194 ntmps194 fun I hD hI h6 => ?_
 refine g9b ?_
 intros
 refine lp0 (fun D E H' O m => H = H' ∧ m = 0 ∧ O = [] ∧ E = D) [0, 1, 2, 3, 4, 10, 11] [] ⟨rfl, rfl, rfl, rfl⟩ ?_
 rintro _ _ _ _ ⟨rfl, rfl, rfl, rfl⟩ _ h5
 refine g14c ?_
 intros
 refine cD ?_ ?_ <;> intro h4
 refine g6a ?_
 intros
 refine sq rfl (fS hD rfl call229 rfl c229 ?_)
 rintro v0 rfl
 refine g1 ?_
 refine TK.ret (TK.ret0 results194 ?_)
 exact ⟨rfl, rfl⟩
 ·exfalso; first | omega | contradiction
theorem c151z {B : OA} {c g : Nat} {caps : LV} : Ct PP 151 #[.slice B 0 c, .func (.func g) #[] caps.toArray] H [] fun v H' O' => O' = [] ∧ v = .tuple #[] := by
 refine cB func151 ntmps151 fun I hD hI h4 => ?_
 refine g11a ?_
 intros
 refine sq rfl (fS hD rfl call72 rfl (c72 dC dC) ?_)
 rintro v2 rfl
 refine g1 ?_
 refine sq rfl (fS hD rfl call194 rfl c194 ?_)
 rintro v3 rfl
 refine TK.nil (TK.keep [] dC rfl (TK.end0 results151 ?_))
 exact ⟨rfl, rfl⟩
theorem c201 {B : OA} {c g : Nat} {caps : LV} : Ct PP 201 #[.slice B 0 c, .int .i64 0, .int .i64 0, .func (.func g) #[] caps.toArray] H [] fun v H' O' => O' = [] ∧ v = .tuple #[] := by
 refine cB func201 ntmps201 fun I hD hI h5 => ?_
 refine g7a ?_
 intros
 refine lp0 (fun D E H' O m => H = H' ∧ m = 0 ∧ O = [] ∧ E = D) [0, 1, 2, 3, 8] [] ⟨rfl, rfl, rfl, rfl⟩ ?_
 rintro _ _ _ _ ⟨rfl, rfl, rfl, rfl⟩ _ h6
 refine g7b ?_
 intros
 refine cD ?_ ?_ <;> intro h4
 ·exfalso; first | omega | contradiction
 refine TK.exit (TK.keep [] dC rfl (TK.end0 results201 ?_))
 exact ⟨rfl, rfl⟩
theorem c171 {B : OA} {c g : Nat} {caps : LV} {l : Int} : Ct PP 171 #[.slice B 0 c, .int .i64 0, .int .i64 0, .int .i64 l, .func (.func g) #[] caps.toArray] H [] fun v H' O' => O' = [] ∧ v = .tuple #[] := by
 refine cB func171 ntmps171 fun I hD hI h6 => ?_
 refine g9b ?_
 intros
 refine lp0 (fun D E H' O m => H = H' ∧ m = 0 ∧ O = [] ∧ E = D) [0, 1, 2, 3, 4, 10, 11] [] ⟨rfl, rfl, rfl, rfl⟩ ?_
 rintro _ _ _ _ ⟨rfl, rfl, rfl, rfl⟩ _ h5
 refine g14c ?_
 intros
 refine cD ?_ ?_ <;> intro h4
 refine g6a ?_
 intros
 refine sq rfl (fS hD rfl call201 rfl c201 ?_)
 rintro v0 rfl
 refine g1 ?_
 refine TK.ret (TK.ret0 results171 ?_)
 exact ⟨rfl, rfl⟩
 ·exfalso; first | omega | contradiction
theorem c114z {B : OA} {c g : Nat} {caps : LV} : Ct PP 114 #[.slice B 0 c, .func (.func g) #[] caps.toArray] H [] fun v H' O' => O' = [] ∧ v = .tuple #[] := by
 refine cB func114 ntmps114 fun I hD hI h4 => ?_
 refine g11a ?_
 intros
 refine sq rfl (fS hD rfl call72 rfl (c72 dC dC) ?_)
 rintro v2 rfl
 refine g1 ?_
 refine sq rfl (fS hD rfl call171 rfl c171 ?_)
 rintro v3 rfl
 refine TK.nil (TK.keep [] dC rfl (TK.end0 results114 ?_))
 exact ⟨rfl, rfl⟩
theorem c285 {B : OA} {c g : Nat} {caps : LV} : Ct PP 285 #[.slice B 0 c, .int .i64 0, .int .i64 0, .func (.func g) #[] caps.toArray] H [] fun v H' O' => O' = [] ∧ v = .tuple #[] := by
 refine cB func285 ntmps285 fun I hD hI h5 => ?_
 refine g7a ?_
 intros
 refine lp0 (fun D E H' O m => H = H' ∧ m = 0 ∧ O = [] ∧ E = D) [0, 1, 2, 3, 8] [] ⟨rfl, rfl, rfl, rfl⟩ ?_
 rintro _ _ _ _ ⟨rfl, rfl, rfl, rfl⟩ _ h6
 refine g7b ?_
 intros
 refine cD ?_ ?_ <;> intro h4
 ·exfalso; first | omega | contradiction
 refine TK.exit (TK.keep [] dC rfl (TK.end0 results285 ?_))
 exact ⟨rfl, rfl⟩
theorem c262 {B : OA} {c g : Nat} {caps : LV} {l : Int} : Ct PP 262 #[.slice B 0 c, .int .i64 0, .int .i64 0, .int .i64 l, .func (.func g) #[] caps.toArray] H [] fun v H' O' => O' = [] ∧ v = .tuple #[] := by
 refine cB func262 ntmps262 fun I hD hI h6 => ?_
 refine g9b ?_
 intros
 refine lp0 (fun D E H' O m => H = H' ∧ m = 0 ∧ O = [] ∧ E = D) [0, 1, 2, 3, 4, 10, 11] [] ⟨rfl, rfl, rfl, rfl⟩ ?_
 rintro _ _ _ _ ⟨rfl, rfl, rfl, rfl⟩ _ h5
 refine g14c ?_
 intros
 refine cD ?_ ?_ <;> intro h4
 refine g6a ?_
 intros
 refine sq rfl (fS hD rfl call285 rfl c285 ?_)
 rintro v0 rfl
 refine g1 ?_
 refine TK.ret (TK.ret0 results262 ?_)
 exact ⟨rfl, rfl⟩
 ·exfalso; first | omega | contradiction
theorem c216z {B : OA} {c g : Nat} {caps : LV} : Ct PP 216 #[.slice B 0 c, .func (.func g) #[] caps.toArray] H [] fun v H' O' => O' = [] ∧ v = .tuple #[] := by
 refine cB func216 ntmps216 fun I hD hI h4 => ?_
 refine g11a ?_
 intros
 refine sq rfl (fS hD rfl call72 rfl (c72 dC dC) ?_)
 rintro v2 rfl
 refine g1 ?_
 refine sq rfl (fS hD rfl call262 rfl c262 ?_)
 rintro v3 rfl
 refine TK.nil (TK.keep [] dC rfl (TK.end0 results216 ?_))
 exact ⟨rfl, rfl⟩
theorem c245 {B : OA} {c g : Nat} {caps : LV} : Ct PP 245 #[.slice B 0 c, .int .i64 0, .int .i64 0, .func (.func g) #[] caps.toArray] H [] fun v H' O' => O' = [] ∧ v = .tuple #[] := by
 refine cB func245 ntmps245 fun I hD hI h5 => ?_
 refine g7a ?_
 intros
 refine lp0 (fun D E H' O m => H = H' ∧ m = 0 ∧ O = [] ∧ E = D) [0, 1, 2, 3, 8] [] ⟨rfl, rfl, rfl, rfl⟩ ?_
 rintro _ _ _ _ ⟨rfl, rfl, rfl, rfl⟩ _ h6
 refine g7b ?_
 intros
 refine cD ?_ ?_ <;> intro h4
 ·exfalso; first | omega | contradiction
 refine TK.exit (TK.keep [] dC rfl (TK.end0 results245 ?_))
 exact ⟨rfl, rfl⟩
theorem c198 {B : OA} {c g : Nat} {caps : LV} {l : Int} : Ct PP 198 #[.slice B 0 c, .int .i64 0, .int .i64 0, .int .i64 l, .func (.func g) #[] caps.toArray] H [] fun v H' O' => O' = [] ∧ v = .tuple #[] := by
 refine cB func198 ntmps198 fun I hD hI h6 => ?_
 refine g9b ?_
 intros
 refine lp0 (fun D E H' O m => H = H' ∧ m = 0 ∧ O = [] ∧ E = D) [0, 1, 2, 3, 4, 10, 11] [] ⟨rfl, rfl, rfl, rfl⟩ ?_
 rintro _ _ _ _ ⟨rfl, rfl, rfl, rfl⟩ _ h5
 refine g14c ?_
 intros
 refine cD ?_ ?_ <;> intro h4
 refine g6a ?_
 intros
 refine sq rfl (fS hD rfl call245 rfl c245 ?_)
 rintro v0 rfl
 refine g1 ?_
 refine TK.ret (TK.ret0 results198 ?_)
 exact ⟨rfl, rfl⟩
 ·exfalso; first | omega | contradiction
theorem c160z {B : OA} {c g : Nat} {caps : LV} : Ct PP 160 #[.slice B 0 c, .func (.func g) #[] caps.toArray] H [] fun v H' O' => O' = [] ∧ v = .tuple #[] := by
 refine cB func160 ntmps160 fun I hD hI h4 => ?_
 refine g11a ?_
 intros
 refine sq rfl (fS hD rfl call72 rfl (c72 dC dC) ?_)
 rintro v2 rfl
 refine g1 ?_
 refine sq rfl (fS hD rfl call198 rfl c198 ?_)
 rintro v3 rfl
 refine TK.nil (TK.keep [] dC rfl (TK.end0 results160 ?_))
 exact ⟨rfl, rfl⟩
theorem sortAll {X : Type} {r : Rep X} {e g m c : Nat} {B : OA} {caps : LV} {xs : List X} (law : SortLaw f k) (z : ∀ {B : OA} {c g : Nat} {caps : LV}, Ct PP f #[.slice B 0 c, .func (.func g) #[] caps.toArray] H [] fun v H' O' => O' = [] ∧ v = .tuple #[]) (hrk : r.k = k) (hk0 : 0 < k) (hr : Reps r H xs cs) (hm : m < 4611686018427387904) (cf : X → X → Int) (hO : ∀ x ∈ xs, ∀ y ∈ xs, ∀ z ∈ xs, ¬ cf x x < 0 ∧ (cf x y < 0 → cf y z < 0 → cf x z < 0) ∧ (¬ cf x y < 0 → ¬ cf y z < 0 → ¬ cf x z < 0)) (eg : ∀ (args : Array Value) (w : World), (callFunc g args).run PP w = .ok (.enter g args) w) (hcmp : ∀ x ∈ xs, ∀ y ∈ xs, ∀ cx cy, r.rel H x cx → r.rel H y cy → CtD PP g ([.agg cx.toArray, .agg cy.toArray] ++ caps : LV).toArray H [] fun v H' O' => O' = [] ∧ v = .int .i64 (cf x y)) :
  Ct PP f #[.slice B m c, .func (.func g) #[] caps.toArray] H [.row e k (.slice B m c) m cs] fun v H' O' => ∃ ys cs', O' = [.row e k (.slice B m c) m cs'] ∧ Reps r H ys cs' ∧ ys.Perm xs ∧ ys.Pairwise fun x y => ¬ cf y x < 0 := by
 by_cases hne : xs = []
 ·subst hne
  intro w hs
  have h4 : w.ownsRow 0 e k (.slice B m c) m cs := hs.own (.row e k (.slice B m c) m cs) (by simp)
  have h6 : cs = [] := hr.inj_nil
  have hm0 : m = 0 := by
   have := h4.1
   rw [h6, List.length_nil] at this
   exact (Nat.mul_eq_zero.1 this.symm).resolve_right oM
  subst hm0
  refine ((z (B := B) (c := c) (g := g) (caps := caps)).pure w hs).mono ?_
  rintro e2 w' ⟨v, H', O', rfl, ⟨O1, rfl, rfl, rfl⟩, h5⟩
  exact ⟨_, H, _, rfl, ⟨[], cs, rfl, hr, .refl _, .nil⟩, h5.down (Ghost.le.refl _) h5.le⟩
 ·exact sortCt law hrk hk0 hr hne hm cf hO eg hcmp
end
structure LinC {α : Type} (c : α → α → Int) : Prop where
 refl : ∀ x, c x x = 0
 trans : ∀ x y z, c x y < 0 → c y z < 0 → c x z < 0
 eq : ∀ x y, c x y = 0 → x = y
 total : ∀ x y, c x y < 0 ∨ c x y = 0 ∨ c y x < 0
 anti : ∀ x y, c x y < 0 → ¬ c y x < 0
theorem LinC.swo {α : Type} {c : α → α → Int} (h : LinC c) (x y z : α) : ¬ c x x < 0 ∧ (c x y < 0 → c y z < 0 → c x z < 0) ∧ (¬ c x y < 0 → ¬ c y z < 0 → ¬ c x z < 0) := by
 refine ⟨by rw [h.refl]; decide, h.trans x y z, fun h1 h2 h3 => ?_⟩
 rcases h.total x y with h4 | h4 | h4
 ·exact h1 h4
 ·have := h.eq x y h4; subst this; exact h2 h3
 ·rcases h.total y z with h5 | h5 | h5
  ·exact h2 h5
  ·have := h.eq y z h5; subst this; exact h1 h3
  ·exact h.anti _ _ h3 (h.trans z y x h5 h4)
theorem bytesLess_lt : ∀ (l r : List UInt8), Op.bytesLess l r = decide (l < r)
 | [], [] => by simp [Op.bytesLess]
 | [], b :: r => by simp [Op.bytesLess]
 | a :: l, [] => by simp [Op.bytesLess]
 | a :: l, b :: r => by
  have ih := bytesLess_lt l r
  simp only [Op.bytesLess, ih]
  rw [Bool.eq_iff_iff]
  simp only [Bool.or_eq_true, Bool.and_eq_true, decide_eq_true_eq, beq_iff_eq, List.cons_lt_cons_iff]
theorem toList_data (s : BA) : s.toList = s.data.toList := ByteArray.toList_eq s
theorem cmpS_lt : cmpS x y < 0 ↔ x.data.toList < y.data.toList := by
 unfold cmpS
 rw [bytesLess_lt, toList_data, toList_data]
 by_cases h : x.data.toList < y.data.toList
 ·simp [h]
 ·simp only [h, decide_false, Bool.false_eq_true, if_false, Bool.false_or, iff_false]
  split <;> omega
theorem cmpS_eq : cmpS x y = 0 ↔ x = y := by
 unfold cmpS
 rw [bytesLess_lt, toList_data, toList_data]
 by_cases h : x.data.toList < y.data.toList
 ·simp only [h, decide_true, if_true]
  constructor
  ·intro h2; cases h2
  ·rintro rfl; exact absurd h (List.lt_irrefl _)
 ·simp only [h, decide_false, Bool.false_eq_true, if_false, Bool.false_or, decide_eq_true_eq]
  constructor
  ·intro h2; by_cases he : x = y
   ·exact he
   ·simp [he] at h2
  ·rintro rfl; simp
theorem cmpS_lin : LinC cmpS where
 refl x := cmpS_eq.2 rfl
 trans x y z h1 h2 := cmpS_lt.2 (List.lt_trans (cmpS_lt.1 h1) (cmpS_lt.1 h2))
 eq x y h := cmpS_eq.1 h
 total x y := by
  by_cases h1 : x.data.toList < y.data.toList
  ·exact .inl (cmpS_lt.2 h1)
  ·by_cases h2 : y.data.toList < x.data.toList
   ·exact .inr (.inr (cmpS_lt.2 h2))
   ·exact .inr (.inl (cmpS_eq.2 (leB_anti (List.not_lt.1 h2) (List.not_lt.1 h1))))
 anti x y h1 h2 := List.lt_irrefl _ (List.lt_trans (cmpS_lt.1 h1) (cmpS_lt.1 h2))
def lexC {α β : Type} (c : α → α → Int) (d : β → β → Int) (x y : α × β) : Int := if c x.1 y.1 = 0 then d x.2 y.2 else c x.1 y.1
theorem LinC.lex {α β : Type} {c : α → α → Int} {d : β → β → Int} (hc : LinC c) (hd : LinC d) : LinC (lexC c d) where
 refl x := by simp [lexC, hc.refl, hd.refl]
 eq x y h := by
  unfold lexC at h
  split at h
  ·rename_i h1; exact Prod.ext (hc.eq _ _ h1) (hd.eq _ _ h)
  ·rename_i h1; exact absurd h h1
 trans x y z h1 h2 := by
  unfold lexC at *
  split at h1
  ·rename_i e1
   have e0 := hc.eq _ _ e1
   rw [← e0] at h2
   split at h2
   ·rename_i e2; rw [if_pos e2]; exact hd.trans _ _ _ h1 h2
   ·rename_i e2; rw [if_neg e2]; exact h2
  ·rename_i e1
   split at h2
   ·rename_i e2
    have e3 := hc.eq _ _ e2
    rw [← e3, if_neg e1]; exact h1
   ·rename_i e2
    have h3 := hc.trans _ _ _ h1 h2
    rw [if_neg oM]; exact h3
 total x y := by
  unfold lexC
  rcases hc.total x.1 y.1 with h | h | h
  ·left; rw [if_neg oM]; exact h
  ·have h' := hc.eq _ _ h
   rw [h', hc.refl]
   simp only [if_true]
   exact hd.total _ _
  ·right; right; rw [if_neg oM]; exact h
 anti x y h1 h2 := by
  unfold lexC at *
  split at h1
  ·rename_i e1
   have e0 := hc.eq _ _ e1
   rw [e0, hc.refl] at h2
   simp only [if_true] at h2
   exact hd.anti _ _ h1 h2
  ·rename_i e1
   split at h2
   ·rename_i e2; have := hc.eq _ _ e2; rw [this, hc.refl] at e1; exact e1 rfl
   ·exact hc.anti _ _ h1 h2
theorem cmpW_lin : LinC cmpW where
 refl x := by
  induction x with
  | nil => rfl
  | cons a x ih => simp [cmpW, cmpS_lin.refl, ih]
 eq x := by
  induction x with
  | nil => intro y h; cases y with
   | nil => rfl
   | cons b y => simp [cmpW] at h
  | cons a x ih => intro y h; cases y with
   | nil => simp [cmpW] at h
   | cons b y =>
    simp only [cmpW] at h
    split at h
    ·rename_i e; rw [cmpS_lin.eq _ _ e, ih y h]
    ·rename_i e; exact absurd h e
 trans x := by
  induction x with
  | nil => intro y z h1 h2; cases y with
   | nil => simp [cmpW] at h1
   | cons b y => cases z with
    | nil => simp [cmpW] at h2
    | cons c z => simp [cmpW]
  | cons a x ih => intro y z h1 h2; cases y with
   | nil => simp [cmpW] at h1
   | cons b y => cases z with
    | nil => simp [cmpW] at h2
    | cons c z =>
     simp only [cmpW] at h1 h2 ⊢
     split at h1
     ·rename_i e1
      have e0 := cmpS_lin.eq _ _ e1
      rw [← e0] at h2
      split at h2
      ·rename_i e2; rw [if_pos e2]; exact ih y z h1 h2
      ·rename_i e2; rw [if_neg e2]; exact h2
     ·rename_i e1
      split at h2
      ·rename_i e2; rw [← cmpS_lin.eq _ _ e2, if_neg e1]; exact h1
      ·have h3 := cmpS_lin.trans _ _ _ h1 h2
       rw [if_neg oM]; exact h3
 total x := by
  induction x with
  | nil => intro y; cases y with
   | nil => right; left; rfl
   | cons b y => left; simp [cmpW]
  | cons a x ih => intro y; cases y with
   | nil => right; right; simp [cmpW]
   | cons b y =>
    simp only [cmpW]
    rcases cmpS_lin.total a b with h | h | h
    ·left; rw [if_neg oM]; exact h
    ·rw [cmpS_lin.eq _ _ h, cmpS_lin.refl]; simp only [if_true]; exact ih y
    ·right; right; rw [if_neg oM]; exact h
 anti x := by
  induction x with
  | nil => intro y h1 h2; cases y with
   | nil => simp [cmpW] at h1
   | cons b y => simp [cmpW] at h2
  | cons a x ih => intro y h1 h2; cases y with
   | nil => simp [cmpW] at h1
   | cons b y =>
    simp only [cmpW] at h1 h2
    split at h1
    ·rename_i e1
     rw [cmpS_lin.eq _ _ e1, cmpS_lin.refl] at h2
     simp only [if_true] at h2
     exact ih y h1 h2
    ·rename_i e1
     split at h2
     ·rename_i e2; rw [cmpS_lin.eq _ _ e2, cmpS_lin.refl] at e1; exact e1 rfl
     ·exact cmpS_lin.anti _ _ h1 h2
end Go.Proofs.YtookcfeogbeooaaGreatDoor
