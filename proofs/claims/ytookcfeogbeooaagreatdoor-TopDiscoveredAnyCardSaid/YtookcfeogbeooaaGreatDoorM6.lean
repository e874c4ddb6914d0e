/-
What the walks need to know of the program's types, as instances; short forms of the steps, whose tactics find their own arguments.
Conditions: those that each theorem states.
-/
import Derived.Test.YtookcfeogbeooaaGreatDoorM5
import Derived.Test.YtookcfeogbeooaaGreatDoorProg
import Derived.KernelRfl
import Derived.Shelf.SlGeneric
set_option linter.all false
set_option maxRecDepth 100000
set_option maxHeartbeats 8000000
set_option autoImplicit true
set_option relaxedAutoImplicit true
namespace Go.Proofs.YtookcfeogbeooaaGreatDoor
open Go Go.Proofs
section
structure Bx (p : Prop) : Prop where m : p
theorem kR {p : Prop} (h : p := by kernel_rfl) : p := h
class UC (t : Nat) (u : outParam TypeDesc) : Prop where h : PP.underlying t = some u
class SC (t : Nat) (k : outParam Nat) : Prop where h : Sz PP t k
class AC (t : Nat) (b : outParam Bool) : Prop where h : Agg PP t b
class FC (s k : Nat) (o : outParam Nat) : Prop where h : FieldAt PP s k o
class BC (t : Nat) (p : outParam (List (Nat × Nat))) (z : outParam (List Value)) : Prop where h : BuildT PP t p z
class ZC (t : Nat) (c : outParam (List Value)) : Prop where h : Zc PP t c
class NC (t : Nat) (z : outParam Value) : Prop where h : ∀ w, (zeroValue t).run PP w = .ok z w
class IC (e : Nat) (z : outParam Value) (k b : outParam Nat) : Prop where h : InfoT PP e z k b
theorem uC {t u} [h : UC t u] : PP.underlying t = some u := h.h
theorem sC {t k} [h : SC t k] : Sz PP t k := h.h
theorem aC {t b} [h : AC t b] : Agg PP t b := h.h
theorem fC {s k o} [h : FC s k o] : FieldAt PP s k o := h.h
theorem bC {t p z} [h : BC t p z] : BuildT PP t p z := h.h
theorem zC {t c} [h : ZC t c] : Zc PP t c := h.h
theorem nC {t z} [h : NC t z] : ∀ w, (zeroValue t).run PP w = .ok z w := h.h
theorem iC {e z k b} [h : IC e z k b] : InfoT PP e z k b := h.h
theorem fM {s k off sz : Nat} {fs : Array Field} {f : Field} (hu : PP.underlying s = some (.struct fs)) (hf : fs[k]? = some f) (ho : f.offset = off) (hs : Sz PP f.type sz) (hz : sz ≠ 0 := by decide) : FC s k off := ⟨fieldAt_of hu hf ho hs hz⟩
instance : UC 3 (.int .i64) := ⟨Tryz.underlying3⟩
instance : UC 4 (.bool) := ⟨Tryz.underlying4⟩
instance : UC 5 (.int .u8) := ⟨Tryz.underlying5⟩
instance : UC 9 (.string) := ⟨Tryz.underlying9⟩
instance : UC 22 (.slice 26) := ⟨Tryz.underlying22⟩
instance : UC 24 (.slice 9) := ⟨Tryz.underlying24⟩
instance : UC 35 (.slice 37) := ⟨Tryz.underlying35⟩
instance : UC 42 (.slice 76) := ⟨Tryz.underlying42⟩
instance : UC 50 (.slice 3) := ⟨Tryz.underlying50⟩
instance : UC 60 (.map 9 4) := ⟨Tryz.underlying60⟩
instance : UC 78 (.slice 4) := ⟨Tryz.underlying78⟩
instance : UC 82 (.slice 166) := ⟨Tryz.underlying82⟩
instance : UC 95 (.slice 92) := ⟨Tryz.underlying95⟩
instance : UC 100 (.slice 50) := ⟨Tryz.underlying100⟩
instance : UC 109 (.slice 82) := ⟨Tryz.underlying109⟩
instance : UC 116 (.slice 128) := ⟨Tryz.underlying116⟩
instance : UC 117 (.slice 222) := ⟨Tryz.underlying117⟩
instance : UC 122 (.slice 24) := ⟨Tryz.underlying122⟩
instance : UC 130 (.slice 22) := ⟨Tryz.underlying130⟩
instance : UC 138 (.int .u64) := ⟨Tryz.underlying138⟩
instance : UC 155 (.pointer 158) := ⟨Tryz.underlying155⟩
instance : UC 156 (.slice 5) := ⟨Tryz.underlying156⟩
instance : UC 173 (.map 9 3) := ⟨Tryz.underlying173⟩
instance : UC 174 (.map 177 3) := ⟨Tryz.underlying174⟩
instance : UC 177 (.array 2 9) := ⟨Tryz.underlying177⟩
instance : UC 179 (.slice 126) := ⟨Tryz.underlying179⟩
instance : UC 182 (.slice 173) := ⟨Tryz.underlying182⟩
instance : UC 183 (.slice 187) := ⟨Tryz.underlying183⟩
instance : UC 207 (.slice 84) := ⟨Tryz.underlying207⟩
instance : UC 212 (.map 3 4) := ⟨Tryz.underlying212⟩
instance : UC 215 (.pointer 5) := ⟨Tryz.underlying215⟩
instance : UC 231 (.slice 78) := ⟨Tryz.underlying231⟩
instance : UC 258 (.unsafePointer) := ⟨Tryz.underlying258⟩
instance : UC 296 (.slice 116) := ⟨Tryz.underlying296⟩
instance : UC 312 (.map 3 3) := ⟨Tryz.underlying312⟩
instance : SC 0 1 := ⟨Tryz.sizeOf0⟩
instance : SC 3 1 := ⟨Tryz.sizeOf3⟩
instance : SC 4 1 := ⟨Tryz.sizeOf4⟩
instance : SC 5 1 := ⟨Tryz.sizeOf5⟩
instance : SC 9 1 := ⟨Tryz.sizeOf9⟩
instance : SC 22 1 := ⟨Tryz.sizeOf22⟩
instance : SC 24 1 := ⟨Tryz.sizeOf24⟩
instance : SC 26 2 := ⟨Tryz.sizeOf26⟩
instance : SC 29 1 := ⟨Tryz.sizeOf29⟩
instance : SC 37 3 := ⟨Tryz.sizeOf37⟩
instance : SC 42 1 := ⟨Tryz.sizeOf42⟩
instance : SC 44 4 := ⟨Tryz.sizeOf44⟩
instance : SC 50 1 := ⟨Tryz.sizeOf50⟩
instance : SC 60 1 := ⟨Tryz.sizeOf60⟩
instance : SC 62 1 := ⟨Tryz.sizeOf62⟩
instance : SC 63 1 := ⟨Tryz.sizeOf63⟩
instance : SC 76 3 := ⟨Tryz.sizeOf76⟩
instance : SC 78 1 := ⟨Tryz.sizeOf78⟩
instance : SC 82 1 := ⟨Tryz.sizeOf82⟩
instance : SC 84 5 := ⟨Tryz.sizeOf84⟩
instance : SC 92 3 := ⟨Tryz.sizeOf92⟩
instance : SC 100 1 := ⟨Tryz.sizeOf100⟩
instance : SC 102 3 := ⟨Tryz.sizeOf102⟩
instance : SC 116 1 := ⟨Tryz.sizeOf116⟩
instance : SC 117 1 := ⟨Tryz.sizeOf117⟩
instance : SC 119 4 := ⟨Tryz.sizeOf119⟩
instance : SC 122 1 := ⟨Tryz.sizeOf122⟩
instance : SC 124 2 := ⟨Tryz.sizeOf124⟩
instance : SC 126 1 := ⟨Tryz.sizeOf126⟩
instance : SC 128 2 := ⟨Tryz.sizeOf128⟩
instance : SC 133 1 := ⟨Tryz.sizeOf133⟩
instance : SC 138 1 := ⟨Tryz.sizeOf138⟩
instance : SC 155 1 := ⟨Tryz.sizeOf155⟩
instance : SC 156 1 := ⟨Tryz.sizeOf156⟩
instance : SC 166 3 := ⟨Tryz.sizeOf166⟩
instance : SC 173 1 := ⟨Tryz.sizeOf173⟩
instance : SC 177 2 := ⟨Tryz.sizeOf177⟩
instance : SC 187 2 := ⟨Tryz.sizeOf187⟩
instance : SC 190 1 := ⟨Tryz.sizeOf190⟩
instance : SC 193 1 := ⟨Tryz.sizeOf193⟩
instance : SC 194 1 := ⟨Tryz.sizeOf194⟩
instance : SC 201 1 := ⟨Tryz.sizeOf201⟩
instance : SC 203 1 := ⟨Tryz.sizeOf203⟩
instance : SC 209 1 := ⟨Tryz.sizeOf209⟩
instance : SC 212 1 := ⟨Tryz.sizeOf212⟩
instance : SC 222 3 := ⟨Tryz.sizeOf222⟩
instance : SC 224 1 := ⟨Tryz.sizeOf224⟩
instance : SC 225 1 := ⟨Tryz.sizeOf225⟩
instance : SC 231 1 := ⟨Tryz.sizeOf231⟩
instance : SC 237 1 := ⟨Tryz.sizeOf237⟩
instance : SC 246 1 := ⟨Tryz.sizeOf246⟩
instance : SC 250 1 := ⟨Tryz.sizeOf250⟩
instance : SC 261 1 := ⟨Tryz.sizeOf261⟩
instance : SC 275 1 := ⟨Tryz.sizeOf275⟩
instance : SC 276 1 := ⟨Tryz.sizeOf276⟩
instance : SC 279 3 := ⟨Tryz.sizeOf279⟩
instance : AC 0 false := ⟨Tryz.isAgg0⟩
instance : AC 3 false := ⟨Tryz.isAgg3⟩
instance : AC 4 false := ⟨Tryz.isAgg4⟩
instance : AC 5 false := ⟨Tryz.isAgg5⟩
instance : AC 9 false := ⟨Tryz.isAgg9⟩
instance : AC 22 false := ⟨Tryz.isAgg22⟩
instance : AC 24 false := ⟨Tryz.isAgg24⟩
instance : AC 26 true := ⟨Tryz.isAgg26⟩
instance : AC 29 false := ⟨Tryz.isAgg29⟩
instance : AC 35 false := ⟨Tryz.isAgg35⟩
instance : AC 37 true := ⟨Tryz.isAgg37⟩
instance : AC 42 false := ⟨Tryz.isAgg42⟩
instance : AC 44 true := ⟨Tryz.isAgg44⟩
instance : AC 50 false := ⟨Tryz.isAgg50⟩
instance : AC 60 false := ⟨Tryz.isAgg60⟩
instance : AC 62 false := ⟨Tryz.isAgg62⟩
instance : AC 63 false := ⟨Tryz.isAgg63⟩
instance : AC 76 true := ⟨Tryz.isAgg76⟩
instance : AC 78 false := ⟨Tryz.isAgg78⟩
instance : AC 82 false := ⟨Tryz.isAgg82⟩
instance : AC 84 true := ⟨Tryz.isAgg84⟩
instance : AC 92 true := ⟨Tryz.isAgg92⟩
instance : AC 100 false := ⟨Tryz.isAgg100⟩
instance : AC 102 true := ⟨Tryz.isAgg102⟩
instance : AC 109 false := ⟨Tryz.isAgg109⟩
instance : AC 116 false := ⟨Tryz.isAgg116⟩
instance : AC 117 false := ⟨Tryz.isAgg117⟩
instance : AC 119 true := ⟨Tryz.isAgg119⟩
instance : AC 122 false := ⟨Tryz.isAgg122⟩
instance : AC 124 true := ⟨Tryz.isAgg124⟩
instance : AC 126 false := ⟨Tryz.isAgg126⟩
instance : AC 128 true := ⟨Tryz.isAgg128⟩
instance : AC 133 false := ⟨Tryz.isAgg133⟩
instance : AC 138 false := ⟨Tryz.isAgg138⟩
instance : AC 150 false := ⟨Tryz.isAgg150⟩
instance : AC 155 false := ⟨Tryz.isAgg155⟩
instance : AC 156 false := ⟨Tryz.isAgg156⟩
instance : AC 166 true := ⟨Tryz.isAgg166⟩
instance : AC 173 false := ⟨Tryz.isAgg173⟩
instance : AC 174 false := ⟨Tryz.isAgg174⟩
instance : AC 187 true := ⟨Tryz.isAgg187⟩
instance : AC 190 false := ⟨Tryz.isAgg190⟩
instance : AC 193 false := ⟨Tryz.isAgg193⟩
instance : AC 194 false := ⟨Tryz.isAgg194⟩
instance : AC 201 false := ⟨Tryz.isAgg201⟩
instance : AC 203 false := ⟨Tryz.isAgg203⟩
instance : AC 209 false := ⟨Tryz.isAgg209⟩
instance : AC 212 false := ⟨Tryz.isAgg212⟩
instance : AC 222 true := ⟨Tryz.isAgg222⟩
instance : AC 224 false := ⟨Tryz.isAgg224⟩
instance : AC 225 false := ⟨Tryz.isAgg225⟩
instance : AC 231 false := ⟨Tryz.isAgg231⟩
instance : AC 237 false := ⟨Tryz.isAgg237⟩
instance : AC 246 false := ⟨Tryz.isAgg246⟩
instance : AC 250 false := ⟨Tryz.isAgg250⟩
instance : AC 261 false := ⟨Tryz.isAgg261⟩
instance : AC 275 false := ⟨Tryz.isAgg275⟩
instance : AC 276 false := ⟨Tryz.isAgg276⟩
instance : AC 279 true := ⟨Tryz.isAgg279⟩
instance : NC 0 (.tuple #[]) := ⟨Tryz.zeroValue0⟩
instance : NC 3 (.int .i64 0) := ⟨Tryz.zeroValue3⟩
instance : NC 4 (.bool false) := ⟨Tryz.zeroValue4⟩
instance : NC 5 (.int .u8 0) := ⟨Tryz.zeroValue5⟩
instance : NC 9 (.string ⟨#[]⟩) := ⟨Tryz.zeroValue9⟩
instance : NC 22 (.slice none 0 0) := ⟨Tryz.zeroValue22⟩
instance : NC 24 (.slice none 0 0) := ⟨Tryz.zeroValue24⟩
instance : NC 26 (.agg #[.slice none 0 0, .int .i64 0]) := ⟨Tryz.zeroValue26⟩
instance : ZC 26 [.slice none 0 0, .int .i64 0] := ⟨_, Tryz.zeroValue26, rfl⟩
instance : NC 29 (.nilFunc) := ⟨Tryz.zeroValue29⟩
instance : NC 37 (.agg #[.int .i64 0, .string ⟨#[]⟩, .slice none 0 0]) := ⟨Tryz.zeroValue37⟩
instance : ZC 37 [.int .i64 0, .string ⟨#[]⟩, .slice none 0 0] := ⟨_, Tryz.zeroValue37, rfl⟩
instance : ZC 44 [.int .i64 0, .slice none 0 0, .int .i64 0, .int .i64 0] := ⟨_, Tryz.zeroValue44, rfl⟩
instance : NC 50 (.slice none 0 0) := ⟨Tryz.zeroValue50⟩
instance : ZC 50 [.slice none 0 0] := ⟨_, Tryz.zeroValue50, rfl⟩
instance : NC 60 (.map none) := ⟨Tryz.zeroValue60⟩
instance : NC 62 (.nilFunc) := ⟨Tryz.zeroValue62⟩
instance : NC 63 (.nilFunc) := ⟨Tryz.zeroValue63⟩
instance : NC 76 (.agg #[.string ⟨#[]⟩, .slice none 0 0, .slice none 0 0]) := ⟨Tryz.zeroValue76⟩
instance : ZC 76 [.string ⟨#[]⟩, .slice none 0 0, .slice none 0 0] := ⟨_, Tryz.zeroValue76, rfl⟩
instance : ZC 78 [.slice none 0 0] := ⟨_, Tryz.zeroValue78, rfl⟩
instance : NC 82 (.slice none 0 0) := ⟨Tryz.zeroValue82⟩
instance : NC 84 (.agg #[.int .i64 0, .int .i64 0, .slice none 0 0, .slice none 0 0, .slice none 0 0]) := ⟨Tryz.zeroValue84⟩
instance : ZC 84 [.int .i64 0, .int .i64 0, .slice none 0 0, .slice none 0 0, .slice none 0 0] := ⟨_, Tryz.zeroValue84, rfl⟩
instance : NC 92 (.agg #[.int .i64 0, .slice none 0 0, .slice none 0 0]) := ⟨Tryz.zeroValue92⟩
instance : ZC 92 [.int .i64 0, .slice none 0 0, .slice none 0 0] := ⟨_, Tryz.zeroValue92, rfl⟩
instance : NC 100 (.slice none 0 0) := ⟨Tryz.zeroValue100⟩
instance : ZC 102 [.slice none 0 0, .slice none 0 0, .bool false] := ⟨_, Tryz.zeroValue102, rfl⟩
instance : NC 116 (.slice none 0 0) := ⟨Tryz.zeroValue116⟩
instance : NC 117 (.slice none 0 0) := ⟨Tryz.zeroValue117⟩
instance : ZC 119 [.slice none 0 0, .slice none 0 0, .slice none 0 0, .slice none 0 0] := ⟨_, Tryz.zeroValue119, rfl⟩
instance : ZC 124 [.int .i64 0, .slice none 0 0] := ⟨_, Tryz.zeroValue124, rfl⟩
instance : NC 126 (.nilFunc) := ⟨Tryz.zeroValue126⟩
instance : NC 128 (.agg #[.string ⟨#[]⟩, .int .i64 0]) := ⟨Tryz.zeroValue128⟩
instance : ZC 128 [.string ⟨#[]⟩, .int .i64 0] := ⟨_, Tryz.zeroValue128, rfl⟩
instance : NC 133 (.tuple #[.int .i64 0, .bool false]) := ⟨Tryz.zeroValue133⟩
instance : NC 138 (.int .u64 0) := ⟨Tryz.zeroValue138⟩
instance : ZC 158 [.pointer none, .slice none 0 0] := ⟨_, Tryz.zeroValue158, rfl⟩
instance : NC 166 (.agg #[.int .i64 0, .int .i64 0, .int .i64 0]) := ⟨Tryz.zeroValue166⟩
instance : ZC 166 [.int .i64 0, .int .i64 0, .int .i64 0] := ⟨_, Tryz.zeroValue166, rfl⟩
instance : ZC 177 [.string ⟨#[]⟩, .string ⟨#[]⟩] := ⟨_, Tryz.zeroValue177, rfl⟩
instance : NC 187 (.agg #[.int .i64 0, .slice none 0 0]) := ⟨Tryz.zeroValue187⟩
instance : ZC 187 [.int .i64 0, .slice none 0 0] := ⟨_, Tryz.zeroValue187, rfl⟩
instance : NC 190 (.nilFunc) := ⟨Tryz.zeroValue190⟩
instance : NC 193 (.int .i64 0) := ⟨Tryz.zeroValue193⟩
instance : NC 194 (.tuple #[.int .i64 0, .int .i64 0]) := ⟨Tryz.zeroValue194⟩
instance : NC 201 (.int .u32 0) := ⟨Tryz.zeroValue201⟩
instance : NC 203 (.int .u64 0) := ⟨Tryz.zeroValue203⟩
instance : NC 209 (.nilFunc) := ⟨Tryz.zeroValue209⟩
instance : ZC 212 [.map none] := ⟨_, Tryz.zeroValue212, rfl⟩
instance : NC 222 (.agg #[.string ⟨#[]⟩, .string ⟨#[]⟩, .int .i64 0]) := ⟨Tryz.zeroValue222⟩
instance : ZC 222 [.string ⟨#[]⟩, .string ⟨#[]⟩, .int .i64 0] := ⟨_, Tryz.zeroValue222, rfl⟩
instance : NC 224 (.nilFunc) := ⟨Tryz.zeroValue224⟩
instance : ZC 225 [.pointer none] := ⟨_, Tryz.zeroValue225, rfl⟩
instance : ZC 231 [.slice none 0 0] := ⟨_, Tryz.zeroValue231, rfl⟩
instance : NC 237 (.nilFunc) := ⟨Tryz.zeroValue237⟩
instance : NC 246 (.int .u64 0) := ⟨Tryz.zeroValue246⟩
instance : NC 250 (.pointer none) := ⟨Tryz.zeroValue250⟩
instance : NC 261 (.nilFunc) := ⟨Tryz.zeroValue261⟩
instance : NC 275 (.pointer none) := ⟨Tryz.zeroValue275⟩
instance : NC 276 (.tuple #[.int .i64 0, .int .i64 0]) := ⟨Tryz.zeroValue276⟩
instance : ZC 279 [.int .i64 0, .slice none 0 0, .slice none 0 0] := ⟨_, Tryz.zeroValue279, rfl⟩
instance : FC 26 0 0 := fM Tryz.underlying26 rfl rfl Tryz.sizeOf24
instance : FC 26 1 1 := fM Tryz.underlying26 rfl rfl Tryz.sizeOf3
instance : FC 37 0 0 := fM Tryz.underlying37 rfl rfl Tryz.sizeOf3
instance : FC 37 1 1 := fM Tryz.underlying37 rfl rfl Tryz.sizeOf9
instance : FC 37 2 2 := fM Tryz.underlying37 rfl rfl Tryz.sizeOf35
instance : FC 44 0 0 := fM Tryz.underlying44 rfl rfl Tryz.sizeOf3
instance : FC 44 1 1 := fM Tryz.underlying44 rfl rfl Tryz.sizeOf42
instance : FC 44 2 2 := fM Tryz.underlying44 rfl rfl Tryz.sizeOf3
instance : FC 44 3 3 := fM Tryz.underlying44 rfl rfl Tryz.sizeOf3
instance : FC 72 0 0 := fM Tryz.underlying72 rfl rfl Tryz.sizeOf44
instance : FC 76 0 0 := fM Tryz.underlying76 rfl rfl Tryz.sizeOf9
instance : FC 76 1 1 := fM Tryz.underlying76 rfl rfl Tryz.sizeOf50
instance : FC 76 2 2 := fM Tryz.underlying76 rfl rfl Tryz.sizeOf50
instance : FC 84 0 0 := fM Tryz.underlying84 rfl rfl Tryz.sizeOf3
instance : FC 84 1 1 := fM Tryz.underlying84 rfl rfl Tryz.sizeOf3
instance : FC 84 2 2 := fM Tryz.underlying84 rfl rfl Tryz.sizeOf50
instance : FC 84 3 3 := fM Tryz.underlying84 rfl rfl Tryz.sizeOf50
instance : FC 84 4 4 := fM Tryz.underlying84 rfl rfl Tryz.sizeOf82
instance : FC 92 0 0 := fM Tryz.underlying92 rfl rfl Tryz.sizeOf3
instance : FC 92 1 1 := fM Tryz.underlying92 rfl rfl Tryz.sizeOf50
instance : FC 92 2 2 := fM Tryz.underlying92 rfl rfl Tryz.sizeOf50
instance : FC 102 0 0 := fM Tryz.underlying102 rfl rfl Tryz.sizeOf100
instance : FC 102 1 1 := fM Tryz.underlying102 rfl rfl Tryz.sizeOf82
instance : FC 102 2 2 := fM Tryz.underlying102 rfl rfl Tryz.sizeOf4
instance : FC 111 0 0 := fM Tryz.underlying111 rfl rfl Tryz.sizeOf44
instance : FC 111 1 4 := fM Tryz.underlying111 rfl rfl Tryz.sizeOf102
instance : FC 111 2 7 := fM Tryz.underlying111 rfl rfl Tryz.sizeOf109
instance : FC 111 3 8 := fM Tryz.underlying111 rfl rfl Tryz.sizeOf3
instance : FC 119 0 0 := fM Tryz.underlying119 rfl rfl Tryz.sizeOf116
instance : FC 119 1 1 := fM Tryz.underlying119 rfl rfl Tryz.sizeOf116
instance : FC 119 2 2 := fM Tryz.underlying119 rfl rfl Tryz.sizeOf116
instance : FC 119 3 3 := fM Tryz.underlying119 rfl rfl Tryz.sizeOf117
instance : FC 124 0 0 := fM Tryz.underlying124 rfl rfl Tryz.sizeOf3
instance : FC 124 1 1 := fM Tryz.underlying124 rfl rfl Tryz.sizeOf122
instance : FC 128 0 0 := fM Tryz.underlying128 rfl rfl Tryz.sizeOf9
instance : FC 128 1 1 := fM Tryz.underlying128 rfl rfl Tryz.sizeOf3
instance : FC 158 0 0 := fM Tryz.underlying158 rfl rfl Tryz.sizeOf155
instance : FC 158 1 1 := fM Tryz.underlying158 rfl rfl Tryz.sizeOf156
instance : FC 166 0 0 := fM Tryz.underlying166 rfl rfl Tryz.sizeOf3
instance : FC 166 1 1 := fM Tryz.underlying166 rfl rfl Tryz.sizeOf3
instance : FC 166 2 2 := fM Tryz.underlying166 rfl rfl Tryz.sizeOf3
instance : FC 176 0 0 := fM Tryz.underlying176 rfl rfl Tryz.sizeOf173
instance : FC 176 1 1 := fM Tryz.underlying176 rfl rfl Tryz.sizeOf173
instance : FC 176 2 2 := fM Tryz.underlying176 rfl rfl Tryz.sizeOf173
instance : FC 176 3 3 := fM Tryz.underlying176 rfl rfl Tryz.sizeOf174
instance : FC 187 0 0 := fM Tryz.underlying187 rfl rfl Tryz.sizeOf3
instance : FC 187 1 1 := fM Tryz.underlying187 rfl rfl Tryz.sizeOf24
instance : FC 211 1 1 := fM Tryz.underlying211 rfl rfl Tryz.sizeOf109
instance : FC 211 2 2 := fM Tryz.underlying211 rfl rfl Tryz.sizeOf78
instance : FC 222 0 0 := fM Tryz.underlying222 rfl rfl Tryz.sizeOf9
instance : FC 222 1 1 := fM Tryz.underlying222 rfl rfl Tryz.sizeOf9
instance : FC 222 2 2 := fM Tryz.underlying222 rfl rfl Tryz.sizeOf3
instance : FC 233 0 0 := fM Tryz.underlying233 rfl rfl Tryz.sizeOf24
instance : FC 233 1 1 := fM Tryz.underlying233 rfl rfl Tryz.sizeOf231
instance : FC 233 2 2 := fM Tryz.underlying233 rfl rfl Tryz.sizeOf78
instance : FC 233 3 3 := fM Tryz.underlying233 rfl rfl Tryz.sizeOf78
instance : FC 279 0 0 := fM Tryz.underlying279 rfl rfl Tryz.sizeOf3
instance : FC 279 1 1 := fM Tryz.underlying279 rfl rfl Tryz.sizeOf100
instance : FC 279 2 2 := fM Tryz.underlying279 rfl rfl Tryz.sizeOf78
instance : BC 26 [(0, 1), (1, 1)] [.slice none 0 0, .int .i64 0] := ⟨_, _, Tryz.underlying26, Tryz.zeroValue26, rfl, fun w => by simp [Tryz.sizeOf3, Tryz.sizeOf24]⟩
instance : BC 37 [(0, 1), (1, 1), (2, 1)] [.int .i64 0, .string ⟨#[]⟩, .slice none 0 0] := ⟨_, _, Tryz.underlying37, Tryz.zeroValue37, rfl, fun w => by simp [Tryz.sizeOf3, Tryz.sizeOf9, Tryz.sizeOf35]⟩
instance : BC 44 [(0, 1), (1, 1), (2, 1), (3, 1)] [.int .i64 0, .slice none 0 0, .int .i64 0, .int .i64 0] := ⟨_, _, Tryz.underlying44, Tryz.zeroValue44, rfl, fun w => by simp [Tryz.sizeOf3, Tryz.sizeOf42]⟩
instance : BC 72 [(0, 4)] [.int .i64 0, .slice none 0 0, .int .i64 0, .int .i64 0] := ⟨_, _, Tryz.underlying72, Tryz.zeroValue72, rfl, fun w => by simp [Tryz.sizeOf44]⟩
instance : BC 76 [(0, 1), (1, 1), (2, 1)] [.string ⟨#[]⟩, .slice none 0 0, .slice none 0 0] := ⟨_, _, Tryz.underlying76, Tryz.zeroValue76, rfl, fun w => by simp [Tryz.sizeOf9, Tryz.sizeOf50]⟩
instance : BC 84 [(0, 1), (1, 1), (2, 1), (3, 1), (4, 1)] [.int .i64 0, .int .i64 0, .slice none 0 0, .slice none 0 0, .slice none 0 0] := ⟨_, _, Tryz.underlying84, Tryz.zeroValue84, rfl, fun w => by simp [Tryz.sizeOf3, Tryz.sizeOf50, Tryz.sizeOf82]⟩
instance : BC 92 [(0, 1), (1, 1), (2, 1)] [.int .i64 0, .slice none 0 0, .slice none 0 0] := ⟨_, _, Tryz.underlying92, Tryz.zeroValue92, rfl, fun w => by simp [Tryz.sizeOf3, Tryz.sizeOf50]⟩
instance : BC 102 [(0, 1), (1, 1), (2, 1)] [.slice none 0 0, .slice none 0 0, .bool false] := ⟨_, _, Tryz.underlying102, Tryz.zeroValue102, rfl, fun w => by simp [Tryz.sizeOf4, Tryz.sizeOf82, Tryz.sizeOf100]⟩
instance : BC 111 [(0, 4), (4, 3), (7, 1), (8, 1)] [.int .i64 0, .slice none 0 0, .int .i64 0, .int .i64 0, .slice none 0 0, .slice none 0 0, .bool false, .slice none 0 0, .int .i64 0] := ⟨_, _, Tryz.underlying111, Tryz.zeroValue111, rfl, fun w => by simp [Tryz.sizeOf3, Tryz.sizeOf44, Tryz.sizeOf102, Tryz.sizeOf109]⟩
instance : BC 119 [(0, 1), (1, 1), (2, 1), (3, 1)] [.slice none 0 0, .slice none 0 0, .slice none 0 0, .slice none 0 0] := ⟨_, _, Tryz.underlying119, Tryz.zeroValue119, rfl, fun w => by simp [Tryz.sizeOf116, Tryz.sizeOf117]⟩
instance : BC 124 [(0, 1), (1, 1)] [.int .i64 0, .slice none 0 0] := ⟨_, _, Tryz.underlying124, Tryz.zeroValue124, rfl, fun w => by simp [Tryz.sizeOf3, Tryz.sizeOf122]⟩
instance : BC 128 [(0, 1), (1, 1)] [.string ⟨#[]⟩, .int .i64 0] := ⟨_, _, Tryz.underlying128, Tryz.zeroValue128, rfl, fun w => by simp [Tryz.sizeOf3, Tryz.sizeOf9]⟩
instance : BC 166 [(0, 1), (1, 1), (2, 1)] [.int .i64 0, .int .i64 0, .int .i64 0] := ⟨_, _, Tryz.underlying166, Tryz.zeroValue166, rfl, fun w => by simp [Tryz.sizeOf3]⟩
instance : BC 176 [(0, 1), (1, 1), (2, 1), (3, 1)] [.map none, .map none, .map none, .map none] := ⟨_, _, Tryz.underlying176, Tryz.zeroValue176, rfl, fun w => by simp [Tryz.sizeOf173, Tryz.sizeOf174]⟩
instance : BC 187 [(0, 1), (1, 1)] [.int .i64 0, .slice none 0 0] := ⟨_, _, Tryz.underlying187, Tryz.zeroValue187, rfl, fun w => by simp [Tryz.sizeOf3, Tryz.sizeOf24]⟩
instance : BC 211 [(0, 1), (1, 1), (2, 1)] [.int .i64 0, .slice none 0 0, .slice none 0 0] := ⟨_, _, Tryz.underlying211, Tryz.zeroValue211, rfl, fun w => by simp [Tryz.sizeOf3, Tryz.sizeOf78, Tryz.sizeOf109]⟩
instance : BC 222 [(0, 1), (1, 1), (2, 1)] [.string ⟨#[]⟩, .string ⟨#[]⟩, .int .i64 0] := ⟨_, _, Tryz.underlying222, Tryz.zeroValue222, rfl, fun w => by simp [Tryz.sizeOf3, Tryz.sizeOf9]⟩
instance : BC 233 [(0, 1), (1, 1), (2, 1), (3, 1)] [.slice none 0 0, .slice none 0 0, .slice none 0 0, .slice none 0 0] := ⟨_, _, Tryz.underlying233, Tryz.zeroValue233, rfl, fun w => by simp [Tryz.sizeOf24, Tryz.sizeOf78, Tryz.sizeOf231]⟩
instance : BC 279 [(0, 1), (1, 1), (2, 1)] [.int .i64 0, .slice none 0 0, .slice none 0 0] := ⟨_, _, Tryz.underlying279, Tryz.zeroValue279, rfl, fun w => by simp [Tryz.sizeOf3, Tryz.sizeOf78, Tryz.sizeOf100]⟩
instance : IC 3 (.int .i64 0) 1 8 := ⟨by unfold InfoT; kernel_rfl⟩
instance : IC 4 (.bool false) 1 1 := ⟨by unfold InfoT; kernel_rfl⟩
instance : IC 5 (.int .u8 0) 1 1 := ⟨by unfold InfoT; kernel_rfl⟩
instance : IC 9 (.string ⟨#[]⟩) 1 16 := ⟨by unfold InfoT; kernel_rfl⟩
instance : IC 22 (.slice none 0 0) 1 24 := ⟨by unfold InfoT; kernel_rfl⟩
instance : IC 24 (.slice none 0 0) 1 24 := ⟨by unfold InfoT; kernel_rfl⟩
instance : IC 26 (.agg #[.slice none 0 0, .int .i64 0]) 2 32 := ⟨by unfold InfoT; kernel_rfl⟩
instance : IC 37 (.agg #[.int .i64 0, .string ⟨#[]⟩, .slice none 0 0]) 3 48 := ⟨by unfold InfoT; kernel_rfl⟩
instance : IC 50 (.slice none 0 0) 1 24 := ⟨by unfold InfoT; kernel_rfl⟩
instance : IC 76 (.agg #[.string ⟨#[]⟩, .slice none 0 0, .slice none 0 0]) 3 64 := ⟨by unfold InfoT; kernel_rfl⟩
instance : IC 78 (.slice none 0 0) 1 24 := ⟨by unfold InfoT; kernel_rfl⟩
instance : IC 82 (.slice none 0 0) 1 24 := ⟨by unfold InfoT; kernel_rfl⟩
instance : IC 84 (.agg #[.int .i64 0, .int .i64 0, .slice none 0 0, .slice none 0 0, .slice none 0 0]) 5 88 := ⟨by unfold InfoT; kernel_rfl⟩
instance : IC 92 (.agg #[.int .i64 0, .slice none 0 0, .slice none 0 0]) 3 56 := ⟨by unfold InfoT; kernel_rfl⟩
instance : IC 128 (.agg #[.string ⟨#[]⟩, .int .i64 0]) 2 24 := ⟨by unfold InfoT; kernel_rfl⟩
instance : IC 166 (.agg #[.int .i64 0, .int .i64 0, .int .i64 0]) 3 24 := ⟨by unfold InfoT; kernel_rfl⟩
instance : IC 173 (.map none) 1 8 := ⟨by unfold InfoT; kernel_rfl⟩
instance : IC 187 (.agg #[.int .i64 0, .slice none 0 0]) 2 32 := ⟨by unfold InfoT; kernel_rfl⟩
instance : IC 222 (.agg #[.string ⟨#[]⟩, .string ⟨#[]⟩, .int .i64 0]) 3 40 := ⟨by unfold InfoT; kernel_rfl⟩
section
variable {P : Program} {n : Nat} {I : Init} {K : Act → World → Prop} {E : Env} {H Hs : Ghost} {O Os : List HL} {Q : Exit → Act → World → Prop} {ops : Array Oper} {m : Nat} {o : Oper} {rest : List Oper} {v : Value} {d : Nat}
 {dst : Option Nat} {ty : TypeId} {pos : String} {af : Array Edge} {gd : Option (Nat × Bool)}
theorem Mem.blkW {i b e : Nat} {arr : List Value} (hO : O[i]? = some (.blk b e arr)) : Mem H O b 0 arr := Mem.blk hO (by simp)
theorem HC.at1 {b off : Nat} {cs : List Value} {v : Value} (h : HC H b 0 cs) (hv : cs[off]? = some v) : Mem H O b off [v] := by
 have := (h.part off 1).mem (O := O)
 rw [Nat.zero_add] at this
 rwa [show (cs.drop off).take 1 = [v] by obtain ⟨hl, rfl⟩ := List.getElem?_eq_some_iff.1 hv; rw [List.drop_eq_getElem_cons hl]; rfl] at this
theorem HC.at2 {b off j : Nat} {cs : List Value} {v : Value} (h : HC H b off cs) (hv : cs[j]? = some v) : Mem H O b (off + j) [v] := by
 have := (h.part j 1).mem (O := O)
 rwa [show (cs.drop j).take 1 = [v] by obtain ⟨hl, rfl⟩ := List.getElem?_eq_some_iff.1 hv; rw [List.drop_eq_getElem_cons hl]; rfl] at this
theorem shLd {t : Nat} {x : Operand} (h : Yl P n E H O ⟨dst, .load t x, ty, pos, af, gd⟩ v) : Yl P n E H O ⟨dst, .load t x, ty, pos, af, gd⟩ v := h
theorem shIx {t : Nat} {x y : Operand} (h : Yl P n E H O ⟨dst, .indexAddr t x y, ty, pos, af, gd⟩ v) : Yl P n E H O ⟨dst, .indexAddr t x y, ty, pos, af, gd⟩ v := h
theorem shBi {b : BinOp} {t t' : Nat} {x y : Operand} (h : Yl P n E H O ⟨dst, .binOp b t x y t', ty, pos, af, gd⟩ v) : Yl P n E H O ⟨dst, .binOp b t x y t', ty, pos, af, gd⟩ v := h
theorem shAd {t t' : Nat} {x y : Operand} (h : Yl P n E H O ⟨dst, .binOp .add t x y t', ty, pos, af, gd⟩ v) : Yl P n E H O ⟨dst, .binOp .add t x y t', ty, pos, af, gd⟩ v := h
theorem shSu {t t' : Nat} {x y : Operand} (h : Yl P n E H O ⟨dst, .binOp .sub t x y t', ty, pos, af, gd⟩ v) : Yl P n E H O ⟨dst, .binOp .sub t x y t', ty, pos, af, gd⟩ v := h
theorem shMu {t t' : Nat} {x y : Operand} (h : Yl P n E H O ⟨dst, .binOp .mul t x y t', ty, pos, af, gd⟩ v) : Yl P n E H O ⟨dst, .binOp .mul t x y t', ty, pos, af, gd⟩ v := h
theorem shPi {c x y : Operand} (h : Yl P n E H O ⟨dst, .pick c x y, ty, pos, af, gd⟩ v) : Yl P n E H O ⟨dst, .pick c x y, ty, pos, af, gd⟩ v := h
theorem shSl {t : Nat} {x : Operand} {a b c : Option Operand} (h : Yl P n E H O ⟨dst, .slice t x a b c, ty, pos, af, gd⟩ v) : Yl P n E H O ⟨dst, .slice t x a b c, ty, pos, af, gd⟩ v := h
theorem shCa {c : Call} (h : Yl P n E H O ⟨dst, .call c, ty, pos, af, gd⟩ v) : Yl P n E H O ⟨dst, .call c, ty, pos, af, gd⟩ v := h
theorem shO (h : TK n I (wpList P ops Q (o :: rest)) E H O) : TK n I (wpList P ops Q (o :: rest)) E H O := h
theorem shN (h : TK n I (wpList P ops Q []) E H O) : TK n I (wpList P ops Q []) E H O := h
theorem shC {c : Code} (h : TK n I (c.wp P Q) E H O) : TK n I (c.wp P Q) E H O := h
theorem shS (h : TK n I (Code.skip.wp P Q) E H O) : TK n I (Code.skip.wp P Q) E H O := h
theorem shE {id : Nat} (h : TK n I ((Code.exit id).wp P Q) E H O) : TK n I ((Code.exit id).wp P Q) E H O := h
theorem shA {f : Nat} {S : World → Prop} {l : Array Bool} (h : TK n I (AnyT P ops Q S m (f + 1) l) E H O) : TK n I (AnyT P ops Q S m (f + 1) l) E H O := h
theorem shZ {S : World → Prop} {l : Array Bool} (h : TK n I (AnyT P ops Q S m 0 l) E H O) : TK n I (AnyT P ops Q S m 0 l) E H O := h
theorem mM {b off : Nat} {v : Value} (h : Mem H O b off [v] := by
 first
 | (apply HC.mem; assumption)
 | (apply HC.at1 ?hZ ?kZ; (case hZ => assumption); (case kZ => rfl))
 | (apply HC.at2 ?hZ ?kZ; (case hZ => assumption); (case kZ => rfl))
 | exact Mem.blk1 (i := 0) rfl rfl
 | exact Mem.blk1 (i := 1) rfl rfl
 | exact Mem.blk1 (i := 2) rfl rfl
 | exact Mem.row1 (i := 0) rfl rfl
 | exact Mem.blk1 (i := 3) rfl rfl
 | exact Mem.blk1 (i := 4) rfl rfl
 | exact Mem.blk1 (i := 5) rfl rfl
 | exact Mem.row1 (i := 1) rfl rfl
 | exact Mem.row1 (i := 2) rfl rfl
 | exact Mem.blk1 (i := 6) rfl rfl
 | exact Mem.blk1 (i := 7) rfl rfl
 | exact Mem.blk1 (i := 8) rfl rfl
 | exact Mem.row1 (i := 3) rfl rfl
 | exact Mem.row1 (i := 4) rfl rfl
 | exact Mem.row1 (i := 5) rfl rfl
 | exact Mem.row1 (i := 6) rfl rfl
 | exact Mem.row1 (i := 7) rfl rfl
 | exact Mem.row1 (i := 8) rfl rfl
 | exact Mem.blk1 (i := 9) rfl rfl) : Mem H O b off [v] := h
theorem yY (h : Yl PP n E H O o v := by
 first
 | exact yMove rfl
 | exact yAssign rfl
 | exact yFieldAddr fC rfl
 | (apply shLd
    first
    | exact yLoad1 aC rfl mM
    | (apply yLoadA aC sC rfl (HC.mem ?hZ) ?kZ; (case hZ => assumption); (case kZ => rfl))
    | exact yLoadA aC sC rfl (Mem.blkW (i := 0) rfl) rfl
    | exact yLoadA aC sC rfl (Mem.blkW (i := 1) rfl) rfl
    | exact yLoadA aC sC rfl (Mem.blkW (i := 2) rfl) rfl
    | exact yLoadA aC sC rfl (Mem.blkW (i := 3) rfl) rfl
    | exact yLoadA aC sC rfl (Mem.blkW (i := 4) rfl) rfl
    | exact yLoadA aC sC rfl (Mem.blkW (i := 5) rfl) rfl
    | exact yLoadA aC sC rfl (Mem.blkW (i := 6) rfl) rfl)
 | (apply shIx
    first
    | (apply yIndexAddrE uC sC rfl ?hZ rfl oM oM; (case hZ => assumption))
    | exact yIndexAddr uC sC rfl rfl oM oM)
 | (apply shBi
    first
    | exact yLss rfl rfl
    | (apply shAd; exact yAdd rfl rfl oM oM)
    | (apply shSu; exact ySub rfl rfl oM oM)
    | exact yEql rfl rfl
    | exact yGtr rfl rfl
    | exact yNeq rfl rfl
    | exact yGeq rfl rfl
    | exact yLeq rfl rfl
    | (apply shMu; exact yMul rfl rfl oM oM)
    | exact yEqlS rfl rfl
    | exact yNeqS rfl rfl
    | exact yLssS rfl rfl
    | exact yGtrS rfl rfl
    | exact yGeqS rfl rfl
    | (apply shAd; exact yAddW rfl rfl))
 | (apply shPi
    first
    | exact yPickT rfl rfl rfl
    | exact yPickF rfl rfl rfl)
 | exact yNilCheck rfl
 | exact yExtract rfl rfl
 | exact yBuild bC rfl rfl
 | exact yNot rfl
 | (apply shCa
    first
    | exact yLenSlice uC rfl
    | exact yLenStr uC rfl
    | exact yLenMap (i := 0) uC rfl rfl
    | exact yLenMap (i := 1) uC rfl rfl
    | exact yLenMap (i := 2) uC rfl rfl
    | exact yLenMap (i := 3) uC rfl rfl)
 | exact yMakeFunc rfl rfl
 | (apply shSl
    first
    | exact ySliceL uC sC rfl rfl oM oM
    | exact ySliceH uC sC rfl rfl oM oM)
 | exact yConvI uC uC rfl) : Yl PP n E H O o v := h
theorem kS (h : ∀ w, St H O w → St H Os w := by
 first
 | with_reducible exact fun w h => h
 | (intro w h; refine h.sub ?_; (repeat (first | (with_reducible exact List.Sublist.refl _) | (with_reducible apply List.Sublist.cons_cons) | (with_reducible apply List.Sublist.cons))); done)
 | (intro w h; refine h.sub ?_; repeat (first | exact List.Sublist.refl _ | apply List.Sublist.cons_cons | apply List.Sublist.cons))) : ∀ w, St H O w → St H Os w := h
theorem kG (hle : Ghost.le Hs H) (h : ∀ w, St H O w → St H Os w := by exact kS) : ∀ w, St H O w → St Hs Os w := fun w hw => (h w hw).ghostDown hle
theorem nP {Q : Exit → Act → World → Prop} (h : NP Q := by repeat (first | (with_reducible refine np_then ?_) | (with_reducible refine np_block ?_) | exact np_fin)) : NP Q := h
theorem sgN {K : Act → World → Prop} {Y : Act → World → Prop} (hK : ∀ E H O, TK n I Y E H O → TK n I K E H O) (e : Q .normal = K) (h : TK n I Y E H O) : TK n I (wpList P ops Q []) E H O := TK.nil (e ▸ hK _ _ _ h)
theorem sgS {K : Act → World → Prop} {Y : Act → World → Prop} (hK : ∀ E H O, TK n I Y E H O → TK n I K E H O) (e : Q .normal = K) (h : TK n I Y E H O) : TK n I (Code.skip.wp P Q) E H O := TK.skip (e ▸ hK _ _ _ h)
theorem sgE {id : Nat} {K : Act → World → Prop} {Y : Act → World → Prop} (hK : ∀ E H O, TK n I Y E H O → TK n I K E H O) (e : Q (.exit id) = K) (h : TK n I Y E H O) : TK n I ((Code.exit id).wp P Q) E H O := TK.exit (e ▸ hK _ _ _ h)
theorem ts {id : Nat} (m : Nat) (h : regB ops m = true → TK n I (AnyT PP ops Q (St H O) m m (Array.replicate ops.size false)) E H O) (hmn : Nat.ble m ops.size = true := by exact rfl) (hr : regB ops m = true := by kernel_rfl) : TK n I ((Code.region id ops true).wp PP Q) E H O :=
 tStart H O m hmix hmn hr h
theorem aS {p : Prop} (h : p := by assumption) : p := h
theorem dK {p : Prop} (h : p := by decide +kernel) : p := h
class Suc (a : Nat) (b : outParam Nat) : Prop where h : a + 1 = b
instance : Suc 0 1 := ⟨rfl⟩
instance : Suc 1 2 := ⟨rfl⟩
instance : Suc 2 3 := ⟨rfl⟩
instance : Suc 3 4 := ⟨rfl⟩
instance : Suc 4 5 := ⟨rfl⟩
instance : Suc 5 6 := ⟨rfl⟩
instance : Suc 6 7 := ⟨rfl⟩
instance : Suc 7 8 := ⟨rfl⟩
instance : Suc 8 9 := ⟨rfl⟩
instance : Suc 9 10 := ⟨rfl⟩
instance : Suc 10 11 := ⟨rfl⟩
instance : Suc 11 12 := ⟨rfl⟩
instance : Suc 12 13 := ⟨rfl⟩
instance : Suc 13 14 := ⟨rfl⟩
instance : Suc 14 15 := ⟨rfl⟩
instance : Suc 15 16 := ⟨rfl⟩
instance : Suc 16 17 := ⟨rfl⟩
instance : Suc 17 18 := ⟨rfl⟩
instance : Suc 18 19 := ⟨rfl⟩
instance : Suc 19 20 := ⟨rfl⟩
instance : Suc 20 21 := ⟨rfl⟩
instance : Suc 21 22 := ⟨rfl⟩
instance : Suc 22 23 := ⟨rfl⟩
instance : Suc 23 24 := ⟨rfl⟩
instance : Suc 24 25 := ⟨rfl⟩
instance : Suc 25 26 := ⟨rfl⟩
instance : Suc 26 27 := ⟨rfl⟩
instance : Suc 27 28 := ⟨rfl⟩
instance : Suc 28 29 := ⟨rfl⟩
instance : Suc 29 30 := ⟨rfl⟩
instance : Suc 30 31 := ⟨rfl⟩
instance : Suc 31 32 := ⟨rfl⟩
instance : Suc 32 33 := ⟨rfl⟩
instance : Suc 33 34 := ⟨rfl⟩
instance : Suc 34 35 := ⟨rfl⟩
instance : Suc 35 36 := ⟨rfl⟩
instance : Suc 36 37 := ⟨rfl⟩
instance : Suc 37 38 := ⟨rfl⟩
instance : Suc 38 39 := ⟨rfl⟩
instance : Suc 39 40 := ⟨rfl⟩
instance : Suc 40 41 := ⟨rfl⟩
instance : Suc 41 42 := ⟨rfl⟩
instance : Suc 42 43 := ⟨rfl⟩
instance : Suc 43 44 := ⟨rfl⟩
instance : Suc 44 45 := ⟨rfl⟩
instance : Suc 45 46 := ⟨rfl⟩
instance : Suc 46 47 := ⟨rfl⟩
instance : Suc 47 48 := ⟨rfl⟩
instance : Suc 48 49 := ⟨rfl⟩
instance : Suc 49 50 := ⟨rfl⟩
instance : Suc 50 51 := ⟨rfl⟩
instance : Suc 51 52 := ⟨rfl⟩
instance : Suc 52 53 := ⟨rfl⟩
instance : Suc 53 54 := ⟨rfl⟩
instance : Suc 54 55 := ⟨rfl⟩
instance : Suc 55 56 := ⟨rfl⟩
instance : Suc 56 57 := ⟨rfl⟩
instance : Suc 57 58 := ⟨rfl⟩
instance : Suc 58 59 := ⟨rfl⟩
instance : Suc 59 60 := ⟨rfl⟩
instance : Suc 60 61 := ⟨rfl⟩
instance : Suc 61 62 := ⟨rfl⟩
instance : Suc 62 63 := ⟨rfl⟩
instance : Suc 63 64 := ⟨rfl⟩
theorem tj (j : Nat) {f : Nat} {listed : Array Bool} (h : TK n I (AnyT PP ops Q (St H Os) m f (listed.setIfInBounds j true)) ((d, v) :: E) H O)
  (hi : ops[j]? = some o := by exact rfl) (hg : o.guard = none := by exact rfl) (hd : o.dst = some d := by exact rfl) (hn : Nat.blt d n = true := by exact rfl) (hB : takeB ops m listed j = true := by kernel_rfl) (hw : regB ops m = true := by assumption) (hQ : NP Q := by exact nP) (hS : ∀ w, St H O w → St H Os w := by exact kS) (hy : Yl PP n E H Os o v := by exact yY) : TK n I (AnyT PP ops Q (St H Os) m (f + 1) listed) E H O :=
 tk j hi hB hw hQ hS hy hg hd hn h
theorem tjY (j : Nat) {f g t : Nat} {b want : Bool} {listed : Array Bool} (h : TK n I (AnyT PP ops Q (St H Os) m f (listed.setIfInBounds j true)) ((d, v) :: E) H O)
  (hi : ops[j]? = some o := by exact rfl) (hg : o.guard = some (g, want) := by exact rfl) (ht : (ops[g]?).bind (·.dst) = some t := by exact rfl) (hb : look E t = some (.bool b) := by exact rfl) (hbw : b = want := by exact rfl) (hd : o.dst = some d := by exact rfl) (hn : Nat.blt d n = true := by exact rfl) (hB : takeB ops m listed j = true := by kernel_rfl) (hw : regB ops m = true := by assumption) (hQ : NP Q := by exact nP) (hS : ∀ w, St H O w → St H Os w := by exact kS) (hy : Yl PP n E H Os o v := by exact yY) : TK n I (AnyT PP ops Q (St H Os) m (f + 1) listed) E H O :=
 tkY j hi hB hw hQ hS hy hg ht hb hbw hd hn h
theorem tjN (j : Nat) {f g t : Nat} {b want : Bool} {listed : Array Bool} (h : TK n I (AnyT PP ops Q (St H Os) m f (listed.setIfInBounds j true)) ((d, undef) :: E) H O)
  (hi : ops[j]? = some o := by exact rfl) (hg : o.guard = some (g, want) := by exact rfl) (ht : (ops[g]?).bind (·.dst) = some t := by exact rfl) (hb : look E t = some (.bool b) := by exact rfl) (hbw : b = !want := by exact rfl) (hd : o.dst = some d := by exact rfl) (hn : Nat.blt d n = true := by exact rfl) (hB : takeB ops m listed j = true := by kernel_rfl) (hw : regB ops m = true := by assumption) (hQ : NP Q := by exact nP) (hS : ∀ w, St H O w → St H Os w := by exact kS) : TK n I (AnyT PP ops Q (St H Os) m (f + 1) listed) E H O :=
 tkN j hi hB hw hQ hS hg ht hb hbw hd hn h
theorem tjU (j : Nat) {f g t : Nat} {want : Bool} {listed : Array Bool} (h : TK n I (AnyT PP ops Q (St H Os) m f (listed.setIfInBounds j true)) ((d, undef) :: E) H O)
  (hi : ops[j]? = some o := by exact rfl) (hg : o.guard = some (g, want) := by exact rfl) (ht : (ops[g]?).bind (·.dst) = some t := by exact rfl) (hb : look E t = some undef := by exact rfl) (hd : o.dst = some d := by exact rfl) (hn : Nat.blt d n = true := by exact rfl) (hB : takeB ops m listed j = true := by kernel_rfl) (hw : regB ops m = true := by assumption) (hQ : NP Q := by exact nP) (hS : ∀ w, St H O w → St H Os w := by exact kS) : TK n I (AnyT PP ops Q (St H Os) m (f + 1) listed) E H O :=
 tkU j hi hB hw hQ hS hg ht hb hd hn h
theorem tnx {i j : Nat} [Suc i j] {f : Nat} {listed : Array Bool} (h : TK n I (AnyT PP ops Q (St H Os) m f ((listed.setIfInBounds i true).setIfInBounds j true)) ((d, v) :: E) H O)
  (hi : ops[j]? = some o := by exact rfl) (hg : o.guard = none := by exact rfl) (hd : o.dst = some d := by exact rfl) (hn : Nat.blt d n = true := by exact rfl) (hB : takeB ops m (listed.setIfInBounds i true) j = true := by decide +kernel) (hw : regB ops m = true := by assumption) (hQ : NP Q := by exact nP) (hS : ∀ w, St H O w → St H Os w := by exact kS) (hy : Yl PP n E H Os o v := by exact yY) : TK n I (AnyT PP ops Q (St H Os) m (f + 1) (listed.setIfInBounds i true)) E H O :=
 tk j hi hB hw hQ hS hy hg hd hn h
theorem tnxY {i j : Nat} [Suc i j] {f g t : Nat} {b want : Bool} {listed : Array Bool} (h : TK n I (AnyT PP ops Q (St H Os) m f ((listed.setIfInBounds i true).setIfInBounds j true)) ((d, v) :: E) H O)
  (hi : ops[j]? = some o := by exact rfl) (hg : o.guard = some (g, want) := by exact rfl) (ht : (ops[g]?).bind (·.dst) = some t := by exact rfl) (hb : look E t = some (.bool b) := by exact rfl) (hbw : b = want := by exact rfl) (hd : o.dst = some d := by exact rfl) (hn : Nat.blt d n = true := by exact rfl) (hB : takeB ops m (listed.setIfInBounds i true) j = true := by decide +kernel) (hw : regB ops m = true := by assumption) (hQ : NP Q := by exact nP) (hS : ∀ w, St H O w → St H Os w := by exact kS) (hy : Yl PP n E H Os o v := by exact yY) : TK n I (AnyT PP ops Q (St H Os) m (f + 1) (listed.setIfInBounds i true)) E H O :=
 tkY j hi hB hw hQ hS hy hg ht hb hbw hd hn h
theorem tnxN {i j : Nat} [Suc i j] {f g t : Nat} {b want : Bool} {listed : Array Bool} (h : TK n I (AnyT PP ops Q (St H Os) m f ((listed.setIfInBounds i true).setIfInBounds j true)) ((d, undef) :: E) H O)
  (hi : ops[j]? = some o := by exact rfl) (hg : o.guard = some (g, want) := by exact rfl) (ht : (ops[g]?).bind (·.dst) = some t := by exact rfl) (hb : look E t = some (.bool b) := by exact rfl) (hbw : b = !want := by exact rfl) (hd : o.dst = some d := by exact rfl) (hn : Nat.blt d n = true := by exact rfl) (hB : takeB ops m (listed.setIfInBounds i true) j = true := by decide +kernel) (hw : regB ops m = true := by assumption) (hQ : NP Q := by exact nP) (hS : ∀ w, St H O w → St H Os w := by exact kS) : TK n I (AnyT PP ops Q (St H Os) m (f + 1) (listed.setIfInBounds i true)) E H O :=
 tkN j hi hB hw hQ hS hg ht hb hbw hd hn h
theorem tnxU {i j : Nat} [Suc i j] {f g t : Nat} {want : Bool} {listed : Array Bool} (h : TK n I (AnyT PP ops Q (St H Os) m f ((listed.setIfInBounds i true).setIfInBounds j true)) ((d, undef) :: E) H O)
  (hi : ops[j]? = some o := by exact rfl) (hg : o.guard = some (g, want) := by exact rfl) (ht : (ops[g]?).bind (·.dst) = some t := by exact rfl) (hb : look E t = some undef := by exact rfl) (hd : o.dst = some d := by exact rfl) (hn : Nat.blt d n = true := by exact rfl) (hB : takeB ops m (listed.setIfInBounds i true) j = true := by decide +kernel) (hw : regB ops m = true := by assumption) (hQ : NP Q := by exact nP) (hS : ∀ w, St H O w → St H Os w := by exact kS) : TK n I (AnyT PP ops Q (St H Os) m (f + 1) (listed.setIfInBounds i true)) E H O :=
 tkU j hi hB hw hQ hS hg ht hb hd hn h
theorem tss {id : Nat} (hs : Os.Sublist O) (m : Nat) (h : regB ops m = true → TK n I (AnyT PP ops Q (St H Os) m m (Array.replicate ops.size false)) E H O) (hmn : Nat.ble m ops.size = true := by exact rfl) (hr : regB ops m = true := by kernel_rfl) : TK n I ((Code.region id ops true).wp PP Q) E H O :=
 tStart H Os m hmix hmn hr h
theorem nL {a b : Nat} (h : Nat.ble a b = true := by exact rfl) : a ≤ b := Nat.le_of_ble_eq_true h
theorem oC {p : Prop} (h : p := by simp [Value.oneCell']) : p := h
theorem cB {D : Prop} {f : FuncId} {fn : Func} {c : Code} {l : List Value} {R : Value → Ghost → List HL → Prop} {m : Nat} (hf : PP.funcs[f]? = some fn) (hm : fn.ntmps = m)
  (h : ∀ I : Init, (I.D → D) → I.H = H → I.O = O → TK m I (c.wp PP (Fin PP fn I R)) (args0 0 l) H O) (hb : fn.body = some c := by exact rfl) (hl : Nat.ble l.length m = true := by exact rfl) : CtG D PP f l.toArray H O R := CtG.body hf hb hm (Nat.le_of_ble_eq_true hl) h
theorem rT {fn : Func} {R : Value → Ghost → List HL → Prop} {t : Nat} {v : Value} (hr : fn.results = #[.tmp t]) (h : R v H O) (hQ : Q .ret = Fin P fn I R .ret := by exact rfl) (hv : look E t = some v := by exact rfl) : TK n I (Code.ret.wp P Q) E H O := TK.ret (hQ ▸ TK.ret1 hr hv h)
theorem sA {t b off k e : Nat} {x y : Operand} (i : Nat) {arr : List Value} (cs : List Value) (h : TK n I (wpList PP ops Q rest) E H (O.set i (.blk b e (arr.take off ++ cs ++ arr.drop (off + k)))))
  (hO : O[i]? = some (.blk b e arr) := by exact rfl) (hz : Sz PP t k := by exact sC) (hx : ev E x = some (.pointer (some ⟨b, off, none⟩)) := by exact rfl) (hy : ev E y = some v := by exact rfl) (hv : v.cells = cs.toArray := by exact rfl) (hk : cs.length = k := by exact rfl) (h1 : ∀ u ∈ cs, u.oneCell' = true := by simp [Value.oneCell']) (ho : Nat.ble (off + k) arr.length = true := by exact rfl) : TK n I (wpList PP ops Q (⟨none, .store t x y, ty, pos, af, none⟩ :: rest)) E H O :=
 sq rfl (tStoreA hO hz hx hy hv hk h1 (Nat.le_of_ble_eq_true ho) h)
theorem sG {t b off k e : Nat} {x y : Operand} (i : Nat) {arr cs : List Value} (h : TK n I (wpList PP ops Q rest) E H (O.set i (.blk b e (arr.take off ++ cs ++ arr.drop (off + k)))))
  (hO : O[i]? = some (.blk b e arr) := by exact rfl) (hz : Sz PP t k := by exact sC) (hx : ev E x = some (.pointer (some ⟨b, off, none⟩)) := by exact rfl) (hy : ev E y = some (.agg cs.toArray) := by exact rfl) (hk : cs.length = k := by exact rfl) (h1 : ∀ u ∈ cs, u.oneCell' = true := by simp [Value.oneCell']) (ho : Nat.ble (off + k) arr.length = true := by exact rfl) : TK n I (wpList PP ops Q (⟨none, .store t x y, ty, pos, af, none⟩ :: rest)) E H O :=
 sq rfl (tStoreA hO hz hx hy rfl hk h1 (Nat.le_of_ble_eq_true ho) h)
theorem bG {t d : Nat} {x : Operand} {cs : List Value} (h : ∀ b, TK n I (wpList PP ops Q rest) ((d, .pointer (some ⟨b, 0, none⟩)) :: E) H (.blk b t cs :: O)) (hx : ev E x = some (.agg cs.toArray) := by exact rfl) (hd : Nat.blt d n = true := by exact rfl) : TK n I (wpList PP ops Q (⟨some d, .box t x, ty, pos, af, none⟩ :: rest)) E H O :=
 sq rfl (tBox hx rfl (blt_lt hd) h)
theorem sU {t b off e : Nat} {x y : Operand} (i : Nat) {arr : List Value} (h : TK n I (wpList PP ops Q rest) E H (O.set i (.blk b e (arr.set off v))))
  (hO : O[i]? = some (.blk b e arr) := by exact rfl) (hz : Sz PP t 1 := by exact sC) (hx : ev E x = some (.pointer (some ⟨b, off, none⟩)) := by exact rfl) (hy : ev E y = some v := by exact rfl) (hv : v.oneCell' = true := by exact rfl) (ho : Nat.ble (off + 1) arr.length = true := by exact rfl) : TK n I (wpList PP ops Q (⟨none, .store t x y, ty, pos, af, none⟩ :: rest)) E H O :=
 sq rfl (tStore1 hO hz hx hy hv (Nat.le_of_ble_eq_true ho) h)
theorem aL {t d : Nat} {cs : List Value} (h : ∀ b, TK n I (wpList PP ops Q rest) ((d, .pointer (some ⟨b, 0, none⟩)) :: E) H (.blk b t cs :: O)) (hz : Zc PP t cs := by exact zC) (hd : Nat.blt d n = true := by exact rfl) : TK n I (wpList PP ops Q (⟨some d, .alloc t, ty, pos, af, none⟩ :: rest)) E H O :=
 sq rfl (tAlloc hz (blt_lt hd) h)
theorem bX {t d : Nat} {x : Operand} (cs : List Value) (h : ∀ b, TK n I (wpList PP ops Q rest) ((d, .pointer (some ⟨b, 0, none⟩)) :: E) H (.blk b t cs :: O)) (hx : ev E x = some v := by exact rfl) (hc : v.cells = cs.toArray := by exact rfl) (hd : Nat.blt d n = true := by exact rfl) : TK n I (wpList PP ops Q (⟨some d, .box t x, ty, pos, af, none⟩ :: rest)) E H O :=
 sq rfl (tBox hx hc (blt_lt hd) h)
theorem fL {k : Nat} {vs : List Value} (hv : vs.length = k := by exact rfl) : ∀ zs : List Value, zs.length = 1 * k → lfill (fun i => some (i * k, k)) zs [(0, vs)] = some vs := fun zs hz => fill1 hv hz
theorem sL {α : Type} {r : Rep α} (hD : ¬ I.D) (i : Nat) {t e bytes m m' c : Nat} {z v : Value} {cs : List Value} {ys : List α} {A : Option Addr} {s x : Operand} (hm : Sl r H ys A m' c)
  (h : ∀ A' c' news, Reps r H ys news → TK n I (wpList PP ops Q rest) ((d, .slice A' (m + m') c') :: E) H (O.set i (.row e r.k (.slice A' (m + m') c') (m + m') (cs ++ news))))
  (hO : O[i]? = some (.row e r.k v m cs) := by exact rfl) (ht : PP.underlying t = some (.slice e) := by exact uC) (hx : ev E s = some v := by exact rfl) (hy : ev E x = some (.slice A m' c) := by exact rfl) (hi : InfoT PP e z r.k bytes := by exact iC) (hz : z.cells.size = r.k := by exact rfl) (hk : 0 < r.k := by decide)
  (hlen : (m + m') * bytes ≤ 140737488355328 := by omega) (h63 : m + m' ≤ 140737488355328 := by omega) (hd : Nat.blt d n = true := by exact rfl) : TK n I (wpList PP ops Q (⟨some d, .call { callee := .builtin .append, args := #[s, x], argTypes := #[t, t] }, ty, pos, af, none⟩ :: rest)) E H O :=
 sq rfl (tAppendSl hD hO ht hi hz hk hx hy hm hlen h63 (blt_lt hd) h)
class Mo (p : Prop) (H H' : Ghost) (q : outParam Prop) : Prop where mo : p → Ghost.le H H' → q
instance {H' : Ghost} {b off : Nat} {cs : List Value} : Mo (HC H b off cs) H H' (HC H' b off cs) := ⟨fun h e => h.mono e⟩
instance {H' : Ghost} {α : Type} {r : Rep α} {xs : List α} {A : Option Addr} {n c : Nat} : Mo (Sl r H xs A n c) H H' (Sl r H' xs A n c) := ⟨fun h e => h.mono e⟩
instance {H' : Ghost} {α : Type} {r : Rep α} {xs : List α} {cs : List Value} : Mo (Reps r H xs cs) H H' (Reps r H' xs cs) := ⟨fun h e => h.mono e⟩
theorem mo2 {H' : Ghost} {p0 p1 q0 q1 : Prop} [Mo p0 H H' q0] [Mo p1 H H' q1] (e : Ghost.le H H') (a0 : p0) (a1 : p1) : q0 ∧ q1 := ⟨Mo.mo a0 e, Mo.mo a1 e⟩
theorem mo3 {H' : Ghost} {p0 p1 p2 q0 q1 q2 : Prop} [Mo p0 H H' q0] [Mo p1 H H' q1] [Mo p2 H H' q2] (e : Ghost.le H H') (a0 : p0) (a1 : p1) (a2 : p2) : q0 ∧ q1 ∧ q2 := ⟨Mo.mo a0 e, Mo.mo a1 e, Mo.mo a2 e⟩
theorem mo4 {H' : Ghost} {p0 p1 p2 p3 q0 q1 q2 q3 : Prop} [Mo p0 H H' q0] [Mo p1 H H' q1] [Mo p2 H H' q2] [Mo p3 H H' q3] (e : Ghost.le H H') (a0 : p0) (a1 : p1) (a2 : p2) (a3 : p3) : q0 ∧ q1 ∧ q2 ∧ q3 := ⟨Mo.mo a0 e, Mo.mo a1 e, Mo.mo a2 e, Mo.mo a3 e⟩
theorem mo5 {H' : Ghost} {p0 p1 p2 p3 p4 q0 q1 q2 q3 q4 : Prop} [Mo p0 H H' q0] [Mo p1 H H' q1] [Mo p2 H H' q2] [Mo p3 H H' q3] [Mo p4 H H' q4] (e : Ghost.le H H') (a0 : p0) (a1 : p1) (a2 : p2) (a3 : p3) (a4 : p4) : q0 ∧ q1 ∧ q2 ∧ q3 ∧ q4 := ⟨Mo.mo a0 e, Mo.mo a1 e, Mo.mo a2 e, Mo.mo a3 e, Mo.mo a4 e⟩
theorem mo6 {H' : Ghost} {p0 p1 p2 p3 p4 p5 q0 q1 q2 q3 q4 q5 : Prop} [Mo p0 H H' q0] [Mo p1 H H' q1] [Mo p2 H H' q2] [Mo p3 H H' q3] [Mo p4 H H' q4] [Mo p5 H H' q5] (e : Ghost.le H H') (a0 : p0) (a1 : p1) (a2 : p2) (a3 : p3) (a4 : p4) (a5 : p5) : q0 ∧ q1 ∧ q2 ∧ q3 ∧ q4 ∧ q5 := ⟨Mo.mo a0 e, Mo.mo a1 e, Mo.mo a2 e, Mo.mo a3 e, Mo.mo a4 e, Mo.mo a5 e⟩
theorem mo7 {H' : Ghost} {p0 p1 p2 p3 p4 p5 p6 q0 q1 q2 q3 q4 q5 q6 : Prop} [Mo p0 H H' q0] [Mo p1 H H' q1] [Mo p2 H H' q2] [Mo p3 H H' q3] [Mo p4 H H' q4] [Mo p5 H H' q5] [Mo p6 H H' q6] (e : Ghost.le H H') (a0 : p0) (a1 : p1) (a2 : p2) (a3 : p3) (a4 : p4) (a5 : p5) (a6 : p6) : q0 ∧ q1 ∧ q2 ∧ q3 ∧ q4 ∧ q5 ∧ q6 := ⟨Mo.mo a0 e, Mo.mo a1 e, Mo.mo a2 e, Mo.mo a3 e, Mo.mo a4 e, Mo.mo a5 e, Mo.mo a6 e⟩
theorem mo8 {H' : Ghost} {p0 p1 p2 p3 p4 p5 p6 p7 q0 q1 q2 q3 q4 q5 q6 q7 : Prop} [Mo p0 H H' q0] [Mo p1 H H' q1] [Mo p2 H H' q2] [Mo p3 H H' q3] [Mo p4 H H' q4] [Mo p5 H H' q5] [Mo p6 H H' q6] [Mo p7 H H' q7] (e : Ghost.le H H') (a0 : p0) (a1 : p1) (a2 : p2) (a3 : p3) (a4 : p4) (a5 : p5) (a6 : p6) (a7 : p7) : q0 ∧ q1 ∧ q2 ∧ q3 ∧ q4 ∧ q5 ∧ q6 ∧ q7 := ⟨Mo.mo a0 e, Mo.mo a1 e, Mo.mo a2 e, Mo.mo a3 e, Mo.mo a4 e, Mo.mo a5 e, Mo.mo a6 e, Mo.mo a7 e⟩
theorem mo9 {H' : Ghost} {p0 p1 p2 p3 p4 p5 p6 p7 p8 q0 q1 q2 q3 q4 q5 q6 q7 q8 : Prop} [Mo p0 H H' q0] [Mo p1 H H' q1] [Mo p2 H H' q2] [Mo p3 H H' q3] [Mo p4 H H' q4] [Mo p5 H H' q5] [Mo p6 H H' q6] [Mo p7 H H' q7] [Mo p8 H H' q8] (e : Ghost.le H H') (a0 : p0) (a1 : p1) (a2 : p2) (a3 : p3) (a4 : p4) (a5 : p5) (a6 : p6) (a7 : p7) (a8 : p8) : q0 ∧ q1 ∧ q2 ∧ q3 ∧ q4 ∧ q5 ∧ q6 ∧ q7 ∧ q8 := ⟨Mo.mo a0 e, Mo.mo a1 e, Mo.mo a2 e, Mo.mo a3 e, Mo.mo a4 e, Mo.mo a5 e, Mo.mo a6 e, Mo.mo a7 e, Mo.mo a8 e⟩
theorem mo10 {H' : Ghost} {p0 p1 p2 p3 p4 p5 p6 p7 p8 p9 q0 q1 q2 q3 q4 q5 q6 q7 q8 q9 : Prop} [Mo p0 H H' q0] [Mo p1 H H' q1] [Mo p2 H H' q2] [Mo p3 H H' q3] [Mo p4 H H' q4] [Mo p5 H H' q5] [Mo p6 H H' q6] [Mo p7 H H' q7] [Mo p8 H H' q8] [Mo p9 H H' q9] (e : Ghost.le H H') (a0 : p0) (a1 : p1) (a2 : p2) (a3 : p3) (a4 : p4) (a5 : p5) (a6 : p6) (a7 : p7) (a8 : p8) (a9 : p9) : q0 ∧ q1 ∧ q2 ∧ q3 ∧ q4 ∧ q5 ∧ q6 ∧ q7 ∧ q8 ∧ q9 := ⟨Mo.mo a0 e, Mo.mo a1 e, Mo.mo a2 e, Mo.mo a3 e, Mo.mo a4 e, Mo.mo a5 e, Mo.mo a6 e, Mo.mo a7 e, Mo.mo a8 e, Mo.mo a9 e⟩
theorem mo11 {H' : Ghost} {p0 p1 p2 p3 p4 p5 p6 p7 p8 p9 p10 q0 q1 q2 q3 q4 q5 q6 q7 q8 q9 q10 : Prop} [Mo p0 H H' q0] [Mo p1 H H' q1] [Mo p2 H H' q2] [Mo p3 H H' q3] [Mo p4 H H' q4] [Mo p5 H H' q5] [Mo p6 H H' q6] [Mo p7 H H' q7] [Mo p8 H H' q8] [Mo p9 H H' q9] [Mo p10 H H' q10] (e : Ghost.le H H') (a0 : p0) (a1 : p1) (a2 : p2) (a3 : p3) (a4 : p4) (a5 : p5) (a6 : p6) (a7 : p7) (a8 : p8) (a9 : p9) (a10 : p10) : q0 ∧ q1 ∧ q2 ∧ q3 ∧ q4 ∧ q5 ∧ q6 ∧ q7 ∧ q8 ∧ q9 ∧ q10 := ⟨Mo.mo a0 e, Mo.mo a1 e, Mo.mo a2 e, Mo.mo a3 e, Mo.mo a4 e, Mo.mo a5 e, Mo.mo a6 e, Mo.mo a7 e, Mo.mo a8 e, Mo.mo a9 e, Mo.mo a10 e⟩
theorem mo12 {H' : Ghost} {p0 p1 p2 p3 p4 p5 p6 p7 p8 p9 p10 p11 q0 q1 q2 q3 q4 q5 q6 q7 q8 q9 q10 q11 : Prop} [Mo p0 H H' q0] [Mo p1 H H' q1] [Mo p2 H H' q2] [Mo p3 H H' q3] [Mo p4 H H' q4] [Mo p5 H H' q5] [Mo p6 H H' q6] [Mo p7 H H' q7] [Mo p8 H H' q8] [Mo p9 H H' q9] [Mo p10 H H' q10] [Mo p11 H H' q11] (e : Ghost.le H H') (a0 : p0) (a1 : p1) (a2 : p2) (a3 : p3) (a4 : p4) (a5 : p5) (a6 : p6) (a7 : p7) (a8 : p8) (a9 : p9) (a10 : p10) (a11 : p11) : q0 ∧ q1 ∧ q2 ∧ q3 ∧ q4 ∧ q5 ∧ q6 ∧ q7 ∧ q8 ∧ q9 ∧ q10 ∧ q11 := ⟨Mo.mo a0 e, Mo.mo a1 e, Mo.mo a2 e, Mo.mo a3 e, Mo.mo a4 e, Mo.mo a5 e, Mo.mo a6 e, Mo.mo a7 e, Mo.mo a8 e, Mo.mo a9 e, Mo.mo a10 e, Mo.mo a11 e⟩
theorem mo13 {H' : Ghost} {p0 p1 p2 p3 p4 p5 p6 p7 p8 p9 p10 p11 p12 q0 q1 q2 q3 q4 q5 q6 q7 q8 q9 q10 q11 q12 : Prop} [Mo p0 H H' q0] [Mo p1 H H' q1] [Mo p2 H H' q2] [Mo p3 H H' q3] [Mo p4 H H' q4] [Mo p5 H H' q5] [Mo p6 H H' q6] [Mo p7 H H' q7] [Mo p8 H H' q8] [Mo p9 H H' q9] [Mo p10 H H' q10] [Mo p11 H H' q11] [Mo p12 H H' q12] (e : Ghost.le H H') (a0 : p0) (a1 : p1) (a2 : p2) (a3 : p3) (a4 : p4) (a5 : p5) (a6 : p6) (a7 : p7) (a8 : p8) (a9 : p9) (a10 : p10) (a11 : p11) (a12 : p12) : q0 ∧ q1 ∧ q2 ∧ q3 ∧ q4 ∧ q5 ∧ q6 ∧ q7 ∧ q8 ∧ q9 ∧ q10 ∧ q11 ∧ q12 := ⟨Mo.mo a0 e, Mo.mo a1 e, Mo.mo a2 e, Mo.mo a3 e, Mo.mo a4 e, Mo.mo a5 e, Mo.mo a6 e, Mo.mo a7 e, Mo.mo a8 e, Mo.mo a9 e, Mo.mo a10 e, Mo.mo a11 e, Mo.mo a12 e⟩
theorem mo14 {H' : Ghost} {p0 p1 p2 p3 p4 p5 p6 p7 p8 p9 p10 p11 p12 p13 q0 q1 q2 q3 q4 q5 q6 q7 q8 q9 q10 q11 q12 q13 : Prop} [Mo p0 H H' q0] [Mo p1 H H' q1] [Mo p2 H H' q2] [Mo p3 H H' q3] [Mo p4 H H' q4] [Mo p5 H H' q5] [Mo p6 H H' q6] [Mo p7 H H' q7] [Mo p8 H H' q8] [Mo p9 H H' q9] [Mo p10 H H' q10] [Mo p11 H H' q11] [Mo p12 H H' q12] [Mo p13 H H' q13] (e : Ghost.le H H') (a0 : p0) (a1 : p1) (a2 : p2) (a3 : p3) (a4 : p4) (a5 : p5) (a6 : p6) (a7 : p7) (a8 : p8) (a9 : p9) (a10 : p10) (a11 : p11) (a12 : p12) (a13 : p13) : q0 ∧ q1 ∧ q2 ∧ q3 ∧ q4 ∧ q5 ∧ q6 ∧ q7 ∧ q8 ∧ q9 ∧ q10 ∧ q11 ∧ q12 ∧ q13 := ⟨Mo.mo a0 e, Mo.mo a1 e, Mo.mo a2 e, Mo.mo a3 e, Mo.mo a4 e, Mo.mo a5 e, Mo.mo a6 e, Mo.mo a7 e, Mo.mo a8 e, Mo.mo a9 e, Mo.mo a10 e, Mo.mo a11 e, Mo.mo a12 e, Mo.mo a13 e⟩
theorem mo15 {H' : Ghost} {p0 p1 p2 p3 p4 p5 p6 p7 p8 p9 p10 p11 p12 p13 p14 q0 q1 q2 q3 q4 q5 q6 q7 q8 q9 q10 q11 q12 q13 q14 : Prop} [Mo p0 H H' q0] [Mo p1 H H' q1] [Mo p2 H H' q2] [Mo p3 H H' q3] [Mo p4 H H' q4] [Mo p5 H H' q5] [Mo p6 H H' q6] [Mo p7 H H' q7] [Mo p8 H H' q8] [Mo p9 H H' q9] [Mo p10 H H' q10] [Mo p11 H H' q11] [Mo p12 H H' q12] [Mo p13 H H' q13] [Mo p14 H H' q14] (e : Ghost.le H H') (a0 : p0) (a1 : p1) (a2 : p2) (a3 : p3) (a4 : p4) (a5 : p5) (a6 : p6) (a7 : p7) (a8 : p8) (a9 : p9) (a10 : p10) (a11 : p11) (a12 : p12) (a13 : p13) (a14 : p14) : q0 ∧ q1 ∧ q2 ∧ q3 ∧ q4 ∧ q5 ∧ q6 ∧ q7 ∧ q8 ∧ q9 ∧ q10 ∧ q11 ∧ q12 ∧ q13 ∧ q14 := ⟨Mo.mo a0 e, Mo.mo a1 e, Mo.mo a2 e, Mo.mo a3 e, Mo.mo a4 e, Mo.mo a5 e, Mo.mo a6 e, Mo.mo a7 e, Mo.mo a8 e, Mo.mo a9 e, Mo.mo a10 e, Mo.mo a11 e, Mo.mo a12 e, Mo.mo a13 e, Mo.mo a14 e⟩
theorem mo16 {H' : Ghost} {p0 p1 p2 p3 p4 p5 p6 p7 p8 p9 p10 p11 p12 p13 p14 p15 q0 q1 q2 q3 q4 q5 q6 q7 q8 q9 q10 q11 q12 q13 q14 q15 : Prop} [Mo p0 H H' q0] [Mo p1 H H' q1] [Mo p2 H H' q2] [Mo p3 H H' q3] [Mo p4 H H' q4] [Mo p5 H H' q5] [Mo p6 H H' q6] [Mo p7 H H' q7] [Mo p8 H H' q8] [Mo p9 H H' q9] [Mo p10 H H' q10] [Mo p11 H H' q11] [Mo p12 H H' q12] [Mo p13 H H' q13] [Mo p14 H H' q14] [Mo p15 H H' q15] (e : Ghost.le H H') (a0 : p0) (a1 : p1) (a2 : p2) (a3 : p3) (a4 : p4) (a5 : p5) (a6 : p6) (a7 : p7) (a8 : p8) (a9 : p9) (a10 : p10) (a11 : p11) (a12 : p12) (a13 : p13) (a14 : p14) (a15 : p15) : q0 ∧ q1 ∧ q2 ∧ q3 ∧ q4 ∧ q5 ∧ q6 ∧ q7 ∧ q8 ∧ q9 ∧ q10 ∧ q11 ∧ q12 ∧ q13 ∧ q14 ∧ q15 := ⟨Mo.mo a0 e, Mo.mo a1 e, Mo.mo a2 e, Mo.mo a3 e, Mo.mo a4 e, Mo.mo a5 e, Mo.mo a6 e, Mo.mo a7 e, Mo.mo a8 e, Mo.mo a9 e, Mo.mo a10 e, Mo.mo a11 e, Mo.mo a12 e, Mo.mo a13 e, Mo.mo a14 e, Mo.mo a15 e⟩
inductive Pk (E : Env) : List Nat → Env → Prop
 | nil : Pk E [] []
 | cons {t : Nat} {v : Value} {ts : List Nat} {D : Env} : look E t = some v → Pk E ts D → Pk E (t :: ts) ((t, v) :: D)
theorem pK {ts : List Nat} {D : Env} (h : Pk E ts D := by repeat (first | exact Pk.nil | exact rfl | apply Pk.cons)) : Pk E ts D := h
theorem subN : Sub E [] := trivial
theorem subC {t : Nat} {r : Env} (h : look E t = some v) (k : Sub E r) : Sub E ((t, v) :: r) := ⟨h, k⟩
theorem uB {D : Env} (h : Sub E D := by repeat (first | exact subN | refine subC rfl ?_)) : Sub E D := h
theorem lB {Z : List HL} (h : Z.Sublist O := by repeat (first | exact List.nil_sublist _ | apply List.Sublist.cons_cons | apply List.Sublist.cons)) : Z.Sublist O := h
theorem wS {E' : Env} {O' : List HL} (hO : O'.Sublist O) (hE : Sub E E') (h : TK n I K E' H O') : TK n I K E H O := fun a w ha hs => h a w (ha.mono hE.mono) (hs.sub hO)
theorem wP {E' : Env} {O' : List HL} (l m : List Nat) (k : Nat) (h : TK n I K E' H O') (hk : O.length = k := by exact rfl) (hlm : (l ++ m).isPerm (List.range k) = true := by exact rfl) (hO : pick O l = O' := by exact rfl) (hE : Sub E E' := by exact uB) : TK n I K E H O := TK.weakP l m k hk hlm hO hE h
section
variable {J : Env → Ghost → List HL → Nat → Prop} {m' : Nat} {E' : Env} {O' : List HL} {Y : Act → World → Prop} {id : Nat}
theorem nK (hK : ∀ E H O x, J E H O x → x < m → TK n I Y E H O) (hJ : J E' H O' m') (hQ : Q .normal = Y := by exact rfl) (hm : m' < m := by omega) (hE : Sub E E' := by exact uB) (hO : O'.Sublist O := by exact lB) : TK n I (wpList P ops Q []) E H O := TK.nil (hQ ▸ wS hO hE (hK _ _ _ _ hJ hm))
theorem nE (hK : ∀ E H O x, J E H O x → x < m → TK n I Y E H O) (hJ : J E' H O' m') (hQ : Q (.exit id) = Y := by exact rfl) (hm : m' < m := by omega) (hE : Sub E E' := by exact uB) (hO : O'.Sublist O := by exact lB) : TK n I ((Code.exit id).wp P Q) E H O := TK.exit (hQ ▸ wS hO hE (hK _ _ _ _ hJ hm))
theorem jN (h : TK n I Y E' H O') (hQ : Q .normal = Y := by exact rfl) (hE : Sub E E' := by exact uB) (hO : O'.Sublist O := by exact lB) : TK n I (wpList P ops Q []) E H O := TK.nil (hQ ▸ wS hO hE h)
theorem jS (h : TK n I Y E' H O') (hQ : Q .normal = Y := by exact rfl) (hE : Sub E E' := by exact uB) (hO : O'.Sublist O := by exact lB) : TK n I (Code.skip.wp P Q) E H O := TK.skip (hQ ▸ wS hO hE h)
end
theorem pM (l : List Nat) (h : TK n I K E H (pick O l)) (hl : l.isPerm (List.range O.length) = true := by exact rfl) : TK n I K E H O := fun a w ha hs => h a w ha ((hs.permR (perm_of_pick l [] _ rfl (by rwa [List.append_nil]) rfl rfl).symm).forget)
theorem lp0 {c : Code} (J : Env → Env → Ghost → List HL → Nat → Prop) (ts ps : List Nat) {D E0 : Env} {O0 : List HL} {m0 : Nat} (h0 : J D  E0 H O0 m0) (h : ∀ E H O m, J D  E H O m → ∀ K, (∀ E' H' O' m', J D  E' H' O' m' → m' < m → TK n I K E' H' O') → TK n I (c.wp P (Exit.then K Q)) E H O) (hO : pick O ps = O0 := by exact rfl) (hD : Pk E ts D := by exact pK) (hE : Sub E E0 := by exact uB) (hl : ps.Pairwise (· < ·) := by decide) : TK n I ((Code.loop c).wp P Q) E H O := TK.loop (J D ) E0 O0 m0 ps hl hO hE h0 h
theorem lp1 {c : Code} (J : Env → HL → Env → Ghost → List HL → Nat → Prop) (ts ps : List Nat) {D E0 : Env} {f0 : HL} {O0 : List HL} {m0 : Nat} (h0 : J D f0 E0 H O0 m0) (h : ∀ E H O m, J D f0 E H O m → ∀ K, (∀ E' H' O' m', J D f0 E' H' O' m' → m' < m → TK n I K E' H' O') → TK n I (c.wp P (Exit.then K Q)) E H O) (hO : pick O ps = O0 := by exact rfl) (hD : Pk E ts D := by exact pK) (hE : Sub E E0 := by exact uB) (hl : ps.Pairwise (· < ·) := by decide) : TK n I ((Code.loop c).wp P Q) E H O := TK.loop (J D f0) E0 O0 m0 ps hl hO hE h0 h
theorem lp2 {c : Code} (J : Env → HL → HL → Env → Ghost → List HL → Nat → Prop) (ts ps : List Nat) {D E0 : Env} {f0 f1 : HL} {O0 : List HL} {m0 : Nat} (h0 : J D f0 f1 E0 H O0 m0) (h : ∀ E H O m, J D f0 f1 E H O m → ∀ K, (∀ E' H' O' m', J D f0 f1 E' H' O' m' → m' < m → TK n I K E' H' O') → TK n I (c.wp P (Exit.then K Q)) E H O) (hO : pick O ps = O0 := by exact rfl) (hD : Pk E ts D := by exact pK) (hE : Sub E E0 := by exact uB) (hl : ps.Pairwise (· < ·) := by decide) : TK n I ((Code.loop c).wp P Q) E H O := TK.loop (J D f0 f1) E0 O0 m0 ps hl hO hE h0 h
theorem lp3 {c : Code} (J : Env → HL → HL → HL → Env → Ghost → List HL → Nat → Prop) (ts ps : List Nat) {D E0 : Env} {f0 f1 f2 : HL} {O0 : List HL} {m0 : Nat} (h0 : J D f0 f1 f2 E0 H O0 m0) (h : ∀ E H O m, J D f0 f1 f2 E H O m → ∀ K, (∀ E' H' O' m', J D f0 f1 f2 E' H' O' m' → m' < m → TK n I K E' H' O') → TK n I (c.wp P (Exit.then K Q)) E H O) (hO : pick O ps = O0 := by exact rfl) (hD : Pk E ts D := by exact pK) (hE : Sub E E0 := by exact uB) (hl : ps.Pairwise (· < ·) := by decide) : TK n I ((Code.loop c).wp P Q) E H O := TK.loop (J D f0 f1 f2) E0 O0 m0 ps hl hO hE h0 h
theorem lp4 {c : Code} (J : Env → HL → HL → HL → HL → Env → Ghost → List HL → Nat → Prop) (ts ps : List Nat) {D E0 : Env} {f0 f1 f2 f3 : HL} {O0 : List HL} {m0 : Nat} (h0 : J D f0 f1 f2 f3 E0 H O0 m0) (h : ∀ E H O m, J D f0 f1 f2 f3 E H O m → ∀ K, (∀ E' H' O' m', J D f0 f1 f2 f3 E' H' O' m' → m' < m → TK n I K E' H' O') → TK n I (c.wp P (Exit.then K Q)) E H O) (hO : pick O ps = O0 := by exact rfl) (hD : Pk E ts D := by exact pK) (hE : Sub E E0 := by exact uB) (hl : ps.Pairwise (· < ·) := by decide) : TK n I ((Code.loop c).wp P Q) E H O := TK.loop (J D f0 f1 f2 f3) E0 O0 m0 ps hl hO hE h0 h
theorem lp5 {c : Code} (J : Env → HL → HL → HL → HL → HL → Env → Ghost → List HL → Nat → Prop) (ts ps : List Nat) {D E0 : Env} {f0 f1 f2 f3 f4 : HL} {O0 : List HL} {m0 : Nat} (h0 : J D f0 f1 f2 f3 f4 E0 H O0 m0) (h : ∀ E H O m, J D f0 f1 f2 f3 f4 E H O m → ∀ K, (∀ E' H' O' m', J D f0 f1 f2 f3 f4 E' H' O' m' → m' < m → TK n I K E' H' O') → TK n I (c.wp P (Exit.then K Q)) E H O) (hO : pick O ps = O0 := by exact rfl) (hD : Pk E ts D := by exact pK) (hE : Sub E E0 := by exact uB) (hl : ps.Pairwise (· < ·) := by decide) : TK n I ((Code.loop c).wp P Q) E H O := TK.loop (J D f0 f1 f2 f3 f4) E0 O0 m0 ps hl hO hE h0 h
theorem lp7 {c : Code} (J : Env → HL → HL → HL → HL → HL → HL → HL → Env → Ghost → List HL → Nat → Prop) (ts ps : List Nat) {D E0 : Env} {f0 f1 f2 f3 f4 f5 f6 : HL} {O0 : List HL} {m0 : Nat} (h0 : J D f0 f1 f2 f3 f4 f5 f6 E0 H O0 m0) (h : ∀ E H O m, J D f0 f1 f2 f3 f4 f5 f6 E H O m → ∀ K, (∀ E' H' O' m', J D f0 f1 f2 f3 f4 f5 f6 E' H' O' m' → m' < m → TK n I K E' H' O') → TK n I (c.wp P (Exit.then K Q)) E H O) (hO : pick O ps = O0 := by exact rfl) (hD : Pk E ts D := by exact pK) (hE : Sub E E0 := by exact uB) (hl : ps.Pairwise (· < ·) := by decide) : TK n I ((Code.loop c).wp P Q) E H O := TK.loop (J D f0 f1 f2 f3 f4 f5 f6) E0 O0 m0 ps hl hO hE h0 h
theorem cD {c : Operand} {x y : Code} {p : Prop} [Decidable p] (h1 : p → TK n I (x.wp P Q) E H O) (h2 : ¬ p → TK n I (y.wp P Q) E H O) (hc : ev E c = some (.bool (decide p)) := by exact rfl) : TK n I ((Code.cond c x y).wp P Q) E H O := TK.condD hc h1 h2
theorem cN {c : Operand} {x y : Code} {b : Bool} (h1 : b = true → TK n I (x.wp P Q) E H O) (h2 : b = false → TK n I (y.wp P Q) E H O) (hc : ev E c = some (.bool b) := by exact rfl) : TK n I ((Code.cond c x y).wp P Q) E H O := TK.cond hc h1 h2
theorem sD (t : Nat) {p : Prop} [Decidable p] (h1 : p → TK n I K ((t, .bool true) :: E) H O) (h2 : ¬ p → TK n I K ((t, .bool false) :: E) H O) (hb : look E t = some (.bool (decide p)) := by exact rfl) : TK n I K E H O := splitD t hb rfl h1 h2
theorem sB (t : Nat) {b : Bool} (h1 : b = true → TK n I K ((t, .bool true) :: E) H O) (h2 : b = false → TK n I K ((t, .bool false) :: E) H O) (hb : look E t = some (.bool b) := by exact rfl) : TK n I K E H O := splitB t hb rfl h1 h2
theorem oI (i : Nat) {f : Nat} {listed : Array Bool} (hi : ops[i]? = some o) (hr : (Region.ready .any ops listed == [i] && Nat.ble (i + 1) m && o.guard.isNone) = true)
  (h : TK n I (OpK P o (fun a w => St Hs Os w ∧ AnyT P ops Q (St Hs Os) m f (listed.setIfInBounds i true) a w) Q) E H O) : TK n I (AnyT P ops Q (St Hs Os) m (f + 1) listed) E H O := by
 simp only [Bool.and_eq_true, beq_iff_eq, Option.isNone_iff_eq_none] at hr
 exact ta_one i hi hr.1.1 hr.1.2 hr.2 h
theorem oY (i : Nat) {f g t : Nat} {b want : Bool} {listed : Array Bool} (hi : ops[i]? = some o) (hr : (Region.ready .any ops listed == [i] && Nat.ble (i + 1) m) = true) (hg : o.guard = some (g, want)) (ht : (ops[g]?).bind (·.dst) = some t) (hb : look E t = some (.bool b)) (hbw : b = want)
  (h : TK n I (OpK P o (fun a w => St Hs Os w ∧ AnyT P ops Q (St Hs Os) m f (listed.setIfInBounds i true) a w) Q) E H O) : TK n I (AnyT P ops Q (St Hs Os) m (f + 1) listed) E H O := by
 simp only [Bool.and_eq_true, beq_iff_eq] at hr
 exact ta_oneY i hi hr.1 hr.2 hg ht hb hbw h
section
variable {D : Prop} {f : FuncId} {xs : List Operand} {vs : List Value} {ats : Array TypeId} {Oc F : List HL}
theorem fS {R : Value → Prop} (hDD : I.D → D) (hn : Nat.blt d n = true) (he : ∀ (args : Array Value) (w : World), (callFunc f args).run P w = .ok (.enter f args) w) (hv : evs E xs = some vs) (hc : CtG D P f vs.toArray H [] fun v H' O' => O' = [] ∧ R v)
  (h : ∀ v, R v → TK n I K ((d, v) :: E) H O) : TK n I (OpK P ⟨some d, .call { callee := .value (.func f), args := xs.toArray, argTypes := ats }, ty, pos, af, gd⟩ K Q) E H O := TK.callS hDD rfl hn (ent he hv) hc h
theorem fP {R : Value → Ghost → Prop} (hDD : I.D → D) (hn : Nat.blt d n = true) (he : ∀ (args : Array Value) (w : World), (callFunc f args).run P w = .ok (.enter f args) w) (hv : evs E xs = some vs) (hc : CtG D P f vs.toArray H [] fun v H' O' => O' = [] ∧ R v H')
  (h : ∀ v H', R v H' → Ghost.le H H' → TK n I K ((d, v) :: E) H' O) : TK n I (OpK P ⟨some d, .call { callee := .value (.func f), args := xs.toArray, argTypes := ats }, ty, pos, af, gd⟩ K Q) E H O := TK.callP hDD rfl hn (ent he hv) hc h
theorem fT {R : Value → List HL → Prop} (hDD : I.D → D) (l m : List Nat) (hlm : ((l ++ m).isPerm (List.range O.length) && Nat.blt d n) = true) (he : ∀ (args : Array Value) (w : World), (callFunc f args).run P w = .ok (.enter f args) w) (hv : evs E xs = some vs) (hc : CtG D P f vs.toArray H (pick O l) fun v H' O' => R v O')
  (h : ∀ v O', R v O' → TK n I K ((d, v) :: E) H (O' ++ pick O m)) : TK n I (OpK P ⟨some d, .call { callee := .value (.func f), args := xs.toArray, argTypes := ats }, ty, pos, af, gd⟩ K Q) E H O := TK.callSO hDD (perm_of_pick l m _ rfl (Bool.and_eq_true_iff.1 hlm).1 rfl rfl) rfl (Bool.and_eq_true_iff.1 hlm).2 (ent he hv) hc h
theorem fO {R : Value → Ghost → List HL → Prop} (hDD : I.D → D) (l m : List Nat) (hlm : ((l ++ m).isPerm (List.range O.length) && Nat.blt d n) = true) (he : ∀ (args : Array Value) (w : World), (callFunc f args).run P w = .ok (.enter f args) w) (hv : evs E xs = some vs) (hc : CtG D P f vs.toArray H (pick O l) R)
  (h : ∀ v H' O', R v H' O' → Ghost.le H H' → TK n I K ((d, v) :: E) H' (O' ++ pick O m)) : TK n I (OpK P ⟨some d, .call { callee := .value (.func f), args := xs.toArray, argTypes := ats }, ty, pos, af, gd⟩ K Q) E H O := TK.callO hDD (perm_of_pick l m _ rfl (Bool.and_eq_true_iff.1 hlm).1 rfl rfl) rfl (Bool.and_eq_true_iff.1 hlm).2 (ent he hv) hc h
theorem fR {R : Value → Prop} (hDD : I.D → D) (l m : List Nat) (hlm : ((l ++ m).isPerm (List.range O.length) && Nat.blt d n) = true) (he : ∀ (args : Array Value) (w : World), (callFunc f args).run P w = .ok (.enter f args) w) (hv : evs E xs = some vs) (hc : CtG D P f vs.toArray H (pick O l) fun v H' O' => O' = pick O l ∧ R v)
  (h : ∀ v, R v → TK n I K ((d, v) :: E) H O) : TK n I (OpK P ⟨some d, .call { callee := .value (.func f), args := xs.toArray, argTypes := ats }, ty, pos, af, gd⟩ K Q) E H O := TK.callRO hDD (perm_of_pick l m _ rfl (Bool.and_eq_true_iff.1 hlm).1 rfl rfl) rfl (Bool.and_eq_true_iff.1 hlm).2 (ent he hv) hc h
end
theorem bS {t e k m : Nat} {z : Value} {parts : List (Nat × Operand)} {lp : List (Nat × List Value)} (out : List Value)
  (h : ∀ b, TK n I K ((d, .slice (some ⟨b, 0, none⟩) m m) :: E) H (.row e k (.slice (some ⟨b, 0, none⟩) m m) m out :: O)) (ht : PP.underlying t = some (.slice e) := by exact uC) (hs : Sz PP e k := by exact sC) (hz : ∀ w, (zeroValue e).run PP w = .ok z w := by exact nC) (hv : pevs E parts = some lp := by exact rfl)
  (hf : ∀ zs : List Value, zs.length = m * k → lfill (fun i => some (i * k, k)) zs lp = some out := by exact fL) (hl : out.length = m * k := by exact rfl) (hsmall : m * k ≤ 1000 := by decide) (hm0 : 0 < m * k := by decide) (hmm : m ≤ 1000 := by decide) (hd : Nat.blt d n = true := by exact rfl) : TK n I (OpK PP ⟨some d, .buildSlice t m parts.toArray, ty, pos, af, gd⟩ K Q) E H O := tBSlice ht hs hz hv hf hl hsmall hm0 hmm (blt_lt hd) h
theorem aR {t e k bytes b m m' c c2 : Nat} {z v : Value} {cs news : List Value} {s x : Operand} (i : Nat)
  (h : ∀ A c', TK n I K ((d, .slice A (m + m') c') :: E) H (O.set i (.row e k (.slice A (m + m') c') (m + m') (cs ++ news)))) (hO : O[i]? = some (.row e k v m cs) := by exact rfl) (ht : PP.underlying t = some (.slice e) := by exact uC) (hi : InfoT PP e z k bytes := by exact iC) (hz : z.cells.size = k := by exact rfl) (hk : 0 < k := by decide)
  (hx : ev E s = some v := by exact rfl) (hy : ev E x = some (.slice (some ⟨b, 0, none⟩) m' c) := by exact rfl) (hm : O[0]? = some (.row e k (.slice (some ⟨b, 0, none⟩) m' c2) m' news) := by exact rfl) (hl : news.length = m' * k := by exact rfl) (h1 : ∀ u ∈ news, u.oneCell' = true := by simp [Value.oneCell']) (hlen : (m + m') * bytes ≤ 140737488355328 := by omega) (h63 : m + m' ≤ 140737488355328 := by omega) (hd : Nat.blt d n = true := by exact rfl) (hD : ¬ I.D := by assumption) : TK n I (OpK PP ⟨some d, .call { callee := .builtin .append, args := #[s, x], argTypes := #[t, t] }, ty, pos, af, gd⟩ K Q) E H O := tAppend hD hO ht hi hz hk hx hy (Mem.row hm (by simp)) hl h1 hlen h63 (blt_lt hd) h
theorem eO2 {x0 x1 : HL} (F : HL → HL → List HL) (h : TK n I K E H (F x0 x1)) (hO : O = [x0, x1] := by exact rfl) (he : [x0, x1] = F x0 x1 := by exact rfl) : TK n I K E H O := TK.eqO (hO.trans he) h
theorem eO3 {x0 x1 x2 : HL} (F : HL → HL → HL → List HL) (h : TK n I K E H (F x0 x1 x2)) (hO : O = [x0, x1, x2] := by exact rfl) (he : [x0, x1, x2] = F x0 x1 x2 := by exact rfl) : TK n I K E H O := TK.eqO (hO.trans he) h
theorem eO4 {x0 x1 x2 x3 : HL} (F : HL → HL → HL → HL → List HL) (h : TK n I K E H (F x0 x1 x2 x3)) (hO : O = [x0, x1, x2, x3] := by exact rfl) (he : [x0, x1, x2, x3] = F x0 x1 x2 x3 := by exact rfl) : TK n I K E H O := TK.eqO (hO.trans he) h
theorem eO5 {x0 x1 x2 x3 x4 : HL} (F : HL → HL → HL → HL → HL → List HL) (h : TK n I K E H (F x0 x1 x2 x3 x4)) (hO : O = [x0, x1, x2, x3, x4] := by exact rfl) (he : [x0, x1, x2, x3, x4] = F x0 x1 x2 x3 x4 := by exact rfl) : TK n I K E H O := TK.eqO (hO.trans he) h
theorem eO6 {x0 x1 x2 x3 x4 x5 : HL} (F : HL → HL → HL → HL → HL → HL → List HL) (h : TK n I K E H (F x0 x1 x2 x3 x4 x5)) (hO : O = [x0, x1, x2, x3, x4, x5] := by exact rfl) (he : [x0, x1, x2, x3, x4, x5] = F x0 x1 x2 x3 x4 x5 := by exact rfl) : TK n I K E H O := TK.eqO (hO.trans he) h
theorem eO7 {x0 x1 x2 x3 x4 x5 x6 : HL} (F : HL → HL → HL → HL → HL → HL → HL → List HL) (h : TK n I K E H (F x0 x1 x2 x3 x4 x5 x6)) (hO : O = [x0, x1, x2, x3, x4, x5, x6] := by exact rfl) (he : [x0, x1, x2, x3, x4, x5, x6] = F x0 x1 x2 x3 x4 x5 x6 := by exact rfl) : TK n I K E H O := TK.eqO (hO.trans he) h
theorem rS {t b off e k' m c : Nat} {x y : Operand} {arr : List Value} (i : Nat) (h : TK n I K E H (O.set i (.row e k' (.slice (some ⟨b, 0, none⟩) m c) m (arr.set off v))))
  (hO : O[i]? = some (.row e k' (.slice (some ⟨b, 0, none⟩) m c) m arr) := by exact rfl) (hz : Sz PP t 1 := by exact sC) (hx : ev E x = some (.pointer (some ⟨b, off, none⟩)) := by exact rfl) (hy : ev E y = some v := by exact rfl) (hv : v.oneCell' = true := by exact rfl) (ho : off < arr.length := by simp; omega) : TK n I (OpK PP ⟨none, .store t x y, ty, pos, af, gd⟩ K Q) E H O := tStoreRow1 hO hz hx hy hv ho h
theorem tm2 (a0 a1 : Nat) {o0 o1 : Oper} {f : Nat} {listed : Array Bool} (h0 : TK n I (OpK P o0 (fun a w => St Hs Os w ∧ AnyT P ops Q (St Hs Os) m f (listed.setIfInBounds a0 true) a w) Q) E H O) (h1 : TK n I (OpK P o1 (fun a w => St Hs Os w ∧ AnyT P ops Q (St Hs Os) m f (listed.setIfInBounds a1 true) a w) Q) E H O) (hr : Region.ready .any ops listed = [a0, a1] := by kernel_rfl) (i0 : ops[a0]? = some o0 := by exact rfl) (b0 : Nat.ble (a0 + 1) m = true := by exact rfl) (g0 : o0.guard = none := by exact rfl) (i1 : ops[a1]? = some o1 := by exact rfl) (b1 : Nat.ble (a1 + 1) m = true := by exact rfl) (g1 : o1.guard = none := by exact rfl) : TK n I (AnyT P ops Q (St Hs Os) m (f + 1) listed) E H O := by
 refine ta_many hr (by simp) ?_
 simp only [List.mem_cons, List.mem_nil_iff, or_false, forall_eq_or_imp, forall_eq]
 exact ⟨⟨_, i0, b0, g0, h0⟩, ⟨_, i1, b1, g1, h1⟩⟩
theorem tm3 (a0 a1 a2 : Nat) {o0 o1 o2 : Oper} {f : Nat} {listed : Array Bool} (h0 : TK n I (OpK P o0 (fun a w => St Hs Os w ∧ AnyT P ops Q (St Hs Os) m f (listed.setIfInBounds a0 true) a w) Q) E H O) (h1 : TK n I (OpK P o1 (fun a w => St Hs Os w ∧ AnyT P ops Q (St Hs Os) m f (listed.setIfInBounds a1 true) a w) Q) E H O) (h2 : TK n I (OpK P o2 (fun a w => St Hs Os w ∧ AnyT P ops Q (St Hs Os) m f (listed.setIfInBounds a2 true) a w) Q) E H O) (hr : Region.ready .any ops listed = [a0, a1, a2] := by kernel_rfl) (i0 : ops[a0]? = some o0 := by exact rfl) (b0 : Nat.ble (a0 + 1) m = true := by exact rfl) (g0 : o0.guard = none := by exact rfl) (i1 : ops[a1]? = some o1 := by exact rfl) (b1 : Nat.ble (a1 + 1) m = true := by exact rfl) (g1 : o1.guard = none := by exact rfl) (i2 : ops[a2]? = some o2 := by exact rfl) (b2 : Nat.ble (a2 + 1) m = true := by exact rfl) (g2 : o2.guard = none := by exact rfl) : TK n I (AnyT P ops Q (St Hs Os) m (f + 1) listed) E H O := by
 refine ta_many hr (by simp) ?_
 simp only [List.mem_cons, List.mem_nil_iff, or_false, forall_eq_or_imp, forall_eq]
 exact ⟨⟨_, i0, b0, g0, h0⟩, ⟨_, i1, b1, g1, h1⟩, ⟨_, i2, b2, g2, h2⟩⟩
theorem tm4 (a0 a1 a2 a3 : Nat) {o0 o1 o2 o3 : Oper} {f : Nat} {listed : Array Bool} (h0 : TK n I (OpK P o0 (fun a w => St Hs Os w ∧ AnyT P ops Q (St Hs Os) m f (listed.setIfInBounds a0 true) a w) Q) E H O) (h1 : TK n I (OpK P o1 (fun a w => St Hs Os w ∧ AnyT P ops Q (St Hs Os) m f (listed.setIfInBounds a1 true) a w) Q) E H O) (h2 : TK n I (OpK P o2 (fun a w => St Hs Os w ∧ AnyT P ops Q (St Hs Os) m f (listed.setIfInBounds a2 true) a w) Q) E H O) (h3 : TK n I (OpK P o3 (fun a w => St Hs Os w ∧ AnyT P ops Q (St Hs Os) m f (listed.setIfInBounds a3 true) a w) Q) E H O) (hr : Region.ready .any ops listed = [a0, a1, a2, a3] := by kernel_rfl) (i0 : ops[a0]? = some o0 := by exact rfl) (b0 : Nat.ble (a0 + 1) m = true := by exact rfl) (g0 : o0.guard = none := by exact rfl) (i1 : ops[a1]? = some o1 := by exact rfl) (b1 : Nat.ble (a1 + 1) m = true := by exact rfl) (g1 : o1.guard = none := by exact rfl) (i2 : ops[a2]? = some o2 := by exact rfl) (b2 : Nat.ble (a2 + 1) m = true := by exact rfl) (g2 : o2.guard = none := by exact rfl) (i3 : ops[a3]? = some o3 := by exact rfl) (b3 : Nat.ble (a3 + 1) m = true := by exact rfl) (g3 : o3.guard = none := by exact rfl) : TK n I (AnyT P ops Q (St Hs Os) m (f + 1) listed) E H O := by
 refine ta_many hr (by simp) ?_
 simp only [List.mem_cons, List.mem_nil_iff, or_false, forall_eq_or_imp, forall_eq]
 exact ⟨⟨_, i0, b0, g0, h0⟩, ⟨_, i1, b1, g1, h1⟩, ⟨_, i2, b2, g2, h2⟩, ⟨_, i3, b3, g3, h3⟩⟩
theorem kP {O' : List HL} (l : List Nat) (h : TK n I K E H O') (hl : l.Pairwise (· < ·) := by decide) (hO : pick O l = O' := by exact rfl) : TK n I K E H O := TK.keep l hl hO h
theorem eX {α : Type} {r : Rep α} {xs : List α} {A : Option Addr} {n c : Nat} (h : Sl r H xs A n c) (i : Nat) (hi : i < n := by omega) : ∃ x, xs[i]? = some x := Sl.ex h hi
theorem tR {α : Type} {r : Rep α} {e m c' : Nat} {B : Option Addr} {cs : List Value} {ys : List α} (i : Nat) (hr : Reps r H ys cs) (h : ∀ H', Ghost.le H H' → Sl r H' ys B m c' → TK n I K E H' (O.eraseIdx i)) (hO : O[i]? = some (.row e r.k (.slice B m c') m cs) := by exact rfl) (hk : 0 < r.k := by decide) (hlen : m ≤ 140737488355328 := by omega) : TK n I K E H O := tSealRow hO hr hk hlen h
theorem rD {fn : Func} {R : Value → Ghost → List HL → Prop} {O' : List HL} {b ty t u k : Nat} {cs : List Value} (i : Nat) (l : List Nat) (hr : fn.results = #[.cell t ty, .tmp u]) (h : R (.tuple #[.agg cs.toArray, v]) H O') (hQ : Q .ret = Fin PP fn I R .ret := by exact rfl) (hO : O[i]? = some (.blk b ty cs) := by exact rfl) (hA : Agg PP ty true := by exact aC) (hz : Sz PP ty k := by exact sC) (hk : cs.length = k := by exact rfl) (ht : look E t = some (.pointer (some ⟨b, 0, none⟩)) := by exact rfl) (hu : look E u = some v := by exact rfl)
  (hp : pick O l = O' := by exact rfl) (hl : l.Pairwise (· < ·) := by decide) : TK n I (Code.ret.wp PP Q) E H O := TK.ret (hQ ▸ TK.retC2 l hl hr hO hA hz hk ht hu hp h)
theorem rC {fn : Func} {R : Value → Ghost → List HL → Prop} {O' : List HL} {b ty t k : Nat} {cs : List Value} (i : Nat) (l : List Nat) (hr : fn.results = #[.cell t ty]) (h : R (.agg cs.toArray) H O') (hQ : Q .ret = Fin PP fn I R .ret := by exact rfl) (hO : O[i]? = some (.blk b ty cs) := by exact rfl) (hA : Agg PP ty true := by exact aC) (hz : Sz PP ty k := by exact sC) (hk : cs.length = k := by exact rfl) (ht : look E t = some (.pointer (some ⟨b, 0, none⟩)) := by exact rfl)
  (hp : pick O l = O' := by exact rfl) (hl : l.Pairwise (· < ·) := by decide) : TK n I (Code.ret.wp PP Q) E H O := TK.ret (hQ ▸ TK.retC1 l hl hr hO hA hz hk ht hp h)
theorem r2 {fn : Func} {R : Value → Ghost → List HL → Prop} {t u : Nat} {v' : Value} (hr : fn.results = #[.tmp t, .tmp u]) (h : R (.tuple #[v, v']) H O) (hQ : Q .ret = Fin P fn I R .ret := by exact rfl) (hv : look E t = some v := by exact rfl) (hv' : look E u = some v' := by exact rfl) : TK n I (Code.ret.wp P Q) E H O := TK.ret (hQ ▸ TK.ret2 hr hv hv' h)
theorem s1 {A B : Prop} (k : B) (h : Bx B → A := by
 intro h
 first
 | (refine shO ?_
    first
    | refine q yY rfl rfl rfl ?_
    | refine qN rfl rfl rfl rfl rfl rfl ?_
    | refine qY yY rfl rfl rfl rfl rfl rfl ?_
    | refine qU rfl rfl rfl rfl rfl ?_)
 | (refine shN ?_; refine sgN aS rfl ?_)
 | (refine shC ?_
    first
    | refine TK.region rfl ?_
    | refine TK.block ?_
    | (refine shS ?_; refine sgS aS rfl ?_)
    | (refine shE ?_; refine sgE aS rfl ?_)
    | refine TK.condY rfl rfl ?_
    | refine TK.condN rfl rfl ?_)
 | (refine shA ?_
    first
    | refine tnx ?_
    | refine tnxN ?_
    | refine tnxY ?_
    | refine tnxU ?_)
 | (refine shZ ?_; refine ta_tail rfl dK rfl dK ?_)
 | refine ta_next kS ?_
 exact h.m) : A := h ⟨k⟩
theorem t0 {A B : Prop} (k : B) (h : Bx B → A := by
 intro h
 first
 | refine tj 0 ?_
 | refine tjY 0 ?_
 | refine tjN 0 ?_
 | refine tjU 0 ?_
 exact h.m) : A := h ⟨k⟩
end
end
end Go.Proofs.YtookcfeogbeooaaGreatDoor
