/-
One lemma for each kind of operation: what it does to a symbolic state. Data in memory: what it means that sealed cells, and rows that are owned, hold a list of data.
Conditions: those that each theorem states.
-/
import Derived.Test.YtookcfeogbeooaaGreatDoorM1
import Derived.Deep.OwnRows
import Derived.Laws.IdiomCopy
import Derived.IntWalk
set_option linter.all false
set_option maxRecDepth 100000
set_option maxHeartbeats 8000000
set_option autoImplicit true
set_option relaxedAutoImplicit true
namespace Go.Proofs.YtookcfeogbeooaaGreatDoor
open Go Go.Proofs
section
def Sz (P : Program) (t : TypeId) (k : Nat) : Prop := ∀ w, (sizeOf t).run P w = .ok k w
def Agg (P : Program) (t : TypeId) (b : Bool) : Prop := ∀ w, (isAgg t).run P w = .ok b w
def Zc (P : Program) (t : TypeId) (cs : LV) : Prop := ∃ z : Value, (∀ w, (zeroValue t).run P w = .ok z w) ∧ z.cells = cs.toArray
def FieldAt (P : Program) (s k off : Nat) : Prop := ∀ b o w, (Instr.fieldAt s (.pointer (some ⟨b, o, none⟩)) k).run P w = .ok (.pointer (some ⟨b, o + off, none⟩)) w
def InfoT (P : Program) (e : TypeId) (z : Value) (k bytes : Nat) : Prop := (P.info? e).map (fun i => (i.zero, i.size, i.bytes)) = some (some z, k, bytes)
section
variable {P : Program} {n : Nat} {I : Init} {K : Act → World → Prop} {E : Env} {H : Ghost} {O : List HL} {Q : Exit → Act → World → Prop}
 {dst : Option Nat} {ty : TypeId} {pos : String} {af : Array Edge} {gd : Option (Nat × Bool)}
theorem addr_add (b o k : Nat) : (⟨b, o, none⟩ : Addr).add k = ⟨b, o + k, none⟩ := by unfold Addr.add; split <;> simp_all
theorem fieldAt_of {P : Program} {k off : Nat} {fs : Array Field} (hu : P.underlying s = some (.struct fs)) (hf : fs[k]? = some f) (ho : f.offset = off) (hs : Sz P f.type sz) (hz : sz ≠ 0) : FieldAt P s k off := by
 intro b o w
 have h5 := hs w
 have h4 : (fieldPlace ⟨b, o, none⟩ f).run P w = .ok ⟨b, o + off, none⟩ w := by
  unfold fieldPlace
  simp only [Sem.run_bind, h5, Result.andThen_ok, if_neg hz, Sem.run_pure, addr_add, ho]
 simp only [Instr.fieldAt, Sem.run_bind, run_underlying hu, Result.andThen_ok, hf, Instr.sureAddr, Sem.run_pure, h4]
theorem yMove (hx : ev E x = some v) : Yl P n E H O ⟨dst, .move x, ty, pos, af, gd⟩ v := by
 intro a w ha _
 simp only [execOp, ha.eval hx, Sem.run_pure]
theorem yAssign (hx : ev E x = some v) : Yl P n E H O ⟨dst, .assign x, ty, pos, af, gd⟩ v := by
 intro a w ha _
 simp only [execOp, ha.eval hx, Sem.run_pure]
theorem yPickT {y : Operand} {b : Bool} (hc : ev E c = some (.bool b)) (hb : b = true) (hx : ev E x = some v) : Yl P n E H O ⟨dst, .pick c x y, ty, pos, af, gd⟩ v := by
 intro a w ha _
 simp [execOp, ha.eval hc, asBool, hb, ha.eval hx]
theorem yPickF {x : Operand} {b : Bool} (hc : ev E c = some (.bool b)) (hb : b = false) (hy : ev E y = some v) : Yl P n E H O ⟨dst, .pick c x y, ty, pos, af, gd⟩ v := by
 intro a w ha _
 simp [execOp, ha.eval hc, asBool, hb, ha.eval hy]
theorem yNilCheck {p : Addr} (hx : ev E x = some (.pointer (some p))) : Yl P n E H O ⟨dst, .nilCheck x, ty, pos, af, gd⟩ (.pointer (some p)) := by
 intro a w ha _
 simp [execOp, ha.eval hx]
theorem yInt {op : BinOp} {t t' : TypeId} {k : IntKind} {p q : Int} {v : Value} (hx : ev E x = some (.int k p)) (hy : ev E y = some (.int k q)) (hg : ∀ w, (eqGuard op t x y (.int k p) (.int k q)).run P w = .ok () w) (h : ∀ w, (binOp op t (.int k p) (.int k q)).run P w = .ok v w) : Yl P n E H O ⟨dst, .binOp op t x y t', ty, pos, af, gd⟩ v := by
 intro a w ha _
 simp only [execOp, ha.eval hx, ha.eval hy, Sem.run_bind, hg w, Result.andThen_ok, h w, Sem.run_pure]
theorem eqGuard_int (op : BinOp) (t : TypeId) (x y : Operand) (k k' : IntKind) (p q : Int) (w : World) : (eqGuard op t x y (.int k p) (.int k' q)).run P w = .ok () w := by
 unfold eqGuard
 cases op <;> rfl
theorem eqGuard_str (op : BinOp) (t : TypeId) (x y : Operand) (p q : BA) (w : World) : (eqGuard op t x y (.string p) (.string q)).run P w = .ok () w := by
 unfold eqGuard
 cases op <;> rfl
theorem eqGuard_bool (op : BinOp) (t : TypeId) (x y : Operand) (p q : Bool) (w : World) : (eqGuard op t x y (.bool p) (.bool q)).run P w = .ok () w := by
 unfold eqGuard
 cases op <;> rfl
theorem wrap_id {p : Int} (h0 : -9223372036854775808 ≤ p) (h1 : p ≤ 9223372036854775807) : IntKind.i64.wrap p = p := IntWalk.i64_in p ⟨h0, h1⟩
section
variable {t t' : TypeId} {x y : Operand} {k : IntKind} {p q : Int}
theorem yAdd (hx : ev E x = some (.int .i64 p)) (hy : ev E y = some (.int .i64 q)) (h0 : -9223372036854775808 ≤ p + q) (h1 : p + q ≤ 9223372036854775807) : Yl P n E H O ⟨dst, .binOp .add t x y t', ty, pos, af, gd⟩ (.int .i64 (p + q)) :=
 yInt hx hy (eqGuard_int _ _ _ _ _ _ _ _) fun w => by simp [binOp, Op.intArith, wrap_id h0 h1]
theorem ySub (hx : ev E x = some (.int .i64 p)) (hy : ev E y = some (.int .i64 q)) (h0 : -9223372036854775808 ≤ p - q) (h1 : p - q ≤ 9223372036854775807) : Yl P n E H O ⟨dst, .binOp .sub t x y t', ty, pos, af, gd⟩ (.int .i64 (p - q)) :=
 yInt hx hy (eqGuard_int _ _ _ _ _ _ _ _) fun w => by simp [binOp, Op.intArith, wrap_id h0 h1]
theorem yMul (hx : ev E x = some (.int .i64 p)) (hy : ev E y = some (.int .i64 q)) (h0 : -9223372036854775808 ≤ p * q) (h1 : p * q ≤ 9223372036854775807) : Yl P n E H O ⟨dst, .binOp .mul t x y t', ty, pos, af, gd⟩ (.int .i64 (p * q)) :=
 yInt hx hy (eqGuard_int _ _ _ _ _ _ _ _) fun w => by simp [binOp, Op.intArith, wrap_id h0 h1]
theorem yAddW (hx : ev E x = some (.int .i64 p)) (hy : ev E y = some (.int .i64 q)) : Yl P n E H O ⟨dst, .binOp .add t x y t', ty, pos, af, gd⟩ (.int .i64 (IntKind.i64.wrap (p + q))) :=
 yInt hx hy (eqGuard_int _ _ _ _ _ _ _ _) fun w => by simp [binOp, Op.intArith]
theorem yMod (hx : ev E x = some (.int .i64 p)) (hy : ev E y = some (.int .i64 q)) (h0 : 0 ≤ p) (h1 : 0 < q) : Yl P n E H O ⟨dst, .binOp .rem t x y t', ty, pos, af, gd⟩ (.int .i64 (p % q)) :=
 yInt hx hy (eqGuard_int _ _ _ _ _ _ _ _) fun w => by
  have : q ≠ 0 := by omega
  simp [binOp, Op.intDiv, this, Int.tmod_eq_emod_of_nonneg h0]
theorem yLss (hx : ev E x = some (.int k p)) (hy : ev E y = some (.int k q)) : Yl P n E H O ⟨dst, .binOp .lss t x y t', ty, pos, af, gd⟩ (.bool (decide (p < q))) :=
 yInt hx hy (eqGuard_int _ _ _ _ _ _ _ _) fun w => by simp [binOp, Op.intCmp]
theorem yLeq (hx : ev E x = some (.int k p)) (hy : ev E y = some (.int k q)) : Yl P n E H O ⟨dst, .binOp .leq t x y t', ty, pos, af, gd⟩ (.bool (decide (p ≤ q))) :=
 yInt hx hy (eqGuard_int _ _ _ _ _ _ _ _) fun w => by simp [binOp, Op.intCmp]
theorem yGtr (hx : ev E x = some (.int k p)) (hy : ev E y = some (.int k q)) : Yl P n E H O ⟨dst, .binOp .gtr t x y t', ty, pos, af, gd⟩ (.bool (decide (q < p))) :=
 yInt hx hy (eqGuard_int _ _ _ _ _ _ _ _) fun w => by simp [binOp, Op.intCmp]
theorem yGeq (hx : ev E x = some (.int k p)) (hy : ev E y = some (.int k q)) : Yl P n E H O ⟨dst, .binOp .geq t x y t', ty, pos, af, gd⟩ (.bool (decide (q ≤ p))) :=
 yInt hx hy (eqGuard_int _ _ _ _ _ _ _ _) fun w => by simp [binOp, Op.intCmp]
theorem yEql (hx : ev E x = some (.int k p)) (hy : ev E y = some (.int k q)) : Yl P n E H O ⟨dst, .binOp .eql t x y t', ty, pos, af, gd⟩ (.bool (decide (p = q))) :=
 yInt hx hy (eqGuard_int _ _ _ _ _ _ _ _) fun w => by simp only [binOp, Op.intCmp, ne_eq, not_true_eq_false, if_false, Sem.run_pure]; rfl
theorem yNeq (hx : ev E x = some (.int k p)) (hy : ev E y = some (.int k q)) : Yl P n E H O ⟨dst, .binOp .neq t x y t', ty, pos, af, gd⟩ (.bool (!decide (p = q))) :=
 yInt hx hy (eqGuard_int _ _ _ _ _ _ _ _) fun w => by simp only [binOp, Op.intCmp, ne_eq, not_true_eq_false, if_false, Sem.run_pure]; rfl
theorem yStr {op : BinOp} {s r : BA} {v : Value} (hx : ev E x = some (.string s)) (hy : ev E y = some (.string r)) (h : ∀ w, (Op.stringOp op s r).run P w = .ok v w) (hop : op ≠ .shl ∧ op ≠ .shr) : Yl P n E H O ⟨dst, .binOp op t x y t', ty, pos, af, gd⟩ v := by
 intro a w ha _
 have h2 : (binOp op t (.string s) (.string r)).run P w = .ok v w := by rw [← h w]; cases op <;> rfl
 simp only [execOp, ha.eval hx, ha.eval hy, Sem.run_bind, eqGuard_str, Result.andThen_ok, h2, Sem.run_pure]
theorem toList_beq (s r : BA) : (s.toList == r.toList) = decide (s = r) := by
 rw [ByteArray.toList_eq, ByteArray.toList_eq, Bool.eq_iff_iff]
 simp only [beq_iff_eq, decide_eq_true_eq]
 refine ⟨fun h => ?_, fun h => by rw [h]⟩
 cases s; cases r
 simp only [ByteArray.mk.injEq]
 exact Array.ext' h
theorem yEqlS {s r : BA} (hx : ev E x = some (.string s)) (hy : ev E y = some (.string r)) : Yl P n E H O ⟨dst, .binOp .eql t x y t', ty, pos, af, gd⟩ (.bool (decide (s = r))) :=
 yStr hx hy (fun w => by simp only [Op.stringOp, toList_beq, Sem.run_pure]) dC
theorem yNeqS {s r : BA} (hx : ev E x = some (.string s)) (hy : ev E y = some (.string r)) : Yl P n E H O ⟨dst, .binOp .neq t x y t', ty, pos, af, gd⟩ (.bool (!decide (s = r))) :=
 yStr hx hy (fun w => by simp only [Op.stringOp, toList_beq, Sem.run_pure]) dC
theorem yLssS {s r : BA} (hx : ev E x = some (.string s)) (hy : ev E y = some (.string r)) : Yl P n E H O ⟨dst, .binOp .lss t x y t', ty, pos, af, gd⟩ (.bool (Op.bytesLess s.toList r.toList)) :=
 yStr hx hy (fun w => by simp only [Op.stringOp, Sem.run_pure]) dC
theorem yGeqS {s r : BA} (hx : ev E x = some (.string s)) (hy : ev E y = some (.string r)) : Yl P n E H O ⟨dst, .binOp .geq t x y t', ty, pos, af, gd⟩ (.bool (!Op.bytesLess s.toList r.toList)) :=
 yStr hx hy (fun w => by simp only [Op.stringOp, Sem.run_pure]) dC
theorem yGtrS {s r : BA} (hx : ev E x = some (.string s)) (hy : ev E y = some (.string r)) : Yl P n E H O ⟨dst, .binOp .gtr t x y t', ty, pos, af, gd⟩ (.bool (!(Op.bytesLess s.toList r.toList || decide (s = r)))) :=
 yStr hx hy (fun w => by simp only [Op.stringOp, toList_beq, Sem.run_pure]) dC
theorem yNot {b : Bool} (hx : ev E x = some (.bool b)) : Yl P n E H O ⟨dst, .unOp .not t x, ty, pos, af, gd⟩ (.bool (!b)) := by
 intro a w ha _
 simp [execOp, ha.eval hx, Op.unary]
end
theorem yFieldAddr {k b o : Nat} (hf : FieldAt P s k off) (hx : ev E x = some (.pointer (some ⟨b, o, none⟩))) : Yl P n E H O ⟨dst, .fieldAddr s x k, ty, pos, af, gd⟩ (.pointer (some ⟨b, o + off, none⟩)) := by
 intro a w ha _
 simp only [execOp, ha.eval hx, Sem.run_bind, hf b o w, Result.andThen_ok, Sem.run_pure]
theorem yIndexAddr {t e k b o m c : Nat} {ik : IntKind} {i : Int} (ht : P.underlying t = some (.slice e)) (hs : Sz P e k) (hx : ev E x = some (.slice (some ⟨b, o, none⟩) m c)) (hy : ev E y = some (.int ik i)) (h0 : 0 ≤ i) (h1 : i < m) :
  Yl P n E H O ⟨dst, .indexAddr t x y, ty, pos, af, gd⟩ (.pointer (some ⟨b, o + i.toNat * k, none⟩)) := by
 intro a w ha _
 simp only [execOp, ha.eval hx, ha.eval hy, Instr.indexAt, asIntOf, Sem.run_bind, Sem.run_pure, Result.andThen_ok, run_underlying ht]
 simp only [h0, h1, and_self, if_true, Sem.run_bind, hs w, Result.andThen_ok, Sem.run_pure, addr_add]
theorem yIndexStr {t : TypeId} {ik : IntKind} {i : Int} {s : BA} (ht : P.underlying t = some .string) (hx : ev E x = some (.string s)) (hy : ev E y = some (.int ik i)) (h0 : 0 ≤ i) (hc : s[i.toNat]? = some c) :
  Yl P n E H O ⟨dst, .index t x y, ty, pos, af, gd⟩ (.int .u8 c.toNat) := by
 intro a w ha _
 simp only [execOp, ha.eval hx, ha.eval hy, Instr.index, asIntOf, Sem.run_bind, Sem.run_pure, Result.andThen_ok, run_underlying ht]
 simp only [h0, if_true, hc, Sem.run_pure, Result.andThen_ok]
theorem yExtract {vs : Array Value} {i : Nat} (hx : ev E x = some (.tuple vs)) (hv : vs[i]? = some v) : Yl P n E H O ⟨dst, .extract x i, ty, pos, af, gd⟩ v := by
 intro a w ha _
 simp only [execOp, ha.eval hx, Instr.extract, hv, Sem.run_bind, Sem.run_pure, Result.andThen_ok]
theorem yLenSlice {t e m c : Nat} {A : OA} (ht : P.underlying t = some (.slice e)) (hx : ev E x = some (.slice A m c)) : Yl P n E H O ⟨dst, .call { callee := .builtin .len, args := #[x], argTypes := #[t] }, ty, pos, af, gd⟩ (.int .i64 m) := by
 intro a w ha _
 simp only [execOp, resolve, invoke, builtin, Sem.run_bind, Sem.run_pure, Result.andThen_ok, List.map_toArray, List.map_cons, List.map_nil, ha.eval hx]
 simp [Builtin.len_, run_underlying ht, goInt]
theorem yLenStr {t : Nat} {s : BA} (ht : P.underlying t = some .string) (hx : ev E x = some (.string s)) : Yl P n E H O ⟨dst, .call { callee := .builtin .len, args := #[x], argTypes := #[t] }, ty, pos, af, gd⟩ (.int .i64 s.size) := by
 intro a w ha _
 simp only [execOp, resolve, invoke, builtin, Sem.run_bind, Sem.run_pure, Result.andThen_ok, List.map_toArray, List.map_cons, List.map_nil, ha.eval hx]
 simp [Builtin.len_, run_underlying ht, goInt]
theorem yMakeFunc {fn : Fn} (hf : evs E fs = some us) (hc : evs E cs = some vs) : Yl P n E H O ⟨dst, .makeFunc fn fs.toArray cs.toArray, ty, pos, af, gd⟩ (.func fn us.toArray vs.toArray) := by
 intro a w ha _
 simp only [execOp, List.map_toArray, evs_eval ha hf, evs_eval ha hc, Instr.makeFunc, Sem.run_bind, Sem.run_pure, Result.andThen_ok]
def Mem (H : Ghost) (O : List HL) (b off : Nat) (cs : LV) : Prop := ∀ w, St H O w → ∀ j c, cs[j]? = some c → w.cell? ⟨b, off + j, none⟩ = some c
def HC (H : Ghost) (b off : Nat) (cs : LV) : Prop := ∃ arr e fr, H b = some (.cells arr e fr) ∧ ∀ j c, cs[j]? = some c → arr[off + j]? = some c
theorem HC.mono (h : HC H b off cs) (hle : Ghost.le H H') : HC H' b off cs := by
 obtain ⟨arr, e, fr, hb, hc⟩ := h
 exact ⟨arr, e, fr, hle _ _ hb, hc⟩
theorem HC.part (h : HC H b off cs) (i m : Nat) : HC H b (off + i) ((cs.drop i).take m) := by
 obtain ⟨arr, e, fr, hb, hc⟩ := h
 refine ⟨arr, e, fr, hb, fun j c hj => ?_⟩
 rw [List.getElem?_take] at hj
 split at hj
 ·rw [List.getElem?_drop] at hj
  have := hc _ _ hj
  rwa [Nat.add_assoc]
 ·cases hj
theorem HC.mem (h : HC H b off cs) : Mem H O b off cs := by
 obtain ⟨arr, e, fr, hb, hc⟩ := h
 intro w hs j c hj
 have := hs.ghost _ _ hb
 simp [World.cell?, this, hc j c hj]
theorem Mem.blk {i b e : Nat} {arr cs : LV} (hO : O[i]? = some (.blk b e arr)) (hc : (arr.drop off).take cs.length = cs) : Mem H O b off cs := by
 intro w hs j c hj
 have hb : w.heap[b]? = some (.cells arr.toArray e (0, 0)) := hs.own _ (mG hO)
 have h4 : j < cs.length := (gE hj).1
 rw [← hc, List.getElem?_take, if_pos h4, List.getElem?_drop] at hj
 simp [World.cell?, hb, hj]
theorem Mem.row {i b m c e k : Nat} {arr cs : LV} (hO : O[i]? = some (.row e k (.slice (some ⟨b, 0, none⟩) m c) m arr)) (hc : (arr.drop off).take cs.length = cs) : Mem H O b off cs := by
 intro w hs j u hj
 have hb : w.ownsRow 0 e k (.slice (some ⟨b, 0, none⟩) m c) m arr := hs.own _ (mG hO)
 have h4 : j < cs.length := (gE hj).1
 rw [← hc, List.getElem?_take, if_pos h4, List.getElem?_drop] at hj
 have := hb.cells (g := b) rfl (off + j) u hj
 rwa [addr_add, Nat.zero_add] at this
theorem Mem.row1 {i b m c off e k : Nat} {arr : LV} (hO : O[i]? = some (.row e k (.slice (some ⟨b, 0, none⟩) m c) m arr)) (hc : arr[off]? = some v) : Mem H O b off [v] := by
 intro w hs j u hj
 have hb : w.ownsRow 0 e k (.slice (some ⟨b, 0, none⟩) m c) m arr := hs.own _ (mG hO)
 have h4 : j < 1 := (gE hj).1
 obtain rfl : j = 0 := by omega
 simp only [List.getElem?_cons_zero, Option.some.injEq] at hj
 subst hj
 have := hb.cells (g := b) rfl off v hc
 rwa [addr_add, Nat.zero_add] at this
theorem yLoad1 {t b off : Nat} {v : Value} (ht : Agg P t false) (hx : ev E x = some (.pointer (some ⟨b, off, none⟩))) (hm : Mem H O b off [v]) : Yl P n E H O ⟨dst, .load t x, ty, pos, af, gd⟩ v := by
 intro a w ha hs
 have := hm w hs 0 v rfl
 simp only [Nat.add_zero] at this
 simp only [execOp, ha.eval hx, Instr.loadAt, Instr.sureAddr, loadVar, Sem.run_bind, Sem.run_pure, Result.andThen_ok, ht w, Bool.false_eq_true, if_false, run_load, this]
theorem yLoadA {t b off k : Nat} (ht : Agg P t true) (hz : Sz P t k) (hx : ev E x = some (.pointer (some ⟨b, off, none⟩))) (hm : Mem H O b off cs) (hk : cs.length = k) : Yl P n E H O ⟨dst, .load t x, ty, pos, af, gd⟩ (.agg cs.toArray) := by
 intro a w ha hs
 subst hk
 have h1 := run_loadCells_list (P := P) w ⟨b, off, none⟩ cs (fun j v hj => by rw [addr_add]; exact hm w hs j v hj)
 simp only [execOp, ha.eval hx, Instr.loadAt, Instr.sureAddr, loadVar, Sem.run_bind, Sem.run_pure, Result.andThen_ok, ht w, hz w, if_true, h1]
theorem Step.alloc {w : World} {o : Obj} {h : HL} (hs : St H [] w) (hf : h.fp = [w.heap.size]) (hsat : h.sat (w.alloc o)) : Step H [] w H [h] (w.alloc o) := by
 refine ⟨⟨fun b p hb => ?_, fun x hx => ?_, fun b hb => ?_, ?_⟩, Ghost.le.refl _, rfl, rfl, rfl, by simp, fun b hb _ => heap_alloc_old w o hb, fun b p hb => .inl (by rw [hb]; simp), fun b hb => ?_, fun _ => Nat.le_refl _⟩
 ·have := hs.ghost b p hb
  rw [heap_alloc_old w o (Array.getElem?_eq_some_iff.1 this).1]
  exact this
 ·simp only [List.mem_singleton] at hx
  subst hx
  exact hsat
 ·simp only [fps, List.flatMap_cons, List.flatMap_nil, List.append_nil, hf, List.mem_singleton] at hb
  subst hb
  refine ⟨?_, by simp⟩
  cases hc : H w.heap.size with
  | none => rfl
  | some p => have := hs.lt hc; omega
 ·simp [fps, hf]
 ·simp only [fps, List.flatMap_cons, List.flatMap_nil, List.append_nil, hf, List.mem_singleton] at hb
  exact .inr oM
theorem St.drew {w : World} (hs : St H O w) (m : Nat) : St H O { w with drawn := m } :=
 ⟨hs.ghost, fun x hx => HL.sat_local (w := w) (fun _ _ => rfl) (hs.own x hx), hs.apart, hs.nodup⟩
theorem Step.drew {w : World} (hs : St H O w) (m : Nat) (hm : w.drawn ≤ m := by simp) : Step H O w H O { w with drawn := m } :=
 ⟨hs.drew m, Ghost.le.refl _, rfl, rfl, rfl, Nat.le_refl _, fun _ _ _ => rfl, fun b p hb => .inl (by rw [hb]; simp), fun b hb => .inl hb, fun _ => hm⟩
theorem tAlloc {t d : Nat} (hz : Zc P t cs) (hd : d < n) (h : ∀ b, TK n I K ((d, .pointer (some ⟨b, 0, none⟩)) :: E) H (.blk b t cs :: O)) : TK n I (OpK P ⟨some d, .alloc t, ty, pos, af, gd⟩ K Q) E H O := by
 obtain ⟨z, hz, hc⟩ := hz
 refine TK.run rfl hd fun a w ha hs => ⟨_, w.alloc (.cells cs.toArray t), H, .blk w.heap.size t cs :: O, ?_, Step.new_ (O' := [.blk w.heap.size t cs]) hs (fun h0 => Step.alloc h0 rfl (heap_alloc_new w _)), h _⟩
 simp [execOp, Instr.alloc, hz w, newVar, newRow, hc]
theorem tBox {t d : Nat} {cs : LV} (hx : ev E x = some v) (hc : v.cells = cs.toArray) (hd : d < n) (h : ∀ b, TK n I K ((d, .pointer (some ⟨b, 0, none⟩)) :: E) H (.blk b t cs :: O)) : TK n I (OpK P ⟨some d, .box t x, ty, pos, af, gd⟩ K Q) E H O := by
 refine TK.run rfl hd fun a w ha hs => ⟨_, w.alloc (.cells cs.toArray t), H, .blk w.heap.size t cs :: O, ?_, Step.new_ (O' := [.blk w.heap.size t cs]) hs (fun h0 => Step.alloc h0 rfl (heap_alloc_new w _)), h _⟩
 simp [execOp, Instr.box, ha.eval hx, newVar, newRow, hc]
theorem tMakeMap {t d : Nat} (hd : d < n) (h : ∀ b, TK n I K ((d, .map (some b)) :: E) H (.map b [] :: O)) : TK n I (OpK P ⟨some d, .makeMap t none, ty, pos, af, gd⟩ K Q) E H O := by
 refine TK.run rfl hd fun a w ha hs => ⟨_, w.alloc (.map #[] 0), H, .map w.heap.size [] :: O, ?_, Step.new_ (O' := [.map w.heap.size []]) hs (fun h0 => Step.alloc h0 rfl ⟨#[], 0, heap_alloc_new w _, rfl, by simp, by simp⟩), h _⟩
 simp [execOp, Instr.makeMap]
theorem ownsRow_new (w : World) (e k m : Nat) (cs : LV) (hl : cs.length = m * k) (hm : m ≤ maxLen) : (w.alloc (.cells cs.toArray e)).ownsRow 0 e k (.slice (some ⟨w.heap.size, 0, none⟩) m m) m cs :=
 ⟨hl, .inr ⟨w.heap.size, m, cs.toArray, rfl, Nat.zero_le _, heap_alloc_new w _, Nat.le_refl _, hm, by simpa using hl, by simp [← hl]⟩⟩
theorem madeCells1 (z : Value) (m : Nat) : madeCells #[z] m = (List.replicate m z).toArray := by
 apply Array.ext
 ·simp [madeCells]
 ·intro i h1 h2
  simp [madeCells, Nat.mod_one]
theorem tMake {t e d bytes : Nat} {m : Int} (ht : P.underlying t = some (.slice e)) (hi : InfoT P e z 1 bytes) (hz : z.cells = #[z]) (hx : ev E x = some (.int .i64 m)) (hy : ev E y = some (.int .i64 m)) (h0 : 0 ≤ m) (hb : bytes * m.toNat ≤ 140737488355328) (h63 : m ≤ 9223372036854775807) (hd : d < n) (h : ∀ b, TK n I K ((d, .slice (some ⟨b, 0, none⟩) m.toNat m.toNat) :: E) H (.row e 1 (.slice (some ⟨b, 0, none⟩) m.toNat m.toNat) m.toNat (List.replicate m.toNat z) :: O)) : TK n I (OpK P ⟨some d, .makeSlice t x y, ty, pos, af, gd⟩ K Q) E H O := by
 obtain ⟨m', rfl⟩ := Int.eq_ofNat_of_zero_le h0
 simp only [Int.toNat_natCast] at hb h
 refine TK.run rfl hd fun a w ha hs => ⟨_, w.alloc (.cells (List.replicate m' z).toArray e), H, .row e 1 (.slice (some ⟨w.heap.size, 0, none⟩) m' m') m' (List.replicate m' z) :: O, ?_,
  Step.new_ (O' := [.row e 1 (.slice (some ⟨w.heap.size, 0, none⟩) m' m') m' (List.replicate m' z)]) hs (fun h0 => Step.alloc h0 rfl (ownsRow_new w e 1 m' _ (by simp) (by simp only [maxLen]; omega))), h _⟩
 have := run_make_row' (P := P) t e z bytes ht hi hz .i64 .i64 m' oM oM w
 simp only [execOp, ha.eval hx, ha.eval hy, Sem.run_bind, this, Result.andThen_ok, Sem.run_pure, madeCells1]
theorem heap_setRow {w : World} {b : Nat} {arr : Array Value} {e : TypeId} {fr : Nat × Nat} (hb : w.heap[b]? = some (.cells arr e fr)) (cs : Array Value) : (w.setRow b cs).heap[b]? = some (.cells cs e fr) := setRow_heap w b arr cs e fr hb
theorem Step.setRow {w : World} {b : Nat} {h h' : HL} (hs : St H [h] w) (hf : h.fp = [b]) (hf' : h'.fp = [b]) (hsat : h'.sat (w.setRow b cs)) : Step H [h] w H [h'] (w.setRow b cs) := by
 have h4 : b ∈ fps [h] := by simp [fps, hf]
 have h5 := (hs.apart b h4)
 refine ⟨⟨fun g p hg => ?_, fun x hx => ?_, fun g hg => ?_, ?_⟩, Ghost.le.refl _, rfl, rfl, rfl, by simp, fun g hg hn => setRow_other w b g cs (fun e => hn (e ▸ h4)), fun g p hg => .inl (by rw [hg]; simp), fun g hg => ?_, fun _ => Nat.le_refl _⟩
 ·rw [setRow_other w b g cs (fun e => by rw [e, h5.1] at hg; cases hg)]
  exact hs.ghost g p hg
 ·simp only [List.mem_singleton] at hx
  subst hx
  exact hsat
 ·simp only [fps, List.flatMap_cons, List.flatMap_nil, List.append_nil, hf', List.mem_singleton] at hg
  subst hg
  exact ⟨h5.1, by simpa using h5.2⟩
 ·simp [fps, hf']
 ·simp only [fps, List.flatMap_cons, List.flatMap_nil, List.append_nil, hf', List.mem_singleton] at hg
  subst hg
  exact .inl h4
theorem run_store1 {w : World} {t b off e : Nat} {arr : LV} {v : Value} (hz : Sz P t 1) (hv : v.oneCell' = true) (hb : w.heap[b]? = some (.cells arr.toArray e (0, 0))) (ho : off < arr.length) : (Instr.storeAt t (.pointer (some ⟨b, off, none⟩)) v).run P w = .ok () (w.setRow b (arr.set off v).toArray) := by
 have hc : v.cells = #[v] := by cases v <;> first | rfl | (simp [Value.oneCell'] at hv)
 have h4 := run_storeCells_at P b off e [v] 0 arr.toArray w hb (by simp; omega) (by simpa using hv)
 simp only [Instr.storeAt, Instr.sureAddr, storeVar, Sem.run_bind, Sem.run_pure, Result.andThen_ok, hz w, hc]
 simp only [List.size_toArray, List.length_singleton, ne_eq, not_true_eq_false, if_false, h4]
 have : List.take (off + 0) arr ++ [v] ++ List.drop (off + 0 + [v].length) arr = arr.set off v := by
  rw [List.set_eq_take_append_cons_drop, if_pos ho]
  simp
 simpa using congrArg (fun l => Result.ok () (w.setRow b (List.toArray l))) this
theorem run_storeA {w : World} {t b off k e : Nat} {arr cs : LV} {v : Value} (hz : Sz P t k) (hv : v.cells = cs.toArray) (hk : cs.length = k) (h1 : ∀ u ∈ cs, u.oneCell' = true) (hb : w.heap[b]? = some (.cells arr.toArray e (0, 0))) (ho : off + k ≤ arr.length) :
  (Instr.storeAt t (.pointer (some ⟨b, off, none⟩)) v).run P w = .ok () (w.setRow b (arr.take off ++ cs ++ arr.drop (off + k)).toArray) := by
 subst hk
 have h4 := run_storeCells_at P b off e cs 0 arr.toArray w hb (by simpa using ho) h1
 simp only [Instr.storeAt, Instr.sureAddr, storeVar, Sem.run_bind, Sem.run_pure, Result.andThen_ok, hz w, hv]
 simp only [List.size_toArray, ne_eq, not_true_eq_false, if_false, h4]
 simp
theorem tStore1 {i t b off e : Nat} {arr : LV} (hO : O[i]? = some (.blk b e arr)) (hz : Sz P t 1) (hx : ev E x = some (.pointer (some ⟨b, off, none⟩))) (hy : ev E y = some v) (hv : v.oneCell' = true) (ho : off < arr.length) (h : TK n I K E H (O.set i (.blk b e (arr.set off v)))) : TK n I (OpK P ⟨none, .store t x y, ty, pos, af, gd⟩ K Q) E H O := by
 refine TK.runSkip rfl fun a w ha hs => ⟨w.setRow b (arr.set off v).toArray, H, O.set i (.blk b e (arr.set off v)), ?_, Step.set_ hs hO (fun h0 => Step.setRow h0 rfl rfl (heap_setRow (hs.own _ (mG hO)) _)), h⟩
 simp only [execOp, ha.eval hx, ha.eval hy, Sem.run_bind, run_store1 hz hv (hs.own _ (mG hO)) ho, Result.andThen_ok, Sem.run_pure]
theorem tStoreA {i t b off k e : Nat} {arr cs : LV} (hO : O[i]? = some (.blk b e arr)) (hz : Sz P t k) (hx : ev E x = some (.pointer (some ⟨b, off, none⟩))) (hy : ev E y = some v) (hv : v.cells = cs.toArray) (hk : cs.length = k) (h1 : ∀ u ∈ cs, u.oneCell' = true) (ho : off + k ≤ arr.length) (h : TK n I K E H (O.set i (.blk b e (arr.take off ++ cs ++ arr.drop (off + k))))) : TK n I (OpK P ⟨none, .store t x y, ty, pos, af, gd⟩ K Q) E H O := by
 refine TK.runSkip rfl fun a w ha hs => ⟨w.setRow b (arr.take off ++ cs ++ arr.drop (off + k)).toArray, H, O.set i (.blk b e (arr.take off ++ cs ++ arr.drop (off + k))), ?_, Step.set_ hs hO (fun h0 => Step.setRow h0 rfl rfl (heap_setRow (hs.own _ (mG hO)) _)), h⟩
 simp only [execOp, ha.eval hx, ha.eval hy, Sem.run_bind, run_storeA hz hv hk h1 (hs.own _ (mG hO)) ho, Result.andThen_ok, Sem.run_pure]
theorem take_splice {α : Type} (l cs : List α) (off N : Nat) (h : off + cs.length ≤ N) (hN : N ≤ l.length) : (l.take off ++ cs ++ l.drop (off + cs.length)).take N = (l.take N).take off ++ cs ++ (l.take N).drop (off + cs.length) := by
 have h1 : (l.take off ++ cs).length = off + cs.length := by simp; omega
 rw [List.take_append, h1, List.take_of_length_le oM, List.take_take, Nat.min_eq_left oM, List.drop_take]
theorem ownsRow_set {w : World} {k m c b : Nat} {cs : LV} {off : Nat} (h : w.ownsRow 0 e k (.slice (some ⟨b, 0, none⟩) m c) m arr) (ho : off + cs.length ≤ arr.length) :
  ∃ all : LV, w.heap[b]? = some (.cells all.toArray e (0, 0)) ∧ off + cs.length ≤ all.length ∧ (w.setRow b (all.take off ++ cs ++ all.drop (off + cs.length)).toArray).ownsRow 0 e k (.slice (some ⟨b, 0, none⟩) m c) m (arr.take off ++ cs ++ arr.drop (off + cs.length)) := by
 obtain ⟨hl, h2⟩ := h
 rcases h2 with ⟨h2, _⟩ | ⟨g, cap, cur, hv, hg, hh, hn, hc, hsz, htake⟩
 ·cases h2
 ·injection hv with hv1 hv2 hv3
  injection hv1 with hv1
  injection hv1 with hv1
  subst hv1 hv3
  have hle : arr.length ≤ cur.size := by rw [← htake]; simp [List.length_take]; omega
  refine ⟨cur.toList, hh, by simp; omega, by simp; omega, .inr ⟨b, c, _, rfl, hg, heap_setRow hh _, hn, hc, ?_, ?_⟩⟩
  ·simp; omega
  ·have h3 := take_splice cur.toList cs off (m * k) oM (by rw [Array.length_toList, hsz]; exact Nat.mul_le_mul_right k hn)
   rw [htake] at h3
   exact h3
theorem tStoreRow {i t b off k e k' m c : Nat} {arr cs : LV} (hO : O[i]? = some (.row e k' (.slice (some ⟨b, 0, none⟩) m c) m arr)) (hz : Sz P t k) (hx : ev E x = some (.pointer (some ⟨b, off, none⟩))) (hy : ev E y = some v) (hv : v.cells = cs.toArray) (hk : cs.length = k) (h1 : ∀ u ∈ cs, u.oneCell' = true) (ho : off + k ≤ arr.length) (h : TK n I K E H (O.set i (.row e k' (.slice (some ⟨b, 0, none⟩) m c) m (arr.take off ++ cs ++ arr.drop (off + k))))) : TK n I (OpK P ⟨none, .store t x y, ty, pos, af, gd⟩ K Q) E H O := by
 subst hk
 refine TK.runSkip rfl fun a w ha hs => ?_
 obtain ⟨all, hb, hlen, h4⟩ := ownsRow_set (hs.own _ (mG hO)) ho
 refine ⟨w.setRow b (all.take off ++ cs ++ all.drop (off + cs.length)).toArray, H, O.set i (.row e k' (.slice (some ⟨b, 0, none⟩) m c) m (arr.take off ++ cs ++ arr.drop (off + cs.length))), ?_, Step.set_ hs hO (fun h0 => Step.setRow h0 rfl rfl h4), h⟩
 simp only [execOp, ha.eval hx, ha.eval hy, Sem.run_bind, run_storeA hz hv rfl h1 hb hlen, Result.andThen_ok, Sem.run_pure]
theorem tStoreRow1 {i t b off e k' m c : Nat} {arr : LV} (hO : O[i]? = some (.row e k' (.slice (some ⟨b, 0, none⟩) m c) m arr)) (hz : Sz P t 1) (hx : ev E x = some (.pointer (some ⟨b, off, none⟩))) (hy : ev E y = some v) (hv : v.oneCell' = true) (ho : off < arr.length) (h : TK n I K E H (O.set i (.row e k' (.slice (some ⟨b, 0, none⟩) m c) m (arr.set off v)))) : TK n I (OpK P ⟨none, .store t x y, ty, pos, af, gd⟩ K Q) E H O := by
 have hc : v.cells = [v].toArray := by cases v <;> first | rfl | (simp [Value.oneCell'] at hv)
 refine tStoreRow hO hz hx hy hc rfl (by simpa using hv) oM ?_
 have e1 : arr.set off v = arr.take off ++ [v] ++ arr.drop (off + 1) := by rw [List.set_eq_take_append_cons_drop, if_pos ho]; simp
 rwa [e1] at h
theorem vblk_own (v : Value) : vblk v = v.ownBlock.toList := by
 cases v with
 | slice a l c => cases a <;> rfl
 | _ => rfl
theorem Step.of_grown {w : World} {e k m : Nat} {v : Value} {cs : LV} (hs : St H [.row e k v m cs] w) (hg : w.grownBy w' v.ownBlock) (hown : w'.ownsRow 0 e k v' m' cs') (hb : v'.ownBlock = v.ownBlock ∨ v'.ownBlock = some w.heap.size) : StepG False H [.row e k v m cs] w H [.row e k v' m' cs'] w' := by
 have h8 : fps [.row e k v m cs] = v.ownBlock.toList := by simp [fps, HL.fp, vblk_own]
 have h5 : fps [.row e k v' m' cs'] = v'.ownBlock.toList := by simp [fps, HL.fp, vblk_own]
 have h9 : ∀ b, v.ownBlock = some b → b < w.heap.size ∧ H b = none := fun b hb => by
  have := hs.apart b (by rw [h8, hb]; simp)
  exact ⟨this.2, this.1⟩
 have h6 : H w.heap.size = none := by
  cases hc : H w.heap.size with
  | none => rfl
  | some p => have := hs.lt hc; omega
 refine ⟨⟨fun b p hp => ?_, fun x hx => ?_, fun b h4 => ?_, ?_⟩, Ghost.le.refl _, hg.os, hg.tape, hg.output, hg.size, fun b b5 b4 => hg.block b b5 (fun e => b4 (by rw [h8, ← e]; simp)), fun b p hp => .inl (by rw [hp]; simp), fun b h4 => ?_, fun h => h.elim⟩
 ·rw [hg.block b (hs.lt hp) (fun e => by have := (h9 b e.symm).2; rw [hp] at this; cases this)]
  exact hs.ghost b p hp
 ·simp only [List.mem_singleton] at hx
  subst hx
  exact hown
 ·have h7 := ownsRow_lt hown b (by rw [h5] at h4; rw [vblk_own]; exact h4)
  refine ⟨?_, h7⟩
  rw [h5] at h4
  rcases hb with hb | hb
  ·rw [hb] at h4
   exact (h9 b (by simpa [Option.mem_toList] using h4)).2
  ·rw [hb] at h4
   simp only [Option.toList_some, List.mem_singleton] at h4
   rw [h4]
   exact h6
 ·rw [h5]
  cases v'.ownBlock <;> simp
 ·rw [h5] at h4
  rw [h8]
  rcases hb with hb | hb
  ·rw [hb] at h4
   exact .inl h4
  ·rw [hb] at h4
   simp only [Option.toList_some, List.mem_singleton] at h4
   exact .inr oM
theorem tAppend (hD : ¬ I.D) {i d t e k bytes b off m m' c : Nat} {v : Value} {cs : LV} (hO : O[i]? = some (.row e k v m cs)) (ht : P.underlying t = some (.slice e)) (hi : InfoT P e z k bytes) (hz : z.cells.size = k) (hk : 0 < k) (hx : ev E s = some v) (hy : ev E x = some (.slice (some ⟨b, off, none⟩) m' c)) (hm : Mem H O b off news) (hl : news.length = m' * k) (h1 : ∀ u ∈ news, u.oneCell' = true) (hlen : (m + m') * bytes ≤ 140737488355328) (h63 : m + m' ≤ 140737488355328) (hd : d < n) (h : ∀ A c', TK n I K ((d, .slice A (m + m') c') :: E) H (O.set i (.row e k (.slice A (m + m') c') (m + m') (cs ++ news)))) : TK n I (OpK P ⟨some d, .call { callee := .builtin .append, args := #[s, x], argTypes := #[t, t] }, ty, pos, af, gd⟩ K Q) E H O := by
 obtain ⟨i0, h9, h6⟩ := Option.map_eq_some_iff.1 hi
 simp only [Prod.mk.injEq] at h6
 obtain ⟨h8, b4, h7⟩ := h6
 refine TK.runF hD rfl hd fun a w ha hs => ?_
 have h5 : w.ownsRow 0 e k v m cs := hs.own _ (mG hO)
 obtain ⟨v', w', hr, h4, hg, _, hb⟩ := run_append_own_at (P := P) w 0 t ty e i0 z k bytes ht h9 h8 b4 h7 hz hk v m cs h5 ⟨b, off, none⟩ m' c news hl (fun j u hj => by rw [addr_add]; exact hm w hs j u hj) h1 (by simp only [maxLen]; omega) hlen (Nat.zero_le _)
 obtain ⟨A, c', rfl⟩ : ∃ A c', v' = .slice A (m + m') c' := by
  rcases h4.2 with ⟨rfl, h0⟩ | ⟨g, cap, cur, rfl, _⟩
  ·exact ⟨none, 0, by rw [h0]⟩
  ·exact ⟨_, _, rfl⟩
 refine ⟨_, w', H, _, ?_, Step.set_ hs hO (fun h0 => Step.of_grown h0 hg h4 hb), h A c'⟩
 simp only [execOp, resolve, invoke, builtin, Sem.run_bind, Sem.run_pure, Result.andThen_ok, List.map_toArray, List.map_cons, List.map_nil, ha.eval hx, ha.eval hy, hr]
theorem cells_one {v : Value} (hv : v.oneCell' = true) : v.cells = [v].toArray := by cases v <;> first | rfl | (simp [Value.oneCell'] at hv)
def vcells : Value → Option LV
 | .agg a => some a.toList
 | .tuple _ => none
 | v => some [v]
theorem vcells_cells {l : LV} (h : vcells v = some l) : v.cells = l.toArray := by
 cases v <;> simp only [vcells, Option.some.injEq, reduceCtorEq] at h <;> subst h <;> simp [Value.cells]
theorem fill_fold : ∀ (cs : LV) (acc : Array Value) (o s : Nat), o + s + cs.length ≤ acc.size → ((cs.zipIdx s).foldl (fun (a : Array Value) (x : Value × Nat) => a.setIfInBounds (o + x.2) x.1) acc).toList = acc.toList.take (o + s) ++ cs ++ acc.toList.drop (o + s + cs.length)
 | [], acc, o, s, h => by simp
 | c :: cs, acc, o, s, h => by
  simp only [List.length_cons] at h
  rw [List.zipIdx_cons, List.foldl_cons, fill_fold cs (acc.setIfInBounds (o + s) c) o (s + 1) (by simp; omega)]
  have e := list_seg_step acc.toList (o + s) c cs (by simp; omega)
  simpa [Array.toList_setIfInBounds, Nat.add_assoc] using e
def lfill (place : Nat → Option (Nat × Nat)) (cells : LV) : List (Nat × LV) → Option LV
 | [] => some cells
 | (i, vs) :: r => match place i with
  | none => none
  | some (off, size) => match Nat.beq vs.length size, Nat.ble (off + size) cells.length with
   | true, true => lfill place (cells.take off ++ vs ++ cells.drop (off + size)) r
   | _, _ => none
theorem fill_lfill (place : Nat → Option (Nat × Nat)) : ∀ (parts : List (Nat × Value)) (lp : List (Nat × LV)) (cells out : LV), parts.map (fun p => (p.1, vcells p.2)) = lp.map (fun p => (p.1, some p.2)) → lfill place cells lp = some out → Instr.fill place cells.toArray parts = some out.toArray
 | [], lp, cells, out, hp, h => by
  cases lp with
  | nil => simp only [lfill, Option.some.injEq] at h; subst h; rfl
  | cons _ _ => simp at hp
 | (i, v) :: parts, [], cells, out, hp, h => by simp at hp
 | (i, v) :: parts, (j, vs) :: lp, cells, out, hp, h => by
  simp only [List.map_cons, List.cons.injEq, Prod.mk.injEq] at hp
  obtain ⟨⟨rfl, hv⟩, hp⟩ := hp
  have hv := vcells_cells hv
  simp only [lfill] at h
  unfold Instr.fill
  cases hpl : place i with
  | none => rw [hpl] at h; cases h
  | some os =>
   obtain ⟨off, size⟩ := os
   rw [hpl] at h
   simp only at h ⊢
   cases hb1 : Nat.beq vs.length size with
   | false => rw [hb1] at h; cases h
   | true =>
    cases hb2 : Nat.ble (off + size) cells.length with
    | false => rw [hb1, hb2] at h; cases h
    | true =>
     rw [hb1, hb2] at h
     have h1 : vs.length = size := Nat.eq_of_beq_eq_true hb1
     have h2 : off + size ≤ cells.length := Nat.le_of_ble_eq_true hb2
     have hf := fill_fold vs cells.toArray off 0 (by simp; omega)
     rw [if_neg (by simp [hv]; omega)]
     have : (v.cells.zipIdx.foldl (fun cs (x : Value × Nat) => cs.setIfInBounds (off + x.2) x.1) cells.toArray) = (cells.take off ++ vs ++ cells.drop (off + size)).toArray := by
      apply Array.ext'
      rw [← Array.foldl_toList, Array.toList_zipIdx, hv]
      simp only at hf ⊢
      rw [hf, ← h1]
      simp
     rw [this]
     exact fill_lfill place parts lp _ out hp h
def pevs (E : Env) : List (Nat × Operand) → Option (List (Nat × LV))
 | [] => some []
 | (i, x) :: r => match ev E x, pevs E r with
  | some v, some ls => match vcells v with
   | some l => some ((i, l) :: ls)
   | none => none
  | _, _ => none
theorem pevs_eval (ha : EnvOk n E a) : ∀ {ps : List (Nat × Operand)} {lp : List (Nat × LV)}, pevs E ps = some lp → (ps.map fun p => (p.1, vcells (a.eval p.2))) = lp.map fun p => (p.1, some p.2)
 | [], lp, h => by simp only [pevs, Option.some.injEq] at h; subst h; rfl
 | (i, x) :: r, lp, h => by
  simp only [pevs] at h
  cases hx : ev E x with
  | none => rw [hx] at h; cases h
  | some v =>
   cases hr : pevs E r with
   | none => rw [hx, hr] at h; cases h
   | some ls =>
    rw [hx, hr] at h
    simp only at h
    cases hv : vcells v with
    | none => rw [hv] at h; cases h
    | some l =>
     rw [hv] at h
     simp only [Option.some.injEq] at h
     subst h
     simp only [List.map_cons, ha.eval hx, hv, pevs_eval ha hr]
def BuildT (P : Program) (t : TypeId) (places : List (Nat × Nat)) (zs : LV) : Prop :=
 ∃ fs z, P.underlying t = some (.struct fs) ∧ (∀ w, (zeroValue t).run P w = .ok z w) ∧ z.cells = zs.toArray ∧ ∀ w, (fs.mapM fun (f : Field) => do pure (f.offset, ← sizeOf f.type)).run P w = .ok places.toArray w
theorem yBuild {t : TypeId} {parts : List (Nat × Operand)} (hb : BuildT P t places zs) (hv : pevs E parts = some lp) (hf : lfill (places[·]?) zs lp = some out) : Yl P n E H O ⟨dst, .build t parts.toArray, ty, pos, af, gd⟩ (.agg out.toArray) := by
 intro a w ha _
 obtain ⟨fs, z, hu, hz, h4, hp⟩ := hb
 have h1 := fill_lfill (places[·]?) (parts.map fun p => (p.1, a.eval p.2)) lp zs out (by rw [List.map_map]; exact pevs_eval ha hv) hf
 simp only [execOp, Instr.build, Sem.run_bind, hz w, Result.andThen_ok, run_underlying hu, hp w, h4, List.map_toArray]
 simp only [List.getElem?_toArray]
 rw [h1]
 simp
theorem tBSlice {t e k d m : Nat} {z : Value} {parts : List (Nat × Operand)} (ht : P.underlying t = some (.slice e)) (hs : Sz P e k) (hz : ∀ w, (zeroValue e).run P w = .ok z w) (hv : pevs E parts = some lp) (hf : ∀ zs : LV, zs.length = m * k → lfill (fun i => some (i * k, k)) zs lp = some out) (hl : out.length = m * k) (hsmall : m * k ≤ 1000) (hm0 : 0 < m * k) (hmm : m ≤ 1000) (hd : d < n) (h : ∀ b, TK n I K ((d, .slice (some ⟨b, 0, none⟩) m m) :: E) H (.row e k (.slice (some ⟨b, 0, none⟩) m m) m out :: O)) : TK n I (OpK P ⟨some d, .buildSlice t m parts.toArray, ty, pos, af, gd⟩ K Q) E H O := by
 refine TK.run rfl hd fun a w ha h4 => ⟨_, w.alloc (.cells out.toArray e), H, .row e k (.slice (some ⟨w.heap.size, 0, none⟩) m m) m out :: O, ?_,
  Step.new_ (O' := [.row e k (.slice (some ⟨w.heap.size, 0, none⟩) m m) m out]) h4 (fun h0 => Step.alloc h0 rfl (ownsRow_new w e k m out hl (by simp only [maxLen]; omega))), h _⟩
 have h1 : ∀ zs : LV, zs.length = m * k → Instr.fill (fun i => some (i * k, k)) zs.toArray (parts.map fun p => (p.1, a.eval p.2)) = some out.toArray := fun zs h5 =>
  fill_lfill _ _ lp zs out (by rw [List.map_map]; exact pevs_eval ha hv) (hf zs h5)
 have h2 := h1 ((Array.range (m * k)).map (fun i => z.cells[i % z.cells.size]!)).toList (by simp)
 rw [Array.toArray_toList] at h2
 simp only [execOp, Instr.buildSlice, Sem.run_bind, run_underlying ht, Result.andThen_ok, hs w]
 rw [if_neg oM, if_neg oM]
 simp only [List.map_toArray, Sem.run_bind, Sem.run_pure, hz w, Result.andThen_ok, h2, newRow, run_newObj]
 rfl
theorem fill1 {k : Nat} {vs zs : LV} (hv : vs.length = k) (hz : zs.length = 1 * k) : lfill (fun i => some (i * k, k)) zs [(0, vs)] = some vs := by
 have h1 : Nat.beq vs.length k = true := by rw [hv]; exact Nat.beq_refl k
 have h2 : Nat.ble (0 * k + k) zs.length = true := Nat.ble_eq_true_of_le oM
 simp only [lfill, h1, h2]
 simp [List.drop_of_length_le (show zs.length ≤ k by omega)]
theorem fillN : ∀ (vs : LV) (m : Nat) (zs : LV), m + vs.length ≤ zs.length → lfill (fun i => some (i * 1, 1)) zs ((vs.zipIdx m).map fun p => (p.2, [p.1])) = some (zs.take m ++ vs ++ zs.drop (m + vs.length))
 | [], m, zs, h => by simp [lfill]
 | v :: vs, m, zs, h => by
  simp only [List.length_cons] at h
  have h1 : Nat.beq [v].length 1 = true := rfl
  have h2 : Nat.ble (m * 1 + 1) zs.length = true := Nat.ble_eq_true_of_le oM
  simp only [List.zipIdx_cons, List.map_cons, lfill, h1, h2]
  rw [fillN vs (m + 1) _ (by simp; omega)]
  simp only [Nat.mul_one]
  congr 1
  have e := list_seg_step zs m v vs oM
  have e2 : zs.take m ++ [v] ++ zs.drop (m + 1) = zs.set m v := by rw [List.set_eq_take_append_cons_drop, if_pos oM]; simp
  rw [e2]
  simpa [Nat.add_assoc] using e
end
structure Rep (α : Type) where
 k : Nat
 rel : Ghost → α → LV → Prop
 mono : ∀ {H H' x cs}, Ghost.le H H' → rel H x cs → rel H' x cs
 len : ∀ {H x cs}, rel H x cs → cs.length = k
 one : ∀ {H x cs}, rel H x cs → ∀ v ∈ cs, v.oneCell' = true
def Sl {α : Type} (r : Rep α) (H : Ghost) (xs : List α) (A : OA) (n c : Nat) : Prop :=
 xs.length = n ∧ n ≤ c ∧ n ≤ 140737488355328 ∧ (A = none → c = 0) ∧ (0 < n → ∃ b o, A = some ⟨b, o, none⟩ ∧ ∃ arr e fr, H b = some (.cells arr e fr) ∧ ∀ i x, xs[i]? = some x → ∃ cs, r.rel H x cs ∧ ∀ j v, cs[j]? = some v → arr[o + i * r.k + j]? = some v)
section
variable {α : Type} {r : Rep α} {H H' : Ghost} {xs : List α} {A : OA} {n c : Nat} {O : List HL}
theorem Sl.mono (h : Sl r H xs A n c) (hle : Ghost.le H H') : Sl r H' xs A n c := by
 obtain ⟨h1, h2, h3, h4, h5⟩ := h
 refine ⟨h1, h2, h3, h4, fun hn => ?_⟩
 obtain ⟨b, o, hA, arr, e, fr, hb, hx⟩ := h5 hn
 refine ⟨b, o, hA, arr, e, fr, hle _ _ hb, fun i x hi => ?_⟩
 obtain ⟨cs, hr, hc⟩ := hx i x hi
 exact ⟨cs, r.mono hle hr, hc⟩
theorem Sl.len (h : Sl r H xs A n c) : xs.length = n := h.1
theorem Sl.cap (h : Sl r H xs A n c) : n ≤ c := h.2.1
theorem Sl.nil (r : Rep α) (H : Ghost) : Sl r H [] none 0 0 := ⟨rfl, Nat.le_refl _, Nat.zero_le _, fun _ => rfl, fun h => absurd h oM⟩
theorem Sl.at_ (h : Sl r H xs A n c) {i : Nat} (hi : xs[i]? = some x) : ∃ b o cs, A = some ⟨b, o, none⟩ ∧ r.rel H x cs ∧ HC H b (o + i * r.k) cs := by
 have hn : 0 < n := by have := (gE hi).1; have := h.1; omega
 obtain ⟨b, o, hA, arr, e, fr, hb, hx⟩ := h.2.2.2.2 hn
 obtain ⟨cs, hr, hc⟩ := hx i x hi
 exact ⟨b, o, cs, hA, hr, arr, e, fr, hb, fun j v hj => hc j v hj⟩
theorem Sl.drop_ (h : Sl r H xs A n c) (m : Nat) (hm : m ≤ n) : Sl r H (xs.drop m) (if c = m then A else A.map (·.add (m * r.k))) (n - m) (c - m) := by
 obtain ⟨h1, h2, h3, h4, h5⟩ := h
 refine ⟨by rw [List.length_drop, h1], by omega, by omega, fun hA => ?_, fun hn => ?_⟩
 ·split at hA
  ·have := h4 hA; omega
  ·cases A with
   | none => have := h4 rfl; omega
   | some a => simp at hA
 ·obtain ⟨b, o, rfl, arr, e, fr, hb, hx⟩ := h5 oM
  rw [if_neg oM]
  refine ⟨b, o + m * r.k, by simp [addr_add], arr, e, fr, hb, fun i x hi => ?_⟩
  rw [List.getElem?_drop] at hi
  obtain ⟨cs, hr, hc⟩ := hx _ _ hi
  refine ⟨cs, hr, fun j v hj => ?_⟩
  have := hc j v hj
  rwa [show o + (m + i) * r.k + j = o + m * r.k + i * r.k + j by rw [Nat.add_mul]; omega] at this
theorem Sl.take_ (h : Sl r H xs A n c) (m : Nat) (hm : m ≤ n) : Sl r H (xs.take m) A m c := by
 obtain ⟨h1, h2, h3, h4, h5⟩ := h
 refine ⟨by rw [List.length_take, h1]; omega, by omega, by omega, h4, fun hn => ?_⟩
 obtain ⟨b, o, rfl, arr, e, fr, hb, hx⟩ := h5 oM
 refine ⟨b, o, rfl, arr, e, fr, hb, fun i x hi => ?_⟩
 rw [List.getElem?_take] at hi
 split at hi
 ·exact hx i x hi
 ·cases hi
inductive Reps {α : Type} (r : Rep α) (H : Ghost) : List α → LV → Prop
 | nil : Reps r H [] []
 | cons {x xs c cs} : r.rel H x c → Reps r H xs cs → Reps r H (x :: xs) (c ++ cs)
theorem Reps.mono (h : Reps r H xs cs) (hle : Ghost.le H H') : Reps r H' xs cs := by
 induction h with
 | nil => exact .nil
 | cons hx _ ih => exact .cons (r.mono hle hx) ih
theorem Reps.len (h : Reps r H xs cs) : cs.length = xs.length * r.k := by
 induction h with
 | nil => simp
 | cons hx _ ih => rw [List.length_append, r.len hx, ih, List.length_cons, Nat.add_mul]; omega
theorem Reps.one (h : Reps r H xs cs) : ∀ v ∈ cs, v.oneCell' = true := by
 induction h with
 | nil => simp
 | cons hx _ ih =>
  intro v hv
  rcases List.mem_append.1 hv with hv | hv
  ·exact r.one hx v hv
  ·exact ih v hv
theorem Reps.append (h : Reps r H xs cs) (k : Reps r H ys ds) : Reps r H (xs ++ ys) (cs ++ ds) := by
 induction h with
 | nil => exact k
 | cons hx _ ih => rw [List.append_assoc]; exact .cons hx ih
theorem Reps.single (h : r.rel H x cs) : Reps r H [x] cs := by
 have := Reps.cons h (Reps.nil (r := r) (H := H))
 rwa [List.append_nil] at this
theorem Reps.snoc {c : LV} (h : Reps r H xs cs) (hx : r.rel H x c) : Reps r H (xs ++ [x]) (cs ++ c) := h.append (.single hx)
theorem Reps.get (h : Reps r H xs cs) : ∀ {i : Nat} {x : α}, xs[i]? = some x → ∃ c, r.rel H x c ∧ ∀ j v, c[j]? = some v → cs[i * r.k + j]? = some v := by
 induction h with
 | nil => intro i x hi; simp at hi
 | @cons y ys c cs hy _ ih =>
  intro i x hi
  cases i with
  | zero =>
   simp only [List.getElem?_cons_zero, Option.some.injEq] at hi
   subst hi
   refine ⟨c, hy, fun j v hj => ?_⟩
   rw [Nat.zero_mul, Nat.zero_add, List.getElem?_append_left (gE hj).1]
   exact hj
  | succ i =>
   obtain ⟨d, hd, hg⟩ := ih (i := i) (x := x) (by simpa using hi)
   refine ⟨d, hd, fun j v hj => ?_⟩
   have := hg j v hj
   rw [List.getElem?_append_right (by rw [r.len hy, Nat.add_mul]; omega), r.len hy, show (i + 1) * r.k + j - r.k = i * r.k + j by rw [Nat.add_mul]; omega]
   exact this
theorem Reps.take_ (h : Reps r H xs cs) (m : Nat) : Reps r H (xs.take m) (cs.take (m * r.k)) := by
 induction h generalizing m with
 | nil => simpa using Reps.nil
 | @cons y ys c cs hy _ ih =>
  cases m with
  | zero => simpa using Reps.nil
  | succ m =>
   rw [List.take_succ_cons, List.take_append, r.len hy, Nat.add_mul, Nat.one_mul, Nat.add_sub_cancel, List.take_of_length_le (l := c) (by rw [r.len hy]; omega)]
   exact .cons hy (ih m)
theorem Reps.drop_ (h : Reps r H xs cs) (m : Nat) : Reps r H (xs.drop m) (cs.drop (m * r.k)) := by
 induction h generalizing m with
 | nil => simpa using Reps.nil
 | @cons y ys c cs hy hrest ih =>
  cases m with
  | zero => simpa using Reps.cons hy hrest
  | succ m =>
   rw [List.drop_succ_cons, List.drop_append, r.len hy, Nat.add_mul, Nat.one_mul, Nat.add_sub_cancel, List.drop_of_length_le (l := c) (by rw [r.len hy]; omega)]
   simpa using ih m
theorem Reps.set_ (h : Reps r H xs cs) {i : Nat} {c : LV} (hi : i < xs.length) (hx : r.rel H x c) : Reps r H (xs.set i x) (cs.take (i * r.k) ++ c ++ cs.drop (i * r.k + r.k)) := by
 have h1 := h.take_ i
 have h2 := h.drop_ (i + 1)
 rw [Nat.add_mul, Nat.one_mul] at h2
 have := (h1.snoc hx).append h2
 rwa [List.set_eq_take_append_cons_drop, if_pos hi, ← List.append_cons] at *
theorem Reps.inj_nil (h : Reps r H [] cs) : cs = [] := by cases h; rfl
theorem Reps.mem {i b m c' e : Nat} (h : Reps r H xs cs) (hO : O[i]? = some (.row e r.k (.slice (some ⟨b, 0, none⟩) m c') m cs)) {j : Nat} (hj : xs[j]? = some x) : ∃ d, r.rel H x d ∧ Mem H O b (j * r.k) d := by
 obtain ⟨d, hd, hg⟩ := h.get hj
 refine ⟨d, hd, fun w hs q u hq => ?_⟩
 have h4 : w.ownsRow 0 e r.k (.slice (some ⟨b, 0, none⟩) m c') m cs := hs.own _ (mG hO)
 have := h4.cells (g := b) rfl _ u (hg q u hq)
 rwa [addr_add, Nat.zero_add] at this
def rInt : Rep Int := ⟨1, fun _ x cs => cs = [.int .i64 x], fun _ h => h, fun h => by rw [h]; rfl, fun h => by rw [h]; simp [Value.oneCell']⟩
def rBool : Rep Bool := ⟨1, fun _ x cs => cs = [.bool x], fun _ h => h, fun h => by rw [h]; rfl, fun h => by rw [h]; simp [Value.oneCell']⟩
def rStr : Rep BA := ⟨1, fun _ x cs => cs = [.string x], fun _ h => h, fun h => by rw [h]; rfl, fun h => by rw [h]; simp [Value.oneCell']⟩
def rSl (r : Rep α) : Rep (List α) :=
 ⟨1, fun H xs cs => ∃ A n c, cs = [.slice A n c] ∧ Sl r H xs A n c, fun hle ⟨A, n, c, h, hs⟩ => ⟨A, n, c, h, hs.mono hle⟩, fun ⟨A, n, c, h, _⟩ => by rw [h]; rfl, fun ⟨A, n, c, h, _⟩ => by rw [h]; simp [Value.oneCell']⟩
theorem repsI (xs : LI) : Reps rInt H xs (xs.map fun x => .int .i64 x) := by
 induction xs with
 | nil => exact .nil
 | cons x xs ih => exact Reps.cons (r := rInt) (c := [.int .i64 x]) rfl ih
theorem reps_eqI {xs : LI} (h : Reps rInt H xs cs) : cs = xs.map fun x => .int .i64 x := by
 induction h with
 | nil => rfl
 | cons hx _ ih => rw [show _ = _ from hx, ih]; rfl
theorem repsB (xs : List Bool) : Reps rBool H xs (xs.map fun x => .bool x) := by
 induction xs with
 | nil => exact .nil
 | cons x xs ih => exact Reps.cons (r := rBool) (c := [.bool x]) rfl ih
theorem repsS (xs : LB) : Reps rStr H xs (xs.map fun x => .string x) := by
 induction xs with
 | nil => exact .nil
 | cons x xs ih => exact Reps.cons (r := rStr) (c := [.string x]) rfl ih
theorem reps_eqS {xs : LB} (h : Reps rStr H xs cs) : cs = xs.map fun x => .string x := by
 induction h with
 | nil => rfl
 | cons hx _ ih => rw [show _ = _ from hx, ih]; rfl
theorem Sl.atI {xs : LI} (h : Sl rInt H xs A n c) {i : Nat} (hi : xs[i]? = some x) : ∃ b o, A = some ⟨b, o, none⟩ ∧ HC H b (o + i * 1) [.int .i64 x] := by
 obtain ⟨b, o, cs, hA, hr, hc⟩ := h.at_ hi
 cases hr
 exact ⟨b, o, hA, hc⟩
theorem Sl.atB {xs : List Bool} (h : Sl rBool H xs A n c) {i : Nat} (hi : xs[i]? = some x) : ∃ b o, A = some ⟨b, o, none⟩ ∧ HC H b (o + i * 1) [.bool x] := by
 obtain ⟨b, o, cs, hA, hr, hc⟩ := h.at_ hi
 cases hr
 exact ⟨b, o, hA, hc⟩
theorem Sl.atS {xs : LB} (h : Sl rStr H xs A n c) {i : Nat} (hi : xs[i]? = some x) : ∃ b o, A = some ⟨b, o, none⟩ ∧ HC H b (o + i * 1) [.string x] := by
 obtain ⟨b, o, cs, hA, hr, hc⟩ := h.at_ hi
 cases hr
 exact ⟨b, o, hA, hc⟩
def Ghost.put (H : Ghost) (b : Nat) (o : Obj) : Ghost := fun x => if x = b then some o else H x
theorem Step.sealO {w : World} {h : HL} {b : Nat} {o : Obj} (hs : St H [h] w) (hf : h.fp = [b]) (hb : w.heap[b]? = some o) : Step H [h] w (H.put b o) [] w := by
 have h0 := hs.apart b (by simp [fps, hf])
 refine ⟨⟨fun g p hg => ?_, by simp, by simp [fps], by simp [fps]⟩, fun g p hg => ?_, rfl, rfl, rfl, Nat.le_refl _, fun _ _ _ => rfl, fun g p hg => ?_, by simp [fps], fun _ => Nat.le_refl _⟩
 ·unfold Ghost.put at hg
  split at hg
  ·rename_i e; subst e; rw [hb]; exact hg
  ·exact hs.ghost g p hg
 ·unfold Ghost.put
  split
  ·rename_i e; subst e; rw [h0.1] at hg; cases hg
  ·exact hg
 ·unfold Ghost.put at hg
  split at hg
  ·rename_i e; subst e; exact .inr (.inl (by simp [fps, hf]))
  ·exact .inl (by rw [hg]; simp)
variable {nt : Nat} {I : Init} {K : Act → World → Prop} {E : Env}
theorem TK.step {O : List HL} (h : ∀ w, St H O w → ∃ H' O', Step H O w H' O' w ∧ TK nt I K E H' O') : TK nt I K E H O := by
 intro a w ha hs
 obtain ⟨H', O', h4, hk⟩ := h w hs.st
 exact hk a w ha (hs.trans h4.any)
theorem tSeal {i b e : Nat} {cs : LV} (hO : O[i]? = some (.blk b e cs)) (h : ∀ H', Ghost.le H H' → HC H' b 0 cs → TK nt I K E H' (O.eraseIdx i)) : TK nt I K E H O := by
 refine TK.step fun w hs => ?_
 have hb : w.heap[b]? = some (.cells cs.toArray e (0, 0)) := hs.own _ (mG hO)
 have h4 := Step.drop_ hs hO (fun h0 => Step.sealO h0 rfl hb)
 refine ⟨_, _, h4, h _ h4.le ⟨cs.toArray, e, (0, 0), by simp [Ghost.put], fun j c hj => by simpa using hj⟩⟩
theorem tSealRow {i e m c' : Nat} {B : OA} {cs : LV} (hO : O[i]? = some (.row e r.k (.slice B m c') m cs)) (hr : Reps r H ys cs) (hk : 0 < r.k) (hlen : m ≤ 140737488355328) (h : ∀ H', Ghost.le H H' → Sl r H' ys B m c' → TK nt I K E H' (O.eraseIdx i)) : TK nt I K E H O := by
 refine TK.step fun w hs => ?_
 have h6 : w.ownsRow 0 e r.k (.slice B m c') m cs := hs.own _ (mG hO)
 have hm : ys.length = m := by
  have h1 := h6.1
  have h2 := hr.len
  rw [h1] at h2
  exact (Nat.eq_of_mul_eq_mul_right hk h2).symm
 rcases h6.2 with ⟨h1, h2⟩ | ⟨g, cap, cur, hv, _, hh, hn, hc, hsz, htake⟩
 ·injection h1 with h1 h3 h4
  subst h1 h2 h4
  have h5 := Step.drop_ (O := O) (H' := H) (w' := w) hs hO (fun h0 => (StepG.refl (D := True) h0).sub (O' := [_]) (O'' := []) (List.nil_sublist _))
  have h7 : ys = [] := List.eq_nil_of_length_eq_zero hm
  subst h7
  exact ⟨_, _, h5, h _ h5.le (Sl.nil r H)⟩
 ·injection hv with h1 h3 h4
  subst h1 h4
  have h5 := Step.drop_ hs hO (fun h0 => Step.sealO h0 rfl hh)
  refine ⟨_, _, h5, h _ h5.le ⟨hm, hn, hlen, by simp, fun _ => ⟨g, 0, rfl, cur, e, (0, 0), by simp [Ghost.put], fun i x hi => ?_⟩⟩⟩
  obtain ⟨d, hd, hg⟩ := (hr.mono h5.le).get hi
  refine ⟨d, hd, fun j v hj => ?_⟩
  have := hg j v hj
  rw [← htake, List.getElem?_take] at this
  split at this
  ·simpa using this
  ·cases this
theorem row_addr {i e k m c' : Nat} {B : OA} {cs : LV} (hO : O[i]? = some (.row e k (.slice B m c') m cs)) (hm : 0 < m) (h : ∀ b, B = some ⟨b, 0, none⟩ → TK nt I K E H O) : TK nt I K E H O := by
 intro a w ha hs
 have h4 : w.ownsRow 0 e k (.slice B m c') m cs := hs.st.own _ (mG hO)
 rcases h4.2 with ⟨_, h2⟩ | ⟨g, cap, cur, hv, _⟩
 ·omega
 ·injection hv with h1
  exact h g h1 a w ha hs
theorem row_len {i e k m c' : Nat} {B : OA} {cs : LV} (hO : O[i]? = some (.row e k (.slice B m c') m cs)) (h : cs.length = m * k → m ≤ c' → TK nt I K E H O) : TK nt I K E H O := by
 intro a w ha hs
 have h4 : w.ownsRow 0 e k (.slice B m c') m cs := hs.st.own _ (mG hO)
 refine h h4.1 ?_ a w ha hs
 rcases h4.2 with ⟨h1, h2⟩ | ⟨g, cap, cur, hv, _, _, h3, _⟩
 ·omega
 ·injection hv with _ _ h1; omega
end
end
end Go.Proofs.YtookcfeogbeooaaGreatDoor
